/- Group C of this claim's texts: walks and plain laws. -/
import Derived.Test.YtohofcmikfkilaaRows
import Derived.Test.YtohofcmikfkilaaTCB
import Derived.Test.YtohofcmikfkilaaTCA
import Derived.WalkKit
import Derived.BigQuiet
import Derived.BigRegion
import Derived.IntWalk
import Derived.Deep.CutRange
import Derived.Deep.RegionHeld3
import Derived.StillTailTactics
import Derived.Deep.CutBlock
import Derived.Deep.DeepMust
/- The forest of diagrams in memory: its words, and how they are carried. -/
namespace Go.Proofs.Ytohofcmikfkilaa
open Go.RowKit
open Go.Maps (Keyed)
set_option linter.unusedVariables false

theorem infoKn : (Try.prog.info? 135).map (fun i => (i.zero, i.size, i.bytes)) = some (some (.agg #[.int .i64 0, .int .i64 0, .int .i64 0]), 3, 24) := by kernel_rfl
def I63 (x : Int) : Prop := -9223372036854775808 ≤ x ∧ x ≤ 9223372036854775807
theorem wf63 {x : Int} (h : I63 x) : (Lit.int .i64 x).wf = true := WalkArith.wf_i64 h
def knV (k : Kn) : Value := .agg #[.int .i64 k.opt, .int .i64 k.low, .int .i64 k.high]
theorem knV_inj (a b : Kn) (h : knV a = knV b) : a = b := by
  unfold knV at h
  injection h with h
  injection h with h
  injection h with h1 h
  injection h with h2 h
  injection h with h3 h
  injection h1 with _ h1
  injection h2 with _ h2
  injection h3 with _ h3
  exact Kn.ext' (by omega) (by omega) (by omega)
/-- A pair of nodes with an operator, as a key. -/
def paV (p : Int × Nat × Nat) : Value := .agg #[.int .i64 p.1, .int .i64 p.2.1, .int .i64 p.2.2]
theorem paV_inj (a b : Int × Nat × Nat) (h : paV a = paV b) : a = b := by
  unfold paV at h
  injection h with h
  injection h with h
  injection h with h1 h
  injection h with h2 h
  injection h with h3 h
  injection h1 with _ h1
  injection h2 with _ h2
  injection h3 with _ h3
  obtain ⟨a1, a2, a3⟩ := a
  obtain ⟨b1, b2, b3⟩ := b
  simp only at h1 h2 h3
  obtain rfl : a2 = b2 := by omega
  obtain rfl : a3 = b3 := by omega
  rw [h1]
theorem key3 {k : Nat} (h1 : Try.prog.keyType k = true) (h2 : ∀ a b c, (Value.agg #[.int .i64 a, .int .i64 b, .int .i64 c]).formed Try.prog k = true) (h4 : Try.prog.cellsOf k = 3) {n0 n1 n2 p0 p1 p2 q0 q1 q2 : String} {o0 o1 o2 : Nat}
    (hk : Try.prog.underlying k = some (.struct #[{ name := n0, type := 3, offset := 0, embedded := false, tag := q0, pkgPath := p0, byteOffset := o0 }, { name := n1, type := 3, offset := 1, embedded := false, tag := q1, pkgPath := p1, byteOffset := o1 }, { name := n2, type := 3, offset := 2, embedded := false, tag := q2, pkgPath := p2, byteOffset := o2 }]))
    (m0 : n0 ≠ "_") (m1 : n1 ≠ "_") (m2 : n2 ≠ "_") {a b c : Int} (ha : I63 a) (hb : I63 b) (hc : I63 c) : ∃ l, keyOf Try.prog k (.agg #[.int .i64 a, .int .i64 b, .int .i64 c]) = some l := by
  obtain ⟨d, hd⟩ : ∃ d, Try.prog.types.size = d + 2 := ⟨Try.prog.types.size - 2, by kernel_rfl⟩
  have h5 : Try.prog.cellsOf 3 = 1 := by kernel_rfl
  unfold keyOf
  rw [hk]
  simp only [h1, h2, Bool.and_self, if_true]
  rw [show Try.prog.types.size + 1 = d + 1 + 1 + 1 by omega]
  simp [Program.keyLits, hk, Try.underlying3, h4, h5, wf63 ha, wf63 hb, wf63 hc, Value.cells, m0, m1, m2]
theorem knKey {k : Kn} (h1 : I63 k.opt) (h2 : I63 k.low) (h3 : I63 k.high) : ∃ l, keyOf Try.prog 135 (knV k) = some l :=
  key3 (by kernel_rfl) (fun _ _ _ => by kernel_rfl) (by kernel_rfl) Try.underlying135 (by decide) (by decide) (by decide) h1 h2 h3
theorem paKey {o : Int} {a b : Nat} (h1 : I63 o) (h2 : I63 a) (h3 : I63 b) : ∃ l, keyOf Try.prog 149 (paV (o, a, b)) = some l :=
  key3 (by kernel_rfl) (fun _ _ _ => by kernel_rfl) (by kernel_rfl) Try.underlying149 (by decide) (by decide) (by decide) h1 h2 h3
theorem knLaw : Keyed Try.prog 135 := Keyed.of_law (deep_law_laid (P := Try.prog) (by kernel_rfl) (m := 3) (by decide) (of_decide_eq_true (by kernel_rfl)) (by kernel_rfl) (by kernel_rfl))
theorem paLaw : Keyed Try.prog 149 := Keyed.of_law (deep_law_laid (P := Try.prog) (by kernel_rfl) (m := 3) (by decide) (of_decide_eq_true (by kernel_rfl)) (by kernel_rfl) (by kernel_rfl))
theorem zInt (w : World) : (zeroValue 3).run Try.prog w = .ok (.int .i64 0) w := by kernel_rfl

/-! what is kept -/
/-- Nothing has changed but the blocks of a set, and new ones. -/
structure Keeps (S : Nat → Prop) (w w' : World) : Prop where
  os : w'.os = w.os
  tape : w'.tape = w.tape
  output : w'.output = w.output
  size : w.heap.size ≤ w'.heap.size
  block : ∀ k, k < w.heap.size → ¬ S k → w'.heap[k]? = w.heap[k]?
theorem Keeps.refl (S : Nat → Prop) (w : World) : Keeps S w w := ⟨rfl, rfl, rfl, Nat.le_refl _, fun _ _ _ => rfl⟩
theorem Keeps.trans {S T : Nat → Prop} {a b c : World} (h : Keeps S a b) (k : Keeps T b c) (hT : ∀ i, i < a.heap.size → T i → S i) : Keeps S a c :=
  ⟨k.os.trans h.os, k.tape.trans h.tape, k.output.trans h.output, Nat.le_trans h.size k.size, fun i hi hn => (k.block i (Nat.lt_of_lt_of_le hi h.size) (fun ht => hn (hT i hi ht))).trans (h.block i hi hn)⟩
theorem Keeps.mono {S T : Nat → Prop} {a b : World} (h : Keeps S a b) (hT : ∀ i, i < a.heap.size → S i → T i) : Keeps T a b :=
  ⟨h.os, h.tape, h.output, h.size, fun i hi hn => h.block i hi fun hs => hn (hT i hi hs)⟩
theorem Keeps.of_below {S : Nat → Prop} {a b : World} (h : Below a.heap.size a b) : Keeps S a b := ⟨h.os, h.tape, h.output, h.size, fun i hi _ => h.block i hi⟩
theorem Keeps.of_grown {S : Nat → Prop} {a b : World} {row : Option Nat} (h : a.grownBy b row) (hr : ∀ k, row = some k → S k) : Keeps S a b := ⟨h.os, h.tape, h.output, h.size, fun i hi hn => h.block i hi fun e => hn (hr i e.symm)⟩
theorem Keeps.drew {S : Nat → Prop} {a b : World} (h : Keeps S a b) : Keeps S a b.drew := ⟨h.os, h.tape, h.output, h.size, h.block⟩
theorem Keeps.drewN {S : Nat → Prop} {a b : World} (h : Keeps S a b) (n : Nat) : Keeps S a (b.drewN n) := ⟨h.os, h.tape, h.output, h.size, h.block⟩
theorem Keeps.alloc {S : Nat → Prop} {a b : World} (h : Keeps S a b) (o : Obj) : Keeps S a (b.alloc o) :=
  ⟨h.os, h.tape, h.output, by have := h.size; simp; omega, fun i hi hn => (Below.heap_alloc b o i (Nat.lt_of_lt_of_le hi h.size)).trans (h.block i hi hn)⟩
theorem Keeps.setCell {S : Nat → Prop} {a b : World} (h : Keeps S a b) {p : Addr} (hp : S p.block ∨ a.heap.size ≤ p.block) (u : Value) : Keeps S a (b.setCell p u) :=
  ⟨h.os, h.tape, h.output, by have := h.size; simpa [World.setCell] using this, fun i hi hn => (Below.heap_setCell b p u i (fun e => by
    rcases hp with hp | hp
    · exact hn (by rw [e]; exact hp)
    · omega)).trans (h.block i hi hn)⟩
theorem Keeps.below {S : Nat → Prop} {a b : World} {B : Nat} (h : Keeps S a b) (hB : B ≤ a.heap.size) (hS : ∀ k, S k → B ≤ k) : Below B a b :=
  ⟨h.os, h.tape, h.output, h.size, fun i hi => h.block i (by omega) fun hs => by have := hS i hs; omega⟩
theorem kcell {S : Nat → Prop} {a b : World} (h : Keeps S a b) : ∀ k o, k < a.heap.size → ¬ S k → b.cell? ⟨k, o, none⟩ = a.cell? ⟨k, o, none⟩ :=
  fun k o hk hn => World.cell?_of_block (h.block k hk hn)

/-! the forest -/
structure Fo where
  base : Nat
  p : Nat
  N : Nat
  ks : List Kn
  kb : Nat
  cap : Nat
  bk : Nat
  nk : Nat
  K : Kn → Option Int
  bj : Nat
  nj : Nat
  J : Int × Nat × Nat → Option Int
def opB (o : Int) (x y : Bool) : Bool := if o = -4 then x && y else if o = -5 then x || y else x == y
theorem opB_comm (o : Int) (x y : Bool) : opB o x y = opB o y x := by
  unfold opB; split
  · exact Bool.and_comm _ _
  · split
    · exact Bool.or_comm _ _
    · cases x <;> cases y <;> rfl
def knF (ks : List Kn) (i j : Nat) : Value := match j with
  | 0 => .int .i64 (topK ks i : Nat)
  | 1 => .int .i64 (lowK ks i : Nat)
  | _ => .int .i64 (highK ks i : Nat)
/-- The forest F stands in memory. -/
structure FoAt (w : World) (F : Fo) : Prop where
  box : w.heap[F.p]? = some (.cells #[.int .i64 F.N, .slice (some ⟨F.kb, 0, none⟩) F.ks.length F.cap, .map (some F.bk), .map (some F.bj)] 99 (0, 0))
  row : w.ownsRow F.base 135 3 (.slice (some ⟨F.kb, 0, none⟩) F.ks.length F.cap) F.ks.length (flat F.ks.length 3 (knF F.ks))
  known : MapIs Try.prog w 135 3 F.bk F.nk knV F.K
  joined : MapIs Try.prog w 149 3 F.bj F.nj paV F.J
  wf : WF F.N F.ks
  k1 : ∀ k x, F.K k = some x → ∃ i : Nat, x = i ∧ 2 ≤ i ∧ i < F.ks.length ∧ F.ks.getD i Kn.z = k
  k2 : ∀ i, 2 ≤ i → i < F.ks.length → F.K (F.ks.getD i Kn.z) = some ((i : Nat) : Int)
  j1 : ∀ o a b x, F.J (o, a, b) = some x → ∃ i : Nat, x = i ∧ i < F.ks.length ∧ a < F.ks.length ∧ b < F.ks.length ∧ (∀ v, ev F.ks v i = opB o (ev F.ks v a) (ev F.ks v b)) ∧ min (topK F.ks a) (topK F.ks b) ≤ topK F.ks i
  nkk : F.nk ≤ F.ks.length
  pb : F.base ≤ F.p
  bb : F.base ≤ F.bk ∧ F.base ≤ F.bj ∧ F.base ≤ F.kb
  ne1 : F.bk ≠ F.bj
  ne2 : F.kb ≠ F.p
  small : F.ks.length ≤ 1073741824 ∧ F.nj ≤ 1073741824 ∧ F.N ≤ 1000
def SF (F : Fo) (k : Nat) : Prop := k = F.p ∨ k = F.bk ∨ k = F.bj ∨ k = F.kb
section
variable {w : World} {F : Fo} (h : FoAt w F)
include h
theorem FoAt.lts : F.p < w.heap.size ∧ F.bk < w.heap.size ∧ F.bj < w.heap.size ∧ F.kb < w.heap.size :=
  ⟨box_lt h.box, h.known.lt, h.joined.lt, (h.row.lt F.kb rfl).2⟩
theorem FoAt.nes : F.p ≠ F.bk ∧ F.p ≠ F.bj ∧ F.kb ≠ F.bk ∧ F.kb ≠ F.bj := by
  obtain ⟨e1, c1, h1⟩ := h.known.obj
  obtain ⟨e2, c2, h2⟩ := h.joined.obj
  have h3 := h.box
  obtain ⟨_, ⟨h4, _⟩ | ⟨g, cp, cur, h4, _, h5, _⟩⟩ := h.row
  · cases h4
  · injection h4 with h4 _ _
    injection h4 with h4
    injection h4 with h4 _ _
    subst h4
    refine ⟨fun e => ?_, fun e => ?_, fun e => ?_, fun e => ?_⟩
    · rw [e, h1] at h3; cases h3
    · rw [e, h2] at h3; cases h3
    · rw [e, h1] at h5; cases h5
    · rw [e, h2] at h5; cases h5
theorem FoAt.cellN : w.cell? ⟨F.p, 0, none⟩ = some (.int .i64 F.N) := cellOf h.box 0
theorem FoAt.cellS : w.cell? ⟨F.p, 1, none⟩ = some (.slice (some ⟨F.kb, 0, none⟩) F.ks.length F.cap) := cellOf h.box 1
theorem FoAt.cellK : w.cell? ⟨F.p, 2, none⟩ = some (.map (some F.bk)) := cellOf h.box 2
theorem FoAt.cellJ : w.cell? ⟨F.p, 3, none⟩ = some (.map (some F.bj)) := cellOf h.box 3
theorem FoAt.knot {n : Nat} (hn : n < F.ks.length) : w.cell? ⟨F.kb, n * 3, none⟩ = some (.int .i64 (topK F.ks n : Nat)) ∧ w.cell? ⟨F.kb, n * 3 + 1, none⟩ = some (.int .i64 (lowK F.ks n : Nat)) ∧ w.cell? ⟨F.kb, n * 3 + 2, none⟩ = some (.int .i64 (highK F.ks n : Nat)) := by
  have hc := h.row.cells (g := F.kb) rfl
  have hx : ∀ j, j < 3 → w.cell? ⟨F.kb, n * 3 + j, none⟩ = some (knF F.ks n j) := fun j hj => by
    have := hc (n * 3 + j) _ (flat_get (f := knF F.ks) hn hj)
    have he : (⟨F.kb, 0, none⟩ : Addr).add (n * 3 + j) = ⟨F.kb, n * 3 + j, none⟩ := by
      unfold Addr.add
      split
      · rename_i h0; rw [h0]
      · rw [Nat.zero_add]
    rwa [he] at this
  exact ⟨hx 0 (by omega), hx 1 (by omega), hx 2 (by omega)⟩
theorem FoAt.same {w' : World} (hs : ∀ k, SF F k → w'.heap[k]? = w.heap[k]?) : FoAt w' F where
  box := (hs _ (.inl rfl)).trans h.box
  row := by
    obtain ⟨h1, ⟨h4, h6⟩ | ⟨g, cp, cur, h4, h6, h5, h7⟩⟩ := h.row
    · cases h4
    · refine ⟨h1, .inr ⟨g, cp, cur, h4, h6, ?_, h7⟩⟩
      injection h4 with h4 _ _
      injection h4 with h4
      injection h4 with h4 _ _
      subst h4
      exact (hs _ (.inr (.inr (.inr rfl)))).trans h5
  known := h.known.same (hs _ (.inr (.inl rfl)))
  joined := h.joined.same (hs _ (.inr (.inr (.inl rfl))))
  wf := h.wf
  k1 := h.k1
  k2 := h.k2
  j1 := h.j1
  nkk := h.nkk
  pb := h.pb
  bb := h.bb
  ne1 := h.ne1
  ne2 := h.ne2
  small := h.small
theorem FoAt.slt {k : Nat} (hk : SF F k) : k < w.heap.size := by
  obtain ⟨h1, h2, h3, h4⟩ := h.lts
  rcases hk with rfl | rfl | rfl | rfl <;> assumption
theorem FoAt.sbase {k : Nat} (hk : SF F k) : F.base ≤ k := by
  obtain ⟨h2, h3, h4⟩ := h.bb
  rcases hk with rfl | rfl | rfl | rfl
  · exact h.pb
  · exact h2
  · exact h3
  · exact h4
theorem FoAt.below {w' : World} (hb : Below w.heap.size w w') : FoAt w' F := h.same fun k hk => hb.block k (h.slt hk)
theorem FoAt.keeps {w' : World} {S : Nat → Prop} (hb : Keeps S w w') (hS : ∀ k, SF F k → ¬ S k) : FoAt w' F := h.same fun k hk => hb.block k (h.slt hk) (hS k hk)
end
/-- From a forest in one world to a forest in a later one that has all its nodes. -/
structure FStep (w : World) (F : Fo) (w' : World) (F' : Fo) : Prop where
  here : FoAt w' F'
  ba : F'.base = F.base
  p : F'.p = F.p
  N : F'.N = F.N
  bk : F'.bk = F.bk
  bj : F'.bj = F.bj
  ks : ∃ e, F'.ks = F.ks ++ e
  kb : F'.kb = F.kb ∨ w.heap.size ≤ F'.kb
  keep : Keeps (SF F) w w'
theorem FStep.sub {w w' : World} {F F' : Fo} (h : FStep w F w' F') : ∀ k, k < w.heap.size → SF F' k → SF F k := by
  intro k hk hs
  unfold SF at hs ⊢
  rw [h.p, h.bk, h.bj] at hs
  rcases h.kb with e | e
  · rw [e] at hs; exact hs
  · omega
theorem FStep.trans {a b c : World} {F G H : Fo} (h : FStep a F b G) (k : FStep b G c H) : FStep a F c H where
  here := k.here
  ba := k.ba.trans h.ba
  p := k.p.trans h.p
  N := k.N.trans h.N
  bk := k.bk.trans h.bk
  bj := k.bj.trans h.bj
  ks := by
    obtain ⟨e, he⟩ := h.ks
    obtain ⟨f, hf⟩ := k.ks
    exact ⟨e ++ f, by rw [hf, he, List.append_assoc]⟩
  kb := by
    rcases k.kb with e | e
    · rw [e]; exact h.kb
    · exact .inr (Nat.le_trans h.keep.size e)
  keep := h.keep.trans k.keep h.sub
theorem FStep.refl {w : World} {F : Fo} (h : FoAt w F) : FStep w F w F := ⟨h, rfl, rfl, rfl, rfl, rfl, ⟨[], by simp⟩, .inl rfl, Keeps.refl _ _⟩
theorem FStep.of_below {w w' : World} {F : Fo} (h : FoAt w F) (hb : Below w.heap.size w w') : FStep w F w' F := ⟨h.below hb, rfl, rfl, rfl, rfl, rfl, ⟨[], by simp⟩, .inl rfl, Keeps.of_below hb⟩
theorem FStep.then_below {w w' w'' : World} {F F' : Fo} (h : FStep w F w' F') (hb : Below w'.heap.size w' w'') : FStep w F w'' F' := h.trans (FStep.of_below h.here hb)
theorem FStep.le {w w' : World} {F F' : Fo} (h : FStep w F w' F') : F.ks.length ≤ F'.ks.length := by
  obtain ⟨e, he⟩ := h.ks
  rw [he, List.length_append]; omega
theorem FStep.ev {w w' : World} {F F' : Fo} (h : FStep w F w' F') (hw : WF F.N F.ks) {n : Nat} (hn : n < F.ks.length) (v : Nat → Bool) : ev F'.ks v n = ev F.ks v n := by
  obtain ⟨e, he⟩ := h.ks
  rw [he]; exact ev_old hw e v hn
theorem FStep.top {w w' : World} {F F' : Fo} (h : FStep w F w' F') {n : Nat} (hn : n < F.ks.length) : topK F'.ks n = topK F.ks n := by
  obtain ⟨e, he⟩ := h.ks
  rw [he]; exact topK_old e hn
theorem FStep.below {w w' : World} {F F' : Fo} (h : FStep w F w' F') (hF : FoAt w F) (hB : F.base ≤ w.heap.size) : Below F.base w w' := h.keep.below hB fun k hk => hF.sbase hk
/-- A block of the caller's own is kept. -/
theorem FStep.block {w w' : World} {F F' : Fo} (h : FStep w F w' F') {k : Nat} (hk : k < w.heap.size) (hn : ¬ SF F k) : w'.heap[k]? = w.heap[k]? ∧ ¬ SF F' k := ⟨h.keep.block k hk hn, fun hs => hn (h.sub k hk hs)⟩
theorem flat_knSnoc (ks : List Kn) (k : Kn) : flat (ks ++ [k]).length 3 (knF (ks ++ [k])) = flat ks.length 3 (knF ks) ++ [.int .i64 (k.opt : Nat), .int .i64 (k.low : Nat), .int .i64 (k.high : Nat)] := by
  apply List.ext_getElem?
  intro m
  rcases Nat.lt_or_ge m (ks.length * 3) with hm | hm
  · rw [List.getElem?_append_left (by rw [flat_length]; exact hm)]
    obtain ⟨i, j, rfl, hj⟩ : ∃ i j, m = i * 3 + j ∧ j < 3 := ⟨m / 3, m % 3, by omega, by omega⟩
    have hi : i < ks.length := by omega
    rw [flat_get (by simp; omega) hj, flat_get hi hj]
    simp only [knF, topK_old _ hi, lowK_old _ hi, highK_old _ hi]
  · rw [List.getElem?_append_right (by rw [flat_length]; exact hm), flat_length]
    rcases Nat.lt_or_ge m (ks.length * 3 + 3) with h3 | h3
    · obtain ⟨j, rfl, hj⟩ : ∃ j, m = ks.length * 3 + j ∧ j < 3 := ⟨m - ks.length * 3, by omega, by omega⟩
      rw [flat_get (by simp) hj, Nat.add_sub_cancel_left]
      match j, hj with
      | 0, _ => simp [knF, topK]
      | 1, _ => simp [knF, lowK]
      | 2, _ => simp [knF, highK]
    · rw [List.getElem?_eq_none (by rw [flat_length]; simp; omega), List.getElem?_eq_none (by simp; omega)]
/-- One more node. -/
theorem FoAt.grow {w w4 : World} {F : Fo} (h : FoAt w F) {k : Kn} (hwf : WF F.N (F.ks ++ [k])) {g cap : Nat} (hg : g = F.kb ∨ w.heap.size ≤ g) (hbx : w4.heap[F.p]? = some (.cells #[.int .i64 F.N, .slice (some ⟨g, 0, none⟩) (F.ks.length + 1) cap, .map (some F.bk), .map (some F.bj)] 99 (0, 0)))
    (hrow : w4.ownsRow F.base 135 3 (.slice (some ⟨g, 0, none⟩) (F.ks.length + 1) cap) (F.ks.length + 1) (flat F.ks.length 3 (knF F.ks) ++ [.int .i64 (k.opt : Nat), .int .i64 (k.low : Nat), .int .i64 (k.high : Nat)]))
    (hkn : MapIs Try.prog w4 135 3 F.bk (F.nk + 1) knV (putM F.K k F.ks.length)) (hj : w4.heap[F.bj]? = w.heap[F.bj]?) (hnew : F.K k = none) (hkeep : Keeps (SF F) w w4) (hsz : F.ks.length + 1 ≤ 1073741824) :
    ∃ F', FStep w F w4 F' ∧ F'.ks = F.ks ++ [k] ∧ F'.nj = F.nj ∧ F'.J = F.J := by
  have hlts := h.lts
  have hget : (F.ks ++ [k]).getD F.ks.length Kn.z = k := by simp [List.getD_eq_getElem?_getD]
  refine ⟨{ F with ks := F.ks ++ [k], kb := g, cap := cap, K := putM F.K k F.ks.length, nk := F.nk + 1 }, ⟨?_, rfl, rfl, rfl, rfl, rfl, ⟨[k], rfl⟩, hg, hkeep⟩, rfl, rfl, rfl⟩
  refine ⟨?_, ?_, hkn, h.joined.same hj, hwf, ?_, ?_, ?_, ?_, h.pb, ?_, h.ne1, ?_, ?_⟩
  · show w4.heap[F.p]? = some (.cells #[.int .i64 F.N, .slice (some ⟨g, 0, none⟩) (F.ks ++ [k]).length cap, .map (some F.bk), .map (some F.bj)] 99 (0, 0))
    rw [List.length_append, List.length_singleton]; exact hbx
  · show w4.ownsRow F.base 135 3 (.slice (some ⟨g, 0, none⟩) (F.ks ++ [k]).length cap) (F.ks ++ [k]).length (flat (F.ks ++ [k]).length 3 (knF (F.ks ++ [k])))
    rw [flat_knSnoc, List.length_append, List.length_singleton]; exact hrow
  · intro k' x hx
    show ∃ i : Nat, x = i ∧ 2 ≤ i ∧ i < (F.ks ++ [k]).length ∧ (F.ks ++ [k]).getD i Kn.z = k'
    replace hx : putM F.K k F.ks.length k' = some x := hx
    unfold putM at hx
    split at hx
    · rename_i e
      injection hx with hx
      exact ⟨F.ks.length, hx.symm, h.wf.two, by simp, by rw [hget, e]⟩
    · obtain ⟨i, h1, h2, h3, h4⟩ := h.k1 k' x hx
      exact ⟨i, h1, h2, by simp; omega, by rw [getD_old _ h3]; exact h4⟩
  · intro i h2 hi
    show putM F.K k F.ks.length ((F.ks ++ [k]).getD i Kn.z) = some (i : Int)
    replace hi : i < (F.ks ++ [k]).length := hi
    rw [List.length_append, List.length_singleton] at hi
    unfold putM
    rcases Nat.lt_or_ge i F.ks.length with hlt | hge
    · rw [getD_old _ hlt, if_neg (fun e => by
        have := h.k2 i h2 hlt
        rw [e, hnew] at this
        cases this), h.k2 i h2 hlt]
    · obtain rfl : i = F.ks.length := by omega
      rw [hget, if_pos rfl]
  · intro o a b x hx
    obtain ⟨i, h1, h2, h3, h4, h5, h6⟩ := h.j1 o a b x hx
    show ∃ i : Nat, x = i ∧ i < (F.ks ++ [k]).length ∧ a < (F.ks ++ [k]).length ∧ b < (F.ks ++ [k]).length ∧ (∀ v, ev (F.ks ++ [k]) v i = opB o (ev (F.ks ++ [k]) v a) (ev (F.ks ++ [k]) v b)) ∧ min (topK (F.ks ++ [k]) a) (topK (F.ks ++ [k]) b) ≤ topK (F.ks ++ [k]) i
    refine ⟨i, h1, by simp; omega, by simp; omega, by simp; omega, fun v => ?_, ?_⟩
    · rw [ev_old h.wf _ v h2, ev_old h.wf _ v h3, ev_old h.wf _ v h4]; exact h5 v
    · rw [topK_old _ h2, topK_old _ h3, topK_old _ h4]; exact h6
  · have := h.nkk
    simp; omega
  · have := h.bb
    refine ⟨this.1, this.2.1, ?_⟩
    rcases hg with rfl | hg
    · exact this.2.2
    · exact (hrow.lt g rfl).1
  · rcases hg with rfl | hg
    · exact h.ne2
    · show g ≠ F.p
      omega
  · have := h.small
    refine ⟨?_, this.2⟩
    show (F.ks ++ [k]).length ≤ 1073741824
    simp; omega
end Go.Proofs.Ytohofcmikfkilaa
/- Small functions of the forest: walks. -/
namespace Go.Proofs.Ytohofcmikfkilaa
open Go.RowKit
open Go.Maps (Keyed)
set_option linter.unusedVariables false
set_option linter.unusedSimpArgs false

set_option maxRecDepth 100000 in
theorem branch_any (F : Fo) (n o : Nat) (b : Bool) (w : World) (h : FoAt w F) (hn : n < F.ks.length) :
    Calls Try.prog 97 #[.pointer (some ⟨F.p, 0, none⟩), .int .i64 n, .int .i64 o, .bool b] w fun e w' => e = .returned (.int .i64 (brK F.ks n o b : Nat)) ∧ Below w.heap.size w w' := by
  have c1 := h.cellS
  obtain ⟨k0, k1, k2⟩ := h.knot hn
  obtain ⟨l0, _, _, l3⟩ := h.lts
  have hi0 : (0 : Int) ≤ (n : Int) := by omega
  have hi1 : (n : Int) < (F.ks.length : Int) := by omega
  have hbr : brK F.ks n o b = if topK F.ks n = o then (if b then highK F.ks n else lowK F.ks n) else n := rfl
  have HBR := hide hbr
  clear hbr h
  by_cases ht : topK F.ks n = o
  · have ht1 : ((topK F.ks n : Int) != (o : Int)) = false := by simp [ht]
    have HT := hide ht
    clear ht
    cases b
    · go_enter Try.func97, Try.ntmps97
      go_wp2
      go_ret
      refine ⟨?_, (by repeat (first | exact Below.refl _ _ | assumption | refine Below.drew ?_ | refine Below.drewN ?_ _ | refine Below.allocT ?_ (Nat.le_refl _) _ | refine Below.setCell ?_ (by simp <;> omega) _ | refine Below.to ?_ (by assumption) (Nat.le_refl _)))⟩
      rw [HBR.out, if_pos HT.out]; rfl
    · go_enter Try.func97, Try.ntmps97
      go_wp2
      go_ret
      refine ⟨?_, (by repeat (first | exact Below.refl _ _ | assumption | refine Below.drew ?_ | refine Below.drewN ?_ _ | refine Below.allocT ?_ (Nat.le_refl _) _ | refine Below.setCell ?_ (by simp <;> omega) _ | refine Below.to ?_ (by assumption) (Nat.le_refl _)))⟩
      rw [HBR.out, if_pos HT.out]; rfl
  · have ht1 : ((topK F.ks n : Int) != (o : Int)) = true := by simp; omega
    have HT := hide ht
    clear ht
    go_enter Try.func97, Try.ntmps97
    go_wp2
    go_ret
    refine ⟨?_, (by repeat (first | exact Below.refl _ _ | assumption | refine Below.drew ?_ | refine Below.drewN ?_ _ | refine Below.allocT ?_ (Nat.le_refl _) _ | refine Below.setCell ?_ (by simp <;> omega) _ | refine Below.to ?_ (by assumption) (Nat.le_refl _)))⟩
    rw [HBR.out, if_neg HT.out]; rfl

/-- The forest that newForest makes. -/
def newFo (B N : Nat) : Fo := ⟨B, B + 3, N, [⟨N, 0, 0⟩, ⟨N, 0, 0⟩], B, 2, B + 1, 0, fun _ => none, B + 2, 0, fun _ => none⟩
theorem newFo_at (N : Nat) (hN : N ≤ 1000) (w w' : World) (C : Array Value) (hC : C = #[.int .i64 N, .int .i64 0, .int .i64 0, .int .i64 N, .int .i64 0, .int .i64 0])
    (h0 : w'.heap[w.heap.size]? = some (.cells C 135 (0, 0))) (h1 : w'.heap[w.heap.size + 1]? = some (.map #[] 0)) (h2 : w'.heap[w.heap.size + 2]? = some (.map #[] 0))
    (h3 : w'.heap[w.heap.size + 3]? = some (.cells #[.int .i64 N, .slice (some ⟨w.heap.size, 0, none⟩) 2 2, .map (some (w.heap.size + 1)), .map (some (w.heap.size + 2))] 99 (0, 0))) : FoAt w' (newFo w.heap.size N) where
  box := h3
  row := by
    subst hC
    exact ⟨by simp [flat, newFo], .inr ⟨w.heap.size, 2, _, rfl, Nat.le_refl _, h0, Nat.le_refl _, by unfold maxLen; decide, rfl, by simp [newFo, flat, List.range_succ, knF, topK, lowK, highK]⟩⟩
  known := ⟨.map [], ⟨#[], 0, h1, ⟨by simp, MapKept.stamped_empty 0, by simp⟩, Nat.le_refl _, rfl⟩, fun a l _ => ⟨fun _ => rfl, fun x h => by cases h⟩⟩
  joined := ⟨.map [], ⟨#[], 0, h2, ⟨by simp, MapKept.stamped_empty 0, by simp⟩, Nat.le_refl _, rfl⟩, fun a l _ => ⟨fun _ => rfl, fun x h => by cases h⟩⟩
  wf := WF.start N
  k1 := fun k x h => by cases h
  k2 := fun i h2 hi => by simp [newFo] at hi; omega
  j1 := fun o a b x h => by cases h
  nkk := by simp [newFo]
  pb := by simp [newFo]
  bb := by simp [newFo]
  ne1 := by simp [newFo]
  ne2 := by simp [newFo]
  small := by simp [newFo]; omega
set_option maxRecDepth 100000 in
theorem newForest_any (N : Nat) (hN : N ≤ 1000) (w : World) :
    Calls Try.prog 93 #[.int .i64 N] w fun e w' => e = .returned (.pointer (some ⟨w.heap.size + 3, 0, none⟩)) ∧ FoAt w' (newFo w.heap.size N) ∧ Below w.heap.size w w' := by
  have hmm := @run_makeMap Try.prog
  go_enter Try.func93, Try.ntmps93
  go_wp2
  go_ret
  obtain ⟨a0, a1, a2, a3, hB, _⟩ := alloc4 (rfl : _ = (((w.alloc (.cells #[.int .i64 N, .int .i64 0, .int .i64 0, .int .i64 N, .int .i64 0, .int .i64 0] 135)).alloc (.map #[] 0)).alloc (.map #[] 0)).alloc (.cells #[.int .i64 N, .slice (some ⟨w.heap.size, 0, none⟩) 2 2, .map (some (w.heap.size + 1)), .map (some (w.heap.size + 1 + 1))] 99))
  exact ⟨rfl, newFo_at N hN w _ _ rfl a0 a1 a2 a3, hB⟩
end Go.Proofs.Ytohofcmikfkilaa
/- A node made, or found: walk. -/
namespace Go.Proofs.Ytohofcmikfkilaa
open Go.RowKit
open Go.Maps (Keyed)
set_option linter.unusedVariables false
set_option linter.unusedSimpArgs false
theorem kcell1 {g : Nat} {a b : World} (h : Keeps (fun k => k = g) a b) : ∀ k o, k < a.heap.size → ¬ k = g → b.cell? ⟨k, o, none⟩ = a.cell? ⟨k, o, none⟩ :=
  fun k o hk h1 => kcell h k o hk h1
theorem kcell2 {g l : Nat} {a b : World} (h : Keeps (fun k => k = g ∨ k = l) a b) : ∀ k o, k < a.heap.size → ¬ k = g → ¬ k = l → b.cell? ⟨k, o, none⟩ = a.cell? ⟨k, o, none⟩ :=
  fun k o hk h1 h2 => kcell h k o hk fun e => e.elim h1 h2
/-- What node gives back. -/
structure NodeR (w : World) (F : Fo) (o low high : Nat) (n : Nat) (w' : World) (F' : Fo) : Prop where
  st : FStep w F w' F'
  lt : n < F'.ks.length
  len : F'.ks.length ≤ F.ks.length + 1
  nj : F'.nj = F.nj
  J : F'.J = F.J
  ev : ∀ v, ev F'.ks v n = if v o then ev F.ks v high else ev F.ks v low
  top : o ≤ topK F'.ks n

set_option maxRecDepth 100000 in
set_option maxHeartbeats 1000000 in
theorem node_any (F : Fo) (o low high : Nat) (w : World) (h : FoAt w F) (ho : o < F.N) (hl : low < F.ks.length) (hh : high < F.ks.length) (tl : o < topK F.ks low) (th : o < topK F.ks high) (hsz : F.ks.length + 1 ≤ 1073741824) :
    Calls Try.prog 109 #[.pointer (some ⟨F.p, 0, none⟩), .int .i64 o, .int .i64 low, .int .i64 high] w
      fun e w' => ∃ n F', e = .returned (.int .i64 (n : Nat)) ∧ NodeR w F o low high n w' F' := by
  have hsm := h.small
  by_cases heq : low = high
  · subst heq
    go_enter Try.func109, Try.ntmps109
    go_wp2
    go_ret
    exact ⟨low, F, rfl, FStep.refl h, hl, by omega, rfl, rfl, fun v => by simp, by omega⟩
  have heq1 : ((low : Int) == (high : Int)) = false := by simp; omega
  obtain ⟨l0, l1, l2, l3⟩ := h.lts
  obtain ⟨n1, n2, n3, n4⟩ := h.nes
  have hk63 : I63 ((⟨o, low, high⟩ : Kn).opt : Nat) ∧ I63 ((⟨o, low, high⟩ : Kn).low : Nat) ∧ I63 ((⟨o, low, high⟩ : Kn).high : Nat) := by
    simp only [I63]; omega
  obtain ⟨kl, hkl⟩ := knKey hk63.1 hk63.2.1 hk63.2.2
  have H := hide h
  have HNE := hide heq
  have HK := hide hkl
  have c2 : w.cell? ⟨F.p, 2, none⟩ = some (.map (some F.bk)) := h.cellK
  clear h heq hk63 hkl
  cases hx : F.K ⟨o, low, high⟩ with
  | some x =>
    obtain ⟨i, rfl, i2, il, ie⟩ := H.out.k1 _ _ hx
    have HLK0 : Hid (∀ w', Below w.heap.size w w' → (Instr.lookup 96 (.map (some F.bk)) (.agg #[.int .i64 o, .int .i64 low, .int .i64 high]) true).run Try.prog w' = .ok (.tuple #[.int .i64 i, .bool true]) w') := fun w' hb => by
      have := (H.out.below hb).known.look knLaw Try.underlying96 Try.underlying3 (zInt w') HK.out
      rw [hx] at this
      exact this
    clear hx
    have HIE := hide ie
    clear ie
    go_enter Try.func109, Try.ntmps109
    go_upto_region 4 with (fail)
    generalize hw0 : World.alloc _ _ = w0
    obtain ⟨hb0, hB0, hs0⟩ := alloc1 hw0
    clear hw0
    have d2 : w0.cell? ⟨F.p, 2, none⟩ = some (.map (some F.bk)) := (H.out.below hB0).cellK
    have e0 := cellOf hb0 0
    have e1 := cellOf hb0 1
    have e2 := cellOf hb0 2
    have HLK : Hid (∀ w', Below w0.heap.size w0 w' → (Instr.lookup 96 (.map (some F.bk)) (.agg #[.int .i64 o, .int .i64 low, .int .i64 high]) true).run Try.prog w' = .ok (.tuple #[.int .i64 i, .bool true]) w') := fun w' hb => HLK0.out w' (Below.to hB0 hb (Nat.le_refl _))
    have l4 : F.p < w0.heap.size := by omega
    have l5 : w.heap.size < w0.heap.size := by omega
    have HB0 := hide hB0
    clear hB0 hs0 HLK0 hb0
    refine wp_region_held_drew (S := (fun w' => Below w0.heap.size w0 w')) (by kernel_rfl) ?_ (fun hHeld => ?_)
    · try dsimp only
      exact (by repeat (first | exact Below.refl _ _ | assumption | refine Below.drew ?_ | refine Below.drewN ?_ _ | refine Below.allocT ?_ (Nat.le_refl _) _ | refine Below.setCell ?_ (by simp <;> omega) _ | refine Below.to ?_ (by assumption) (Nat.le_refl _)))
    refine wpAnyH_take (i := 0) (v := ?v13_0) rfl (by kernel_rfl) (by kernel_rfl) (by kernel_rfl) (fun _ _ _ h => h) (Or.inl ⟨by rfl, ?y13_0⟩) (by assumption) ?r13_0
    case' y13_0 => (intro w hSw; (try dsimp only at hSw); (try have hlS := HLK.out _ hSw); obtain ⟨hcS, hfS⟩ := bcell hSw; clear hSw; go_simp; try with_reducible rfl)
    try simp only [Act.put, List.getElem_toArray, List.getElem_cons_succ, List.getElem_cons_zero, List.setIfInBounds_toArray, List.set_cons_zero, List.set_cons_succ]
    refine wpAnyH_take (i := 1) (v := ?v13_1) rfl (by kernel_rfl) (by kernel_rfl) (by kernel_rfl) (fun _ _ _ h => h) (Or.inl ⟨by rfl, ?y13_1⟩) (by assumption) ?r13_1
    case' y13_1 => (intro w hSw; (try dsimp only at hSw); (try have hlS := HLK.out _ hSw); obtain ⟨hcS, hfS⟩ := bcell hSw; clear hSw; go_simp; try with_reducible rfl)
    try simp only [Act.put, List.getElem_toArray, List.getElem_cons_succ, List.getElem_cons_zero, List.setIfInBounds_toArray, List.set_cons_zero, List.set_cons_succ]
    refine wpAnyH_take (i := 2) (v := ?v13_2) rfl (by kernel_rfl) (by kernel_rfl) (by kernel_rfl) (fun _ _ _ h => h) (Or.inl ⟨by rfl, ?y13_2⟩) (by assumption) ?r13_2
    case' y13_2 => (intro w hSw; (try dsimp only at hSw); (try have hlS := HLK.out _ hSw); obtain ⟨hcS, hfS⟩ := bcell hSw; clear hSw; go_simp; try with_reducible rfl)
    try simp only [Act.put, List.getElem_toArray, List.getElem_cons_succ, List.getElem_cons_zero, List.setIfInBounds_toArray, List.set_cons_zero, List.set_cons_succ]
    refine wpAnyH_take (i := 3) (v := ?v13_3) rfl (by kernel_rfl) (by kernel_rfl) (by kernel_rfl) (fun _ _ _ h => h) (Or.inl ⟨by rfl, ?y13_3⟩) (by assumption) ?r13_3
    case' y13_3 => (intro w hSw; (try dsimp only at hSw); (try have hlS := HLK.out _ hSw); obtain ⟨hcS, hfS⟩ := bcell hSw; clear hSw; go_simp; try with_reducible rfl)
    try simp only [Act.put, List.getElem_toArray, List.getElem_cons_succ, List.getElem_cons_zero, List.setIfInBounds_toArray, List.set_cons_zero, List.set_cons_succ]
    refine wpAnyH_take (i := 4) (v := ?v13_4) rfl (by kernel_rfl) (by kernel_rfl) (by kernel_rfl) (fun _ _ _ h => h) (Or.inl ⟨by rfl, ?y13_4⟩) (by assumption) ?r13_4
    case' y13_4 => (intro w hSw; (try dsimp only at hSw); (try have hlS := HLK.out _ hSw); obtain ⟨hcS, hfS⟩ := bcell hSw; clear hSw; go_simp; try with_reducible rfl)
    try simp only [Act.put, List.getElem_toArray, List.getElem_cons_succ, List.getElem_cons_zero, List.setIfInBounds_toArray, List.set_cons_zero, List.set_cons_succ]
    refine wpAnyH_take (i := 5) (v := ?v13_5) rfl (by kernel_rfl) (by kernel_rfl) (by kernel_rfl) (fun _ _ _ h => h) (Or.inl ⟨by rfl, ?y13_5⟩) (by assumption) ?r13_5
    case' y13_5 => (intro w hSw; (try dsimp only at hSw); (try have hlS := HLK.out _ hSw); obtain ⟨hcS, hfS⟩ := bcell hSw; clear hSw; go_simp; try with_reducible rfl)
    try simp only [Act.put, List.getElem_toArray, List.getElem_cons_succ, List.getElem_cons_zero, List.setIfInBounds_toArray, List.set_cons_zero, List.set_cons_succ]
    refine wpAnyH_take (i := 6) (v := ?v13_6) rfl (by kernel_rfl) (by kernel_rfl) (by kernel_rfl) (fun _ _ _ h => h) (Or.inl ⟨by rfl, ?y13_6⟩) (by assumption) ?r13_6
    case' y13_6 => (intro w hSw; (try dsimp only at hSw); (try have hlS := HLK.out _ hSw); obtain ⟨hcS, hfS⟩ := bcell hSw; clear hSw; go_simp; try with_reducible rfl)
    try simp only [Act.put, List.getElem_toArray, List.getElem_cons_succ, List.getElem_cons_zero, List.setIfInBounds_toArray, List.set_cons_zero, List.set_cons_succ]
    refine wpAnyH_take (i := 7) (v := ?v13_7) rfl (by kernel_rfl) (by kernel_rfl) (by kernel_rfl) (fun _ _ _ h => h) (Or.inl ⟨by rfl, ?y13_7⟩) (by assumption) ?r13_7
    case' y13_7 => (intro w hSw; (try dsimp only at hSw); (try have hlS := HLK.out _ hSw); obtain ⟨hcS, hfS⟩ := bcell hSw; clear hSw; go_simp; try with_reducible rfl)
    try simp only [Act.put, List.getElem_toArray, List.getElem_cons_succ, List.getElem_cons_zero, List.setIfInBounds_toArray, List.set_cons_zero, List.set_cons_succ]
    refine wpAnyH_take (i := 8) (v := ?v13_8) rfl (by kernel_rfl) (by kernel_rfl) (by kernel_rfl) (fun _ _ _ h => h) (Or.inl ⟨by rfl, ?y13_8⟩) (by assumption) ?r13_8
    case' y13_8 => (intro w hSw; (try dsimp only at hSw); (try have hlS := HLK.out _ hSw); obtain ⟨hcS, hfS⟩ := bcell hSw; clear hSw; go_simp; try with_reducible rfl)
    try simp only [Act.put, List.getElem_toArray, List.getElem_cons_succ, List.getElem_cons_zero, List.setIfInBounds_toArray, List.set_cons_zero, List.set_cons_succ]
    refine wpAnyH_take (i := 9) (v := ?v13_9) rfl (by kernel_rfl) (by kernel_rfl) (by kernel_rfl) (fun _ _ _ h => h) (Or.inl ⟨by rfl, ?y13_9⟩) (by assumption) ?r13_9
    case' y13_9 => (intro w hSw; (try dsimp only at hSw); (try have hlS := HLK.out _ hSw); obtain ⟨hcS, hfS⟩ := bcell hSw; clear hSw; go_simp; try with_reducible rfl)
    try simp only [Act.put, List.getElem_toArray, List.getElem_cons_succ, List.getElem_cons_zero, List.setIfInBounds_toArray, List.set_cons_zero, List.set_cons_succ]
    refine wpAnyH_take (i := 10) (v := ?v13_10) rfl (by kernel_rfl) (by kernel_rfl) (by kernel_rfl) (fun _ _ _ h => h) (Or.inl ⟨by rfl, ?y13_10⟩) (by assumption) ?r13_10
    case' y13_10 => (intro w hSw; (try dsimp only at hSw); (try have hlS := HLK.out _ hSw); obtain ⟨hcS, hfS⟩ := bcell hSw; clear hSw; go_simp; try with_reducible rfl)
    try simp only [Act.put, List.getElem_toArray, List.getElem_cons_succ, List.getElem_cons_zero, List.setIfInBounds_toArray, List.set_cons_zero, List.set_cons_succ]
    refine wpAnyH_done (by kernel_rfl) ?_ _
    go_wp2
    go_ret
    refine ⟨i, F, rfl, FStep.of_below H.out (Below.to HB0.out (by repeat (first | exact Below.refl _ _ | assumption | refine Below.drew ?_ | refine Below.drewN ?_ _ | refine Below.allocT ?_ (Nat.le_refl _) _ | refine Below.setCell ?_ (by simp <;> omega) _ | refine Below.to ?_ (by assumption) (Nat.le_refl _))) (Nat.le_refl _)), il, by omega, rfl, rfl, fun v => ?_, ?_⟩
    · rw [ev_step H.out.wf v i2 il]
      unfold topK lowK highK
      rw [HIE.out]
    · unfold topK
      rw [HIE.out]
      exact Nat.le_refl _
  | none =>
    obtain ⟨i0, hi0, hz0, hz1, hz2⟩ := info_parts infoKn
    have hnew : ∀ i, 2 ≤ i → i < F.ks.length → F.ks.getD i Kn.z ≠ ⟨o, low, high⟩ := fun i h2 hi e => by
      have := H.out.k2 i h2 hi
      rw [e, hx] at this
      cases this
    have hwf := H.out.wf.snoc (k := ⟨o, low, high⟩) ho hl hh HNE.out tl th hnew
    have HWF := hide hwf
    have HNEW := hide hx
    have hne2 := H.out.ne2
    have HLK0 : Hid (∀ w', Below w.heap.size w w' → (Instr.lookup 96 (.map (some F.bk)) (.agg #[.int .i64 o, .int .i64 low, .int .i64 high]) true).run Try.prog w' = .ok (.tuple #[.int .i64 0, .bool false]) w') := fun w' hb => by
      have := (H.out.below hb).known.look knLaw Try.underlying96 Try.underlying3 (zInt w') HK.out
      rw [hx] at this
      exact this
    clear hx hwf hnew
    go_enter Try.func109, Try.ntmps109
    go_upto_region 4 with (fail)
    generalize hw0 : World.alloc _ _ = w0
    obtain ⟨hb0, hB0, hs0⟩ := alloc1 hw0
    clear hw0
    have d2 : w0.cell? ⟨F.p, 2, none⟩ = some (.map (some F.bk)) := (H.out.below hB0).cellK
    have d1 : w0.cell? ⟨F.p, 1, none⟩ = some (.slice (some ⟨F.kb, 0, none⟩) F.ks.length F.cap) := (H.out.below hB0).cellS
    have e0 := cellOf hb0 0
    have e1 := cellOf hb0 1
    have e2 := cellOf hb0 2
    have HLK : Hid (∀ w', Below w0.heap.size w0 w' → (Instr.lookup 96 (.map (some F.bk)) (.agg #[.int .i64 o, .int .i64 low, .int .i64 high]) true).run Try.prog w' = .ok (.tuple #[.int .i64 0, .bool false]) w') := fun w' hb => HLK0.out w' (Below.to hB0 hb (Nat.le_refl _))
    have l4 : F.p < w0.heap.size := by omega
    have l5 : w.heap.size < w0.heap.size := by omega
    have HB0 := hide hB0
    have HS0 : Hid (w0.heap.size = w.heap.size + 1) := hs0
    have HH0 := hide hb0
    clear hB0 hs0 HLK0 hb0
    refine wp_region_held_drew (S := (fun w' => Below w0.heap.size w0 w')) (by kernel_rfl) ?_ (fun hHeld => ?_)
    · try dsimp only
      exact (by repeat (first | exact Below.refl _ _ | assumption | refine Below.drew ?_ | refine Below.drewN ?_ _ | refine Below.allocT ?_ (Nat.le_refl _) _ | refine Below.setCell ?_ (by simp <;> omega) _ | refine Below.to ?_ (by assumption) (Nat.le_refl _)))
    refine wpAnyH_take (i := 0) (v := ?v14_0) rfl (by kernel_rfl) (by kernel_rfl) (by kernel_rfl) (fun _ _ _ h => h) (Or.inl ⟨by rfl, ?y14_0⟩) (by assumption) ?r14_0
    case' y14_0 => (intro w hSw; (try dsimp only at hSw); (try have hlS := HLK.out _ hSw); obtain ⟨hcS, hfS⟩ := bcell hSw; clear hSw; go_simp; try with_reducible rfl)
    try simp only [Act.put, List.getElem_toArray, List.getElem_cons_succ, List.getElem_cons_zero, List.setIfInBounds_toArray, List.set_cons_zero, List.set_cons_succ]
    refine wpAnyH_take (i := 1) (v := ?v14_1) rfl (by kernel_rfl) (by kernel_rfl) (by kernel_rfl) (fun _ _ _ h => h) (Or.inl ⟨by rfl, ?y14_1⟩) (by assumption) ?r14_1
    case' y14_1 => (intro w hSw; (try dsimp only at hSw); (try have hlS := HLK.out _ hSw); obtain ⟨hcS, hfS⟩ := bcell hSw; clear hSw; go_simp; try with_reducible rfl)
    try simp only [Act.put, List.getElem_toArray, List.getElem_cons_succ, List.getElem_cons_zero, List.setIfInBounds_toArray, List.set_cons_zero, List.set_cons_succ]
    refine wpAnyH_take (i := 2) (v := ?v14_2) rfl (by kernel_rfl) (by kernel_rfl) (by kernel_rfl) (fun _ _ _ h => h) (Or.inl ⟨by rfl, ?y14_2⟩) (by assumption) ?r14_2
    case' y14_2 => (intro w hSw; (try dsimp only at hSw); (try have hlS := HLK.out _ hSw); obtain ⟨hcS, hfS⟩ := bcell hSw; clear hSw; go_simp; try with_reducible rfl)
    try simp only [Act.put, List.getElem_toArray, List.getElem_cons_succ, List.getElem_cons_zero, List.setIfInBounds_toArray, List.set_cons_zero, List.set_cons_succ]
    refine wpAnyH_take (i := 3) (v := ?v14_3) rfl (by kernel_rfl) (by kernel_rfl) (by kernel_rfl) (fun _ _ _ h => h) (Or.inl ⟨by rfl, ?y14_3⟩) (by assumption) ?r14_3
    case' y14_3 => (intro w hSw; (try dsimp only at hSw); (try have hlS := HLK.out _ hSw); obtain ⟨hcS, hfS⟩ := bcell hSw; clear hSw; go_simp; try with_reducible rfl)
    try simp only [Act.put, List.getElem_toArray, List.getElem_cons_succ, List.getElem_cons_zero, List.setIfInBounds_toArray, List.set_cons_zero, List.set_cons_succ]
    refine wpAnyH_take (i := 4) (v := ?v14_4) rfl (by kernel_rfl) (by kernel_rfl) (by kernel_rfl) (fun _ _ _ h => h) (Or.inl ⟨by rfl, ?y14_4⟩) (by assumption) ?r14_4
    case' y14_4 => (intro w hSw; (try dsimp only at hSw); (try have hlS := HLK.out _ hSw); obtain ⟨hcS, hfS⟩ := bcell hSw; clear hSw; go_simp; try with_reducible rfl)
    try simp only [Act.put, List.getElem_toArray, List.getElem_cons_succ, List.getElem_cons_zero, List.setIfInBounds_toArray, List.set_cons_zero, List.set_cons_succ]
    refine wpAnyH_take (i := 5) (v := ?v14_5) rfl (by kernel_rfl) (by kernel_rfl) (by kernel_rfl) (fun _ _ _ h => h) (Or.inl ⟨by rfl, ?y14_5⟩) (by assumption) ?r14_5
    case' y14_5 => (intro w hSw; (try dsimp only at hSw); (try have hlS := HLK.out _ hSw); obtain ⟨hcS, hfS⟩ := bcell hSw; clear hSw; go_simp; try with_reducible rfl)
    try simp only [Act.put, List.getElem_toArray, List.getElem_cons_succ, List.getElem_cons_zero, List.setIfInBounds_toArray, List.set_cons_zero, List.set_cons_succ]
    refine wpAnyH_take (i := 6) (v := ?v14_6) rfl (by kernel_rfl) (by kernel_rfl) (by kernel_rfl) (fun _ _ _ h => h) (Or.inl ⟨by rfl, ?y14_6⟩) (by assumption) ?r14_6
    case' y14_6 => (intro w hSw; (try dsimp only at hSw); (try have hlS := HLK.out _ hSw); obtain ⟨hcS, hfS⟩ := bcell hSw; clear hSw; go_simp; try with_reducible rfl)
    try simp only [Act.put, List.getElem_toArray, List.getElem_cons_succ, List.getElem_cons_zero, List.setIfInBounds_toArray, List.set_cons_zero, List.set_cons_succ]
    refine wpAnyH_take (i := 7) (v := ?v14_7) rfl (by kernel_rfl) (by kernel_rfl) (by kernel_rfl) (fun _ _ _ h => h) (Or.inl ⟨by rfl, ?y14_7⟩) (by assumption) ?r14_7
    case' y14_7 => (intro w hSw; (try dsimp only at hSw); (try have hlS := HLK.out _ hSw); obtain ⟨hcS, hfS⟩ := bcell hSw; clear hSw; go_simp; try with_reducible rfl)
    try simp only [Act.put, List.getElem_toArray, List.getElem_cons_succ, List.getElem_cons_zero, List.setIfInBounds_toArray, List.set_cons_zero, List.set_cons_succ]
    refine wpAnyH_take (i := 8) (v := ?v14_8) rfl (by kernel_rfl) (by kernel_rfl) (by kernel_rfl) (fun _ _ _ h => h) (Or.inl ⟨by rfl, ?y14_8⟩) (by assumption) ?r14_8
    case' y14_8 => (intro w hSw; (try dsimp only at hSw); (try have hlS := HLK.out _ hSw); obtain ⟨hcS, hfS⟩ := bcell hSw; clear hSw; go_simp; try with_reducible rfl)
    try simp only [Act.put, List.getElem_toArray, List.getElem_cons_succ, List.getElem_cons_zero, List.setIfInBounds_toArray, List.set_cons_zero, List.set_cons_succ]
    refine wpAnyH_take (i := 9) (v := ?v14_9) rfl (by kernel_rfl) (by kernel_rfl) (by kernel_rfl) (fun _ _ _ h => h) (Or.inl ⟨by rfl, ?y14_9⟩) (by assumption) ?r14_9
    case' y14_9 => (intro w hSw; (try dsimp only at hSw); (try have hlS := HLK.out _ hSw); obtain ⟨hcS, hfS⟩ := bcell hSw; clear hSw; go_simp; try with_reducible rfl)
    try simp only [Act.put, List.getElem_toArray, List.getElem_cons_succ, List.getElem_cons_zero, List.setIfInBounds_toArray, List.set_cons_zero, List.set_cons_succ]
    refine wpAnyH_take (i := 10) (v := ?v14_10) rfl (by kernel_rfl) (by kernel_rfl) (by kernel_rfl) (fun _ _ _ h => h) (Or.inl ⟨by rfl, ?y14_10⟩) (by assumption) ?r14_10
    case' y14_10 => (intro w hSw; (try dsimp only at hSw); (try have hlS := HLK.out _ hSw); obtain ⟨hcS, hfS⟩ := bcell hSw; clear hSw; go_simp; try with_reducible rfl)
    try simp only [Act.put, List.getElem_toArray, List.getElem_cons_succ, List.getElem_cons_zero, List.setIfInBounds_toArray, List.set_cons_zero, List.set_cons_succ]
    refine wpAnyH_done (by kernel_rfl) ?_ _
    clear HLK
    have m1 : ¬ w.heap.size = F.p := by omega
    have m2 : ¬ w.heap.size = F.kb := by omega
    go_upto_region 7 with (fail)
    have hrow0 : w0.ownsRow F.base 135 3 (.slice (some ⟨F.kb, 0, none⟩) F.ks.length F.cap) F.ks.length (flat F.ks.length 3 (knF F.ks)) := (H.out.below HB0.out).row
    have hbx0 : w0.heap[F.p]? = some (.cells #[.int .i64 F.N, .slice (some ⟨F.kb, 0, none⟩) F.ks.length F.cap, .map (some F.bk), .map (some F.bj)] 99 (0, 0)) := (H.out.below HB0.out).box
    have HROW := hide hrow0
    have HBX := hide hbx0
    have hkb0 := (H.out.below HB0.out).bb.2.2
    have HKB := hide hkb0
    clear hrow0 hbx0 hkb0
    refine wp_region_held_drew (S := (fun w' => Keeps (fun k => k = F.p ∨ k = F.kb) w0 w')) (by kernel_rfl) ?_ (fun hHeld => ?_)
    · try dsimp only
      (repeat (first | (with_reducible exact Keeps.refl _ _) | exact hKeep.out | exact hKeepS.out _ | assumption | (with_reducible refine Keeps.drew ?_) | (with_reducible refine Keeps.drewN ?_ _) | (with_reducible refine Keeps.alloc ?_ _) | (with_reducible refine Keeps.setCell ?_ (.inl (by first | exact .inl rfl | exact .inr rfl)) _)))
    refine wpAnyH_take (i := 0) (v := ?v12_1) rfl (by kernel_rfl) (by kernel_rfl) (by kernel_rfl) (fun _ _ _ h => h) (Or.inl ⟨by rfl, ?y12_1⟩) (by assumption) ?r12_1
    case' y12_1 => (intro w hSw; (try dsimp only at hSw); (try have hlS := HLK.out _ hSw); have hcS := kcell2 hSw; clear hSw; go_simp; try with_reducible rfl)
    try simp only [Act.put, List.getElem_toArray, List.getElem_cons_succ, List.getElem_cons_zero, List.setIfInBounds_toArray, List.set_cons_zero, List.set_cons_succ]
    refine wpAnyH_take (i := 1) (v := ?v12_2) rfl (by kernel_rfl) (by kernel_rfl) (by kernel_rfl) (fun _ _ _ h => h) (Or.inl ⟨by rfl, ?y12_2⟩) (by assumption) ?r12_2
    case' y12_2 => (intro w hSw; (try dsimp only at hSw); (try have hlS := HLK.out _ hSw); have hcS := kcell2 hSw; clear hSw; go_simp; try with_reducible rfl)
    try simp only [Act.put, List.getElem_toArray, List.getElem_cons_succ, List.getElem_cons_zero, List.setIfInBounds_toArray, List.set_cons_zero, List.set_cons_succ]
    refine wpAnyH_take (i := 2) (v := ?v12_3) rfl (by kernel_rfl) (by kernel_rfl) (by kernel_rfl) (fun _ _ _ h => h) (Or.inl ⟨by rfl, ?y12_3⟩) (by assumption) ?r12_3
    case' y12_3 => (intro w hSw; (try dsimp only at hSw); (try have hlS := HLK.out _ hSw); have hcS := kcell2 hSw; clear hSw; go_simp; try with_reducible rfl)
    try simp only [Act.put, List.getElem_toArray, List.getElem_cons_succ, List.getElem_cons_zero, List.setIfInBounds_toArray, List.set_cons_zero, List.set_cons_succ]
    refine wpAnyH_take (i := 3) (v := ?v12_4) rfl (by kernel_rfl) (by kernel_rfl) (by kernel_rfl) (fun _ _ _ h => h) (Or.inl ⟨by rfl, ?y12_4⟩) (by assumption) ?r12_4
    case' y12_4 => (intro w hSw; (try dsimp only at hSw); (try have hlS := HLK.out _ hSw); have hcS := kcell2 hSw; clear hSw; go_simp; try with_reducible rfl)
    try simp only [Act.put, List.getElem_toArray, List.getElem_cons_succ, List.getElem_cons_zero, List.setIfInBounds_toArray, List.set_cons_zero, List.set_cons_succ]
    refine wpAnyH_take (i := 5) (v := ?v12_5) rfl (by kernel_rfl) (by kernel_rfl) (by kernel_rfl) (fun _ _ _ h => h) (Or.inl ⟨by rfl, ?y12_5⟩) (by assumption) ?r12_5
    case' y12_5 => (intro w hSw; (try dsimp only at hSw); (try have hlS := HLK.out _ hSw); have hcS := kcell2 hSw; clear hSw; go_simp; try with_reducible rfl)
    try simp only [Act.put, List.getElem_toArray, List.getElem_cons_succ, List.getElem_cons_zero, List.setIfInBounds_toArray, List.set_cons_zero, List.set_cons_succ]
    refine wpAnyH_ready (rs := [4, 6]) (by kernel_rfl) (by simp) ?_
    refine (AllReadyH.cons rfl (fun K hK => ?o12_6_4) (AllReadyH.cons rfl (fun K hK => ?o12_6_6) AllReadyH.nil))
    case' o12_6_4 =>
      go_simp
      refine hK.out _ _ ?_ (fun hNext => ?_)
      · try dsimp only
        (repeat (first | (with_reducible exact Keeps.refl _ _) | exact hKeep.out | exact hKeepS.out _ | assumption | (with_reducible refine Keeps.drew ?_) | (with_reducible refine Keeps.drewN ?_ _) | (with_reducible refine Keeps.alloc ?_ _) | (with_reducible refine Keeps.setCell ?_ (.inl (by first | exact .inl rfl | exact .inr rfl)) _)))
      clear hK K hHeld
      have hHeld := hNext
      clear hNext
      (try dsimp only at hHeld)
      try simp only [Act.put, List.getElem_toArray, List.getElem_cons_succ, List.getElem_cons_zero, List.setIfInBounds_toArray, List.set_cons_zero, List.set_cons_succ]
      refine wpAnyH_ready (rs := [6]) (by kernel_rfl) (by simp) ?_
      refine (AllReadyH.cons rfl (fun K hK => ?_) AllReadyH.nil)
      go_simp
      refine hK.out _ _ ?_ (fun hNext => ?_)
      · try dsimp only
        (repeat (first | (with_reducible exact Keeps.refl _ _) | exact hKeep.out | exact hKeepS.out _ | assumption | (with_reducible refine Keeps.drew ?_) | (with_reducible refine Keeps.drewN ?_ _) | (with_reducible refine Keeps.alloc ?_ _) | (with_reducible refine Keeps.setCell ?_ (.inl (by first | exact .inl rfl | exact .inr rfl)) _)))
      clear hK K hHeld
      have hHeld := hNext
      clear hNext
      (try dsimp only at hHeld)
      try simp only [Act.put, List.getElem_toArray, List.getElem_cons_succ, List.getElem_cons_zero, List.setIfInBounds_toArray, List.set_cons_zero, List.set_cons_succ]
      refine wpAnyH_ready (rs := [7]) (by kernel_rfl) (by simp) ?_
      refine (AllReadyH.cons rfl (fun K hK => ?_) AllReadyH.nil)
      (refine step_append_any _ (by rfl) (.tmp 35) (.tmp 37) _ (by rfl) F.base 135 i0 _ 3 24 Try.underlying95 hi0 hz0 hz1 hz2 (by rfl) (by omega) (.slice (some ⟨F.kb, 0, none⟩) F.ks.length F.cap) F.ks.length (flat F.ks.length 3 (knF F.ks)) (by rfl) (World.ownsRow.alloc (w := w0.drew.drew) HROW.out _) (w0.heap.size + 1) (some ⟨w0.heap.size, 0, none⟩) 1 1 [.int .i64 o, .int .i64 low, .int .i64 high] (by rfl) ⟨rfl, fun _ => ⟨_, rfl, by simp, World.news_of_block (heap_alloc_new w0.drew.drew _)⟩⟩ (by simp [Value.oneCell']) (by unfold maxLen; omega) (by omega) (by have := HKB.out; have := HS0.out; simp; omega) ?_; intro v1 w1 hown1 hg1 hat1; obtain ⟨g, cap1, hv1, hgb, hgl⟩ := hown1.form (by omega); subst hv1; have hKeep : Hid (Keeps (fun k => k = F.p ∨ k = F.kb) w0 w1) := Keeps.trans (((Keeps.refl _ w0).drew.drew).alloc _) (Keeps.of_grown hg1 (fun k hk => .inr (by injection hk with hk; exact hk.symm))) (fun _ _ h => h); have hbx1 := ((hg1.block F.p (by simp; omega) (fun e => by injection e with e; exact hne2 e.symm)).trans (Below.heap_alloc _ _ _ (by simpa using l4))).trans HBX.out; have j0 := cellOf hbx1 1; have j1 := unfrozenOf hbx1 1; have HBX1 := hide hbx1; have HOWN1 := hide hown1; have HAT1 := hide hat1; have HG1 := hide hg1; have HGB := hide hgb; clear hbx1 hown1 hat1 hg1 hgb)
      (try dsimp only)
      refine hK.out _ _ ?_ (fun hNext => ?_)
      · try dsimp only
        (repeat (first | (with_reducible exact Keeps.refl _ _) | exact hKeep.out | exact hKeepS.out _ | assumption | (with_reducible refine Keeps.drew ?_) | (with_reducible refine Keeps.drewN ?_ _) | (with_reducible refine Keeps.alloc ?_ _) | (with_reducible refine Keeps.setCell ?_ (.inl (by first | exact .inl rfl | exact .inr rfl)) _)))
      clear hK K hHeld
      have hHeld := hNext
      clear hNext
      (try dsimp only at hHeld)
      try simp only [Act.put, List.getElem_toArray, List.getElem_cons_succ, List.getElem_cons_zero, List.setIfInBounds_toArray, List.set_cons_zero, List.set_cons_succ]
      refine wpAnyH_take (i := 8) (v := ?v12_9) rfl (by kernel_rfl) (by kernel_rfl) (by kernel_rfl) (fun _ _ _ h => h) (Or.inl ⟨by rfl, ?y12_9⟩) (by assumption) ?r12_9
      case' y12_9 => (intro w hSw; (try dsimp only at hSw); (try have hlS := HLK.out _ hSw); have hcS := kcell2 hSw; clear hSw; go_simp; try with_reducible rfl)
      try simp only [Act.put, List.getElem_toArray, List.getElem_cons_succ, List.getElem_cons_zero, List.setIfInBounds_toArray, List.set_cons_zero, List.set_cons_succ]
      refine wpAnyH_take (i := 9) (v := ?v12_10) rfl (by kernel_rfl) (by kernel_rfl) (by kernel_rfl) (fun _ _ _ h => h) (Or.inl ⟨by rfl, ?y12_10⟩) (by assumption) ?r12_10
      case' y12_10 => (intro w hSw; (try dsimp only at hSw); (try have hlS := HLK.out _ hSw); have hcS := kcell2 hSw; clear hSw; go_simp; try with_reducible rfl)
      try simp only [Act.put, List.getElem_toArray, List.getElem_cons_succ, List.getElem_cons_zero, List.setIfInBounds_toArray, List.set_cons_zero, List.set_cons_succ]
      refine wpAnyH_ready (rs := [10]) (by kernel_rfl) (by simp) ?_
      refine (AllReadyH.cons rfl (fun K hK => ?_) AllReadyH.nil)
      go_simp
      refine hK.out _ _ ?_ (fun hNext => ?_)
      · try dsimp only
        (repeat (first | (with_reducible exact Keeps.refl _ _) | exact hKeep.out | exact hKeepS.out _ | assumption | (with_reducible refine Keeps.drew ?_) | (with_reducible refine Keeps.drewN ?_ _) | (with_reducible refine Keeps.alloc ?_ _) | (with_reducible refine Keeps.setCell ?_ (.inl (by first | exact .inl rfl | exact .inr rfl)) _)))
      clear hK K hHeld
      have hHeld := hNext
      clear hNext
      (try dsimp only at hHeld)
      try simp only [Act.put, List.getElem_toArray, List.getElem_cons_succ, List.getElem_cons_zero, List.setIfInBounds_toArray, List.set_cons_zero, List.set_cons_succ]
      refine wpAnyH_done (by kernel_rfl) ?_ _
    case' o12_6_6 =>
      go_simp
      refine hK.out _ _ ?_ (fun hNext => ?_)
      · try dsimp only
        (repeat (first | (with_reducible exact Keeps.refl _ _) | exact hKeep.out | exact hKeepS.out _ | assumption | (with_reducible refine Keeps.drew ?_) | (with_reducible refine Keeps.drewN ?_ _) | (with_reducible refine Keeps.alloc ?_ _) | (with_reducible refine Keeps.setCell ?_ (.inl (by first | exact .inl rfl | exact .inr rfl)) _)))
      clear hK K hHeld
      have hHeld := hNext
      clear hNext
      (try dsimp only at hHeld)
      try simp only [Act.put, List.getElem_toArray, List.getElem_cons_succ, List.getElem_cons_zero, List.setIfInBounds_toArray, List.set_cons_zero, List.set_cons_succ]
      refine wpAnyH_ready (rs := [4]) (by kernel_rfl) (by simp) ?_
      refine (AllReadyH.cons rfl (fun K hK => ?_) AllReadyH.nil)
      go_simp
      refine hK.out _ _ ?_ (fun hNext => ?_)
      · try dsimp only
        (repeat (first | (with_reducible exact Keeps.refl _ _) | exact hKeep.out | exact hKeepS.out _ | assumption | (with_reducible refine Keeps.drew ?_) | (with_reducible refine Keeps.drewN ?_ _) | (with_reducible refine Keeps.alloc ?_ _) | (with_reducible refine Keeps.setCell ?_ (.inl (by first | exact .inl rfl | exact .inr rfl)) _)))
      clear hK K hHeld
      have hHeld := hNext
      clear hNext
      (try dsimp only at hHeld)
      try simp only [Act.put, List.getElem_toArray, List.getElem_cons_succ, List.getElem_cons_zero, List.setIfInBounds_toArray, List.set_cons_zero, List.set_cons_succ]
      refine wpAnyH_ready (rs := [7]) (by kernel_rfl) (by simp) ?_
      refine (AllReadyH.cons rfl (fun K hK => ?_) AllReadyH.nil)
      (refine step_append_any _ (by rfl) (.tmp 35) (.tmp 37) _ (by rfl) F.base 135 i0 _ 3 24 Try.underlying95 hi0 hz0 hz1 hz2 (by rfl) (by omega) (.slice (some ⟨F.kb, 0, none⟩) F.ks.length F.cap) F.ks.length (flat F.ks.length 3 (knF F.ks)) (by rfl) (World.ownsRow.alloc (w := w0.drew.drew) HROW.out _) (w0.heap.size + 1) (some ⟨w0.heap.size, 0, none⟩) 1 1 [.int .i64 o, .int .i64 low, .int .i64 high] (by rfl) ⟨rfl, fun _ => ⟨_, rfl, by simp, World.news_of_block (heap_alloc_new w0.drew.drew _)⟩⟩ (by simp [Value.oneCell']) (by unfold maxLen; omega) (by omega) (by have := HKB.out; have := HS0.out; simp; omega) ?_; intro v1 w1 hown1 hg1 hat1; obtain ⟨g, cap1, hv1, hgb, hgl⟩ := hown1.form (by omega); subst hv1; have hKeep : Hid (Keeps (fun k => k = F.p ∨ k = F.kb) w0 w1) := Keeps.trans (((Keeps.refl _ w0).drew.drew).alloc _) (Keeps.of_grown hg1 (fun k hk => .inr (by injection hk with hk; exact hk.symm))) (fun _ _ h => h); have hbx1 := ((hg1.block F.p (by simp; omega) (fun e => by injection e with e; exact hne2 e.symm)).trans (Below.heap_alloc _ _ _ (by simpa using l4))).trans HBX.out; have j0 := cellOf hbx1 1; have j1 := unfrozenOf hbx1 1; have HBX1 := hide hbx1; have HOWN1 := hide hown1; have HAT1 := hide hat1; have HG1 := hide hg1; have HGB := hide hgb; clear hbx1 hown1 hat1 hg1 hgb)
      (try dsimp only)
      refine hK.out _ _ ?_ (fun hNext => ?_)
      · try dsimp only
        (repeat (first | (with_reducible exact Keeps.refl _ _) | exact hKeep.out | exact hKeepS.out _ | assumption | (with_reducible refine Keeps.drew ?_) | (with_reducible refine Keeps.drewN ?_ _) | (with_reducible refine Keeps.alloc ?_ _) | (with_reducible refine Keeps.setCell ?_ (.inl (by first | exact .inl rfl | exact .inr rfl)) _)))
      clear hK K hHeld
      have hHeld := hNext
      clear hNext
      (try dsimp only at hHeld)
      try simp only [Act.put, List.getElem_toArray, List.getElem_cons_succ, List.getElem_cons_zero, List.setIfInBounds_toArray, List.set_cons_zero, List.set_cons_succ]
      refine wpAnyH_take (i := 8) (v := ?v12_14) rfl (by kernel_rfl) (by kernel_rfl) (by kernel_rfl) (fun _ _ _ h => h) (Or.inl ⟨by rfl, ?y12_14⟩) (by assumption) ?r12_14
      case' y12_14 => (intro w hSw; (try dsimp only at hSw); (try have hlS := HLK.out _ hSw); have hcS := kcell2 hSw; clear hSw; go_simp; try with_reducible rfl)
      try simp only [Act.put, List.getElem_toArray, List.getElem_cons_succ, List.getElem_cons_zero, List.setIfInBounds_toArray, List.set_cons_zero, List.set_cons_succ]
      refine wpAnyH_take (i := 9) (v := ?v12_15) rfl (by kernel_rfl) (by kernel_rfl) (by kernel_rfl) (fun _ _ _ h => h) (Or.inl ⟨by rfl, ?y12_15⟩) (by assumption) ?r12_15
      case' y12_15 => (intro w hSw; (try dsimp only at hSw); (try have hlS := HLK.out _ hSw); have hcS := kcell2 hSw; clear hSw; go_simp; try with_reducible rfl)
      try simp only [Act.put, List.getElem_toArray, List.getElem_cons_succ, List.getElem_cons_zero, List.setIfInBounds_toArray, List.set_cons_zero, List.set_cons_succ]
      refine wpAnyH_ready (rs := [10]) (by kernel_rfl) (by simp) ?_
      refine (AllReadyH.cons rfl (fun K hK => ?_) AllReadyH.nil)
      go_simp
      refine hK.out _ _ ?_ (fun hNext => ?_)
      · try dsimp only
        (repeat (first | (with_reducible exact Keeps.refl _ _) | exact hKeep.out | exact hKeepS.out _ | assumption | (with_reducible refine Keeps.drew ?_) | (with_reducible refine Keeps.drewN ?_ _) | (with_reducible refine Keeps.alloc ?_ _) | (with_reducible refine Keeps.setCell ?_ (.inl (by first | exact .inl rfl | exact .inr rfl)) _)))
      clear hK K hHeld
      have hHeld := hNext
      clear hNext
      (try dsimp only at hHeld)
      try simp only [Act.put, List.getElem_toArray, List.getElem_cons_succ, List.getElem_cons_zero, List.setIfInBounds_toArray, List.set_cons_zero, List.set_cons_succ]
      refine wpAnyH_done (by kernel_rfl) ?_ _
    all_goals
      generalize hw2 : World.setCell _ _ _ = w2
      clear hHeld d1 j0 j1
      have hsz1 : w0.heap.size + 1 ≤ w1.heap.size := by have := HG1.out.size; simpa using this
      have hpl1 : F.p < w1.heap.size := box_lt HBX1.out
      have hbx2 : w2.heap[F.p]? = some (.cells #[.int .i64 F.N, .slice (some ⟨g, 0, none⟩) (F.ks.length + 1) cap1, .map (some F.bk), .map (some F.bj)] 99 (0, 0)) := by
        rw [← hw2]; exact setCellOf HBX1.out _
      have hoth2 : ∀ k, k ≠ F.p → w2.heap[k]? = w1.heap[k]? := fun k hk => by rw [← hw2]; exact Below.heap_setCell _ _ _ _ hk
      have hoth1 : ∀ k, k < w0.heap.size → k ≠ F.kb → w1.heap[k]? = w0.heap[k]? := fun k hk hne => (HG1.out.block k (by simp; omega) (fun e => by injection e with e; exact hne e)).trans (Below.heap_alloc _ _ _ (by simpa using hk))
      have hs2 : w2.heap.size = w1.heap.size := by rw [← hw2]; simp [World.setCell]
      have hk2 : Keeps (fun k => k = F.p ∨ k = F.kb) w w2 := by
        rw [← hw2]
        exact ((Keeps.of_below HB0.out).trans hKeep.out (fun _ _ h => h)).setCell (.inl (.inl rfl)) _
      have hat : g = F.kb ∨ g = w0.heap.size + 1 := by
        rcases HAT1.out with e | e
        · simp [Value.ownBlock] at e; exact .inl e
        · simp [Value.ownBlock] at e; exact .inr e
      have hgne : g ≠ F.p := by omega
      have hgw : g = F.kb ∨ w.heap.size ≤ g := by omega
      have hrow2 : w2.ownsRow F.base 135 3 (.slice (some ⟨g, 0, none⟩) (F.ks.length + 1) cap1) (F.ks.length + 1) (flat F.ks.length 3 (knF F.ks) ++ [.int .i64 o, .int .i64 low, .int .i64 high]) := by
        obtain ⟨q1, ⟨q2, q3⟩ | ⟨g', cp, cur, q3, q4, q5, q6⟩⟩ := HOWN1.out
        · cases q2
        · refine ⟨q1, .inr ⟨g', cp, cur, q3, q4, ?_, q6⟩⟩
          injection q3 with q3 _ _
          injection q3 with q3
          injection q3 with q3 _ _
          subst q3
          exact (hoth2 _ hgne).trans q5
      have hbk2 : w2.heap[F.bk]? = w.heap[F.bk]? := hk2.block _ l1 (by rintro (e | e); exact n1 e.symm; exact n3 e.symm)
      have hbj2 : w2.heap[F.bj]? = w.heap[F.bj]? := hk2.block _ l2 (by rintro (e | e); exact n2 e.symm; exact n4 e.symm)
      have hkn2 := H.out.known.same hbk2
      have hbt2 : w2.heap[w.heap.size]? = some (.cells #[.int .i64 o, .int .i64 low, .int .i64 high] 135 (0, 0)) := (hoth2 _ (by omega)).trans ((hoth1 _ (by omega) (by omega)).trans HH0.out)
      have d1 := cellOf hbx2 1
      have d2 := cellOf hbx2 2
      have e0 := cellOf hbt2 0
      have e1 := cellOf hbt2 1
      have e2 := cellOf hbt2 2
      have HBX2 := hide hbx2
      have HK2 := hide hk2
      have HROW2 := hide hrow2
      have HKN2 := hide hkn2
      have HBJ2 := hide hbj2
      have HGW := hide hgw
      have hnk := H.out.nkk
      clear hw2 hbx2 hoth2 hoth1 hs2 hk2 hrow2 hbk2 hbj2 hkn2 hbt2 hgne hgw hsz1 hpl1 hat
      have hwr : IntKind.i64.wrap (F.ks.length : Int) = F.ks.length := IntWalk.i64_in _ (by omega)
      have hle1 : (0 : Int) ≤ (F.ks.length : Int) := by omega
      go_wp2_with fail
      go_still_tail 11, (by kernel_rfl)
      change wpList _ _ _ _ _ w2.drew
      refine (wpList_put _ rfl _ _ _ 96 rfl (show MapIs _ w2.drew _ _ _ _ _ _ from HKN2.out) knLaw Try.underlying96 Try.underlying3 knV_inj (by unfold maxLen; omega) ⟨o, low, high⟩ ⟨_, HK.out⟩ _ ?hwf rfl rfl rfl ?_)
      case hwf => exact wf63 (by unfold I63; omega)
      intro w4 hkn4 hg4
      have hgb4 : ∀ k, k < w2.heap.size → k ≠ F.bk → w4.heap[k]? = w2.heap[k]? := fun k hk hne => hg4.block k hk (fun e => by injection e with e; exact hne e)
      have hbx4 := (hgb4 F.p (box_lt HBX2.out) n1).trans HBX2.out
      have j1 := cellOf hbx4 1
      have HBX4 := hide hbx4
      have HKN4 := hide hkn4
      have HG4 := hide hg4
      have HGB4 := hide hgb4
      clear hbx4 hkn4 hg4 hgb4 d1 d2 e0 e1 e2
      go_wp2_with fail
      go_ret
      have hk4 : Keeps (SF F) w w4 := by
        have h1 : Keeps (SF F) w w2 := HK2.out.mono (fun i hi h => h.elim (fun e => .inl e) (fun e => .inr (.inr (.inr e))))
        have h2 : Keeps (fun k => k = F.bk) w2 w4 := ⟨HG4.out.os, HG4.out.tape, HG4.out.output, HG4.out.size, fun k hk hne => HGB4.out k hk hne⟩
        exact h1.trans h2 (fun i hi e => .inr (.inl e))
      have hsz2 : w.heap.size ≤ w2.heap.size := HK2.out.size
      have hrow4 : w4.ownsRow F.base 135 3 (.slice (some ⟨g, 0, none⟩) (F.ks.length + 1) cap1) (F.ks.length + 1) (flat F.ks.length 3 (knF F.ks) ++ [.int .i64 o, .int .i64 low, .int .i64 high]) := by
        refine World.ownsRow.kept (w := w2.drew) HROW2.out HG4.out (.inr (fun e => ?_))
        replace e : g = F.bk := by simpa [Value.ownBlock] using e
        rcases HGW.out with e1 | e1
        · exact n3 (e1.symm.trans e)
        · omega
      obtain ⟨F', hst, e1, e2, e3⟩ := H.out.grow HWF.out HGW.out HBX4.out hrow4 HKN4.out ((HGB4.out F.bj (by omega) H.out.ne1.symm).trans HBJ2.out) HNEW.out hk4 hsz
      have hget : (F.ks ++ [(⟨o, low, high⟩ : Kn)]).getD F.ks.length Kn.z = ⟨o, low, high⟩ := by simp [List.getD_eq_getElem?_getD]
      refine ⟨F.ks.length, F', rfl, hst, by rw [e1]; simp, by rw [e1]; simp, e2, e3, fun v => ?_, ?_⟩
      · rw [e1, ev_step HWF.out v H.out.wf.two (by simp)]
        unfold topK lowK highK
        rw [hget, ev_old H.out.wf _ v hl, ev_old H.out.wf _ v hh]
      · rw [e1]; unfold topK; rw [hget]; exact Nat.le_refl _
end Go.Proofs.Ytohofcmikfkilaa
/- Two nodes joined: walk. -/
namespace Go.Proofs.Ytohofcmikfkilaa
open Go.RowKit
open Go.Maps (Keyed)
set_option linter.unusedVariables false
set_option linter.unusedSimpArgs false
theorem FoAt.putJ {w w' : World} {F : Fo} (h : FoAt w F) {o : Int} {a b n : Nat} (hm : MapIs Try.prog w' 149 3 F.bj (F.nj + 1) paV (putM F.J (o, a, b) n)) (hg : w.grownBy w' (some F.bj)) (hsz : F.nj + 1 ≤ 1073741824)
    (hn : n < F.ks.length) (ha : a < F.ks.length) (hb : b < F.ks.length) (hev : ∀ v, ev F.ks v n = opB o (ev F.ks v a) (ev F.ks v b)) (ht : min (topK F.ks a) (topK F.ks b) ≤ topK F.ks n) :
    FStep w F w' { F with J := putM F.J (o, a, b) n, nj := F.nj + 1 } := by
  obtain ⟨n1, n2, n3, n4⟩ := h.nes
  have hlts := h.lts
  have hsame : ∀ k, SF F k → k ≠ F.bj → w'.heap[k]? = w.heap[k]? := fun k hk hne => hg.block k (h.slt hk) (fun e => hne (by injection e))
  refine ⟨⟨?_, ?_, ?_, hm, h.wf, h.k1, h.k2, ?_, h.nkk, h.pb, h.bb, h.ne1, h.ne2, ?_⟩, rfl, rfl, rfl, rfl, rfl, ⟨[], by simp⟩, .inl rfl, ?_⟩
  · exact (hsame _ (.inl rfl) n2).trans h.box
  · obtain ⟨q1, ⟨q2, q3⟩ | ⟨g', cp, cur, q3, q4, q5, q6⟩⟩ := h.row
    · cases q2
    · refine ⟨q1, .inr ⟨g', cp, cur, q3, q4, ?_, q6⟩⟩
      injection q3 with q3 _ _
      injection q3 with q3
      injection q3 with q3 _ _
      subst q3
      exact (hsame _ (.inr (.inr (.inr rfl))) n4).trans q5
  · exact h.known.same (hsame _ (.inr (.inl rfl)) h.ne1)
  · intro o' a' b' x hx
    replace hx : putM F.J (o, a, b) n (o', a', b') = some x := hx
    unfold putM at hx
    split at hx
    · rename_i e
      injection hx with hx
      injection e with e1 e2
      injection e2 with e2 e3
      subst e1 e2 e3
      exact ⟨n, hx.symm, hn, ha, hb, hev, ht⟩
    · exact h.j1 o' a' b' x hx
  · have := h.small
    exact ⟨this.1, hsz, this.2.2⟩
  · exact ⟨hg.os, hg.tape, hg.output, hg.size, fun k hk hne => hg.block k hk (fun e => hne (.inr (.inr (.inl (by injection e)))))⟩

theorem brK_old {ks e : List Kn} {n o : Nat} {b : Bool} (hn : n < ks.length) : brK (ks ++ e) n o b = brK ks n o b := by
  unfold brK; rw [topK_old e hn, lowK_old e hn, highK_old e hn]
theorem branch_st {F0 F : Fo} {wa w : World} (st : FStep wa F0 w F) (n o : Nat) (b : Bool) (hn : n < F0.ks.length) :
    Calls Try.prog 97 #[.pointer (some ⟨F0.p, 0, none⟩), .int .i64 n, .int .i64 o, .bool b] w fun e w' => e = .returned (.int .i64 (brK F0.ks n o b : Nat)) ∧ Below w.heap.size w w' := by
  have h := branch_any F n o b w st.here (Nat.lt_of_lt_of_le hn st.le)
  rw [st.p] at h
  obtain ⟨e, he⟩ := st.ks
  rw [he, brK_old hn] at h
  exact h
/-- What join gives back. -/
structure JoinR (d : Nat) (w : World) (F : Fo) (o : Int) (a b n : Nat) (w' : World) (F' : Fo) : Prop where
  st : FStep w F w' F'
  lt : n < F'.ks.length
  len : F'.ks.length + 1 ≤ F.ks.length + 2 ^ d
  nj : F'.nj + 1 ≤ F.nj + 2 ^ d
  ev : ∀ v, ev F'.ks v n = opB o (ev F.ks v a) (ev F.ks v b)
  top : min (topK F.ks a) (topK F.ks b) ≤ topK F'.ks n
theorem pow_pos2 (d : Nat) : 1 ≤ 2 ^ d := Nat.one_le_two_pow
set_option maxRecDepth 100000 in
theorem joinEnd_any (F : Fo) (o : Int) (ho : o = -4 ∨ o = -5 ∨ o = -6) (a b : Nat) (w : World) (h : FoAt w F) (ha : a < 2) (hb : b < 2) (d : Nat) :
    Calls Try.prog 94 #[.pointer (some ⟨F.p, 0, none⟩), .int .i64 o, .int .i64 a, .int .i64 b] w fun e w' => ∃ n F', e = .returned (.int .i64 (n : Nat)) ∧ JoinR d w F o a b n w' F' := by
  have h2 := h.wf.two
  have ht : ∀ i, i < 2 → topK F.ks i = F.N := fun i hi => by
    rcases (by omega : i = 0 ∨ i = 1) with rfl | rfl
    · exact h.wf.top0
    · exact h.wf.top1
  have hd := pow_pos2 d
  have fin : ∀ n, n < 2 → (∀ v, ev F.ks v n = opB o (ev F.ks v a) (ev F.ks v b)) → JoinR d w F o a b n w F := fun n hn he =>
    ⟨FStep.refl h, by omega, by omega, by omega, he, by rw [ht a ha, ht b hb, ht n hn]; omega⟩
  have FIN := hide fin
  clear fin ht h h2 hd
  rcases (by omega : a = 0 ∨ a = 1) with rfl | rfl <;> rcases (by omega : b = 0 ∨ b = 1) with rfl | rfl <;> rcases ho with rfl | rfl | rfl
  all_goals
    go_enter Try.func94, Try.ntmps94
    go_wp2_with fail
    go_ret
    first
      | exact ⟨0, F, rfl, FIN.out 0 (by omega) fun v => rfl⟩
      | exact ⟨1, F, rfl, FIN.out 1 (by omega) fun v => rfl⟩

set_option maxRecDepth 100000 in
set_option maxHeartbeats 4000000 in
theorem join_any : ∀ (d : Nat) (F : Fo) (o : Int) (a b : Nat) (w : World), (o = -4 ∨ o = -5 ∨ o = -6) → FoAt w F → a < F.ks.length → b < F.ks.length → F.N - min (topK F.ks a) (topK F.ks b) ≤ d → F.ks.length + 2 ^ d ≤ 1073741824 → F.nj + 2 ^ d ≤ 1073741824 →
    Calls Try.prog 94 #[.pointer (some ⟨F.p, 0, none⟩), .int .i64 o, .int .i64 a, .int .i64 b] w fun e w' => ∃ n F', e = .returned (.int .i64 (n : Nat)) ∧ JoinR d w F o a b n w' F' := by
  intro d
  induction d with
  | zero =>
    intro F o a b w ho h ha hb hd _ _
    have hlt : ∀ i, i < F.ks.length → F.N ≤ topK F.ks i → i < 2 := fun i hi ht => by
      rcases Nat.lt_or_ge i 2 with h2 | h2
      · exact h2
      · have := h.wf.opt i h2 hi; omega
    exact joinEnd_any F o ho a b w h (hlt a ha (by omega)) (hlt b hb (by omega)) 0
  | succ d ih =>
    intro F o a b w ho h ha hb hd hk hj
    by_cases hab : a < 2 ∧ b < 2
    · exact joinEnd_any F o ho a b w h hab.1 hab.2 _
    obtain ⟨lo, hi, hlo, hhi, hsw⟩ : ∃ lo hi : Nat, lo < F.ks.length ∧ hi < F.ks.length ∧ ((a ≤ b ∧ lo = a ∧ hi = b) ∨ (b < a ∧ lo = b ∧ hi = a)) := by
      rcases Nat.lt_or_ge b a with h1 | h1
      · exact ⟨b, a, hb, ha, .inr ⟨h1, rfl, rfl⟩⟩
      · exact ⟨a, b, ha, hb, .inl ⟨h1, rfl, rfl⟩⟩
    have hevs : ∀ v, opB o (ev F.ks v lo) (ev F.ks v hi) = opB o (ev F.ks v a) (ev F.ks v b) := fun v => by
      rcases hsw with ⟨_, rfl, rfl⟩ | ⟨_, rfl, rfl⟩
      · rfl
      · exact opB_comm _ _ _
    have htop : min (topK F.ks a) (topK F.ks b) = min (topK F.ks lo) (topK F.ks hi) := by
      rcases hsw with ⟨_, rfl, rfl⟩ | ⟨_, rfl, rfl⟩
      · rfl
      · exact Nat.min_comm _ _
    have hhi2 : 2 ≤ hi := by omega
    have hthi : topK F.ks hi < F.N := h.wf.opt hi hhi2 hhi
    have htle : topK F.ks lo ≤ F.N := h.wf.top_le lo hlo
    have hsm := h.small
    rw [htop] at hd
    have HFIN : Hid (∀ n w' F', JoinR (d + 1) w F o lo hi n w' F' → JoinR (d + 1) w F o a b n w' F') := fun n w' F' r => ⟨r.st, r.lt, r.len, r.nj, fun v => (r.ev v).trans (hevs v), by rw [htop]; exact r.top⟩
    have HSW := hide hsw
    have H := hide h
    have HO := hide ho
    have ho63 : I63 o := by unfold I63; omega
    obtain ⟨kl, hkl⟩ := paKey (o := o) (a := lo) (b := hi) ho63 (by unfold I63; omega) (by unfold I63; omega)
    have HKEY := hide hkl
    have HIS : Hid (∀ (F1 : Fo) (w1 : World) (x y : Nat), FStep w F w1 F1 → x < F.ks.length → y < F.ks.length → F.N - min (topK F.ks x) (topK F.ks y) ≤ d → F1.ks.length + 2 ^ d ≤ 1073741824 → F1.nj + 2 ^ d ≤ 1073741824 →
        Calls Try.prog 94 #[.pointer (some ⟨F.p, 0, none⟩), .int .i64 o, .int .i64 x, .int .i64 y] w1 fun e w' => ∃ n F', e = .returned (.int .i64 (n : Nat)) ∧ JoinR d w1 F1 o x y n w' F') := by
      intro F1 w1 x y st hx hy hd' hk' hj'
      have hle := st.le
      have h1 := ih F1 o x y w1 ho st.here (by omega) (by omega) (by rw [st.N, st.top hx, st.top hy]; exact hd') hk' hj'
      rw [st.p] at h1
      exact h1
    obtain ⟨l0, l1, l2, l3⟩ := h.lts
    clear hevs htop hsw h ho hkl ih ho63
    go_enter Try.func94, Try.ntmps94
    go_upto_region 1 with (fail)
    go_cut [24] from 19 to 23 (fun c wx => c = .bool false ∧ w = wx)
    case first =>
      by_cases ha2 : a < 2
      · have hb2 : ¬ (b : Int) < 2 := by omega
        have ha3 : (a : Int) < 2 := by omega
        clear hab
        go_wp2_with fail
        go_meet
        exact ⟨rfl, rfl⟩
      · have ha3 : ¬ (a : Int) < 2 := by omega
        clear hab
        go_wp2_with fail
        go_meet
        exact ⟨rfl, rfl⟩
    case rest =>
    obtain ⟨rfl, rfl⟩ := hcut
    clear hab
    go_upto_if 48 with (fail)
    go_cut [2, 3] from 46 to 50 (fun x y wy => x = .int .i64 lo ∧ y = .int .i64 hi ∧ w = wy)
    case first =>
      rcases HSW.out with ⟨h1, e1, e2⟩ | ⟨h1, e1, e2⟩
      · have h1' : ¬ (b : Int) < (a : Int) := by omega
        go_wp2_with fail
        go_meet
        exact ⟨by rw [e1], by rw [e2], rfl⟩
      · have h1' : (b : Int) < (a : Int) := by omega
        go_wp2_with fail
        go_meet
        exact ⟨by rw [e1], by rw [e2], rfl⟩
    case rest =>
    obtain ⟨rfl, rfl, rfl⟩ := hcut
    cases hx : F.J (o, lo, hi) with
    | some x =>
      obtain ⟨i, rfl, il, _, _, iev, itop⟩ := H.out.j1 _ _ _ _ hx
      have HLK0 : Hid (∀ w', Below w.heap.size w w' → (Instr.lookup 97 (.map (some F.bj)) (.agg #[.int .i64 o, .int .i64 lo, .int .i64 hi]) true).run Try.prog w' = .ok (.tuple #[.int .i64 i, .bool true]) w') := fun w' hb => by
        have := (H.out.below hb).joined.look paLaw Try.underlying97 Try.underlying3 (zInt w') HKEY.out
        rw [hx] at this
        exact this
      have HEV := hide iev
      have HTOP := hide itop
      clear hx iev itop
      go_upto_region 15 with (fail)
      generalize hw0 : World.alloc _ _ = w0
      obtain ⟨hb0, hB0, hs0⟩ := alloc1 hw0
      clear hw0
      have d2 : w0.cell? ⟨F.p, 3, none⟩ = some (.map (some F.bj)) := (H.out.below hB0).cellJ
      have e0 := cellOf hb0 0
      have e1 := cellOf hb0 1
      have e2 := cellOf hb0 2
      have HLK : Hid (∀ w', Below w0.heap.size w0 w' → (Instr.lookup 97 (.map (some F.bj)) (.agg #[.int .i64 o, .int .i64 lo, .int .i64 hi]) true).run Try.prog w' = .ok (.tuple #[.int .i64 i, .bool true]) w') := fun w' hb => HLK0.out w' (Below.to hB0 hb (Nat.le_refl _))
      have l4 : F.p < w0.heap.size := by omega
      have l5 : w.heap.size < w0.heap.size := by omega
      have HB0 := hide hB0
      clear hB0 hs0 HLK0 hb0
      refine wp_region_held_drew (S := (fun w' => Below w0.heap.size w0 w')) (by kernel_rfl) ?_ (fun hHeld => ?_)
      · try dsimp only
        exact (by repeat (first | exact Below.refl _ _ | assumption | refine Below.drew ?_ | refine Below.drewN ?_ _ | refine Below.allocT ?_ (Nat.le_refl _) _ | refine Below.setCell ?_ (by simp <;> omega) _ | refine Below.to ?_ (by assumption) (Nat.le_refl _)))
      refine wpAnyH_take (i := 0) (v := ?v16_0) rfl (by kernel_rfl) (by kernel_rfl) (by kernel_rfl) (fun _ _ _ h => h) (Or.inl ⟨by rfl, ?y16_0⟩) (by assumption) ?r16_0
      case' y16_0 => (intro w hSw; (try dsimp only at hSw); (try have hlS := HLK.out _ hSw); obtain ⟨hcS, hfS⟩ := bcell hSw; clear hSw; go_simp; try with_reducible rfl)
      try simp only [Act.put, List.getElem_toArray, List.getElem_cons_succ, List.getElem_cons_zero, List.setIfInBounds_toArray, List.set_cons_zero, List.set_cons_succ]
      refine wpAnyH_take (i := 1) (v := ?v16_1) rfl (by kernel_rfl) (by kernel_rfl) (by kernel_rfl) (fun _ _ _ h => h) (Or.inl ⟨by rfl, ?y16_1⟩) (by assumption) ?r16_1
      case' y16_1 => (intro w hSw; (try dsimp only at hSw); (try have hlS := HLK.out _ hSw); obtain ⟨hcS, hfS⟩ := bcell hSw; clear hSw; go_simp; try with_reducible rfl)
      try simp only [Act.put, List.getElem_toArray, List.getElem_cons_succ, List.getElem_cons_zero, List.setIfInBounds_toArray, List.set_cons_zero, List.set_cons_succ]
      refine wpAnyH_take (i := 2) (v := ?v16_2) rfl (by kernel_rfl) (by kernel_rfl) (by kernel_rfl) (fun _ _ _ h => h) (Or.inl ⟨by rfl, ?y16_2⟩) (by assumption) ?r16_2
      case' y16_2 => (intro w hSw; (try dsimp only at hSw); (try have hlS := HLK.out _ hSw); obtain ⟨hcS, hfS⟩ := bcell hSw; clear hSw; go_simp; try with_reducible rfl)
      try simp only [Act.put, List.getElem_toArray, List.getElem_cons_succ, List.getElem_cons_zero, List.setIfInBounds_toArray, List.set_cons_zero, List.set_cons_succ]
      refine wpAnyH_take (i := 3) (v := ?v16_3) rfl (by kernel_rfl) (by kernel_rfl) (by kernel_rfl) (fun _ _ _ h => h) (Or.inl ⟨by rfl, ?y16_3⟩) (by assumption) ?r16_3
      case' y16_3 => (intro w hSw; (try dsimp only at hSw); (try have hlS := HLK.out _ hSw); obtain ⟨hcS, hfS⟩ := bcell hSw; clear hSw; go_simp; try with_reducible rfl)
      try simp only [Act.put, List.getElem_toArray, List.getElem_cons_succ, List.getElem_cons_zero, List.setIfInBounds_toArray, List.set_cons_zero, List.set_cons_succ]
      refine wpAnyH_take (i := 4) (v := ?v16_4) rfl (by kernel_rfl) (by kernel_rfl) (by kernel_rfl) (fun _ _ _ h => h) (Or.inl ⟨by rfl, ?y16_4⟩) (by assumption) ?r16_4
      case' y16_4 => (intro w hSw; (try dsimp only at hSw); (try have hlS := HLK.out _ hSw); obtain ⟨hcS, hfS⟩ := bcell hSw; clear hSw; go_simp; try with_reducible rfl)
      try simp only [Act.put, List.getElem_toArray, List.getElem_cons_succ, List.getElem_cons_zero, List.setIfInBounds_toArray, List.set_cons_zero, List.set_cons_succ]
      refine wpAnyH_take (i := 5) (v := ?v16_5) rfl (by kernel_rfl) (by kernel_rfl) (by kernel_rfl) (fun _ _ _ h => h) (Or.inl ⟨by rfl, ?y16_5⟩) (by assumption) ?r16_5
      case' y16_5 => (intro w hSw; (try dsimp only at hSw); (try have hlS := HLK.out _ hSw); obtain ⟨hcS, hfS⟩ := bcell hSw; clear hSw; go_simp; try with_reducible rfl)
      try simp only [Act.put, List.getElem_toArray, List.getElem_cons_succ, List.getElem_cons_zero, List.setIfInBounds_toArray, List.set_cons_zero, List.set_cons_succ]
      refine wpAnyH_take (i := 6) (v := ?v16_6) rfl (by kernel_rfl) (by kernel_rfl) (by kernel_rfl) (fun _ _ _ h => h) (Or.inl ⟨by rfl, ?y16_6⟩) (by assumption) ?r16_6
      case' y16_6 => (intro w hSw; (try dsimp only at hSw); (try have hlS := HLK.out _ hSw); obtain ⟨hcS, hfS⟩ := bcell hSw; clear hSw; go_simp; try with_reducible rfl)
      try simp only [Act.put, List.getElem_toArray, List.getElem_cons_succ, List.getElem_cons_zero, List.setIfInBounds_toArray, List.set_cons_zero, List.set_cons_succ]
      refine wpAnyH_take (i := 7) (v := ?v16_7) rfl (by kernel_rfl) (by kernel_rfl) (by kernel_rfl) (fun _ _ _ h => h) (Or.inl ⟨by rfl, ?y16_7⟩) (by assumption) ?r16_7
      case' y16_7 => (intro w hSw; (try dsimp only at hSw); (try have hlS := HLK.out _ hSw); obtain ⟨hcS, hfS⟩ := bcell hSw; clear hSw; go_simp; try with_reducible rfl)
      try simp only [Act.put, List.getElem_toArray, List.getElem_cons_succ, List.getElem_cons_zero, List.setIfInBounds_toArray, List.set_cons_zero, List.set_cons_succ]
      refine wpAnyH_take (i := 8) (v := ?v16_8) rfl (by kernel_rfl) (by kernel_rfl) (by kernel_rfl) (fun _ _ _ h => h) (Or.inl ⟨by rfl, ?y16_8⟩) (by assumption) ?r16_8
      case' y16_8 => (intro w hSw; (try dsimp only at hSw); (try have hlS := HLK.out _ hSw); obtain ⟨hcS, hfS⟩ := bcell hSw; clear hSw; go_simp; try with_reducible rfl)
      try simp only [Act.put, List.getElem_toArray, List.getElem_cons_succ, List.getElem_cons_zero, List.setIfInBounds_toArray, List.set_cons_zero, List.set_cons_succ]
      refine wpAnyH_take (i := 9) (v := ?v16_9) rfl (by kernel_rfl) (by kernel_rfl) (by kernel_rfl) (fun _ _ _ h => h) (Or.inl ⟨by rfl, ?y16_9⟩) (by assumption) ?r16_9
      case' y16_9 => (intro w hSw; (try dsimp only at hSw); (try have hlS := HLK.out _ hSw); obtain ⟨hcS, hfS⟩ := bcell hSw; clear hSw; go_simp; try with_reducible rfl)
      try simp only [Act.put, List.getElem_toArray, List.getElem_cons_succ, List.getElem_cons_zero, List.setIfInBounds_toArray, List.set_cons_zero, List.set_cons_succ]
      refine wpAnyH_take (i := 10) (v := ?v16_10) rfl (by kernel_rfl) (by kernel_rfl) (by kernel_rfl) (fun _ _ _ h => h) (Or.inl ⟨by rfl, ?y16_10⟩) (by assumption) ?r16_10
      case' y16_10 => (intro w hSw; (try dsimp only at hSw); (try have hlS := HLK.out _ hSw); obtain ⟨hcS, hfS⟩ := bcell hSw; clear hSw; go_simp; try with_reducible rfl)
      try simp only [Act.put, List.getElem_toArray, List.getElem_cons_succ, List.getElem_cons_zero, List.setIfInBounds_toArray, List.set_cons_zero, List.set_cons_succ]
      refine wpAnyH_done (by kernel_rfl) ?_ _
      go_wp2_with fail
      go_ret
      have hp2 := pow_pos2 (d + 1)
      exact ⟨i, F, rfl, HFIN.out _ _ _ ⟨FStep.of_below H.out (Below.to HB0.out (by repeat (first | exact Below.refl _ _ | assumption | refine Below.drew ?_ | refine Below.drewN ?_ _ | refine Below.allocT ?_ (Nat.le_refl _) _ | refine Below.setCell ?_ (by simp <;> omega) _ | refine Below.to ?_ (by assumption) (Nat.le_refl _))) (Nat.le_refl _)), il, by omega, by omega, HEV.out, HTOP.out⟩⟩
    | none =>
      have HLK0 : Hid (∀ w', Below w.heap.size w w' → (Instr.lookup 97 (.map (some F.bj)) (.agg #[.int .i64 o, .int .i64 lo, .int .i64 hi]) true).run Try.prog w' = .ok (.tuple #[.int .i64 0, .bool false]) w') := fun w' hb => by
        have := (H.out.below hb).joined.look paLaw Try.underlying97 Try.underlying3 (zInt w') HKEY.out
        rw [hx] at this
        exact this
      clear hx
      go_upto_region 15 with (fail)
      generalize hw0 : World.alloc _ _ = w0
      obtain ⟨hb0, hB0, hs0⟩ := alloc1 hw0
      clear hw0
      have d2 : w0.cell? ⟨F.p, 3, none⟩ = some (.map (some F.bj)) := (H.out.below hB0).cellJ
      have e0 := cellOf hb0 0
      have e1 := cellOf hb0 1
      have e2 := cellOf hb0 2
      have HLK : Hid (∀ w', Below w0.heap.size w0 w' → (Instr.lookup 97 (.map (some F.bj)) (.agg #[.int .i64 o, .int .i64 lo, .int .i64 hi]) true).run Try.prog w' = .ok (.tuple #[.int .i64 0, .bool false]) w') := fun w' hb => HLK0.out w' (Below.to hB0 hb (Nat.le_refl _))
      have l4 : F.p < w0.heap.size := by omega
      have l5 : w.heap.size < w0.heap.size := by omega
      have l6 : F.kb < w0.heap.size := by omega
      have HB0 := hide hB0
      have HH0 := hide hb0
      have HS0 : Hid (w0.heap.size = w.heap.size + 1) := hs0
      clear hB0 hs0 HLK0 hb0
      refine wp_region_held_drew (S := (fun w' => Below w0.heap.size w0 w')) (by kernel_rfl) ?_ (fun hHeld => ?_)
      · try dsimp only
        exact (by repeat (first | exact Below.refl _ _ | assumption | refine Below.drew ?_ | refine Below.drewN ?_ _ | refine Below.allocT ?_ (Nat.le_refl _) _ | refine Below.setCell ?_ (by simp <;> omega) _ | refine Below.to ?_ (by assumption) (Nat.le_refl _)))
      refine wpAnyH_take (i := 0) (v := ?v17_0) rfl (by kernel_rfl) (by kernel_rfl) (by kernel_rfl) (fun _ _ _ h => h) (Or.inl ⟨by rfl, ?y17_0⟩) (by assumption) ?r17_0
      case' y17_0 => (intro w hSw; (try dsimp only at hSw); (try have hlS := HLK.out _ hSw); obtain ⟨hcS, hfS⟩ := bcell hSw; clear hSw; go_simp; try with_reducible rfl)
      try simp only [Act.put, List.getElem_toArray, List.getElem_cons_succ, List.getElem_cons_zero, List.setIfInBounds_toArray, List.set_cons_zero, List.set_cons_succ]
      refine wpAnyH_take (i := 1) (v := ?v17_1) rfl (by kernel_rfl) (by kernel_rfl) (by kernel_rfl) (fun _ _ _ h => h) (Or.inl ⟨by rfl, ?y17_1⟩) (by assumption) ?r17_1
      case' y17_1 => (intro w hSw; (try dsimp only at hSw); (try have hlS := HLK.out _ hSw); obtain ⟨hcS, hfS⟩ := bcell hSw; clear hSw; go_simp; try with_reducible rfl)
      try simp only [Act.put, List.getElem_toArray, List.getElem_cons_succ, List.getElem_cons_zero, List.setIfInBounds_toArray, List.set_cons_zero, List.set_cons_succ]
      refine wpAnyH_take (i := 2) (v := ?v17_2) rfl (by kernel_rfl) (by kernel_rfl) (by kernel_rfl) (fun _ _ _ h => h) (Or.inl ⟨by rfl, ?y17_2⟩) (by assumption) ?r17_2
      case' y17_2 => (intro w hSw; (try dsimp only at hSw); (try have hlS := HLK.out _ hSw); obtain ⟨hcS, hfS⟩ := bcell hSw; clear hSw; go_simp; try with_reducible rfl)
      try simp only [Act.put, List.getElem_toArray, List.getElem_cons_succ, List.getElem_cons_zero, List.setIfInBounds_toArray, List.set_cons_zero, List.set_cons_succ]
      refine wpAnyH_take (i := 3) (v := ?v17_3) rfl (by kernel_rfl) (by kernel_rfl) (by kernel_rfl) (fun _ _ _ h => h) (Or.inl ⟨by rfl, ?y17_3⟩) (by assumption) ?r17_3
      case' y17_3 => (intro w hSw; (try dsimp only at hSw); (try have hlS := HLK.out _ hSw); obtain ⟨hcS, hfS⟩ := bcell hSw; clear hSw; go_simp; try with_reducible rfl)
      try simp only [Act.put, List.getElem_toArray, List.getElem_cons_succ, List.getElem_cons_zero, List.setIfInBounds_toArray, List.set_cons_zero, List.set_cons_succ]
      refine wpAnyH_take (i := 4) (v := ?v17_4) rfl (by kernel_rfl) (by kernel_rfl) (by kernel_rfl) (fun _ _ _ h => h) (Or.inl ⟨by rfl, ?y17_4⟩) (by assumption) ?r17_4
      case' y17_4 => (intro w hSw; (try dsimp only at hSw); (try have hlS := HLK.out _ hSw); obtain ⟨hcS, hfS⟩ := bcell hSw; clear hSw; go_simp; try with_reducible rfl)
      try simp only [Act.put, List.getElem_toArray, List.getElem_cons_succ, List.getElem_cons_zero, List.setIfInBounds_toArray, List.set_cons_zero, List.set_cons_succ]
      refine wpAnyH_take (i := 5) (v := ?v17_5) rfl (by kernel_rfl) (by kernel_rfl) (by kernel_rfl) (fun _ _ _ h => h) (Or.inl ⟨by rfl, ?y17_5⟩) (by assumption) ?r17_5
      case' y17_5 => (intro w hSw; (try dsimp only at hSw); (try have hlS := HLK.out _ hSw); obtain ⟨hcS, hfS⟩ := bcell hSw; clear hSw; go_simp; try with_reducible rfl)
      try simp only [Act.put, List.getElem_toArray, List.getElem_cons_succ, List.getElem_cons_zero, List.setIfInBounds_toArray, List.set_cons_zero, List.set_cons_succ]
      refine wpAnyH_take (i := 6) (v := ?v17_6) rfl (by kernel_rfl) (by kernel_rfl) (by kernel_rfl) (fun _ _ _ h => h) (Or.inl ⟨by rfl, ?y17_6⟩) (by assumption) ?r17_6
      case' y17_6 => (intro w hSw; (try dsimp only at hSw); (try have hlS := HLK.out _ hSw); obtain ⟨hcS, hfS⟩ := bcell hSw; clear hSw; go_simp; try with_reducible rfl)
      try simp only [Act.put, List.getElem_toArray, List.getElem_cons_succ, List.getElem_cons_zero, List.setIfInBounds_toArray, List.set_cons_zero, List.set_cons_succ]
      refine wpAnyH_take (i := 7) (v := ?v17_7) rfl (by kernel_rfl) (by kernel_rfl) (by kernel_rfl) (fun _ _ _ h => h) (Or.inl ⟨by rfl, ?y17_7⟩) (by assumption) ?r17_7
      case' y17_7 => (intro w hSw; (try dsimp only at hSw); (try have hlS := HLK.out _ hSw); obtain ⟨hcS, hfS⟩ := bcell hSw; clear hSw; go_simp; try with_reducible rfl)
      try simp only [Act.put, List.getElem_toArray, List.getElem_cons_succ, List.getElem_cons_zero, List.setIfInBounds_toArray, List.set_cons_zero, List.set_cons_succ]
      refine wpAnyH_take (i := 8) (v := ?v17_8) rfl (by kernel_rfl) (by kernel_rfl) (by kernel_rfl) (fun _ _ _ h => h) (Or.inl ⟨by rfl, ?y17_8⟩) (by assumption) ?r17_8
      case' y17_8 => (intro w hSw; (try dsimp only at hSw); (try have hlS := HLK.out _ hSw); obtain ⟨hcS, hfS⟩ := bcell hSw; clear hSw; go_simp; try with_reducible rfl)
      try simp only [Act.put, List.getElem_toArray, List.getElem_cons_succ, List.getElem_cons_zero, List.setIfInBounds_toArray, List.set_cons_zero, List.set_cons_succ]
      refine wpAnyH_take (i := 9) (v := ?v17_9) rfl (by kernel_rfl) (by kernel_rfl) (by kernel_rfl) (fun _ _ _ h => h) (Or.inl ⟨by rfl, ?y17_9⟩) (by assumption) ?r17_9
      case' y17_9 => (intro w hSw; (try dsimp only at hSw); (try have hlS := HLK.out _ hSw); obtain ⟨hcS, hfS⟩ := bcell hSw; clear hSw; go_simp; try with_reducible rfl)
      try simp only [Act.put, List.getElem_toArray, List.getElem_cons_succ, List.getElem_cons_zero, List.setIfInBounds_toArray, List.set_cons_zero, List.set_cons_succ]
      refine wpAnyH_take (i := 10) (v := ?v17_10) rfl (by kernel_rfl) (by kernel_rfl) (by kernel_rfl) (fun _ _ _ h => h) (Or.inl ⟨by rfl, ?y17_10⟩) (by assumption) ?r17_10
      case' y17_10 => (intro w hSw; (try dsimp only at hSw); (try have hlS := HLK.out _ hSw); obtain ⟨hcS, hfS⟩ := bcell hSw; clear hSw; go_simp; try with_reducible rfl)
      try simp only [Act.put, List.getElem_toArray, List.getElem_cons_succ, List.getElem_cons_zero, List.setIfInBounds_toArray, List.set_cons_zero, List.set_cons_succ]
      refine wpAnyH_done (by kernel_rfl) ?_ _
      clear HLK hHeld d2 e0 e1 e2
      obtain ⟨t, ht⟩ : ∃ t, min (topK F.ks lo) (topK F.ks hi) = t := ⟨_, rfl⟩
      have htN : t < F.N := by omega
      have htl : t ≤ topK F.ks lo := by omega
      have hth : t ≤ topK F.ks hi := by omega
      have hdt : F.N - t ≤ d + 1 := by omega
      go_upto_region 18 with (fail)
      go_cut [15] from 66 to 82 (fun x wx => x = .int .i64 t ∧ Below w0.heap.size w0 wx)
      case first =>
        have H0 := H.out.below HB0.out
        have d1 := H0.cellS
        obtain ⟨x0, _, _⟩ := H0.knot hlo
        obtain ⟨y0, _, _⟩ := H0.knot hhi
        clear H0
        have i0 : (0 : Int) ≤ (lo : Int) := by omega
        have i1 : (lo : Int) < (F.ks.length : Int) := by omega
        have i2 : (0 : Int) ≤ (hi : Int) := by omega
        have i3 : (hi : Int) < (F.ks.length : Int) := by omega
        by_cases htt : topK F.ks hi < topK F.ks lo
        · have ht1 : (topK F.ks hi : Int) < (topK F.ks lo : Int) := by omega
          have HT : Hid (topK F.ks hi = t) := by show topK F.ks hi = t; omega
          clear ht htt
          refine wp_region_held_drew (S := (fun w' => Below w0.heap.size w0 w')) (by kernel_rfl) ?_ (fun hHeld => ?_)
          · try dsimp only
            exact (by repeat (first | exact Below.refl _ _ | assumption | refine Below.drew ?_ | refine Below.drewN ?_ _ | refine Below.allocT ?_ (Nat.le_refl _) _ | refine Below.setCell ?_ (by simp <;> omega) _ | refine Below.to ?_ (by assumption) (Nat.le_refl _)))
          refine wpAnyH_take (i := 0) (v := ?v18_0) rfl (by kernel_rfl) (by kernel_rfl) (by kernel_rfl) (fun _ _ _ h => h) (Or.inl ⟨by rfl, ?y18_0⟩) (by assumption) ?r18_0
          case' y18_0 => (intro w hSw; (try dsimp only at hSw); (try have hlS := HLK.out _ hSw); obtain ⟨hcS, hfS⟩ := bcell hSw; clear hSw; go_simp; try with_reducible rfl)
          try simp only [Act.put, List.getElem_toArray, List.getElem_cons_succ, List.getElem_cons_zero, List.setIfInBounds_toArray, List.set_cons_zero, List.set_cons_succ]
          refine wpAnyH_take (i := 1) (v := ?v18_1) rfl (by kernel_rfl) (by kernel_rfl) (by kernel_rfl) (fun _ _ _ h => h) (Or.inl ⟨by rfl, ?y18_1⟩) (by assumption) ?r18_1
          case' y18_1 => (intro w hSw; (try dsimp only at hSw); (try have hlS := HLK.out _ hSw); obtain ⟨hcS, hfS⟩ := bcell hSw; clear hSw; go_simp; try with_reducible rfl)
          try simp only [Act.put, List.getElem_toArray, List.getElem_cons_succ, List.getElem_cons_zero, List.setIfInBounds_toArray, List.set_cons_zero, List.set_cons_succ]
          refine wpAnyH_take (i := 2) (v := ?v18_2) rfl (by kernel_rfl) (by kernel_rfl) (by kernel_rfl) (fun _ _ _ h => h) (Or.inl ⟨by rfl, ?y18_2⟩) (by assumption) ?r18_2
          case' y18_2 => (intro w hSw; (try dsimp only at hSw); (try have hlS := HLK.out _ hSw); obtain ⟨hcS, hfS⟩ := bcell hSw; clear hSw; go_simp; try with_reducible rfl)
          try simp only [Act.put, List.getElem_toArray, List.getElem_cons_succ, List.getElem_cons_zero, List.setIfInBounds_toArray, List.set_cons_zero, List.set_cons_succ]
          refine wpAnyH_take (i := 3) (v := ?v18_3) rfl (by kernel_rfl) (by kernel_rfl) (by kernel_rfl) (fun _ _ _ h => h) (Or.inl ⟨by rfl, ?y18_3⟩) (by assumption) ?r18_3
          case' y18_3 => (intro w hSw; (try dsimp only at hSw); (try have hlS := HLK.out _ hSw); obtain ⟨hcS, hfS⟩ := bcell hSw; clear hSw; go_simp; try with_reducible rfl)
          try simp only [Act.put, List.getElem_toArray, List.getElem_cons_succ, List.getElem_cons_zero, List.setIfInBounds_toArray, List.set_cons_zero, List.set_cons_succ]
          refine wpAnyH_take (i := 4) (v := ?v18_4) rfl (by kernel_rfl) (by kernel_rfl) (by kernel_rfl) (fun _ _ _ h => h) (Or.inl ⟨by rfl, ?y18_4⟩) (by assumption) ?r18_4
          case' y18_4 => (intro w hSw; (try dsimp only at hSw); (try have hlS := HLK.out _ hSw); obtain ⟨hcS, hfS⟩ := bcell hSw; clear hSw; go_simp; try with_reducible rfl)
          try simp only [Act.put, List.getElem_toArray, List.getElem_cons_succ, List.getElem_cons_zero, List.setIfInBounds_toArray, List.set_cons_zero, List.set_cons_succ]
          refine wpAnyH_take (i := 5) (v := ?v18_5) rfl (by kernel_rfl) (by kernel_rfl) (by kernel_rfl) (fun _ _ _ h => h) (Or.inl ⟨by rfl, ?y18_5⟩) (by assumption) ?r18_5
          case' y18_5 => (intro w hSw; (try dsimp only at hSw); (try have hlS := HLK.out _ hSw); obtain ⟨hcS, hfS⟩ := bcell hSw; clear hSw; go_simp; try with_reducible rfl)
          try simp only [Act.put, List.getElem_toArray, List.getElem_cons_succ, List.getElem_cons_zero, List.setIfInBounds_toArray, List.set_cons_zero, List.set_cons_succ]
          refine wpAnyH_take (i := 6) (v := ?v18_6) rfl (by kernel_rfl) (by kernel_rfl) (by kernel_rfl) (fun _ _ _ h => h) (Or.inl ⟨by rfl, ?y18_6⟩) (by assumption) ?r18_6
          case' y18_6 => (intro w hSw; (try dsimp only at hSw); (try have hlS := HLK.out _ hSw); obtain ⟨hcS, hfS⟩ := bcell hSw; clear hSw; go_simp; try with_reducible rfl)
          try simp only [Act.put, List.getElem_toArray, List.getElem_cons_succ, List.getElem_cons_zero, List.setIfInBounds_toArray, List.set_cons_zero, List.set_cons_succ]
          refine wpAnyH_take (i := 7) (v := ?v18_7) rfl (by kernel_rfl) (by kernel_rfl) (by kernel_rfl) (fun _ _ _ h => h) (Or.inl ⟨by rfl, ?y18_7⟩) (by assumption) ?r18_7
          case' y18_7 => (intro w hSw; (try dsimp only at hSw); (try have hlS := HLK.out _ hSw); obtain ⟨hcS, hfS⟩ := bcell hSw; clear hSw; go_simp; try with_reducible rfl)
          try simp only [Act.put, List.getElem_toArray, List.getElem_cons_succ, List.getElem_cons_zero, List.setIfInBounds_toArray, List.set_cons_zero, List.set_cons_succ]
          refine wpAnyH_take (i := 8) (v := ?v18_8) rfl (by kernel_rfl) (by kernel_rfl) (by kernel_rfl) (fun _ _ _ h => h) (Or.inl ⟨by rfl, ?y18_8⟩) (by assumption) ?r18_8
          case' y18_8 => (intro w hSw; (try dsimp only at hSw); (try have hlS := HLK.out _ hSw); obtain ⟨hcS, hfS⟩ := bcell hSw; clear hSw; go_simp; try with_reducible rfl)
          try simp only [Act.put, List.getElem_toArray, List.getElem_cons_succ, List.getElem_cons_zero, List.setIfInBounds_toArray, List.set_cons_zero, List.set_cons_succ]
          refine wpAnyH_take (i := 9) (v := ?v18_9) rfl (by kernel_rfl) (by kernel_rfl) (by kernel_rfl) (fun _ _ _ h => h) (Or.inl ⟨by rfl, ?y18_9⟩) (by assumption) ?r18_9
          case' y18_9 => (intro w hSw; (try dsimp only at hSw); (try have hlS := HLK.out _ hSw); obtain ⟨hcS, hfS⟩ := bcell hSw; clear hSw; go_simp; try with_reducible rfl)
          try simp only [Act.put, List.getElem_toArray, List.getElem_cons_succ, List.getElem_cons_zero, List.setIfInBounds_toArray, List.set_cons_zero, List.set_cons_succ]
          refine wpAnyH_take (i := 10) (v := ?v18_10) rfl (by kernel_rfl) (by kernel_rfl) (by kernel_rfl) (fun _ _ _ h => h) (Or.inl ⟨by rfl, ?y18_10⟩) (by assumption) ?r18_10
          case' y18_10 => (intro w hSw; (try dsimp only at hSw); (try have hlS := HLK.out _ hSw); obtain ⟨hcS, hfS⟩ := bcell hSw; clear hSw; go_simp; try with_reducible rfl)
          try simp only [Act.put, List.getElem_toArray, List.getElem_cons_succ, List.getElem_cons_zero, List.setIfInBounds_toArray, List.set_cons_zero, List.set_cons_succ]
          refine wpAnyH_take (i := 11) (v := ?v18_11) rfl (by kernel_rfl) (by kernel_rfl) (by kernel_rfl) (fun _ _ _ h => h) (Or.inl ⟨by rfl, ?y18_11⟩) (by assumption) ?r18_11
          case' y18_11 => (intro w hSw; (try dsimp only at hSw); (try have hlS := HLK.out _ hSw); obtain ⟨hcS, hfS⟩ := bcell hSw; clear hSw; go_simp; try with_reducible rfl)
          try simp only [Act.put, List.getElem_toArray, List.getElem_cons_succ, List.getElem_cons_zero, List.setIfInBounds_toArray, List.set_cons_zero, List.set_cons_succ]
          refine wpAnyH_take (i := 12) (v := ?v18_12) rfl (by kernel_rfl) (by kernel_rfl) (by kernel_rfl) (fun _ _ _ h => h) (Or.inl ⟨by rfl, ?y18_12⟩) (by assumption) ?r18_12
          case' y18_12 => (intro w hSw; (try dsimp only at hSw); (try have hlS := HLK.out _ hSw); obtain ⟨hcS, hfS⟩ := bcell hSw; clear hSw; go_simp; try with_reducible rfl)
          try simp only [Act.put, List.getElem_toArray, List.getElem_cons_succ, List.getElem_cons_zero, List.setIfInBounds_toArray, List.set_cons_zero, List.set_cons_succ]
          refine wpAnyH_take (i := 13) (v := ?v18_13) rfl (by kernel_rfl) (by kernel_rfl) (by kernel_rfl) (fun _ _ _ h => h) (Or.inl ⟨by rfl, ?y18_13⟩) (by assumption) ?r18_13
          case' y18_13 => (intro w hSw; (try dsimp only at hSw); (try have hlS := HLK.out _ hSw); obtain ⟨hcS, hfS⟩ := bcell hSw; clear hSw; go_simp; try with_reducible rfl)
          try simp only [Act.put, List.getElem_toArray, List.getElem_cons_succ, List.getElem_cons_zero, List.setIfInBounds_toArray, List.set_cons_zero, List.set_cons_succ]
          refine wpAnyH_take (i := 14) (v := ?v18_14) rfl (by kernel_rfl) (by kernel_rfl) (by kernel_rfl) (fun _ _ _ h => h) (Or.inl ⟨by rfl, ?y18_14⟩) (by assumption) ?r18_14
          case' y18_14 => (intro w hSw; (try dsimp only at hSw); (try have hlS := HLK.out _ hSw); obtain ⟨hcS, hfS⟩ := bcell hSw; clear hSw; go_simp; try with_reducible rfl)
          try simp only [Act.put, List.getElem_toArray, List.getElem_cons_succ, List.getElem_cons_zero, List.setIfInBounds_toArray, List.set_cons_zero, List.set_cons_succ]
          refine wpAnyH_take (i := 15) (v := ?v18_15) rfl (by kernel_rfl) (by kernel_rfl) (by kernel_rfl) (fun _ _ _ h => h) (Or.inl ⟨by rfl, ?y18_15⟩) (by assumption) ?r18_15
          case' y18_15 => (intro w hSw; (try dsimp only at hSw); (try have hlS := HLK.out _ hSw); obtain ⟨hcS, hfS⟩ := bcell hSw; clear hSw; go_simp; try with_reducible rfl)
          try simp only [Act.put, List.getElem_toArray, List.getElem_cons_succ, List.getElem_cons_zero, List.setIfInBounds_toArray, List.set_cons_zero, List.set_cons_succ]
          refine wpAnyH_take (i := 16) (v := ?v18_16) rfl (by kernel_rfl) (by kernel_rfl) (by kernel_rfl) (fun _ _ _ h => h) (Or.inl ⟨by rfl, ?y18_16⟩) (by assumption) ?r18_16
          case' y18_16 => (intro w hSw; (try dsimp only at hSw); (try have hlS := HLK.out _ hSw); obtain ⟨hcS, hfS⟩ := bcell hSw; clear hSw; go_simp; try with_reducible rfl)
          try simp only [Act.put, List.getElem_toArray, List.getElem_cons_succ, List.getElem_cons_zero, List.setIfInBounds_toArray, List.set_cons_zero, List.set_cons_succ]
          refine wpAnyH_take (i := 17) (v := ?v18_17) rfl (by kernel_rfl) (by kernel_rfl) (by kernel_rfl) (fun _ _ _ h => h) (Or.inl ⟨by rfl, ?y18_17⟩) (by assumption) ?r18_17
          case' y18_17 => (intro w hSw; (try dsimp only at hSw); (try have hlS := HLK.out _ hSw); obtain ⟨hcS, hfS⟩ := bcell hSw; clear hSw; go_simp; try with_reducible rfl)
          try simp only [Act.put, List.getElem_toArray, List.getElem_cons_succ, List.getElem_cons_zero, List.setIfInBounds_toArray, List.set_cons_zero, List.set_cons_succ]
          refine wpAnyH_done (by kernel_rfl) ?_ _
          go_wp2_with fail
          go_meet
          exact ⟨by rw [HT.out], (by repeat (first | exact Below.refl _ _ | assumption | refine Below.drew ?_ | refine Below.drewN ?_ _ | refine Below.allocT ?_ (Nat.le_refl _) _ | refine Below.setCell ?_ (by simp <;> omega) _ | refine Below.to ?_ (by assumption) (Nat.le_refl _)))⟩
        · have ht1 : ¬ (topK F.ks hi : Int) < (topK F.ks lo : Int) := by omega
          have HT : Hid (topK F.ks lo = t) := by show topK F.ks lo = t; omega
          clear ht htt
          refine wp_region_held_drew (S := (fun w' => Below w0.heap.size w0 w')) (by kernel_rfl) ?_ (fun hHeld => ?_)
          · try dsimp only
            exact (by repeat (first | exact Below.refl _ _ | assumption | refine Below.drew ?_ | refine Below.drewN ?_ _ | refine Below.allocT ?_ (Nat.le_refl _) _ | refine Below.setCell ?_ (by simp <;> omega) _ | refine Below.to ?_ (by assumption) (Nat.le_refl _)))
          refine wpAnyH_take (i := 0) (v := ?v19_0) rfl (by kernel_rfl) (by kernel_rfl) (by kernel_rfl) (fun _ _ _ h => h) (Or.inl ⟨by rfl, ?y19_0⟩) (by assumption) ?r19_0
          case' y19_0 => (intro w hSw; (try dsimp only at hSw); (try have hlS := HLK.out _ hSw); obtain ⟨hcS, hfS⟩ := bcell hSw; clear hSw; go_simp; try with_reducible rfl)
          try simp only [Act.put, List.getElem_toArray, List.getElem_cons_succ, List.getElem_cons_zero, List.setIfInBounds_toArray, List.set_cons_zero, List.set_cons_succ]
          refine wpAnyH_take (i := 1) (v := ?v19_1) rfl (by kernel_rfl) (by kernel_rfl) (by kernel_rfl) (fun _ _ _ h => h) (Or.inl ⟨by rfl, ?y19_1⟩) (by assumption) ?r19_1
          case' y19_1 => (intro w hSw; (try dsimp only at hSw); (try have hlS := HLK.out _ hSw); obtain ⟨hcS, hfS⟩ := bcell hSw; clear hSw; go_simp; try with_reducible rfl)
          try simp only [Act.put, List.getElem_toArray, List.getElem_cons_succ, List.getElem_cons_zero, List.setIfInBounds_toArray, List.set_cons_zero, List.set_cons_succ]
          refine wpAnyH_take (i := 2) (v := ?v19_2) rfl (by kernel_rfl) (by kernel_rfl) (by kernel_rfl) (fun _ _ _ h => h) (Or.inl ⟨by rfl, ?y19_2⟩) (by assumption) ?r19_2
          case' y19_2 => (intro w hSw; (try dsimp only at hSw); (try have hlS := HLK.out _ hSw); obtain ⟨hcS, hfS⟩ := bcell hSw; clear hSw; go_simp; try with_reducible rfl)
          try simp only [Act.put, List.getElem_toArray, List.getElem_cons_succ, List.getElem_cons_zero, List.setIfInBounds_toArray, List.set_cons_zero, List.set_cons_succ]
          refine wpAnyH_take (i := 3) (v := ?v19_3) rfl (by kernel_rfl) (by kernel_rfl) (by kernel_rfl) (fun _ _ _ h => h) (Or.inl ⟨by rfl, ?y19_3⟩) (by assumption) ?r19_3
          case' y19_3 => (intro w hSw; (try dsimp only at hSw); (try have hlS := HLK.out _ hSw); obtain ⟨hcS, hfS⟩ := bcell hSw; clear hSw; go_simp; try with_reducible rfl)
          try simp only [Act.put, List.getElem_toArray, List.getElem_cons_succ, List.getElem_cons_zero, List.setIfInBounds_toArray, List.set_cons_zero, List.set_cons_succ]
          refine wpAnyH_take (i := 4) (v := ?v19_4) rfl (by kernel_rfl) (by kernel_rfl) (by kernel_rfl) (fun _ _ _ h => h) (Or.inl ⟨by rfl, ?y19_4⟩) (by assumption) ?r19_4
          case' y19_4 => (intro w hSw; (try dsimp only at hSw); (try have hlS := HLK.out _ hSw); obtain ⟨hcS, hfS⟩ := bcell hSw; clear hSw; go_simp; try with_reducible rfl)
          try simp only [Act.put, List.getElem_toArray, List.getElem_cons_succ, List.getElem_cons_zero, List.setIfInBounds_toArray, List.set_cons_zero, List.set_cons_succ]
          refine wpAnyH_take (i := 5) (v := ?v19_5) rfl (by kernel_rfl) (by kernel_rfl) (by kernel_rfl) (fun _ _ _ h => h) (Or.inl ⟨by rfl, ?y19_5⟩) (by assumption) ?r19_5
          case' y19_5 => (intro w hSw; (try dsimp only at hSw); (try have hlS := HLK.out _ hSw); obtain ⟨hcS, hfS⟩ := bcell hSw; clear hSw; go_simp; try with_reducible rfl)
          try simp only [Act.put, List.getElem_toArray, List.getElem_cons_succ, List.getElem_cons_zero, List.setIfInBounds_toArray, List.set_cons_zero, List.set_cons_succ]
          refine wpAnyH_take (i := 6) (v := ?v19_6) rfl (by kernel_rfl) (by kernel_rfl) (by kernel_rfl) (fun _ _ _ h => h) (Or.inl ⟨by rfl, ?y19_6⟩) (by assumption) ?r19_6
          case' y19_6 => (intro w hSw; (try dsimp only at hSw); (try have hlS := HLK.out _ hSw); obtain ⟨hcS, hfS⟩ := bcell hSw; clear hSw; go_simp; try with_reducible rfl)
          try simp only [Act.put, List.getElem_toArray, List.getElem_cons_succ, List.getElem_cons_zero, List.setIfInBounds_toArray, List.set_cons_zero, List.set_cons_succ]
          refine wpAnyH_take (i := 7) (v := ?v19_7) rfl (by kernel_rfl) (by kernel_rfl) (by kernel_rfl) (fun _ _ _ h => h) (Or.inl ⟨by rfl, ?y19_7⟩) (by assumption) ?r19_7
          case' y19_7 => (intro w hSw; (try dsimp only at hSw); (try have hlS := HLK.out _ hSw); obtain ⟨hcS, hfS⟩ := bcell hSw; clear hSw; go_simp; try with_reducible rfl)
          try simp only [Act.put, List.getElem_toArray, List.getElem_cons_succ, List.getElem_cons_zero, List.setIfInBounds_toArray, List.set_cons_zero, List.set_cons_succ]
          refine wpAnyH_take (i := 8) (v := ?v19_8) rfl (by kernel_rfl) (by kernel_rfl) (by kernel_rfl) (fun _ _ _ h => h) (Or.inl ⟨by rfl, ?y19_8⟩) (by assumption) ?r19_8
          case' y19_8 => (intro w hSw; (try dsimp only at hSw); (try have hlS := HLK.out _ hSw); obtain ⟨hcS, hfS⟩ := bcell hSw; clear hSw; go_simp; try with_reducible rfl)
          try simp only [Act.put, List.getElem_toArray, List.getElem_cons_succ, List.getElem_cons_zero, List.setIfInBounds_toArray, List.set_cons_zero, List.set_cons_succ]
          refine wpAnyH_take (i := 9) (v := ?v19_9) rfl (by kernel_rfl) (by kernel_rfl) (by kernel_rfl) (fun _ _ _ h => h) (Or.inl ⟨by rfl, ?y19_9⟩) (by assumption) ?r19_9
          case' y19_9 => (intro w hSw; (try dsimp only at hSw); (try have hlS := HLK.out _ hSw); obtain ⟨hcS, hfS⟩ := bcell hSw; clear hSw; go_simp; try with_reducible rfl)
          try simp only [Act.put, List.getElem_toArray, List.getElem_cons_succ, List.getElem_cons_zero, List.setIfInBounds_toArray, List.set_cons_zero, List.set_cons_succ]
          refine wpAnyH_take (i := 10) (v := ?v19_10) rfl (by kernel_rfl) (by kernel_rfl) (by kernel_rfl) (fun _ _ _ h => h) (Or.inl ⟨by rfl, ?y19_10⟩) (by assumption) ?r19_10
          case' y19_10 => (intro w hSw; (try dsimp only at hSw); (try have hlS := HLK.out _ hSw); obtain ⟨hcS, hfS⟩ := bcell hSw; clear hSw; go_simp; try with_reducible rfl)
          try simp only [Act.put, List.getElem_toArray, List.getElem_cons_succ, List.getElem_cons_zero, List.setIfInBounds_toArray, List.set_cons_zero, List.set_cons_succ]
          refine wpAnyH_take (i := 11) (v := ?v19_11) rfl (by kernel_rfl) (by kernel_rfl) (by kernel_rfl) (fun _ _ _ h => h) (Or.inl ⟨by rfl, ?y19_11⟩) (by assumption) ?r19_11
          case' y19_11 => (intro w hSw; (try dsimp only at hSw); (try have hlS := HLK.out _ hSw); obtain ⟨hcS, hfS⟩ := bcell hSw; clear hSw; go_simp; try with_reducible rfl)
          try simp only [Act.put, List.getElem_toArray, List.getElem_cons_succ, List.getElem_cons_zero, List.setIfInBounds_toArray, List.set_cons_zero, List.set_cons_succ]
          refine wpAnyH_take (i := 12) (v := ?v19_12) rfl (by kernel_rfl) (by kernel_rfl) (by kernel_rfl) (fun _ _ _ h => h) (Or.inl ⟨by rfl, ?y19_12⟩) (by assumption) ?r19_12
          case' y19_12 => (intro w hSw; (try dsimp only at hSw); (try have hlS := HLK.out _ hSw); obtain ⟨hcS, hfS⟩ := bcell hSw; clear hSw; go_simp; try with_reducible rfl)
          try simp only [Act.put, List.getElem_toArray, List.getElem_cons_succ, List.getElem_cons_zero, List.setIfInBounds_toArray, List.set_cons_zero, List.set_cons_succ]
          refine wpAnyH_take (i := 13) (v := ?v19_13) rfl (by kernel_rfl) (by kernel_rfl) (by kernel_rfl) (fun _ _ _ h => h) (Or.inl ⟨by rfl, ?y19_13⟩) (by assumption) ?r19_13
          case' y19_13 => (intro w hSw; (try dsimp only at hSw); (try have hlS := HLK.out _ hSw); obtain ⟨hcS, hfS⟩ := bcell hSw; clear hSw; go_simp; try with_reducible rfl)
          try simp only [Act.put, List.getElem_toArray, List.getElem_cons_succ, List.getElem_cons_zero, List.setIfInBounds_toArray, List.set_cons_zero, List.set_cons_succ]
          refine wpAnyH_take (i := 14) (v := ?v19_14) rfl (by kernel_rfl) (by kernel_rfl) (by kernel_rfl) (fun _ _ _ h => h) (Or.inl ⟨by rfl, ?y19_14⟩) (by assumption) ?r19_14
          case' y19_14 => (intro w hSw; (try dsimp only at hSw); (try have hlS := HLK.out _ hSw); obtain ⟨hcS, hfS⟩ := bcell hSw; clear hSw; go_simp; try with_reducible rfl)
          try simp only [Act.put, List.getElem_toArray, List.getElem_cons_succ, List.getElem_cons_zero, List.setIfInBounds_toArray, List.set_cons_zero, List.set_cons_succ]
          refine wpAnyH_take (i := 15) (v := ?v19_15) rfl (by kernel_rfl) (by kernel_rfl) (by kernel_rfl) (fun _ _ _ h => h) (Or.inl ⟨by rfl, ?y19_15⟩) (by assumption) ?r19_15
          case' y19_15 => (intro w hSw; (try dsimp only at hSw); (try have hlS := HLK.out _ hSw); obtain ⟨hcS, hfS⟩ := bcell hSw; clear hSw; go_simp; try with_reducible rfl)
          try simp only [Act.put, List.getElem_toArray, List.getElem_cons_succ, List.getElem_cons_zero, List.setIfInBounds_toArray, List.set_cons_zero, List.set_cons_succ]
          refine wpAnyH_take (i := 16) (v := ?v19_16) rfl (by kernel_rfl) (by kernel_rfl) (by kernel_rfl) (fun _ _ _ h => h) (Or.inl ⟨by rfl, ?y19_16⟩) (by assumption) ?r19_16
          case' y19_16 => (intro w hSw; (try dsimp only at hSw); (try have hlS := HLK.out _ hSw); obtain ⟨hcS, hfS⟩ := bcell hSw; clear hSw; go_simp; try with_reducible rfl)
          try simp only [Act.put, List.getElem_toArray, List.getElem_cons_succ, List.getElem_cons_zero, List.setIfInBounds_toArray, List.set_cons_zero, List.set_cons_succ]
          refine wpAnyH_take (i := 17) (v := ?v19_17) rfl (by kernel_rfl) (by kernel_rfl) (by kernel_rfl) (fun _ _ _ h => h) (Or.inl ⟨by rfl, ?y19_17⟩) (by assumption) ?r19_17
          case' y19_17 => (intro w hSw; (try dsimp only at hSw); (try have hlS := HLK.out _ hSw); obtain ⟨hcS, hfS⟩ := bcell hSw; clear hSw; go_simp; try with_reducible rfl)
          try simp only [Act.put, List.getElem_toArray, List.getElem_cons_succ, List.getElem_cons_zero, List.setIfInBounds_toArray, List.set_cons_zero, List.set_cons_succ]
          refine wpAnyH_done (by kernel_rfl) ?_ _
          go_wp2_with fail
          go_meet
          exact ⟨by rw [HT.out], (by repeat (first | exact Below.refl _ _ | assumption | refine Below.drew ?_ | refine Below.drewN ?_ _ | refine Below.allocT ?_ (Nat.le_refl _) _ | refine Below.setCell ?_ (by simp <;> omega) _ | refine Below.to ?_ (by assumption) (Nat.le_refl _)))⟩
      case rest =>
      obtain ⟨rfl, hB1⟩ := hcut
      have HT := hide ht
      have st1 : FStep w F wc F := FStep.of_below H.out (Below.to HB0.out hB1 (Nat.le_refl _))
      have hbx1 : wc.heap[w.heap.size]? = some (.cells #[.int .i64 o, .int .i64 lo, .int .i64 hi] 149 (0, 0)) := (hB1.block _ l5).trans HH0.out
      have hs1 : w.heap.size < wc.heap.size := box_lt hbx1
      have hnS : ¬ SF F w.heap.size := fun e => by have := H.out.slt e; omega
      have ST1 := hide st1
      have HBX1 := hide hbx1
      have HNS := hide hnS
      clear ht hB1 st1 hbx1 hnS
      have hwf := H.out.wf
      have a0l := brK_lt hwf (b := false) hlo htN
      have b0l := brK_lt hwf (b := false) hhi htN
      have a1l := brK_lt hwf (b := true) hlo htN
      have b1l := brK_lt hwf (b := true) hhi htN
      have a0t := brK_top hwf (b := false) hlo htN htl
      have b0t := brK_top hwf (b := false) hhi htN hth
      have a1t := brK_top hwf (b := true) hlo htN htl
      have b1t := brK_top hwf (b := true) hhi htN hth
      have hp2 : 2 ^ (d + 1) = 2 ^ d + 2 ^ d := by rw [Nat.pow_succ]; omega
      have hp1 := pow_pos2 d
      clear hwf
      go_wp2_with fail
      refine (branch_st ST1.out lo t false hlo).mono ?_
      rintro e w2 ⟨rfl, hB2⟩
      have ST2 : Hid (FStep w F w2 F) := ST1.out.then_below hB2
      have HB2 := hide hB2
      clear hB2
      go_wp2_with fail
      refine (branch_st ST2.out hi t false hhi).mono ?_
      rintro e w3 ⟨rfl, hB3⟩
      have ST3 : Hid (FStep w F w3 F) := ST2.out.then_below hB3
      have HB3 : Hid (Below wc.heap.size wc w3) := Below.to HB2.out hB3 (Nat.le_refl _)
      clear hB3
      go_wp2_with fail
      refine (HIS.out F w3 _ _ ST3.out a0l b0l (by omega) (by omega) (by omega)).mono ?_
      rintro e w4 ⟨n1, F1, rfl, hr⟩
      have ST4 : Hid (FStep w F w4 F1) := ST3.out.trans hr.st
      have SW4 : Hid (FStep wc F w4 F1) := (FStep.of_below ST1.out.here HB3.out).trans hr.st
      have q1 := hr.len
      have q2 := hr.nj
      have q3 := hr.lt
      have R1 := hide hr
      clear hr
      go_wp2_with fail
      refine (branch_st ST4.out lo t true hlo).mono ?_
      rintro e w5 ⟨rfl, hB5⟩
      have ST5 : Hid (FStep w F w5 F1) := ST4.out.then_below hB5
      have SW5 : Hid (FStep wc F w5 F1) := SW4.out.then_below hB5
      clear hB5
      go_wp2_with fail
      refine (branch_st ST5.out hi t true hhi).mono ?_
      rintro e w6 ⟨rfl, hB6⟩
      have ST6 : Hid (FStep w F w6 F1) := ST5.out.then_below hB6
      have SW6 : Hid (FStep wc F w6 F1) := SW5.out.then_below hB6
      clear hB6
      go_wp2_with fail
      refine (HIS.out F1 w6 _ _ ST6.out a1l b1l (by omega) (by omega) (by omega)).mono ?_
      rintro e w7 ⟨n2, F2, rfl, hr⟩
      have ST7 : Hid (FStep w F w7 F2) := ST6.out.trans hr.st
      have SW7 : Hid (FStep wc F w7 F2) := SW6.out.trans hr.st
      have q4 := hr.len
      have q5 := hr.nj
      have q6 := hr.lt
      have R2 := hide hr
      clear hr
      have hl12 := R2.out.st.le
      have hN2 : F2.N = F.N := ST7.out.N
      have t1 : t < topK F2.ks n1 := by
        have h1 := R1.out.top
        rw [R2.out.st.top q3]
        omega
      have t2 : t < topK F2.ks n2 := by
        have h1 := R2.out.top
        rw [ST6.out.top a1l, ST6.out.top b1l] at h1
        omega
      have hnode := node_any F2 t n1 n2 w7 ST7.out.here (by omega) (by omega) q6 t1 t2 (by omega)
      rw [ST7.out.p] at hnode
      have HND := hide hnode
      clear hnode
      go_wp2_with fail
      refine HND.out.mono ?_
      rintro e w8 ⟨n3, F3, rfl, hr⟩
      have ST8 : Hid (FStep w F w8 F3) := ST7.out.trans hr.st
      have SW8 : Hid (FStep wc F w8 F3) := SW7.out.trans hr.st
      have q7 := hr.len
      have R3 := hide hr
      clear hr
      have hbx8 := (SW8.out.block hs1 HNS.out).1.trans HBX1.out
      have e0 := cellOf hbx8 0
      have e1 := cellOf hbx8 1
      have e2 := cellOf hbx8 2
      have d3 := ST8.out.here.cellJ
      rw [ST8.out.p, ST8.out.bj] at d3
      clear hbx8
      have hjo := ST8.out.here.joined
      rw [ST8.out.bj] at hjo
      have HJO := hide hjo
      clear hjo
      have hle12 := ST7.out.le
      have hle13 := ST8.out.le
      go_wp2_with fail
      go_still_tail 6, (by kernel_rfl)
      change wpList _ _ _ _ _ w8.drew
      refine wpList_put _ rfl _ _ _ 97 rfl (show MapIs _ w8.drew _ _ _ _ _ _ from HJO.out) paLaw Try.underlying97 Try.underlying3 paV_inj (by have h2 := ST8.out.here.small.2.1; unfold maxLen; omega) (o, lo, hi) ⟨_, HKEY.out⟩ (n3 : Int) (wf63 (by have h1 := R3.out.lt; have h2 := ST8.out.here.small.1; unfold I63; omega)) rfl rfl rfl ?_
      intro w9 hm9 hg9
      have HM9 := hide hm9
      have HG9 : Hid (w8.grownBy w9 (some F.bj)) := ⟨hg9.os, hg9.tape, hg9.output, hg9.size, hg9.block⟩
      clear hm9 hg9 e0 e1 e2 d3
      go_wp2_with fail
      go_ret
      have q8 := R3.out.nj
      have q9 := R3.out.lt
      have hm := HM9.out
      have hg := HG9.out
      rw [← ST8.out.bj] at hm hg
      have hevf : ∀ v, ev F3.ks v n3 = opB o (ev F3.ks v lo) (ev F3.ks v hi) := fun v => by
        have hwf := H.out.wf
        rw [ST8.out.ev hwf hlo, ST8.out.ev hwf hhi, R3.out.ev]
        cases hv : v t with
        | false =>
          rw [if_neg (by simp), R2.out.st.ev ST6.out.here.wf q3, R1.out.ev, brK_ev hwf hlo htN v hv, brK_ev hwf hhi htN v hv]
        | true =>
          rw [if_pos rfl, R2.out.ev, ST6.out.ev hwf a1l, ST6.out.ev hwf b1l, brK_ev hwf hlo htN v hv, brK_ev hwf hhi htN v hv]
      have st9 := ST8.out.here.putJ hm hg (by omega) q9 (by omega) (by omega) hevf (by rw [ST8.out.top hlo, ST8.out.top hhi, HT.out]; exact R3.out.top)
      exact ⟨n3, _, rfl, HFIN.out _ _ _ ⟨ST8.out.trans st9, q9, by show F3.ks.length + 1 ≤ _; omega, by show F3.nj + 1 + 1 ≤ _; omega, fun v => by
        have hwf := H.out.wf
        show ev F3.ks v n3 = _
        rw [hevf v, ST8.out.ev hwf hlo, ST8.out.ev hwf hhi], by rw [HT.out]; exact R3.out.top⟩⟩
end Go.Proofs.Ytohofcmikfkilaa
/- Opposite, option, all of some nodes: walks. -/
namespace Go.Proofs.Ytohofcmikfkilaa
open Go.RowKit
open Go.Maps (Keyed)
set_option linter.unusedVariables false
set_option linter.unusedSimpArgs false
/-- A later forest, larger by at most k times 2 to the number of options. -/
structure OpR (k : Nat) (w : World) (F : Fo) (w' : World) (F' : Fo) : Prop where
  st : FStep w F w' F'
  len : F'.ks.length ≤ F.ks.length + k * 2 ^ F.N
  nj : F'.nj ≤ F.nj + k * 2 ^ F.N
theorem OpR.refl {w : World} {F : Fo} (h : FoAt w F) (k : Nat) : OpR k w F w F := ⟨FStep.refl h, by omega, by omega⟩
theorem OpR.trans {k l : Nat} {a b c : World} {F G H : Fo} (h : OpR k a F b G) (g : OpR l b G c H) : OpR (k + l) a F c H := by
  have h1 := h.len
  have h2 := h.nj
  have h3 := g.len
  have h4 := g.nj
  rw [h.st.N] at h3 h4
  refine ⟨h.st.trans g.st, ?_, ?_⟩
  · rw [Nat.add_mul]; omega
  · rw [Nat.add_mul]; omega
theorem OpR.then_below {k : Nat} {a b c : World} {F G : Fo} (h : OpR k a F b G) (hb : Below b.heap.size b c) : OpR k a F c G := ⟨h.st.then_below hb, h.len, h.nj⟩
theorem OpR.after_below {k : Nat} {a b c : World} {F G : Fo} (hF : FoAt a F) (hb : Below a.heap.size a b) (h : OpR k b F c G) : OpR k a F c G := ⟨(FStep.of_below hF hb).trans h.st, h.len, h.nj⟩
theorem OpR.mono {k l : Nat} {a b : World} {F G : Fo} (h : OpR k a F b G) (hk : k ≤ l) : OpR l a F b G := by
  have h1 := h.len
  have h2 := h.nj
  have h3 := Nat.mul_le_mul_right (2 ^ F.N) hk
  exact ⟨h.st, by omega, by omega⟩
theorem OpR.of_join {d : Nat} {w w' : World} {F F' : Fo} {o : Int} {a b n : Nat} (h : JoinR d w F o a b n w' F') (hd : d ≤ F.N) : OpR 1 w F w' F' := by
  have h1 := h.len
  have h2 := h.nj
  have h3 : 2 ^ d ≤ 2 ^ F.N := Nat.pow_le_pow_right (by omega) hd
  exact ⟨h.st, by omega, by omega⟩
/-- There is room for k more steps. -/
def Room (F : Fo) (k : Nat) : Prop := F.ks.length + k * 2 ^ F.N ≤ 1073741824 ∧ F.nj + k * 2 ^ F.N ≤ 1073741824
theorem Room.step {k l : Nat} {w w' : World} {F F' : Fo} (hr : Room F (k + l)) (h : OpR k w F w' F') : Room F' l := by
  have h1 := h.len
  have h2 := h.nj
  obtain ⟨h3, h4⟩ := hr
  rw [Nat.add_mul] at h3 h4
  unfold Room
  rw [h.st.N]
  omega
theorem Room.mono {k l : Nat} {F : Fo} (hr : Room F k) (h : l ≤ k) : Room F l := by
  have h3 := Nat.mul_le_mul_right (2 ^ F.N) h
  obtain ⟨h4, h5⟩ := hr
  exact ⟨by omega, by omega⟩
/-- Two nodes joined, from a later forest. -/
theorem join_op {F : Fo} (o : Int) (a b : Nat) (w : World) (ho : o = -4 ∨ o = -5 ∨ o = -6) (h : FoAt w F) (ha : a < F.ks.length) (hb : b < F.ks.length) (hr : Room F 1) :
    Calls Try.prog 94 #[.pointer (some ⟨F.p, 0, none⟩), .int .i64 o, .int .i64 a, .int .i64 b] w
      fun e w' => ∃ n F', e = .returned (.int .i64 (n : Nat)) ∧ OpR 1 w F w' F' ∧ n < F'.ks.length ∧ ∀ v, ev F'.ks v n = opB o (ev F.ks v a) (ev F.ks v b) := by
  unfold Room at hr
  refine (join_any F.N F o a b w ho h ha hb (by omega) (by omega) (by omega)).mono ?_
  rintro e w' ⟨n, F', rfl, hj⟩
  exact ⟨n, F', rfl, OpR.of_join hj (Nat.le_refl _), hj.lt, hj.ev⟩
set_option maxRecDepth 100000 in
theorem not_any (F : Fo) (n : Nat) (w : World) (h : FoAt w F) (hn : n < F.ks.length) (hr : Room F 1) :
    Calls Try.prog 83 #[.pointer (some ⟨F.p, 0, none⟩), .int .i64 n] w
      fun e w' => ∃ m F', e = .returned (.int .i64 (m : Nat)) ∧ OpR 1 w F w' F' ∧ m < F'.ks.length ∧ ∀ v, ev F'.ks v m = !ev F.ks v n := by
  have h2 := h.wf.two
  have H := hide h
  have HR := hide hr
  clear h hr
  go_enter Try.func83, Try.ntmps83
  go_wp2_with (go_at_call 94; refine (join_op (-6) n 0 _ (by omega) H.out hn (by omega) HR.out).mono ?_; rintro e w1 ⟨m, F1, rfl, h1, h2, h3⟩; have H1 := hide h1; have H3 := hide h3; clear h1 h3)
  go_ret
  exact ⟨m, F1, rfl, H1.out, h2, fun v => by rw [H3.out v, ev_zero]; cases ev F.ks v n <;> rfl⟩
set_option maxRecDepth 100000 in
theorem literal_any (F : Fo) (o : Nat) (b : Bool) (w : World) (h : FoAt w F) (ho : o < F.N) (hr : Room F 1) :
    Calls Try.prog 89 #[.pointer (some ⟨F.p, 0, none⟩), .int .i64 o, .bool b] w
      fun e w' => ∃ m F', e = .returned (.int .i64 (m : Nat)) ∧ OpR 1 w F w' F' ∧ m < F'.ks.length ∧ ∀ v, ev F'.ks v m = (v o == b) := by
  have h2 := h.wf.two
  have h3 := h.wf.top0
  have h4 := h.wf.top1
  have hp := pow_pos2 F.N
  have h01 := node_any F o 0 1 w h ho (by omega) (by omega) (by omega) (by omega) (by unfold Room at hr; omega)
  have h10 := node_any F o 1 0 w h ho (by omega) (by omega) (by omega) (by omega) (by unfold Room at hr; omega)
  have H01 := hide h01
  have H10 := hide h10
  have HP := hide hp
  clear h hr h3 h4 h01 h10 hp
  cases b with
  | true =>
    go_enter Try.func89, Try.ntmps89
    go_wp2_with (go_at_call 109; refine H01.out.mono ?_; rintro e w1 ⟨m, F1, rfl, h1⟩; have H1 := hide h1; clear h1)
    go_ret
    have h1 := H1.out.len
    have h2 := H1.out.nj
    have hp := HP.out
    exact ⟨m, F1, rfl, ⟨H1.out.st, by omega, by omega⟩, H1.out.lt, fun v => by rw [H1.out.ev v, ev_zero, ev_one]; cases v o <;> rfl⟩
  | false =>
    go_enter Try.func89, Try.ntmps89
    go_wp2_with (go_at_call 109; refine H10.out.mono ?_; rintro e w1 ⟨m, F1, rfl, h1⟩; have H1 := hide h1; clear h1)
    go_ret
    have h1 := H1.out.len
    have h2 := H1.out.nj
    have hp := HP.out
    exact ⟨m, F1, rfl, ⟨H1.out.st, by omega, by omega⟩, H1.out.lt, fun v => by rw [H1.out.ev v, ev_zero, ev_one]; cases v o <;> rfl⟩
/-- Nodes in a block of their own. -/
def NodesAt (w : World) (b : Nat) (l : List Nat) : Prop := w.heap[b]? = some (.cells (l.map fun (n : Nat) => Value.int .i64 n).toArray 3 (0, 0))
theorem NodesAt.cell {w : World} {b : Nat} {l : List Nat} (h : NodesAt w b l) {i : Nat} (hi : i < l.length) : w.cell? ⟨b, i, none⟩ = some (.int .i64 (l.getD i 0 : Nat)) := by
  rw [cellOf h i]
  simp [hi]
set_option maxRecDepth 100000 in
theorem and_any (F : Fo) (b : Nat) (l : List Nat) (w : World) (h : FoAt w F) (hl : ∀ n ∈ l, n < F.ks.length) (hb : NodesAt w b l) (hnb : ¬ SF F b) (hlen : l.length ≤ 100) (hr : Room F l.length) :
    Calls Try.prog 73 #[.pointer (some ⟨F.p, 0, none⟩), .slice (some ⟨b, 0, none⟩) l.length l.length] w
      fun e w' => ∃ m F', e = .returned (.int .i64 (m : Nat)) ∧ OpR l.length w F w' F' ∧ m < F'.ks.length ∧ ∀ v, ev F'.ks v m = l.all (fun n => ev F.ks v n) := by
  have h2 := h.wf.two
  have H := hide h
  have HR := hide hr
  have HL := hide hl
  have HB := hide hb
  have HNB := hide hnb
  have hbl : b < w.heap.size := box_lt hb
  clear h hr hl hb hnb
  go_enter Try.func73, Try.ntmps73
  go_wp2
  go_loopw [5, 10] (fun n i wr => ∃ (k m : Nat) (F1 : Fo), k ≤ l.length ∧ i = .int .i64 k ∧ n = .int .i64 m ∧ Hid (OpR k w F wr F1) ∧ m < F1.ks.length ∧ Hid (∀ v, ev F1.ks v m = (l.take k).all (fun n => ev F.ks v n))) (fun _ i _ => l.length - (intOf i).toNat)
  case atStart => exact ⟨0, 1, F, Nat.zero_le _, rfl, rfl, OpR.refl H.out 0, by omega, fun v => rfl⟩
  case round =>
    obtain ⟨k, m, F1, hk, rfl, rfl, hop, hm, hev⟩ := hrel
    by_cases hlt : k < l.length
    · obtain ⟨x, hx⟩ : ∃ x, l.getD k 0 = x := ⟨_, rfl⟩
      have hxm : x ∈ l := by
        rw [← hx, List.getD_eq_getElem?_getD, List.getElem?_eq_getElem hlt]
        exact List.getElem_mem _
      have hxl := HL.out x hxm
      have hle := hop.out.st.le
      have c0 : wr.cell? ⟨b, k, none⟩ = some (.int .i64 (x : Nat)) := by
        have := NodesAt.cell (((hop.out.st.block hbl HNB.out).1).trans HB.out) hlt
        rwa [hx] at this
      have hjo := join_op (-4) m x wr (by omega) hop.out.st.here hm (by omega) ((HR.out.mono (show k + 1 ≤ l.length by omega)).step hop.out)
      rw [hop.out.st.p] at hjo
      have HJO := hide hjo
      have HX := hide hx
      clear hjo hx hxm
      go_wp2_with (go_at_call 94; refine HJO.out.mono ?_; rintro e w1 ⟨m2, F2, rfl, h1, h2, h3⟩; have H1 := hide h1; have H3 := hide h3; clear h1 h3)
      go_roundw
      case rel =>
        refine ⟨k + 1, m2, F2, by omega, by go_num, rfl, hop.out.trans H1.out, h2, fun v => ?_⟩
        rw [H3.out v, hev.out v, List.take_succ_eq_append_getElem hlt, List.all_append, hop.out.st.ev H.out.wf hxl]
        have : l[k] = x := by
          have := HX.out
          rw [List.getD_eq_getElem?_getD, List.getElem?_eq_getElem hlt] at this
          simpa using this
        simp [opB, this]
      case measure => simp [intOf]; omega
    · go_wp2
      go_ret
      obtain rfl : k = l.length := by omega
      exact ⟨m, F1, rfl, hop.out, hm, fun v => by rw [hev.out v, List.take_length]⟩
end Go.Proofs.Ytohofcmikfkilaa
/- The node of a formula: walk. -/
namespace Go.Proofs.Ytohofcmikfkilaa
open Go.RowKit
open Go.Maps (Keyed)
set_option linter.unusedVariables false
set_option linter.unusedSimpArgs false
theorem infoInt : (Try.prog.info? 3).map (fun i => (i.zero, i.size, i.bytes)) = some (some (.int .i64 0), 1, 8) := by kernel_rfl
/-- The slice v holds the numbers f, below block B. -/
def Ints (w : World) (B : Nat) (v : Value) (f : List Int) : Prop := Sl w B 1 v f.length (fun i _ => .int .i64 (f.getD i 0))
theorem operands_any (o : Int) (w : World) :
    Calls Try.prog 95 #[.int .i64 o] w fun e w' => e = .returned (.int .i64 (arO o : Nat)) ∧ w = w' := by
  by_cases h3 : o = -3
  · subst h3
    go_enter Try.func95, Try.ntmps95
    go_wp2
    go_ret
    exact ⟨rfl, rfl⟩
  by_cases h4 : o = -4
  · subst h4
    go_enter Try.func95, Try.ntmps95
    go_wp2
    go_ret
    exact ⟨rfl, rfl⟩
  by_cases h5 : o = -5
  · subst h5
    go_enter Try.func95, Try.ntmps95
    go_wp2
    go_ret
    exact ⟨rfl, rfl⟩
  by_cases h6 : o = -6
  · subst h6
    go_enter Try.func95, Try.ntmps95
    go_wp2
    go_ret
    exact ⟨rfl, rfl⟩
  have e : arO o = 0 := by unfold arO; rw [if_neg h3, if_neg (by omega)]
  have k3 : (o == -3) = false := by simpa using h3
  have k4 : (o == -4) = false := by simpa using h4
  have k5 : (o == -5) = false := by simpa using h5
  have k6 : (o == -6) = false := by simpa using h6
  have HE := hide e
  clear h3 h4 h5 h6 e
  go_enter Try.func95, Try.ntmps95
  go_wp2
  go_ret
  exact ⟨by rw [HE.out]; rfl, rfl⟩
/-- The stack of nodes. -/
def Stk (B : Nat) (w : World) (F : Fo) (sv : Value) (S : List Nat) : Prop := w.ownsRow B 3 1 sv S.length (S.map fun (n : Nat) => Value.int .i64 n) ∧ ∀ b, sv.ownBlock = some b → ¬ SF F b
theorem Stk.step {B : Nat} {w w' : World} {F F' : Fo} {sv : Value} {S : List Nat} (h : Stk B w F sv S) (st : FStep w F w' F') : Stk B w' F' sv S := by
  obtain ⟨h1, h2⟩ := h
  have hk : ∀ b, sv.ownBlock = some b → w'.heap[b]? = w.heap[b]? ∧ ¬ SF F' b := fun b hb => st.block (h1.lt b hb).2 (h2 b hb)
  refine ⟨⟨h1.1, ?_⟩, fun b hb => (hk b hb).2⟩
  rcases h1.2 with hn | ⟨g, cap, cur, rfl, q4, q5, q6⟩
  · exact .inl hn
  · exact .inr ⟨g, cap, cur, rfl, q4, ((hk g rfl).1).trans q5, q6⟩
theorem Stk.below {B : Nat} {w w' : World} {F : Fo} {sv : Value} {S : List Nat} (h : Stk B w F sv S) (hb : Below w.heap.size w w') : Stk B w' F sv S := ⟨owns_below h.1 hb, h.2⟩

theorem Stk.shape {B : Nat} {w : World} {F : Fo} {sv : Value} {S : List Nat} (h : Stk B w F sv S) : ∃ A cap, sv = .slice A S.length cap ∧ S.length ≤ cap ∧ cap ≤ maxLen := by
  rcases h.1.2 with ⟨h1, h2⟩ | ⟨g, cap, cur, h1, _, _, h2, h3, _⟩
  · exact ⟨none, 0, by rw [h1, h2], by omega, by unfold maxLen; omega⟩
  · exact ⟨_, cap, h1, h2, h3⟩
theorem Stk.cells {B : Nat} {w : World} {F : Fo} {A : Option Addr} {n cap : Nat} {S : List Nat} (h : Stk B w F (.slice A n cap) S) (hn : 0 < S.length) : ∃ g, A = some ⟨g, 0, none⟩ ∧ g < w.heap.size ∧ ¬ SF F g ∧ ∀ i, i < S.length → w.cell? ⟨g, i, none⟩ = some (.int .i64 (S.getD i 0 : Nat)) := by
  obtain ⟨g, cap', hv, _, hl⟩ := h.1.form hn
  injection hv with h1 h2 h3
  subst h1
  refine ⟨g, rfl, hl, h.2 g rfl, fun i hi => ?_⟩
  have := h.1.cells (g := g) rfl i (.int .i64 (S.getD i 0 : Nat)) (by simp [hi])
  have he : (⟨g, 0, none⟩ : Addr).add i = ⟨g, i, none⟩ := by
    unfold Addr.add
    split
    · rename_i h0; rw [h0]
    · rw [Nat.zero_add]
  rwa [he] at this
theorem Stk.cut {B : Nat} {w : World} {F : Fo} {A : Option Addr} {n cap : Nat} {S : List Nat} (h : Stk B w F (.slice A n cap) S) {r : Nat} (hr : r ≤ S.length) : w.ownsRow B 3 1 (.slice A r cap) r ((S.take r).map fun (n : Nat) => Value.int .i64 n) := by
  obtain ⟨⟨h1, ⟨h2, h3⟩ | ⟨g, cap', cur, h2, h3, h4, h5, h6, h7, h8⟩⟩, _⟩ := h
  · injection h2 with e1 e2 e3
    subst e1 e3
    obtain rfl : r = 0 := by omega
    exact ⟨by simp, .inl ⟨rfl, rfl⟩⟩
  · injection h2 with e1 e2 e3
    subst e1 e3
    refine ⟨by simp; omega, .inr ⟨g, cap, cur, rfl, h3, h4, by omega, h6, h7, ?_⟩⟩
    rw [List.map_take, ← h8, List.take_take, Nat.mul_one, Nat.mul_one, Nat.min_eq_left hr]
theorem OpR.own {k : Nat} {w wc w1 : World} {F F2 : Fo} {T : Nat → Prop} (h : OpR k w F wc F2) (hg : Keeps T wc w1) (hT : ∀ i, T i → w.heap.size ≤ i) (hn : ∀ i, SF F2 i → ¬ T i) : OpR k w F w1 F2 :=
  ⟨⟨h.st.here.keeps hg hn, h.st.ba, h.st.p, h.st.N, h.st.bk, h.st.bj, h.st.ks, h.st.kb, h.st.keep.trans hg (fun i hi ht => by have := hT i ht; omega)⟩, h.len, h.nj⟩
theorem rev_top {α : Type} {S : List Nat} {p : Nat} (e : Nat → α) (h : S.length = p + 1) : (S.map e).reverse = e (S.getD p 0) :: ((S.take p).map e).reverse := by
  have : S = S.take p ++ [S.getD p 0] := by
    have h1 := List.take_succ_eq_append_getElem (l := S) (i := p) (by omega)
    rw [List.take_of_length_le (by omega)] at h1
    rw [List.getD_eq_getElem?_getD, List.getElem?_eq_getElem (by omega)]
    exact h1
  conv => lhs; rw [this]
  simp
theorem rev_top2 {α : Type} {S : List Nat} {p : Nat} (e : Nat → α) (h : S.length = p + 2) : (S.map e).reverse = e (S.getD (p + 1) 0) :: e (S.getD p 0) :: ((S.take p).map e).reverse := by
  rw [rev_top e h, rev_top (S := S.take (p + 1)) (p := p) e (by simp; omega), List.take_take, Nat.min_eq_left (by omega)]
  congr 2
  simp [List.getD_eq_getElem?_getD]
set_option maxRecDepth 100000 in
set_option maxHeartbeats 4000000 in
theorem grow_any (F : Fo) (f : List Int) (fv : Value) (w : World) (h : FoAt w F) (hB : F.base ≤ w.heap.size) (hv : validF F.N f = true) (hf : Ints w F.base fv f) (hr : Room F f.length) :
    Calls Try.prog 61 #[.pointer (some ⟨F.p, 0, none⟩), fv] w
      fun e w' => ∃ m F', e = .returned (.int .i64 (m : Nat)) ∧ OpR f.length w F w' F' ∧ m < F'.ks.length ∧ ∀ v, ev F'.ks v m = evF1 v f := by
  obtain ⟨i0, hi0, hz0, hz1, hz2⟩ := info_parts infoInt
  have hsm := h.small
  obtain ⟨p1, p2⟩ := validF_pos hv
  obtain ⟨A, b, off, cap, rfl, hnc, hA, hc⟩ := hf
  obtain ⟨rfl, hbb⟩ : A = some ⟨b, off, none⟩ ∧ b < F.base := by
    rcases hA with h | h
    · exact h
    · omega
  have hnb : ¬ SF F b := fun e => by have := h.sbase e; omega
  have HC := hide hc
  have H := hide h
  have HV := hide hv
  have HR := hide hr
  have HNB := hide hnb
  clear h hv hr hc hnb hA
  have hlen : (f.length : Int) ≤ 100 := by omega
  have hnil : Hid (∀ n ∈ ([] : List Nat), n < F.ks.length) := by intro n hn; cases hn
  have hnil2 : Hid (∀ v, (([] : List Nat).map (ev F.ks v)).reverse = evS v (f.drop f.length)) := by intro v; simp [evS]
  go_enter Try.func61, Try.ntmps61
  go_wp2
  go_loopw [5, 6] (fun sv i wr => ∃ (j : Nat) (S : List Nat) (F1 : Fo), j ≤ f.length ∧ i = .int .i64 ((j : Int) - 1) ∧ Hid (Stk w.heap.size wr F1 sv S) ∧ Hid (OpR (f.length - j) w F wr F1) ∧ Hid (∀ n ∈ S, n < F1.ks.length) ∧ Hid (∀ v, (S.map (ev F1.ks v)).reverse = evS v (f.drop j))) (fun _ i _ => (intOf i + 1).toNat)
  case atStart => exact ⟨f.length, [], F, Nat.le_refl _, by go_num, ⟨World.ownsRow_nil w w.heap.size 3 1, fun b hb => by simp [Value.ownBlock] at hb⟩, OpR.refl H.out _, hnil, hnil2⟩
  case round =>
    obtain ⟨j, S, F1, hj, rfl, hS, hop, hSl, hev⟩ := hrel
    match j, hj, hop, hev with
    | 0, _, hop, hev =>
      have hS1 : S.length = 1 := by
        have h1 := hev.out (fun _ => false)
        rw [List.drop_zero, validF_one HV.out] at h1
        have := congrArg List.length h1
        simpa using this
      obtain ⟨A1, cap1, rfl, hcap1, hcap2⟩ := hS.out.shape
      obtain ⟨g, rfl, hg1, hg2, hg3⟩ := hS.out.cells (by omega)
      have x0 := hg3 0 (by omega)
      have hk0 : (0 : Int) < (S.length : Int) := by omega
      have hk1 : 0 < S.length := by omega
      have HS1 := hide hS1
      obtain ⟨x, hx⟩ : ∃ x, S.getD 0 0 = x := ⟨_, rfl⟩
      rw [hx] at x0
      have HX := hide hx
      clear hg3 hS1 hx
      go_wp2_with fail
      go_ret
      refine ⟨x, F1, rfl, by have := hop.out; rwa [Nat.sub_zero] at this, hSl.out _ ?_, fun v => ?_⟩
      · rw [← HX.out, List.getD_eq_getElem?_getD, List.getElem?_eq_getElem hk1]; exact List.getElem_mem _
      · have h1 := hev.out v
        rw [List.drop_zero, validF_one HV.out, rev_top (p := 0) _ HS1.out, HX.out] at h1
        injection h1
    | q + 1, hj, hop, hev =>
      have hq : ((q + 1 : Nat) : Int) - 1 = (q : Int) := by omega
      rw [hq]
      clear hq
      obtain ⟨o, ho⟩ : ∃ o, f.getD q 0 = o := ⟨_, rfl⟩
      obtain ⟨w1, _, hv2, hlo, hhi⟩ := vld_at (by have := HV.out; simp only [validF, Bool.and_eq_true] at this; exact this.1) (show q < f.length by omega)
      rw [ho] at hv2 hlo hhi
      have hSn : S.length = w1 + arO o := by
        have h1 := evS_len (fun _ => false) _ _ hv2
        rw [← hev.out, List.length_reverse, List.length_map] at h1
        exact h1
      have hbl := hop.out.st.below H.out hB
      have c0 : wr.cell? ⟨b, off + q, none⟩ = some (.int .i64 o) := by
        have h1 := HC.out q 0 (by omega) (by omega)
        rw [Nat.mul_one, Nat.add_zero, ho] at h1
        exact (hbl.cell (p := ⟨b, off + q, none⟩) hbb).trans h1
      have hbw : b < wr.heap.size := by have := hop.out.st.keep.size; omega
      have hnb1 : ¬ SF F1 b := (hop.out.st.block (by omega) HNB.out).2
      obtain ⟨A1, cap1, rfl, hcap1, hcap2⟩ := hS.out.shape
      have hN1 : F1.N = F.N := hop.out.st.N
      have hS100 : S.length ≤ 100 := by
        have h1 := vld_le _ _ hv2
        rw [List.length_drop] at h1
        omega
      have hroom : Room F1 1 := Room.step (k := f.length - (q + 1)) (HR.out.mono (by omega)) hop.out
      have HRM := hide hroom
      have HOQ := hide ho
      have HSN := hide hSn
      have HN1 := hide hN1
      have HBL := hide hbl
      have HV2 := hide hv2
      have gi0 : (0 : Int) ≤ (q : Int) := by omega
      have gi1 : (q : Int) < (f.length : Int) := by omega
      have gi2 : (0 : Int) ≤ (S.length : Int) := by omega
      have gi3 : (S.length : Int) ≤ 100 := by omega
      clear hroom ho hSn hbl hN1 hv2
      go_upto_block 2 with (fail)
      go_cut [7] from 12 to 72 (fun x wx => ∃ (m : Nat) (F2 : Fo), x = .int .i64 m ∧ Hid (OpR 1 wr F1 wx F2) ∧ m < F2.ks.length ∧ Hid (∀ v, stp v o ((S.map (ev F1.ks v)).reverse) = ev F2.ks v m :: ((S.map (ev F1.ks v)).reverse).drop (arO o)))
      case first =>
        have h2 := hop.out.st.here.wf.two
        by_cases o1 : o = -1
        · subst o1
          go_wp2_with fail
          go_meet
          exact ⟨1, F1, rfl, OpR.refl hop.out.st.here _, by omega, fun v => rfl⟩
        by_cases o2 : o = -2
        · subst o2
          go_wp2_with fail
          go_meet
          exact ⟨0, F1, rfl, OpR.refl hop.out.st.here _, by omega, fun v => rfl⟩
        by_cases o3 : o = -3
        · subst o3
          obtain ⟨p, hp⟩ : ∃ p, S.length = p + 1 := ⟨w1, HSN.out⟩
          obtain ⟨g, rfl, hg1, hg2, hg3⟩ := hS.out.cells (by omega)
          have x0 := hg3 p (by omega)
          obtain ⟨x, hx⟩ : ∃ x, S.getD p 0 = x := ⟨_, rfl⟩
          rw [hx] at x0
          have hxl : x < F1.ks.length := hSl.out x (by rw [← hx, List.getD_eq_getElem?_getD, List.getElem?_eq_getElem (by omega)]; exact List.getElem_mem _)
          have hno := not_any F1 x wr hop.out.st.here hxl HRM.out
          rw [hop.out.st.p] at hno
          have HNO := hide hno
          have HX := hide hx
          have HP := hide hp
          clear hno hx hg3
          have k0 : (1 : Int) ≤ (S.length : Int) := by omega
          have k1 : ((S.length : Int) - 1).toNat = p := by omega
          clear hp
          go_wp2_with (go_at_call 83; refine HNO.out.mono ?_; rintro e w2 ⟨m, F2, rfl, r1, r2, r3⟩; have R1 := hide r1; have R3 := hide r3; clear r1 r3)
          go_meet
          exact ⟨m, F2, rfl, R1.out, r2, fun v => by rw [R3.out v, rev_top _ HP.out, HX.out]; rfl⟩
        by_cases o456 : o = -4 ∨ o = -5 ∨ o = -6
        · obtain ⟨p, hp⟩ : ∃ p, S.length = p + 2 := ⟨w1, by
            have := HSN.out
            unfold arO at this
            rw [if_neg o3, if_pos o456] at this
            exact this⟩
          obtain ⟨g, rfl, hg1, hg2, hg3⟩ := hS.out.cells (by omega)
          have x0 := hg3 (p + 1) (by omega)
          have y0 := hg3 p (by omega)
          obtain ⟨x, hx⟩ : ∃ x, S.getD (p + 1) 0 = x := ⟨_, rfl⟩
          obtain ⟨y, hy⟩ : ∃ y, S.getD p 0 = y := ⟨_, rfl⟩
          rw [hx] at x0
          rw [hy] at y0
          have hxl : x < F1.ks.length := hSl.out x (by rw [← hx, List.getD_eq_getElem?_getD, List.getElem?_eq_getElem (by omega)]; exact List.getElem_mem _)
          have hyl : y < F1.ks.length := hSl.out y (by rw [← hy, List.getD_eq_getElem?_getD, List.getElem?_eq_getElem (by omega)]; exact List.getElem_mem _)
          have hjo := join_op o x y wr.drew o456 (hop.out.st.here.same fun _ _ => rfl) hxl hyl HRM.out
          rw [hop.out.st.p] at hjo
          have HJO := hide hjo
          have HXY := hide (And.intro hx hy)
          have HP := hide hp
          have HO := hide o456
          have k0 : (1 : Int) ≤ (S.length : Int) := by omega
          have k1 : ((S.length : Int) - 1).toNat = p + 1 := by omega
          have k2 : (2 : Int) ≤ (S.length : Int) := by omega
          have k3 : ((S.length : Int) - 2).toNat = p := by omega
          have k4 : IntKind.i64.wrap ((S.length : Int) - 1) = (S.length : Int) - 1 := IntWalk.i64_in _ (by omega)
          have k5 : IntKind.i64.wrap ((S.length : Int) - 2) = (S.length : Int) - 2 := IntWalk.i64_in _ (by omega)
          have k6 : (S.length : Int) - 1 < (S.length : Int) := by omega
          have k7 : (S.length : Int) - 2 < (S.length : Int) := by omega
          clear hjo hx hy hg3 hp
          rcases o456 with rfl | rfl | rfl
          · go_wp2_with fail
            refine wp_region_held_drew (S := (fun w' => Keeps (SF F1) wr w')) (by kernel_rfl) ?_ (fun hHeld => ?_)
            · try dsimp only
              (repeat (first | (with_reducible exact Keeps.refl _ _) | exact hKeep.out | exact hKeepS.out _ | assumption | (with_reducible refine Keeps.drew ?_) | (with_reducible refine Keeps.drewN ?_ _) | (with_reducible refine Keeps.alloc ?_ _) | (with_reducible refine Keeps.setCell ?_ (.inl (by first | exact .inl rfl | exact .inr rfl)) _)))
            refine wpAnyH_take (i := 0) (v := ?v34_1) rfl (by kernel_rfl) (by kernel_rfl) (by kernel_rfl) (fun _ _ _ h => h) (Or.inl ⟨by rfl, ?y34_1⟩) (by assumption) ?r34_1
            case' y34_1 => (intro w hSw; (try dsimp only at hSw); (try have hlS := HLK.out _ hSw); have hcS := kcell hSw; clear hSw; go_simp; try with_reducible rfl)
            try simp only [Act.put, List.getElem_toArray, List.getElem_cons_succ, List.getElem_cons_zero, List.setIfInBounds_toArray, List.set_cons_zero, List.set_cons_succ]
            refine wpAnyH_take (i := 1) (v := ?v34_2) rfl (by kernel_rfl) (by kernel_rfl) (by kernel_rfl) (fun _ _ _ h => h) (Or.inl ⟨by rfl, ?y34_2⟩) (by assumption) ?r34_2
            case' y34_2 => (intro w hSw; (try dsimp only at hSw); (try have hlS := HLK.out _ hSw); have hcS := kcell hSw; clear hSw; go_simp; try with_reducible rfl)
            try simp only [Act.put, List.getElem_toArray, List.getElem_cons_succ, List.getElem_cons_zero, List.setIfInBounds_toArray, List.set_cons_zero, List.set_cons_succ]
            refine wpAnyH_take (i := 2) (v := ?v34_3) rfl (by kernel_rfl) (by kernel_rfl) (by kernel_rfl) (fun _ _ _ h => h) (Or.inl ⟨by rfl, ?y34_3⟩) (by assumption) ?r34_3
            case' y34_3 => (intro w hSw; (try dsimp only at hSw); (try have hlS := HLK.out _ hSw); have hcS := kcell hSw; clear hSw; go_simp; try with_reducible rfl)
            try simp only [Act.put, List.getElem_toArray, List.getElem_cons_succ, List.getElem_cons_zero, List.setIfInBounds_toArray, List.set_cons_zero, List.set_cons_succ]
            refine wpAnyH_take (i := 3) (v := ?v34_4) rfl (by kernel_rfl) (by kernel_rfl) (by kernel_rfl) (fun _ _ _ h => h) (Or.inl ⟨by rfl, ?y34_4⟩) (by assumption) ?r34_4
            case' y34_4 => (intro w hSw; (try dsimp only at hSw); (try have hlS := HLK.out _ hSw); have hcS := kcell hSw; clear hSw; go_simp; try with_reducible rfl)
            try simp only [Act.put, List.getElem_toArray, List.getElem_cons_succ, List.getElem_cons_zero, List.setIfInBounds_toArray, List.set_cons_zero, List.set_cons_succ]
            refine wpAnyH_take (i := 4) (v := ?v34_5) rfl (by kernel_rfl) (by kernel_rfl) (by kernel_rfl) (fun _ _ _ h => h) (Or.inl ⟨by rfl, ?y34_5⟩) (by assumption) ?r34_5
            case' y34_5 => (intro w hSw; (try dsimp only at hSw); (try have hlS := HLK.out _ hSw); have hcS := kcell hSw; clear hSw; go_simp; try with_reducible rfl)
            try simp only [Act.put, List.getElem_toArray, List.getElem_cons_succ, List.getElem_cons_zero, List.setIfInBounds_toArray, List.set_cons_zero, List.set_cons_succ]
            refine wpAnyH_take (i := 5) (v := ?v34_6) rfl (by kernel_rfl) (by kernel_rfl) (by kernel_rfl) (fun _ _ _ h => h) (Or.inl ⟨by rfl, ?y34_6⟩) (by assumption) ?r34_6
            case' y34_6 => (intro w hSw; (try dsimp only at hSw); (try have hlS := HLK.out _ hSw); have hcS := kcell hSw; clear hSw; go_simp; try with_reducible rfl)
            try simp only [Act.put, List.getElem_toArray, List.getElem_cons_succ, List.getElem_cons_zero, List.setIfInBounds_toArray, List.set_cons_zero, List.set_cons_succ]
            refine wpAnyH_take (i := 6) (v := ?v34_7) rfl (by kernel_rfl) (by kernel_rfl) (by kernel_rfl) (fun _ _ _ h => h) (Or.inl ⟨by rfl, ?y34_7⟩) (by assumption) ?r34_7
            case' y34_7 => (intro w hSw; (try dsimp only at hSw); (try have hlS := HLK.out _ hSw); have hcS := kcell hSw; clear hSw; go_simp; try with_reducible rfl)
            try simp only [Act.put, List.getElem_toArray, List.getElem_cons_succ, List.getElem_cons_zero, List.setIfInBounds_toArray, List.set_cons_zero, List.set_cons_succ]
            refine wpAnyH_take (i := 7) (v := ?v34_8) rfl (by kernel_rfl) (by kernel_rfl) (by kernel_rfl) (fun _ _ _ h => h) (Or.inl ⟨by rfl, ?y34_8⟩) (by assumption) ?r34_8
            case' y34_8 => (intro w hSw; (try dsimp only at hSw); (try have hlS := HLK.out _ hSw); have hcS := kcell hSw; clear hSw; go_simp; try with_reducible rfl)
            try simp only [Act.put, List.getElem_toArray, List.getElem_cons_succ, List.getElem_cons_zero, List.setIfInBounds_toArray, List.set_cons_zero, List.set_cons_succ]
            refine wpAnyH_take (i := 8) (v := ?v34_9) rfl (by kernel_rfl) (by kernel_rfl) (by kernel_rfl) (fun _ _ _ h => h) (Or.inl ⟨by rfl, ?y34_9⟩) (by assumption) ?r34_9
            case' y34_9 => (intro w hSw; (try dsimp only at hSw); (try have hlS := HLK.out _ hSw); have hcS := kcell hSw; clear hSw; go_simp; try with_reducible rfl)
            try simp only [Act.put, List.getElem_toArray, List.getElem_cons_succ, List.getElem_cons_zero, List.setIfInBounds_toArray, List.set_cons_zero, List.set_cons_succ]
            refine wpAnyH_take (i := 9) (v := ?v34_10) rfl (by kernel_rfl) (by kernel_rfl) (by kernel_rfl) (fun _ _ _ h => h) (Or.inl ⟨by rfl, ?y34_10⟩) (by assumption) ?r34_10
            case' y34_10 => (intro w hSw; (try dsimp only at hSw); (try have hlS := HLK.out _ hSw); have hcS := kcell hSw; clear hSw; go_simp; try with_reducible rfl)
            try simp only [Act.put, List.getElem_toArray, List.getElem_cons_succ, List.getElem_cons_zero, List.setIfInBounds_toArray, List.set_cons_zero, List.set_cons_succ]
            refine wpAnyH_take (i := 10) (v := ?v34_11) rfl (by kernel_rfl) (by kernel_rfl) (by kernel_rfl) (fun _ _ _ h => h) (Or.inl ⟨by rfl, ?y34_11⟩) (by assumption) ?r34_11
            case' y34_11 => (intro w hSw; (try dsimp only at hSw); (try have hlS := HLK.out _ hSw); have hcS := kcell hSw; clear hSw; go_simp; try with_reducible rfl)
            try simp only [Act.put, List.getElem_toArray, List.getElem_cons_succ, List.getElem_cons_zero, List.setIfInBounds_toArray, List.set_cons_zero, List.set_cons_succ]
            refine wpAnyH_take (i := 11) (v := ?v34_12) rfl (by kernel_rfl) (by kernel_rfl) (by kernel_rfl) (fun _ _ _ h => h) (Or.inl ⟨by rfl, ?y34_12⟩) (by assumption) ?r34_12
            case' y34_12 => (intro w hSw; (try dsimp only at hSw); (try have hlS := HLK.out _ hSw); have hcS := kcell hSw; clear hSw; go_simp; try with_reducible rfl)
            try simp only [Act.put, List.getElem_toArray, List.getElem_cons_succ, List.getElem_cons_zero, List.setIfInBounds_toArray, List.set_cons_zero, List.set_cons_succ]
            refine wpAnyH_take (i := 12) (v := ?v34_13) rfl (by kernel_rfl) (by kernel_rfl) (by kernel_rfl) (fun _ _ _ h => h) (Or.inl ⟨by rfl, ?y34_13⟩) (by assumption) ?r34_13
            case' y34_13 => (intro w hSw; (try dsimp only at hSw); (try have hlS := HLK.out _ hSw); have hcS := kcell hSw; clear hSw; go_simp; try with_reducible rfl)
            try simp only [Act.put, List.getElem_toArray, List.getElem_cons_succ, List.getElem_cons_zero, List.setIfInBounds_toArray, List.set_cons_zero, List.set_cons_succ]
            refine wpAnyH_take (i := 13) (v := ?v34_14) rfl (by kernel_rfl) (by kernel_rfl) (by kernel_rfl) (fun _ _ _ h => h) (Or.inl ⟨by rfl, ?y34_14⟩) (by assumption) ?r34_14
            case' y34_14 => (intro w hSw; (try dsimp only at hSw); (try have hlS := HLK.out _ hSw); have hcS := kcell hSw; clear hSw; go_simp; try with_reducible rfl)
            try simp only [Act.put, List.getElem_toArray, List.getElem_cons_succ, List.getElem_cons_zero, List.setIfInBounds_toArray, List.set_cons_zero, List.set_cons_succ]
            refine wpAnyH_take (i := 14) (v := ?v34_15) rfl (by kernel_rfl) (by kernel_rfl) (by kernel_rfl) (fun _ _ _ h => h) (Or.inl ⟨by rfl, ?y34_15⟩) (by assumption) ?r34_15
            case' y34_15 => (intro w hSw; (try dsimp only at hSw); (try have hlS := HLK.out _ hSw); have hcS := kcell hSw; clear hSw; go_simp; try with_reducible rfl)
            try simp only [Act.put, List.getElem_toArray, List.getElem_cons_succ, List.getElem_cons_zero, List.setIfInBounds_toArray, List.set_cons_zero, List.set_cons_succ]
            refine wpAnyH_ready (rs := [15]) (by kernel_rfl) (by simp) ?_
            refine (AllReadyH.cons rfl (fun K hK => ?_) AllReadyH.nil)
            go_simp
            ((go_at_call 94; refine HJO.out.mono ?_; rintro e w2 ⟨m, F2, rfl, r1, r2, r3⟩; have R1 : Hid (OpR 1 wr F1 w2 F2) := OpR.after_below hop.out.st.here (by repeat (first | exact Below.refl _ _ | assumption | refine Below.drew ?_ | refine Below.drewN ?_ _ | refine Below.allocT ?_ (Nat.le_refl _) _ | refine Below.setCell ?_ (by simp <;> omega) _ | refine Below.to ?_ (by assumption) (Nat.le_refl _))) r1; have R3 := hide r3; have hKeep : Hid (Keeps (SF F1) wr w2) := R1.out.st.keep; clear r1 r3))
            (try dsimp only)
            refine hK.out _ _ ?_ (fun hNext => ?_)
            · try dsimp only
              (repeat (first | (with_reducible exact Keeps.refl _ _) | exact hKeep.out | exact hKeepS.out _ | assumption | (with_reducible refine Keeps.drew ?_) | (with_reducible refine Keeps.drewN ?_ _) | (with_reducible refine Keeps.alloc ?_ _) | (with_reducible refine Keeps.setCell ?_ (.inl (by first | exact .inl rfl | exact .inr rfl)) _)))
            clear hK K hHeld
            have hHeld := hNext
            clear hNext
            (try dsimp only at hHeld)
            try simp only [Act.put, List.getElem_toArray, List.getElem_cons_succ, List.getElem_cons_zero, List.setIfInBounds_toArray, List.set_cons_zero, List.set_cons_succ]
            refine wpAnyH_take (i := 16) (v := ?v34_17) rfl (by kernel_rfl) (by kernel_rfl) (by kernel_rfl) (fun _ _ _ h => h) (Or.inl ⟨by rfl, ?y34_17⟩) (by assumption) ?r34_17
            case' y34_17 => (intro w hSw; (try dsimp only at hSw); (try have hlS := HLK.out _ hSw); have hcS := kcell hSw; clear hSw; go_simp; try with_reducible rfl)
            try simp only [Act.put, List.getElem_toArray, List.getElem_cons_succ, List.getElem_cons_zero, List.setIfInBounds_toArray, List.set_cons_zero, List.set_cons_succ]
            refine wpAnyH_done (by kernel_rfl) ?_ _
            go_wp2_with fail
            go_meet
            exact ⟨m, F2, rfl, R1.out, r2, fun v => by rw [R3.out v, rev_top2 _ HP.out, HXY.out.1, HXY.out.2]; rfl⟩
          · go_wp2_with fail
            refine wp_region_held_drew (S := (fun w' => Keeps (SF F1) wr w')) (by kernel_rfl) ?_ (fun hHeld => ?_)
            · try dsimp only
              (repeat (first | (with_reducible exact Keeps.refl _ _) | exact hKeep.out | exact hKeepS.out _ | assumption | (with_reducible refine Keeps.drew ?_) | (with_reducible refine Keeps.drewN ?_ _) | (with_reducible refine Keeps.alloc ?_ _) | (with_reducible refine Keeps.setCell ?_ (.inl (by first | exact .inl rfl | exact .inr rfl)) _)))
            refine wpAnyH_take (i := 0) (v := ?v35_1) rfl (by kernel_rfl) (by kernel_rfl) (by kernel_rfl) (fun _ _ _ h => h) (Or.inl ⟨by rfl, ?y35_1⟩) (by assumption) ?r35_1
            case' y35_1 => (intro w hSw; (try dsimp only at hSw); (try have hlS := HLK.out _ hSw); have hcS := kcell hSw; clear hSw; go_simp; try with_reducible rfl)
            try simp only [Act.put, List.getElem_toArray, List.getElem_cons_succ, List.getElem_cons_zero, List.setIfInBounds_toArray, List.set_cons_zero, List.set_cons_succ]
            refine wpAnyH_take (i := 1) (v := ?v35_2) rfl (by kernel_rfl) (by kernel_rfl) (by kernel_rfl) (fun _ _ _ h => h) (Or.inl ⟨by rfl, ?y35_2⟩) (by assumption) ?r35_2
            case' y35_2 => (intro w hSw; (try dsimp only at hSw); (try have hlS := HLK.out _ hSw); have hcS := kcell hSw; clear hSw; go_simp; try with_reducible rfl)
            try simp only [Act.put, List.getElem_toArray, List.getElem_cons_succ, List.getElem_cons_zero, List.setIfInBounds_toArray, List.set_cons_zero, List.set_cons_succ]
            refine wpAnyH_take (i := 2) (v := ?v35_3) rfl (by kernel_rfl) (by kernel_rfl) (by kernel_rfl) (fun _ _ _ h => h) (Or.inl ⟨by rfl, ?y35_3⟩) (by assumption) ?r35_3
            case' y35_3 => (intro w hSw; (try dsimp only at hSw); (try have hlS := HLK.out _ hSw); have hcS := kcell hSw; clear hSw; go_simp; try with_reducible rfl)
            try simp only [Act.put, List.getElem_toArray, List.getElem_cons_succ, List.getElem_cons_zero, List.setIfInBounds_toArray, List.set_cons_zero, List.set_cons_succ]
            refine wpAnyH_take (i := 3) (v := ?v35_4) rfl (by kernel_rfl) (by kernel_rfl) (by kernel_rfl) (fun _ _ _ h => h) (Or.inl ⟨by rfl, ?y35_4⟩) (by assumption) ?r35_4
            case' y35_4 => (intro w hSw; (try dsimp only at hSw); (try have hlS := HLK.out _ hSw); have hcS := kcell hSw; clear hSw; go_simp; try with_reducible rfl)
            try simp only [Act.put, List.getElem_toArray, List.getElem_cons_succ, List.getElem_cons_zero, List.setIfInBounds_toArray, List.set_cons_zero, List.set_cons_succ]
            refine wpAnyH_take (i := 4) (v := ?v35_5) rfl (by kernel_rfl) (by kernel_rfl) (by kernel_rfl) (fun _ _ _ h => h) (Or.inl ⟨by rfl, ?y35_5⟩) (by assumption) ?r35_5
            case' y35_5 => (intro w hSw; (try dsimp only at hSw); (try have hlS := HLK.out _ hSw); have hcS := kcell hSw; clear hSw; go_simp; try with_reducible rfl)
            try simp only [Act.put, List.getElem_toArray, List.getElem_cons_succ, List.getElem_cons_zero, List.setIfInBounds_toArray, List.set_cons_zero, List.set_cons_succ]
            refine wpAnyH_take (i := 5) (v := ?v35_6) rfl (by kernel_rfl) (by kernel_rfl) (by kernel_rfl) (fun _ _ _ h => h) (Or.inl ⟨by rfl, ?y35_6⟩) (by assumption) ?r35_6
            case' y35_6 => (intro w hSw; (try dsimp only at hSw); (try have hlS := HLK.out _ hSw); have hcS := kcell hSw; clear hSw; go_simp; try with_reducible rfl)
            try simp only [Act.put, List.getElem_toArray, List.getElem_cons_succ, List.getElem_cons_zero, List.setIfInBounds_toArray, List.set_cons_zero, List.set_cons_succ]
            refine wpAnyH_take (i := 6) (v := ?v35_7) rfl (by kernel_rfl) (by kernel_rfl) (by kernel_rfl) (fun _ _ _ h => h) (Or.inl ⟨by rfl, ?y35_7⟩) (by assumption) ?r35_7
            case' y35_7 => (intro w hSw; (try dsimp only at hSw); (try have hlS := HLK.out _ hSw); have hcS := kcell hSw; clear hSw; go_simp; try with_reducible rfl)
            try simp only [Act.put, List.getElem_toArray, List.getElem_cons_succ, List.getElem_cons_zero, List.setIfInBounds_toArray, List.set_cons_zero, List.set_cons_succ]
            refine wpAnyH_take (i := 7) (v := ?v35_8) rfl (by kernel_rfl) (by kernel_rfl) (by kernel_rfl) (fun _ _ _ h => h) (Or.inl ⟨by rfl, ?y35_8⟩) (by assumption) ?r35_8
            case' y35_8 => (intro w hSw; (try dsimp only at hSw); (try have hlS := HLK.out _ hSw); have hcS := kcell hSw; clear hSw; go_simp; try with_reducible rfl)
            try simp only [Act.put, List.getElem_toArray, List.getElem_cons_succ, List.getElem_cons_zero, List.setIfInBounds_toArray, List.set_cons_zero, List.set_cons_succ]
            refine wpAnyH_take (i := 8) (v := ?v35_9) rfl (by kernel_rfl) (by kernel_rfl) (by kernel_rfl) (fun _ _ _ h => h) (Or.inl ⟨by rfl, ?y35_9⟩) (by assumption) ?r35_9
            case' y35_9 => (intro w hSw; (try dsimp only at hSw); (try have hlS := HLK.out _ hSw); have hcS := kcell hSw; clear hSw; go_simp; try with_reducible rfl)
            try simp only [Act.put, List.getElem_toArray, List.getElem_cons_succ, List.getElem_cons_zero, List.setIfInBounds_toArray, List.set_cons_zero, List.set_cons_succ]
            refine wpAnyH_take (i := 9) (v := ?v35_10) rfl (by kernel_rfl) (by kernel_rfl) (by kernel_rfl) (fun _ _ _ h => h) (Or.inl ⟨by rfl, ?y35_10⟩) (by assumption) ?r35_10
            case' y35_10 => (intro w hSw; (try dsimp only at hSw); (try have hlS := HLK.out _ hSw); have hcS := kcell hSw; clear hSw; go_simp; try with_reducible rfl)
            try simp only [Act.put, List.getElem_toArray, List.getElem_cons_succ, List.getElem_cons_zero, List.setIfInBounds_toArray, List.set_cons_zero, List.set_cons_succ]
            refine wpAnyH_take (i := 10) (v := ?v35_11) rfl (by kernel_rfl) (by kernel_rfl) (by kernel_rfl) (fun _ _ _ h => h) (Or.inl ⟨by rfl, ?y35_11⟩) (by assumption) ?r35_11
            case' y35_11 => (intro w hSw; (try dsimp only at hSw); (try have hlS := HLK.out _ hSw); have hcS := kcell hSw; clear hSw; go_simp; try with_reducible rfl)
            try simp only [Act.put, List.getElem_toArray, List.getElem_cons_succ, List.getElem_cons_zero, List.setIfInBounds_toArray, List.set_cons_zero, List.set_cons_succ]
            refine wpAnyH_take (i := 11) (v := ?v35_12) rfl (by kernel_rfl) (by kernel_rfl) (by kernel_rfl) (fun _ _ _ h => h) (Or.inl ⟨by rfl, ?y35_12⟩) (by assumption) ?r35_12
            case' y35_12 => (intro w hSw; (try dsimp only at hSw); (try have hlS := HLK.out _ hSw); have hcS := kcell hSw; clear hSw; go_simp; try with_reducible rfl)
            try simp only [Act.put, List.getElem_toArray, List.getElem_cons_succ, List.getElem_cons_zero, List.setIfInBounds_toArray, List.set_cons_zero, List.set_cons_succ]
            refine wpAnyH_take (i := 12) (v := ?v35_13) rfl (by kernel_rfl) (by kernel_rfl) (by kernel_rfl) (fun _ _ _ h => h) (Or.inl ⟨by rfl, ?y35_13⟩) (by assumption) ?r35_13
            case' y35_13 => (intro w hSw; (try dsimp only at hSw); (try have hlS := HLK.out _ hSw); have hcS := kcell hSw; clear hSw; go_simp; try with_reducible rfl)
            try simp only [Act.put, List.getElem_toArray, List.getElem_cons_succ, List.getElem_cons_zero, List.setIfInBounds_toArray, List.set_cons_zero, List.set_cons_succ]
            refine wpAnyH_take (i := 13) (v := ?v35_14) rfl (by kernel_rfl) (by kernel_rfl) (by kernel_rfl) (fun _ _ _ h => h) (Or.inl ⟨by rfl, ?y35_14⟩) (by assumption) ?r35_14
            case' y35_14 => (intro w hSw; (try dsimp only at hSw); (try have hlS := HLK.out _ hSw); have hcS := kcell hSw; clear hSw; go_simp; try with_reducible rfl)
            try simp only [Act.put, List.getElem_toArray, List.getElem_cons_succ, List.getElem_cons_zero, List.setIfInBounds_toArray, List.set_cons_zero, List.set_cons_succ]
            refine wpAnyH_take (i := 14) (v := ?v35_15) rfl (by kernel_rfl) (by kernel_rfl) (by kernel_rfl) (fun _ _ _ h => h) (Or.inl ⟨by rfl, ?y35_15⟩) (by assumption) ?r35_15
            case' y35_15 => (intro w hSw; (try dsimp only at hSw); (try have hlS := HLK.out _ hSw); have hcS := kcell hSw; clear hSw; go_simp; try with_reducible rfl)
            try simp only [Act.put, List.getElem_toArray, List.getElem_cons_succ, List.getElem_cons_zero, List.setIfInBounds_toArray, List.set_cons_zero, List.set_cons_succ]
            refine wpAnyH_ready (rs := [15]) (by kernel_rfl) (by simp) ?_
            refine (AllReadyH.cons rfl (fun K hK => ?_) AllReadyH.nil)
            go_simp
            ((go_at_call 94; refine HJO.out.mono ?_; rintro e w2 ⟨m, F2, rfl, r1, r2, r3⟩; have R1 : Hid (OpR 1 wr F1 w2 F2) := OpR.after_below hop.out.st.here (by repeat (first | exact Below.refl _ _ | assumption | refine Below.drew ?_ | refine Below.drewN ?_ _ | refine Below.allocT ?_ (Nat.le_refl _) _ | refine Below.setCell ?_ (by simp <;> omega) _ | refine Below.to ?_ (by assumption) (Nat.le_refl _))) r1; have R3 := hide r3; have hKeep : Hid (Keeps (SF F1) wr w2) := R1.out.st.keep; clear r1 r3))
            (try dsimp only)
            refine hK.out _ _ ?_ (fun hNext => ?_)
            · try dsimp only
              (repeat (first | (with_reducible exact Keeps.refl _ _) | exact hKeep.out | exact hKeepS.out _ | assumption | (with_reducible refine Keeps.drew ?_) | (with_reducible refine Keeps.drewN ?_ _) | (with_reducible refine Keeps.alloc ?_ _) | (with_reducible refine Keeps.setCell ?_ (.inl (by first | exact .inl rfl | exact .inr rfl)) _)))
            clear hK K hHeld
            have hHeld := hNext
            clear hNext
            (try dsimp only at hHeld)
            try simp only [Act.put, List.getElem_toArray, List.getElem_cons_succ, List.getElem_cons_zero, List.setIfInBounds_toArray, List.set_cons_zero, List.set_cons_succ]
            refine wpAnyH_take (i := 16) (v := ?v35_17) rfl (by kernel_rfl) (by kernel_rfl) (by kernel_rfl) (fun _ _ _ h => h) (Or.inl ⟨by rfl, ?y35_17⟩) (by assumption) ?r35_17
            case' y35_17 => (intro w hSw; (try dsimp only at hSw); (try have hlS := HLK.out _ hSw); have hcS := kcell hSw; clear hSw; go_simp; try with_reducible rfl)
            try simp only [Act.put, List.getElem_toArray, List.getElem_cons_succ, List.getElem_cons_zero, List.setIfInBounds_toArray, List.set_cons_zero, List.set_cons_succ]
            refine wpAnyH_done (by kernel_rfl) ?_ _
            go_wp2_with fail
            go_meet
            exact ⟨m, F2, rfl, R1.out, r2, fun v => by rw [R3.out v, rev_top2 _ HP.out, HXY.out.1, HXY.out.2]; rfl⟩
          · go_wp2_with fail
            refine wp_region_held_drew (S := (fun w' => Keeps (SF F1) wr w')) (by kernel_rfl) ?_ (fun hHeld => ?_)
            · try dsimp only
              (repeat (first | (with_reducible exact Keeps.refl _ _) | exact hKeep.out | exact hKeepS.out _ | assumption | (with_reducible refine Keeps.drew ?_) | (with_reducible refine Keeps.drewN ?_ _) | (with_reducible refine Keeps.alloc ?_ _) | (with_reducible refine Keeps.setCell ?_ (.inl (by first | exact .inl rfl | exact .inr rfl)) _)))
            refine wpAnyH_take (i := 0) (v := ?v36_1) rfl (by kernel_rfl) (by kernel_rfl) (by kernel_rfl) (fun _ _ _ h => h) (Or.inl ⟨by rfl, ?y36_1⟩) (by assumption) ?r36_1
            case' y36_1 => (intro w hSw; (try dsimp only at hSw); (try have hlS := HLK.out _ hSw); have hcS := kcell hSw; clear hSw; go_simp; try with_reducible rfl)
            try simp only [Act.put, List.getElem_toArray, List.getElem_cons_succ, List.getElem_cons_zero, List.setIfInBounds_toArray, List.set_cons_zero, List.set_cons_succ]
            refine wpAnyH_take (i := 1) (v := ?v36_2) rfl (by kernel_rfl) (by kernel_rfl) (by kernel_rfl) (fun _ _ _ h => h) (Or.inl ⟨by rfl, ?y36_2⟩) (by assumption) ?r36_2
            case' y36_2 => (intro w hSw; (try dsimp only at hSw); (try have hlS := HLK.out _ hSw); have hcS := kcell hSw; clear hSw; go_simp; try with_reducible rfl)
            try simp only [Act.put, List.getElem_toArray, List.getElem_cons_succ, List.getElem_cons_zero, List.setIfInBounds_toArray, List.set_cons_zero, List.set_cons_succ]
            refine wpAnyH_take (i := 2) (v := ?v36_3) rfl (by kernel_rfl) (by kernel_rfl) (by kernel_rfl) (fun _ _ _ h => h) (Or.inl ⟨by rfl, ?y36_3⟩) (by assumption) ?r36_3
            case' y36_3 => (intro w hSw; (try dsimp only at hSw); (try have hlS := HLK.out _ hSw); have hcS := kcell hSw; clear hSw; go_simp; try with_reducible rfl)
            try simp only [Act.put, List.getElem_toArray, List.getElem_cons_succ, List.getElem_cons_zero, List.setIfInBounds_toArray, List.set_cons_zero, List.set_cons_succ]
            refine wpAnyH_take (i := 3) (v := ?v36_4) rfl (by kernel_rfl) (by kernel_rfl) (by kernel_rfl) (fun _ _ _ h => h) (Or.inl ⟨by rfl, ?y36_4⟩) (by assumption) ?r36_4
            case' y36_4 => (intro w hSw; (try dsimp only at hSw); (try have hlS := HLK.out _ hSw); have hcS := kcell hSw; clear hSw; go_simp; try with_reducible rfl)
            try simp only [Act.put, List.getElem_toArray, List.getElem_cons_succ, List.getElem_cons_zero, List.setIfInBounds_toArray, List.set_cons_zero, List.set_cons_succ]
            refine wpAnyH_take (i := 4) (v := ?v36_5) rfl (by kernel_rfl) (by kernel_rfl) (by kernel_rfl) (fun _ _ _ h => h) (Or.inl ⟨by rfl, ?y36_5⟩) (by assumption) ?r36_5
            case' y36_5 => (intro w hSw; (try dsimp only at hSw); (try have hlS := HLK.out _ hSw); have hcS := kcell hSw; clear hSw; go_simp; try with_reducible rfl)
            try simp only [Act.put, List.getElem_toArray, List.getElem_cons_succ, List.getElem_cons_zero, List.setIfInBounds_toArray, List.set_cons_zero, List.set_cons_succ]
            refine wpAnyH_take (i := 5) (v := ?v36_6) rfl (by kernel_rfl) (by kernel_rfl) (by kernel_rfl) (fun _ _ _ h => h) (Or.inl ⟨by rfl, ?y36_6⟩) (by assumption) ?r36_6
            case' y36_6 => (intro w hSw; (try dsimp only at hSw); (try have hlS := HLK.out _ hSw); have hcS := kcell hSw; clear hSw; go_simp; try with_reducible rfl)
            try simp only [Act.put, List.getElem_toArray, List.getElem_cons_succ, List.getElem_cons_zero, List.setIfInBounds_toArray, List.set_cons_zero, List.set_cons_succ]
            refine wpAnyH_take (i := 6) (v := ?v36_7) rfl (by kernel_rfl) (by kernel_rfl) (by kernel_rfl) (fun _ _ _ h => h) (Or.inl ⟨by rfl, ?y36_7⟩) (by assumption) ?r36_7
            case' y36_7 => (intro w hSw; (try dsimp only at hSw); (try have hlS := HLK.out _ hSw); have hcS := kcell hSw; clear hSw; go_simp; try with_reducible rfl)
            try simp only [Act.put, List.getElem_toArray, List.getElem_cons_succ, List.getElem_cons_zero, List.setIfInBounds_toArray, List.set_cons_zero, List.set_cons_succ]
            refine wpAnyH_take (i := 7) (v := ?v36_8) rfl (by kernel_rfl) (by kernel_rfl) (by kernel_rfl) (fun _ _ _ h => h) (Or.inl ⟨by rfl, ?y36_8⟩) (by assumption) ?r36_8
            case' y36_8 => (intro w hSw; (try dsimp only at hSw); (try have hlS := HLK.out _ hSw); have hcS := kcell hSw; clear hSw; go_simp; try with_reducible rfl)
            try simp only [Act.put, List.getElem_toArray, List.getElem_cons_succ, List.getElem_cons_zero, List.setIfInBounds_toArray, List.set_cons_zero, List.set_cons_succ]
            refine wpAnyH_take (i := 8) (v := ?v36_9) rfl (by kernel_rfl) (by kernel_rfl) (by kernel_rfl) (fun _ _ _ h => h) (Or.inl ⟨by rfl, ?y36_9⟩) (by assumption) ?r36_9
            case' y36_9 => (intro w hSw; (try dsimp only at hSw); (try have hlS := HLK.out _ hSw); have hcS := kcell hSw; clear hSw; go_simp; try with_reducible rfl)
            try simp only [Act.put, List.getElem_toArray, List.getElem_cons_succ, List.getElem_cons_zero, List.setIfInBounds_toArray, List.set_cons_zero, List.set_cons_succ]
            refine wpAnyH_take (i := 9) (v := ?v36_10) rfl (by kernel_rfl) (by kernel_rfl) (by kernel_rfl) (fun _ _ _ h => h) (Or.inl ⟨by rfl, ?y36_10⟩) (by assumption) ?r36_10
            case' y36_10 => (intro w hSw; (try dsimp only at hSw); (try have hlS := HLK.out _ hSw); have hcS := kcell hSw; clear hSw; go_simp; try with_reducible rfl)
            try simp only [Act.put, List.getElem_toArray, List.getElem_cons_succ, List.getElem_cons_zero, List.setIfInBounds_toArray, List.set_cons_zero, List.set_cons_succ]
            refine wpAnyH_take (i := 10) (v := ?v36_11) rfl (by kernel_rfl) (by kernel_rfl) (by kernel_rfl) (fun _ _ _ h => h) (Or.inl ⟨by rfl, ?y36_11⟩) (by assumption) ?r36_11
            case' y36_11 => (intro w hSw; (try dsimp only at hSw); (try have hlS := HLK.out _ hSw); have hcS := kcell hSw; clear hSw; go_simp; try with_reducible rfl)
            try simp only [Act.put, List.getElem_toArray, List.getElem_cons_succ, List.getElem_cons_zero, List.setIfInBounds_toArray, List.set_cons_zero, List.set_cons_succ]
            refine wpAnyH_take (i := 11) (v := ?v36_12) rfl (by kernel_rfl) (by kernel_rfl) (by kernel_rfl) (fun _ _ _ h => h) (Or.inl ⟨by rfl, ?y36_12⟩) (by assumption) ?r36_12
            case' y36_12 => (intro w hSw; (try dsimp only at hSw); (try have hlS := HLK.out _ hSw); have hcS := kcell hSw; clear hSw; go_simp; try with_reducible rfl)
            try simp only [Act.put, List.getElem_toArray, List.getElem_cons_succ, List.getElem_cons_zero, List.setIfInBounds_toArray, List.set_cons_zero, List.set_cons_succ]
            refine wpAnyH_take (i := 12) (v := ?v36_13) rfl (by kernel_rfl) (by kernel_rfl) (by kernel_rfl) (fun _ _ _ h => h) (Or.inl ⟨by rfl, ?y36_13⟩) (by assumption) ?r36_13
            case' y36_13 => (intro w hSw; (try dsimp only at hSw); (try have hlS := HLK.out _ hSw); have hcS := kcell hSw; clear hSw; go_simp; try with_reducible rfl)
            try simp only [Act.put, List.getElem_toArray, List.getElem_cons_succ, List.getElem_cons_zero, List.setIfInBounds_toArray, List.set_cons_zero, List.set_cons_succ]
            refine wpAnyH_take (i := 13) (v := ?v36_14) rfl (by kernel_rfl) (by kernel_rfl) (by kernel_rfl) (fun _ _ _ h => h) (Or.inl ⟨by rfl, ?y36_14⟩) (by assumption) ?r36_14
            case' y36_14 => (intro w hSw; (try dsimp only at hSw); (try have hlS := HLK.out _ hSw); have hcS := kcell hSw; clear hSw; go_simp; try with_reducible rfl)
            try simp only [Act.put, List.getElem_toArray, List.getElem_cons_succ, List.getElem_cons_zero, List.setIfInBounds_toArray, List.set_cons_zero, List.set_cons_succ]
            refine wpAnyH_take (i := 14) (v := ?v36_15) rfl (by kernel_rfl) (by kernel_rfl) (by kernel_rfl) (fun _ _ _ h => h) (Or.inl ⟨by rfl, ?y36_15⟩) (by assumption) ?r36_15
            case' y36_15 => (intro w hSw; (try dsimp only at hSw); (try have hlS := HLK.out _ hSw); have hcS := kcell hSw; clear hSw; go_simp; try with_reducible rfl)
            try simp only [Act.put, List.getElem_toArray, List.getElem_cons_succ, List.getElem_cons_zero, List.setIfInBounds_toArray, List.set_cons_zero, List.set_cons_succ]
            refine wpAnyH_ready (rs := [15]) (by kernel_rfl) (by simp) ?_
            refine (AllReadyH.cons rfl (fun K hK => ?_) AllReadyH.nil)
            go_simp
            ((go_at_call 94; refine HJO.out.mono ?_; rintro e w2 ⟨m, F2, rfl, r1, r2, r3⟩; have R1 : Hid (OpR 1 wr F1 w2 F2) := OpR.after_below hop.out.st.here (by repeat (first | exact Below.refl _ _ | assumption | refine Below.drew ?_ | refine Below.drewN ?_ _ | refine Below.allocT ?_ (Nat.le_refl _) _ | refine Below.setCell ?_ (by simp <;> omega) _ | refine Below.to ?_ (by assumption) (Nat.le_refl _))) r1; have R3 := hide r3; have hKeep : Hid (Keeps (SF F1) wr w2) := R1.out.st.keep; clear r1 r3))
            (try dsimp only)
            refine hK.out _ _ ?_ (fun hNext => ?_)
            · try dsimp only
              (repeat (first | (with_reducible exact Keeps.refl _ _) | exact hKeep.out | exact hKeepS.out _ | assumption | (with_reducible refine Keeps.drew ?_) | (with_reducible refine Keeps.drewN ?_ _) | (with_reducible refine Keeps.alloc ?_ _) | (with_reducible refine Keeps.setCell ?_ (.inl (by first | exact .inl rfl | exact .inr rfl)) _)))
            clear hK K hHeld
            have hHeld := hNext
            clear hNext
            (try dsimp only at hHeld)
            try simp only [Act.put, List.getElem_toArray, List.getElem_cons_succ, List.getElem_cons_zero, List.setIfInBounds_toArray, List.set_cons_zero, List.set_cons_succ]
            refine wpAnyH_take (i := 16) (v := ?v36_17) rfl (by kernel_rfl) (by kernel_rfl) (by kernel_rfl) (fun _ _ _ h => h) (Or.inl ⟨by rfl, ?y36_17⟩) (by assumption) ?r36_17
            case' y36_17 => (intro w hSw; (try dsimp only at hSw); (try have hlS := HLK.out _ hSw); have hcS := kcell hSw; clear hSw; go_simp; try with_reducible rfl)
            try simp only [Act.put, List.getElem_toArray, List.getElem_cons_succ, List.getElem_cons_zero, List.setIfInBounds_toArray, List.set_cons_zero, List.set_cons_succ]
            refine wpAnyH_done (by kernel_rfl) ?_ _
            go_wp2_with fail
            go_meet
            exact ⟨m, F2, rfl, R1.out, r2, fun v => by rw [R3.out v, rev_top2 _ HP.out, HXY.out.1, HXY.out.2]; rfl⟩
        have o7 : 0 ≤ o := by omega
        have k1 : (o == -1) = false := by simpa using o1
        have k2 : (o == -2) = false := by simpa using o2
        have k3 : (o == -3) = false := by simpa using o3
        have k4 : (o == -4) = false := by simp; omega
        have k5 : (o == -5) = false := by simp; omega
        have k6 : (o == -6) = false := by simp; omega
        obtain ⟨x, rfl⟩ : ∃ x : Nat, o = (x : Int) := ⟨o.toNat, by omega⟩
        have hli := literal_any F1 x true wr hop.out.st.here (by have := HN1.out; omega) HRM.out
        rw [hop.out.st.p] at hli
        have HLI := hide hli
        have HO : Hid (¬ (x : Int) = -1 ∧ ¬ (x : Int) = -2 ∧ ¬ (x : Int) = -3 ∧ ¬ ((x : Int) = -4 ∨ (x : Int) = -5 ∨ (x : Int) = -6)) := ⟨o1, o2, o3, o456⟩
        clear hli o1 o2 o3 o456
        go_wp2_with (go_at_call 89; refine HLI.out.mono ?_; rintro e w2 ⟨m, F2, rfl, r1, r2, r3⟩; have R1 := hide r1; have R3 := hide r3; clear r1 r3)
        go_meet
        exact ⟨m, F2, rfl, R1.out, r2, fun v => by
          obtain ⟨h1, h2, h3, h4⟩ := HO.out
          rw [R3.out v]
          unfold stp arO
          rw [if_neg h1, if_neg h2, if_neg h3, if_neg (fun e => h4 (.inl e)), if_neg (fun e => h4 (.inr (.inl e))), if_neg (fun e => h4 (.inr (.inr e))), if_neg h3, if_neg h4]
          simp⟩
      case rest =>
        obtain ⟨m, F2, rfl, hR, hml, hstp⟩ := hcut
        obtain ⟨r, hrn⟩ : ∃ r, S.length = r + arO o := ⟨w1, HSN.out⟩
        have hS2 := hS.out.step hR.out.st
        have hcut := hS2.cut (r := r) (by omega)
        have hb2 := hR.out.st.below hop.out.st.here (by rw [hop.out.st.ba]; have := hop.out.st.keep.size; omega)
        rw [hop.out.st.ba] at hb2
        have d0 : wc.cell? ⟨b, off + q, none⟩ = some (.int .i64 o) := (hb2.cell (p := ⟨b, off + q, none⟩) hbb).trans c0
        have hbc : b < wc.heap.size := by have := hR.out.st.keep.size; omega
        have hr1 : (S.length : Int) - (arO o : Int) = (r : Int) := by omega
        have hr2 : (r : Int) ≤ 100 := by omega
        have hr3 : r ≤ cap1 := by omega
        have hr4 : (r : Int) ≤ (cap1 : Int) := by omega
        have hcap3 : (cap1 : Int) ≤ 9223372036854775807 := by have := hcap2; unfold maxLen at this; omega
        have hwc : w.heap.size ≤ wc.heap.size := by have := hR.out.st.keep.size; have := hop.out.st.keep.size; omega
        have HS2 := hide hS2
        have HCUT := hide hcut
        have HRN := hide hrn
        have HRC := hide hR.out.st.here
        have gi4 : (arO o : Int) ≤ 2 := by unfold arO; split; omega; split <;> omega
        clear hS2 hcut hb2 hrn c0
        go_wp2_with (first | (go_at_call 95; refine (operands_any _ _).mono ?_; rintro e w2 ⟨rfl, rfl⟩) | (at_builtin; go_must (refine wpList_append_own_at _ rfl (.tmp 69) (.tmp 71) _ rfl w.heap.size 3 i0 _ 1 8 Try.underlying26 hi0 hz0 hz1 hz2 rfl (by omega) _ _ _ rfl (HCUT.out.alloc _) ⟨wc.heap.size, 0, none⟩ 1 1 [.int .i64 m] rfl rfl (World.news_of_block (heap_alloc_new wc _)) (by simp [Value.oneCell']) (by unfold maxLen; omega) (by omega) (by simp; omega) ?_); intro v1 w1 hown1 hg1 _ hat1; have HOWN := hide hown1; have HG1 := hide hg1; have HAT := hide hat1; clear hown1 hg1 hat1))
        have hown2 : w1.ownsRow w.heap.size 3 1 v1 (S.take r ++ [m]).length ((S.take r ++ [m]).map fun (n : Nat) => Value.int .i64 n) := by
          have h1 := HOWN.out
          have h2 : (S.take r ++ [m]).length = r + 1 := by simp; omega
          rw [h2, List.map_append]
          exact h1
        have hT : ∀ g, v1.ownBlock = some g → ¬ SF F2 g := by
          intro g hg hs
          rcases HAT.out with e | e
          · exact HS2.out.2 g (by rw [← hg, e]; cases A1 <;> rfl) hs
          · rw [hg] at e
            injection e with e
            have := HRC.out.slt hs
            simp at e
            omega
        have hkeep : Keeps (fun i => (Value.slice A1 r cap1).ownBlock = some i) wc w1 :=
          Keeps.trans ((Keeps.refl _ wc).alloc _) (Keeps.of_grown HG1.out (fun k hk => hk)) (fun _ _ h => h)
        have hT2 : ∀ i, (Value.slice A1 r cap1).ownBlock = some i → w.heap.size ≤ i ∧ ¬ SF F2 i := by
          intro i hi
          refine ⟨(HS2.out.1.lt i ?_).1, HS2.out.2 i ?_⟩
          · rw [← hi]; cases A1 <;> rfl
          · rw [← hi]; cases A1 <;> rfl
        have hop2 : OpR (f.length - q) w F w1 F2 := by
          have h1 := hop.out.trans hR.out
          exact ((h1.mono (l := f.length - q) (by omega)).own hkeep (fun i hi => (hT2 i hi).1) (fun i hs hi => (hT2 i hi).2 hs))
        have HOW2 := hide hown2
        have HT := hide hT
        have HOP2 := hide hop2
        clear hown2 hT hkeep hT2 hop2
        go_wp2_with fail
        go_roundw
        case rel =>
          refine ⟨q, S.take r ++ [m], F2, by omega, by go_num, ⟨HOW2.out, HT.out⟩, HOP2.out, fun n hn => ?_, fun v => ?_⟩
          · rcases List.mem_append.1 hn with h1 | h1
            · have h2 := hSl.out n (List.mem_of_mem_take h1)
              have := hR.out.st.le
              omega
            · rw [List.mem_singleton] at h1
              rw [h1]; exact hml
          · have hq1 : q < f.length := by omega
            rw [drop_getD hq1, evS_cons, HOQ.out, ← hev.out v, hstp.out v, List.map_append, List.reverse_append]
            show [ev F2.ks v m] ++ _ = _
            rw [List.singleton_append]
            congr 1
            rw [← List.map_reverse, ← List.map_reverse, ← List.map_drop, List.drop_reverse]
            have : S.length - arO o = r := by have := HRN.out; omega
            rw [this]
            refine List.map_congr_left fun n hn => ?_
            exact hR.out.st.ev hop.out.st.here.wf (hSl.out n (List.mem_of_mem_take (List.mem_reverse.1 hn))) v
        case measure => simp [intOf]
end Go.Proofs.Ytohofcmikfkilaa

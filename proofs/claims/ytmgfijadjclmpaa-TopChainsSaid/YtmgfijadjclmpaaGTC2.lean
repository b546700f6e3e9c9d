/- Part 2 of this claim's texts: walks and plain laws. -/
import Derived.Test.YtmgfijadjclmpaaRows
import Derived.Test.YtmgfijadjclmpaaGTC0
import Derived.Test.YtmgfijadjclmpaaGTC1
import Derived.WalkKit
import Derived.Deep.RegionHeld3
import Derived.Deep.DrawnRows
import Derived.BigQuiet
import Derived.BigRegion
import Derived.IntWalk
import Derived.Deep.CutRange
/- The forest of diagrams in memory: its words, and how they are carried. -/
namespace Go.Proofs.Ytmgfijadjclmpaa
open Go.RowKit
open Go.Maps (Keyed)
set_option linter.unusedVariables false

theorem infoKn : (Try.prog.info? 89).map (fun i => (i.zero, i.size, i.bytes)) = some (some (.agg #[.int .i64 0, .int .i64 0, .int .i64 0]), 3, 24) := by kernel_rfl
def I63 (x : Int) : Prop := -9223372036854775808 ≤ x ∧ x ≤ 9223372036854775807
theorem wf63 {x : Int} (h : I63 x) : (Lit.int .i64 x).wf = true := WalkArith.wf_i64 h
def knV (k : Kn) : Value := .agg #[.int .i64 k.opt, .int .i64 k.low, .int .i64 k.high]
theorem knV_inj (a b : Kn) (h : knV a = knV b) : a = b := by
  unfold knV at h
  injection h with h
  injection h with h
  injection h with h1 h
  injection h with h2 h
  injection h with h3 h
  injection h1 with _ h1
  injection h2 with _ h2
  injection h3 with _ h3
  exact Kn.ext' (by omega) (by omega) (by omega)
/-- A pair of nodes with an operator, as a key. -/
def paV (p : Int × Nat × Nat) : Value := .agg #[.int .i64 p.1, .int .i64 p.2.1, .int .i64 p.2.2]
theorem paV_inj (a b : Int × Nat × Nat) (h : paV a = paV b) : a = b := by
  unfold paV at h
  injection h with h
  injection h with h
  injection h with h1 h
  injection h with h2 h
  injection h with h3 h
  injection h1 with _ h1
  injection h2 with _ h2
  injection h3 with _ h3
  obtain ⟨a1, a2, a3⟩ := a
  obtain ⟨b1, b2, b3⟩ := b
  simp only at h1 h2 h3
  obtain rfl : a2 = b2 := by omega
  obtain rfl : a3 = b3 := by omega
  rw [h1]
theorem key3 {k : Nat} (h1 : Try.prog.keyType k = true) (h2 : ∀ a b c, (Value.agg #[.int .i64 a, .int .i64 b, .int .i64 c]).formed Try.prog k = true) (h4 : Try.prog.cellsOf k = 3) {n0 n1 n2 p0 p1 p2 q0 q1 q2 : String} {o0 o1 o2 : Nat}
    (hk : Try.prog.underlying k = some (.struct #[{ name := n0, type := 3, offset := 0, embedded := false, tag := q0, pkgPath := p0, byteOffset := o0 }, { name := n1, type := 3, offset := 1, embedded := false, tag := q1, pkgPath := p1, byteOffset := o1 }, { name := n2, type := 3, offset := 2, embedded := false, tag := q2, pkgPath := p2, byteOffset := o2 }]))
    (m0 : n0 ≠ "_") (m1 : n1 ≠ "_") (m2 : n2 ≠ "_") {a b c : Int} (ha : I63 a) (hb : I63 b) (hc : I63 c) : ∃ l, keyOf Try.prog k (.agg #[.int .i64 a, .int .i64 b, .int .i64 c]) = some l := by
  obtain ⟨d, hd⟩ : ∃ d, Try.prog.types.size = d + 2 := ⟨Try.prog.types.size - 2, by kernel_rfl⟩
  have h5 : Try.prog.cellsOf 3 = 1 := by kernel_rfl
  unfold keyOf
  rw [hk]
  simp only [h1, h2, Bool.and_self, if_true]
  rw [show Try.prog.types.size + 1 = d + 1 + 1 + 1 by omega]
  simp [Program.keyLits, hk, Try.underlying3, h4, h5, wf63 ha, wf63 hb, wf63 hc, Value.cells, m0, m1, m2]
theorem knKey {k : Kn} (h1 : I63 k.opt) (h2 : I63 k.low) (h3 : I63 k.high) : ∃ l, keyOf Try.prog 89 (knV k) = some l :=
  key3 (by kernel_rfl) (fun _ _ _ => by kernel_rfl) (by kernel_rfl) Try.underlying89 (by decide) (by decide) (by decide) h1 h2 h3
theorem paKey {o : Int} {a b : Nat} (h1 : I63 o) (h2 : I63 a) (h3 : I63 b) : ∃ l, keyOf Try.prog 112 (paV (o, a, b)) = some l :=
  key3 (by kernel_rfl) (fun _ _ _ => by kernel_rfl) (by kernel_rfl) Try.underlying112 (by decide) (by decide) (by decide) h1 h2 h3
theorem knLaw : Keyed Try.prog 89 := Keyed.of_law (deep_law_laid (P := Try.prog) (by kernel_rfl) (m := 3) (by decide) (of_decide_eq_true (by kernel_rfl)) (by kernel_rfl) (by kernel_rfl))
theorem paLaw : Keyed Try.prog 112 := Keyed.of_law (deep_law_laid (P := Try.prog) (by kernel_rfl) (m := 3) (by decide) (of_decide_eq_true (by kernel_rfl)) (by kernel_rfl) (by kernel_rfl))
theorem zInt (w : World) : (zeroValue 3).run Try.prog w = .ok (.int .i64 0) w := by kernel_rfl

/-! what is kept -/
/-- Nothing has changed but the blocks of a set, and new ones. -/
structure Keeps (S : Nat → Prop) (w w' : World) : Prop where
  os : w'.os = w.os
  tape : w'.tape = w.tape
  output : w'.output = w.output
  size : w.heap.size ≤ w'.heap.size
  block : ∀ k, k < w.heap.size → ¬ S k → w'.heap[k]? = w.heap[k]?
theorem Keeps.refl (S : Nat → Prop) (w : World) : Keeps S w w := ⟨rfl, rfl, rfl, Nat.le_refl _, fun _ _ _ => rfl⟩
theorem Keeps.trans {S T : Nat → Prop} {a b c : World} (h : Keeps S a b) (k : Keeps T b c) (hT : ∀ i, i < a.heap.size → T i → S i) : Keeps S a c :=
  ⟨k.os.trans h.os, k.tape.trans h.tape, k.output.trans h.output, Nat.le_trans h.size k.size, fun i hi hn => (k.block i (Nat.lt_of_lt_of_le hi h.size) (fun ht => hn (hT i hi ht))).trans (h.block i hi hn)⟩
theorem Keeps.mono {S T : Nat → Prop} {a b : World} (h : Keeps S a b) (hT : ∀ i, i < a.heap.size → S i → T i) : Keeps T a b :=
  ⟨h.os, h.tape, h.output, h.size, fun i hi hn => h.block i hi fun hs => hn (hT i hi hs)⟩
theorem Keeps.of_below {S : Nat → Prop} {a b : World} (h : Below a.heap.size a b) : Keeps S a b := ⟨h.os, h.tape, h.output, h.size, fun i hi _ => h.block i hi⟩
theorem Keeps.of_grown {S : Nat → Prop} {a b : World} {row : Option Nat} (h : a.grownBy b row) (hr : ∀ k, row = some k → S k) : Keeps S a b := ⟨h.os, h.tape, h.output, h.size, fun i hi hn => h.block i hi fun e => hn (hr i e.symm)⟩
theorem Keeps.drew {S : Nat → Prop} {a b : World} (h : Keeps S a b) : Keeps S a b.drew := ⟨h.os, h.tape, h.output, h.size, h.block⟩
theorem Keeps.drewN {S : Nat → Prop} {a b : World} (h : Keeps S a b) (n : Nat) : Keeps S a (b.drewN n) := ⟨h.os, h.tape, h.output, h.size, h.block⟩
theorem Keeps.alloc {S : Nat → Prop} {a b : World} (h : Keeps S a b) (o : Obj) : Keeps S a (b.alloc o) :=
  ⟨h.os, h.tape, h.output, by have := h.size; simp; omega, fun i hi hn => (Below.heap_alloc b o i (Nat.lt_of_lt_of_le hi h.size)).trans (h.block i hi hn)⟩
theorem Keeps.setCell {S : Nat → Prop} {a b : World} (h : Keeps S a b) {p : Addr} (hp : S p.block ∨ a.heap.size ≤ p.block) (u : Value) : Keeps S a (b.setCell p u) :=
  ⟨h.os, h.tape, h.output, by have := h.size; simpa [World.setCell] using this, fun i hi hn => (Below.heap_setCell b p u i (fun e => by
    rcases hp with hp | hp
    · exact hn (by rw [e]; exact hp)
    · omega)).trans (h.block i hi hn)⟩
theorem Keeps.below {S : Nat → Prop} {a b : World} {B : Nat} (h : Keeps S a b) (hB : B ≤ a.heap.size) (hS : ∀ k, S k → B ≤ k) : Below B a b :=
  ⟨h.os, h.tape, h.output, h.size, fun i hi => h.block i (by omega) fun hs => by have := hS i hs; omega⟩
theorem kcell {S : Nat → Prop} {a b : World} (h : Keeps S a b) : ∀ k o, k < a.heap.size → ¬ S k → b.cell? ⟨k, o, none⟩ = a.cell? ⟨k, o, none⟩ :=
  fun k o hk hn => World.cell?_of_block (h.block k hk hn)

/-! the forest -/
structure Fo where
  base : Nat
  p : Nat
  N : Nat
  ks : List Kn
  kb : Nat
  cap : Nat
  bk : Nat
  nk : Nat
  K : Kn → Option Int
  bj : Nat
  nj : Nat
  J : Int × Nat × Nat → Option Int
def opB (o : Int) (x y : Bool) : Bool := if o = -4 then x && y else if o = -5 then x || y else x == y
theorem opB_comm (o : Int) (x y : Bool) : opB o x y = opB o y x := by
  unfold opB; split
  · exact Bool.and_comm _ _
  · split
    · exact Bool.or_comm _ _
    · cases x <;> cases y <;> rfl
def knF (ks : List Kn) (i j : Nat) : Value := match j with
  | 0 => .int .i64 (topK ks i : Nat)
  | 1 => .int .i64 (lowK ks i : Nat)
  | _ => .int .i64 (highK ks i : Nat)
/-- The forest F stands in memory. -/
structure FoAt (w : World) (F : Fo) : Prop where
  box : w.heap[F.p]? = some (.cells #[.int .i64 F.N, .slice (some ⟨F.kb, 0, none⟩) F.ks.length F.cap, .map (some F.bk), .map (some F.bj)] 94 (0, 0))
  row : w.ownsRow F.base 89 3 (.slice (some ⟨F.kb, 0, none⟩) F.ks.length F.cap) F.ks.length (flat F.ks.length 3 (knF F.ks))
  known : MapIs Try.prog w 89 3 F.bk F.nk knV F.K
  joined : MapIs Try.prog w 112 3 F.bj F.nj paV F.J
  wf : WF F.N F.ks
  k1 : ∀ k x, F.K k = some x → ∃ i : Nat, x = i ∧ 2 ≤ i ∧ i < F.ks.length ∧ F.ks.getD i Kn.z = k
  k2 : ∀ i, 2 ≤ i → i < F.ks.length → F.K (F.ks.getD i Kn.z) = some ((i : Nat) : Int)
  j1 : ∀ o a b x, F.J (o, a, b) = some x → ∃ i : Nat, x = i ∧ i < F.ks.length ∧ a < F.ks.length ∧ b < F.ks.length ∧ (∀ v, ev F.ks v i = opB o (ev F.ks v a) (ev F.ks v b)) ∧ min (topK F.ks a) (topK F.ks b) ≤ topK F.ks i
  nkk : F.nk ≤ F.ks.length
  pb : F.base ≤ F.p
  bb : F.base ≤ F.bk ∧ F.base ≤ F.bj ∧ F.base ≤ F.kb
  ne1 : F.bk ≠ F.bj
  ne2 : F.kb ≠ F.p
  small : F.ks.length ≤ 1073741824 ∧ F.nj ≤ 1073741824 ∧ F.N ≤ 1000
def SF (F : Fo) (k : Nat) : Prop := k = F.p ∨ k = F.bk ∨ k = F.bj ∨ k = F.kb
section
variable {w : World} {F : Fo} (h : FoAt w F)
include h
theorem FoAt.lts : F.p < w.heap.size ∧ F.bk < w.heap.size ∧ F.bj < w.heap.size ∧ F.kb < w.heap.size :=
  ⟨box_lt h.box, h.known.lt, h.joined.lt, (h.row.lt F.kb rfl).2⟩
theorem FoAt.nes : F.p ≠ F.bk ∧ F.p ≠ F.bj ∧ F.kb ≠ F.bk ∧ F.kb ≠ F.bj := by
  obtain ⟨e1, c1, h1⟩ := h.known.obj
  obtain ⟨e2, c2, h2⟩ := h.joined.obj
  have h3 := h.box
  obtain ⟨_, ⟨h4, _⟩ | ⟨g, cp, cur, h4, _, h5, _⟩⟩ := h.row
  · cases h4
  · injection h4 with h4 _ _
    injection h4 with h4
    injection h4 with h4 _ _
    subst h4
    refine ⟨fun e => ?_, fun e => ?_, fun e => ?_, fun e => ?_⟩
    · rw [e, h1] at h3; cases h3
    · rw [e, h2] at h3; cases h3
    · rw [e, h1] at h5; cases h5
    · rw [e, h2] at h5; cases h5
theorem FoAt.cellS : w.cell? ⟨F.p, 1, none⟩ = some (.slice (some ⟨F.kb, 0, none⟩) F.ks.length F.cap) := cellOf h.box 1
theorem FoAt.cellK : w.cell? ⟨F.p, 2, none⟩ = some (.map (some F.bk)) := cellOf h.box 2
theorem FoAt.cellJ : w.cell? ⟨F.p, 3, none⟩ = some (.map (some F.bj)) := cellOf h.box 3
theorem FoAt.knot {n : Nat} (hn : n < F.ks.length) : w.cell? ⟨F.kb, n * 3, none⟩ = some (.int .i64 (topK F.ks n : Nat)) ∧ w.cell? ⟨F.kb, n * 3 + 1, none⟩ = some (.int .i64 (lowK F.ks n : Nat)) ∧ w.cell? ⟨F.kb, n * 3 + 2, none⟩ = some (.int .i64 (highK F.ks n : Nat)) := by
  have hc := h.row.cells (g := F.kb) rfl
  have hx : ∀ j, j < 3 → w.cell? ⟨F.kb, n * 3 + j, none⟩ = some (knF F.ks n j) := fun j hj => by
    have := hc (n * 3 + j) _ (flat_get (f := knF F.ks) hn hj)
    have he : (⟨F.kb, 0, none⟩ : Addr).add (n * 3 + j) = ⟨F.kb, n * 3 + j, none⟩ := by
      unfold Addr.add
      split
      · rename_i h0; rw [h0]
      · rw [Nat.zero_add]
    rwa [he] at this
  exact ⟨hx 0 (by omega), hx 1 (by omega), hx 2 (by omega)⟩
theorem FoAt.same {w' : World} (hs : ∀ k, SF F k → w'.heap[k]? = w.heap[k]?) : FoAt w' F where
  box := (hs _ (.inl rfl)).trans h.box
  row := by
    obtain ⟨h1, ⟨h4, h6⟩ | ⟨g, cp, cur, h4, h6, h5, h7⟩⟩ := h.row
    · cases h4
    · refine ⟨h1, .inr ⟨g, cp, cur, h4, h6, ?_, h7⟩⟩
      injection h4 with h4 _ _
      injection h4 with h4
      injection h4 with h4 _ _
      subst h4
      exact (hs _ (.inr (.inr (.inr rfl)))).trans h5
  known := h.known.same (hs _ (.inr (.inl rfl)))
  joined := h.joined.same (hs _ (.inr (.inr (.inl rfl))))
  wf := h.wf
  k1 := h.k1
  k2 := h.k2
  j1 := h.j1
  nkk := h.nkk
  pb := h.pb
  bb := h.bb
  ne1 := h.ne1
  ne2 := h.ne2
  small := h.small
theorem FoAt.slt {k : Nat} (hk : SF F k) : k < w.heap.size := by
  obtain ⟨h1, h2, h3, h4⟩ := h.lts
  rcases hk with rfl | rfl | rfl | rfl <;> assumption
theorem FoAt.sbase {k : Nat} (hk : SF F k) : F.base ≤ k := by
  obtain ⟨h2, h3, h4⟩ := h.bb
  rcases hk with rfl | rfl | rfl | rfl
  · exact h.pb
  · exact h2
  · exact h3
  · exact h4
theorem FoAt.below {w' : World} (hb : Below w.heap.size w w') : FoAt w' F := h.same fun k hk => hb.block k (h.slt hk)
theorem FoAt.keeps {w' : World} {S : Nat → Prop} (hb : Keeps S w w') (hS : ∀ k, SF F k → ¬ S k) : FoAt w' F := h.same fun k hk => hb.block k (h.slt hk) (hS k hk)
end
/-- From a forest in one world to a forest in a later one that has all its nodes. -/
structure FStep (w : World) (F : Fo) (w' : World) (F' : Fo) : Prop where
  here : FoAt w' F'
  ba : F'.base = F.base
  p : F'.p = F.p
  N : F'.N = F.N
  bk : F'.bk = F.bk
  bj : F'.bj = F.bj
  ks : ∃ e, F'.ks = F.ks ++ e
  kb : F'.kb = F.kb ∨ w.heap.size ≤ F'.kb
  keep : Keeps (SF F) w w'
theorem FStep.sub {w w' : World} {F F' : Fo} (h : FStep w F w' F') : ∀ k, k < w.heap.size → SF F' k → SF F k := by
  intro k hk hs
  unfold SF at hs ⊢
  rw [h.p, h.bk, h.bj] at hs
  rcases h.kb with e | e
  · rw [e] at hs; exact hs
  · omega
theorem FStep.trans {a b c : World} {F G H : Fo} (h : FStep a F b G) (k : FStep b G c H) : FStep a F c H where
  here := k.here
  ba := k.ba.trans h.ba
  p := k.p.trans h.p
  N := k.N.trans h.N
  bk := k.bk.trans h.bk
  bj := k.bj.trans h.bj
  ks := by
    obtain ⟨e, he⟩ := h.ks
    obtain ⟨f, hf⟩ := k.ks
    exact ⟨e ++ f, by rw [hf, he, List.append_assoc]⟩
  kb := by
    rcases k.kb with e | e
    · rw [e]; exact h.kb
    · exact .inr (Nat.le_trans h.keep.size e)
  keep := h.keep.trans k.keep h.sub
theorem FStep.refl {w : World} {F : Fo} (h : FoAt w F) : FStep w F w F := ⟨h, rfl, rfl, rfl, rfl, rfl, ⟨[], by simp⟩, .inl rfl, Keeps.refl _ _⟩
theorem FStep.of_below {w w' : World} {F : Fo} (h : FoAt w F) (hb : Below w.heap.size w w') : FStep w F w' F := ⟨h.below hb, rfl, rfl, rfl, rfl, rfl, ⟨[], by simp⟩, .inl rfl, Keeps.of_below hb⟩
theorem FStep.then_below {w w' w'' : World} {F F' : Fo} (h : FStep w F w' F') (hb : Below w'.heap.size w' w'') : FStep w F w'' F' := h.trans (FStep.of_below h.here hb)
theorem FStep.le {w w' : World} {F F' : Fo} (h : FStep w F w' F') : F.ks.length ≤ F'.ks.length := by
  obtain ⟨e, he⟩ := h.ks
  rw [he, List.length_append]; omega
theorem FStep.ev {w w' : World} {F F' : Fo} (h : FStep w F w' F') (hw : WF F.N F.ks) {n : Nat} (hn : n < F.ks.length) (v : Nat → Bool) : ev F'.ks v n = ev F.ks v n := by
  obtain ⟨e, he⟩ := h.ks
  rw [he]; exact ev_old hw e v hn
theorem FStep.top {w w' : World} {F F' : Fo} (h : FStep w F w' F') {n : Nat} (hn : n < F.ks.length) : topK F'.ks n = topK F.ks n := by
  obtain ⟨e, he⟩ := h.ks
  rw [he]; exact topK_old e hn
theorem FStep.below {w w' : World} {F F' : Fo} (h : FStep w F w' F') (hF : FoAt w F) (hB : F.base ≤ w.heap.size) : Below F.base w w' := h.keep.below hB fun k hk => hF.sbase hk
/-- A block of the caller's own is kept. -/
theorem FStep.block {w w' : World} {F F' : Fo} (h : FStep w F w' F') {k : Nat} (hk : k < w.heap.size) (hn : ¬ SF F k) : w'.heap[k]? = w.heap[k]? ∧ ¬ SF F' k := ⟨h.keep.block k hk hn, fun hs => hn (h.sub k hk hs)⟩
theorem flat_knSnoc (ks : List Kn) (k : Kn) : flat (ks ++ [k]).length 3 (knF (ks ++ [k])) = flat ks.length 3 (knF ks) ++ [.int .i64 (k.opt : Nat), .int .i64 (k.low : Nat), .int .i64 (k.high : Nat)] := by
  apply List.ext_getElem?
  intro m
  rcases Nat.lt_or_ge m (ks.length * 3) with hm | hm
  · rw [List.getElem?_append_left (by rw [flat_length]; exact hm)]
    obtain ⟨i, j, rfl, hj⟩ : ∃ i j, m = i * 3 + j ∧ j < 3 := ⟨m / 3, m % 3, by omega, by omega⟩
    have hi : i < ks.length := by omega
    rw [flat_get (by simp; omega) hj, flat_get hi hj]
    simp only [knF, topK_old _ hi, lowK_old _ hi, highK_old _ hi]
  · rw [List.getElem?_append_right (by rw [flat_length]; exact hm), flat_length]
    rcases Nat.lt_or_ge m (ks.length * 3 + 3) with h3 | h3
    · obtain ⟨j, rfl, hj⟩ : ∃ j, m = ks.length * 3 + j ∧ j < 3 := ⟨m - ks.length * 3, by omega, by omega⟩
      rw [flat_get (by simp) hj, Nat.add_sub_cancel_left]
      match j, hj with
      | 0, _ => simp [knF, topK]
      | 1, _ => simp [knF, lowK]
      | 2, _ => simp [knF, highK]
    · rw [List.getElem?_eq_none (by rw [flat_length]; simp; omega), List.getElem?_eq_none (by simp; omega)]
/-- One more node. -/
theorem FoAt.grow {w w4 : World} {F : Fo} (h : FoAt w F) {k : Kn} (hwf : WF F.N (F.ks ++ [k])) {g cap : Nat} (hg : g = F.kb ∨ w.heap.size ≤ g) (hbx : w4.heap[F.p]? = some (.cells #[.int .i64 F.N, .slice (some ⟨g, 0, none⟩) (F.ks.length + 1) cap, .map (some F.bk), .map (some F.bj)] 94 (0, 0)))
    (hrow : w4.ownsRow F.base 89 3 (.slice (some ⟨g, 0, none⟩) (F.ks.length + 1) cap) (F.ks.length + 1) (flat F.ks.length 3 (knF F.ks) ++ [.int .i64 (k.opt : Nat), .int .i64 (k.low : Nat), .int .i64 (k.high : Nat)]))
    (hkn : MapIs Try.prog w4 89 3 F.bk (F.nk + 1) knV (putM F.K k F.ks.length)) (hj : w4.heap[F.bj]? = w.heap[F.bj]?) (hnew : F.K k = none) (hkeep : Keeps (SF F) w w4) (hsz : F.ks.length + 1 ≤ 1073741824) :
    ∃ F', FStep w F w4 F' ∧ F'.ks = F.ks ++ [k] ∧ F'.nj = F.nj ∧ F'.J = F.J := by
  have hlts := h.lts
  have hget : (F.ks ++ [k]).getD F.ks.length Kn.z = k := by simp [List.getD_eq_getElem?_getD]
  refine ⟨{ F with ks := F.ks ++ [k], kb := g, cap := cap, K := putM F.K k F.ks.length, nk := F.nk + 1 }, ⟨?_, rfl, rfl, rfl, rfl, rfl, ⟨[k], rfl⟩, hg, hkeep⟩, rfl, rfl, rfl⟩
  refine ⟨?_, ?_, hkn, h.joined.same hj, hwf, ?_, ?_, ?_, ?_, h.pb, ?_, h.ne1, ?_, ?_⟩
  · show w4.heap[F.p]? = some (.cells #[.int .i64 F.N, .slice (some ⟨g, 0, none⟩) (F.ks ++ [k]).length cap, .map (some F.bk), .map (some F.bj)] 94 (0, 0))
    rw [List.length_append, List.length_singleton]; exact hbx
  · show w4.ownsRow F.base 89 3 (.slice (some ⟨g, 0, none⟩) (F.ks ++ [k]).length cap) (F.ks ++ [k]).length (flat (F.ks ++ [k]).length 3 (knF (F.ks ++ [k])))
    rw [flat_knSnoc, List.length_append, List.length_singleton]; exact hrow
  · intro k' x hx
    show ∃ i : Nat, x = i ∧ 2 ≤ i ∧ i < (F.ks ++ [k]).length ∧ (F.ks ++ [k]).getD i Kn.z = k'
    replace hx : putM F.K k F.ks.length k' = some x := hx
    unfold putM at hx
    split at hx
    · rename_i e
      injection hx with hx
      exact ⟨F.ks.length, hx.symm, h.wf.two, by simp, by rw [hget, e]⟩
    · obtain ⟨i, h1, h2, h3, h4⟩ := h.k1 k' x hx
      exact ⟨i, h1, h2, by simp; omega, by rw [getD_old _ h3]; exact h4⟩
  · intro i h2 hi
    show putM F.K k F.ks.length ((F.ks ++ [k]).getD i Kn.z) = some (i : Int)
    replace hi : i < (F.ks ++ [k]).length := hi
    rw [List.length_append, List.length_singleton] at hi
    unfold putM
    rcases Nat.lt_or_ge i F.ks.length with hlt | hge
    · rw [getD_old _ hlt, if_neg (fun e => by
        have := h.k2 i h2 hlt
        rw [e, hnew] at this
        cases this), h.k2 i h2 hlt]
    · obtain rfl : i = F.ks.length := by omega
      rw [hget, if_pos rfl]
  · intro o a b x hx
    obtain ⟨i, h1, h2, h3, h4, h5, h6⟩ := h.j1 o a b x hx
    show ∃ i : Nat, x = i ∧ i < (F.ks ++ [k]).length ∧ a < (F.ks ++ [k]).length ∧ b < (F.ks ++ [k]).length ∧ (∀ v, ev (F.ks ++ [k]) v i = opB o (ev (F.ks ++ [k]) v a) (ev (F.ks ++ [k]) v b)) ∧ min (topK (F.ks ++ [k]) a) (topK (F.ks ++ [k]) b) ≤ topK (F.ks ++ [k]) i
    refine ⟨i, h1, by simp; omega, by simp; omega, by simp; omega, fun v => ?_, ?_⟩
    · rw [ev_old h.wf _ v h2, ev_old h.wf _ v h3, ev_old h.wf _ v h4]; exact h5 v
    · rw [topK_old _ h2, topK_old _ h3, topK_old _ h4]; exact h6
  · have := h.nkk
    simp; omega
  · have := h.bb
    refine ⟨this.1, this.2.1, ?_⟩
    rcases hg with rfl | hg
    · exact this.2.2
    · exact (hrow.lt g rfl).1
  · rcases hg with rfl | hg
    · exact h.ne2
    · show g ≠ F.p
      omega
  · have := h.small
    refine ⟨?_, this.2⟩
    show (F.ks ++ [k]).length ≤ 1073741824
    simp; omega
theorem zX : (∀ (a : Act) (d : Nat) (v : Value), a.put (some d) v = { tmps := a.tmps.setIfInBounds d v, defers := a.defers }) ∧ (∀ (a : Act) (v : Value), a.put none v = a) ∧
    (∀ (α : Type) (xs : List α) (i : Nat) (h : i < xs.toArray.size), xs.toArray[i] = xs[i]'(by simpa using h)) ∧
    (∀ (α : Type) (a : α) (xs : List α) (i : Nat) (h : i + 1 < (a :: xs).length), (a :: xs)[i + 1] = xs[i]'(Nat.lt_of_succ_lt_succ h)) ∧
    (∀ (α : Type) (a : α) (xs : List α) (h : 0 < (a :: xs).length), (a :: xs)[0] = a) ∧
    (∀ (α : Type) (l : List α) (i : Nat) (a : α), l.toArray.setIfInBounds i a = (l.set i a).toArray) ∧
    (∀ (α : Type) (xs : List α) (x y : α), (x :: xs).set 0 y = y :: xs) ∧
    (∀ (α : Type) (xs : List α) (n : Nat) (x y : α), (x :: xs).set (n + 1) y = x :: xs.set n y) :=
  ⟨fun _ _ _ => rfl, fun _ _ => rfl, fun _ _ _ h => List.getElem_toArray h, fun _ _ _ _ _ => List.getElem_cons_succ .., fun _ _ _ _ => List.getElem_cons_zero .., fun _ _ _ _ => List.setIfInBounds_toArray .., fun _ _ _ _ => List.set_cons_zero, fun _ _ _ _ _ => List.set_cons_succ⟩
theorem zT {P : Program} {ops : Array Oper} {Q : Exit → Act → World → Prop} {md : Region.Mode} {S : World → Prop} (i : Nat) {oi : Oper} {v : Value} {fuel : Nat} {listed li : Array Bool} {a ai : Act} {w : World} (hi : ops[i]? = some oi)
  (h : wpAnyH P md ops Q S fuel li ai w)
  (h1 : Region.noSelect ops = true := by kernel_rfl) (h2 : Region.free md ops listed i = true := by kernel_rfl) (h3 : (Region.ready md ops listed).contains i = true := by kernel_rfl)
  (h4 : ∀ (c : List PanicEntry) (a : Act) (w : World), Q (Exit.panic c) (a.put oi.dst v) w → Q (Exit.panic c) a w := by exact fun _ _ _ h => h) (h5 : Region.wanted oi (yielded ops a.tmps) = true := by rfl) (h6 : S w := by assumption)
  (y : ∀ w, S w → (execOp a.eval oi).run P w = .ok (.value v) w := by intro w hSw; (try dsimp only at hSw); (try have hlS := HLK.out _ hSw); obtain ⟨hcS, hfS⟩ := bcell hSw; clear hSw; go_simp; try with_reducible rfl)
  (ha : a.put oi.dst v = ai := by (try simp only [zX]); rfl) (hl : listed.setIfInBounds i true = li := by (try simp only [zX]); rfl) : wpAnyH P md ops Q S (fuel + 1) listed a w :=
  wpAnyH_take hi h1 h2 h3 h4 (Or.inl ⟨h5, y⟩) h6 (by rw [ha, hl]; exact h)
theorem zU {P : Program} {ops : Array Oper} {Q : Exit → Act → World → Prop} {md : Region.Mode} {S : World → Prop} (i : Nat) {oi : Oper} {v : Value} {fuel : Nat} {listed li : Array Bool} {a ai : Act} {w : World} (hi : ops[i]? = some oi)
  (h : wpAnyH P md ops Q S fuel li ai w)
  (h1 : Region.noSelect ops = true := by kernel_rfl) (h2 : Region.free md ops listed i = true := by kernel_rfl) (h3 : (Region.ready md ops listed).contains i = true := by kernel_rfl)
  (h4 : ∀ (c : List PanicEntry) (a : Act) (w : World), Q (Exit.panic c) (a.put oi.dst v) w → Q (Exit.panic c) a w := by exact fun _ _ _ h => h) (h5 : Region.wanted oi (yielded ops a.tmps) = true := by rfl) (h6 : S w := by assumption)
  (y : ∀ w, S w → (execOp a.eval oi).run P w = .ok (.value v) w := by intro w hSw; (try dsimp only at hSw); (try have hlS := HLK.out _ hSw); have hcS := kcell hSw; clear hSw; go_simp; try with_reducible rfl)
  (ha : a.put oi.dst v = ai := by (try simp only [zX]); rfl) (hl : listed.setIfInBounds i true = li := by (try simp only [zX]); rfl) : wpAnyH P md ops Q S (fuel + 1) listed a w :=
  wpAnyH_take hi h1 h2 h3 h4 (Or.inl ⟨h5, y⟩) h6 (by rw [ha, hl]; exact h)
theorem zG {P : Program} {ops : Array Oper} {Q : Exit → Act → World → Prop} {md : Region.Mode} {S : World → Prop} (i : Nat) {oi : Oper} {v : Value} {fuel : Nat} {listed li : Array Bool} {a ai : Act} {w : World} (hi : ops[i]? = some oi)
  (h : wpAnyH P md ops Q S fuel li ai w)
  (h1 : Region.noSelect ops = true := by kernel_rfl) (h2 : Region.free md ops listed i = true := by kernel_rfl) (h3 : (Region.ready md ops listed).contains i = true := by kernel_rfl)
  (h4 : ∀ (c : List PanicEntry) (a : Act) (w : World), Q (Exit.panic c) (a.put oi.dst v) w → Q (Exit.panic c) a w := by exact fun _ _ _ h => h) (h5 : Region.wanted oi (yielded ops a.tmps) = true := by rfl) (h6 : S w := by assumption)
  (y : ∀ w, S w → (execOp a.eval oi).run P w = .ok (.value v) w := by intro w hSw; (try dsimp only at hSw); have hcS := gcell hSw; clear hSw; go_simp; try with_reducible rfl)
  (ha : a.put oi.dst v = ai := by (try simp only [zX]); rfl) (hl : listed.setIfInBounds i true = li := by (try simp only [zX]); rfl) : wpAnyH P md ops Q S (fuel + 1) listed a w :=
  wpAnyH_take hi h1 h2 h3 h4 (Or.inl ⟨h5, y⟩) h6 (by rw [ha, hl]; exact h)
theorem zH {P : Program} {ops : Array Oper} {Q : Exit → Act → World → Prop} {md : Region.Mode} {S : World → Prop} (i : Nat) {oi : Oper} {v : Value} {fuel : Nat} {listed li : Array Bool} {a ai : Act} {w : World} (hi : ops[i]? = some oi)
  (h : wpAnyH P md ops Q S fuel li ai w)
  (h1 : Region.noSelect ops = true := by kernel_rfl) (h2 : Region.free md ops listed i = true := by kernel_rfl) (h3 : (Region.ready md ops listed).contains i = true := by kernel_rfl)
  (h4 : ∀ (c : List PanicEntry) (a : Act) (w : World), Q (Exit.panic c) (a.put oi.dst v) w → Q (Exit.panic c) a w := by exact fun _ _ _ h => h) (h5 : Region.wanted oi (yielded ops a.tmps) = true := by rfl) (h6 : S w := by assumption)
  (y : ∀ w, S w → (execOp a.eval oi).run P w = .ok (.value v) w := by intro w hSw; (try dsimp only at hSw); have hcS := gcell hSw.1; clear hSw; go_simp; try with_reducible rfl)
  (ha : a.put oi.dst v = ai := by (try simp only [zX]); rfl) (hl : listed.setIfInBounds i true = li := by (try simp only [zX]); rfl) : wpAnyH P md ops Q S (fuel + 1) listed a w :=
  wpAnyH_take hi h1 h2 h3 h4 (Or.inl ⟨h5, y⟩) h6 (by rw [ha, hl]; exact h)
theorem zI {P : Program} {ops : Array Oper} {Q : Exit → Act → World → Prop} {md : Region.Mode} {S : World → Prop} (i : Nat) {oi : Oper} {v : Value} {fuel : Nat} {listed li : Array Bool} {a ai : Act} {w : World} (hi : ops[i]? = some oi)
  (h : wpAnyH P md ops Q S fuel li ai w)
  (h1 : Region.noSelect ops = true := by kernel_rfl) (h2 : Region.free md ops listed i = true := by kernel_rfl) (h3 : (Region.ready md ops listed).contains i = true := by kernel_rfl)
  (h4 : ∀ (c : List PanicEntry) (a : Act) (w : World), Q (Exit.panic c) (a.put oi.dst v) w → Q (Exit.panic c) a w := by exact fun _ _ _ h => h) (h5 : Region.wanted oi (yielded ops a.tmps) = true := by rfl) (h6 : S w := by assumption)
  (y : ∀ w, S w → (execOp a.eval oi).run P w = .ok (.value v) w := by intro w hSw; (try dsimp only at hSw); (try have hlS := HLK.out _ hSw); have hcS := kcell1 hSw; clear hSw; go_simp; try with_reducible rfl)
  (ha : a.put oi.dst v = ai := by (try simp only [zX]); rfl) (hl : listed.setIfInBounds i true = li := by (try simp only [zX]); rfl) : wpAnyH P md ops Q S (fuel + 1) listed a w :=
  wpAnyH_take hi h1 h2 h3 h4 (Or.inl ⟨h5, y⟩) h6 (by rw [ha, hl]; exact h)
theorem zJ {P : Program} {ops : Array Oper} {Q : Exit → Act → World → Prop} {md : Region.Mode} {S : World → Prop} (i : Nat) {oi : Oper} {v : Value} {fuel : Nat} {listed li : Array Bool} {a ai : Act} {w : World} (hi : ops[i]? = some oi)
  (h : wpAnyH P md ops Q S fuel li ai w)
  (h1 : Region.noSelect ops = true := by kernel_rfl) (h2 : Region.free md ops listed i = true := by kernel_rfl) (h3 : (Region.ready md ops listed).contains i = true := by kernel_rfl)
  (h4 : ∀ (c : List PanicEntry) (a : Act) (w : World), Q (Exit.panic c) (a.put oi.dst v) w → Q (Exit.panic c) a w := by exact fun _ _ _ h => h) (h5 : Region.wanted oi (yielded ops a.tmps) = true := by rfl) (h6 : S w := by assumption)
  (y : ∀ w, S w → (execOp a.eval oi).run P w = .ok (.value v) w := by intro w hSw; (try dsimp only at hSw); (try have hlS := HLK.out _ hSw); have hcS := kcell2 hSw; clear hSw; go_simp; try with_reducible rfl)
  (ha : a.put oi.dst v = ai := by (try simp only [zX]); rfl) (hl : listed.setIfInBounds i true = li := by (try simp only [zX]); rfl) : wpAnyH P md ops Q S (fuel + 1) listed a w :=
  wpAnyH_take hi h1 h2 h3 h4 (Or.inl ⟨h5, y⟩) h6 (by rw [ha, hl]; exact h)
theorem zS {P : Program} {ops : Array Oper} {Q : Exit → Act → World → Prop} {md : Region.Mode} {S : World → Prop} (i : Nat) {oi : Oper} {fuel : Nat} {listed li : Array Bool} {a ai : Act} {w : World} (hi : ops[i]? = some oi)
  (h : wpAnyH P md ops Q S fuel li ai w)
  (h1 : Region.noSelect ops = true := by kernel_rfl) (h2 : Region.free md ops listed i = true := by kernel_rfl) (h3 : (Region.ready md ops listed).contains i = true := by kernel_rfl)
  (h4 : ∀ (c : List PanicEntry) (a : Act) (w : World), Q (Exit.panic c) (a.put oi.dst undef) w → Q (Exit.panic c) a w := by exact fun _ _ _ h => h) (h5 : Region.wanted oi (yielded ops a.tmps) = false := by first | rfl | (simp [Region.wanted, yielded, *]; done)) (h6 : S w := by assumption)
  (ha : a.put oi.dst undef = ai := by (try simp only [zX]); rfl) (hl : listed.setIfInBounds i true = li := by (try simp only [zX]); rfl) : wpAnyH P md ops Q S (fuel + 1) listed a w :=
  wpAnyH_take hi h1 h2 h3 h4 (Or.inr ⟨h5, rfl⟩) h6 (by rw [ha, hl]; exact h)
end Go.Proofs.Ytmgfijadjclmpaa
/- Small functions of the forest: walks. -/
namespace Go.Proofs.Ytmgfijadjclmpaa
open Go.RowKit
open Go.Maps (Keyed)
set_option linter.unusedVariables false
set_option linter.unusedSimpArgs false

set_option maxRecDepth 100000 in
theorem branch_any (F : Fo) (n o : Nat) (b : Bool) (w : World) (h : FoAt w F) (hn : n < F.ks.length) :
    Calls Try.prog 63 #[.pointer (some ⟨F.p, 0, none⟩), .int .i64 n, .int .i64 o, .bool b] w fun e w' => e = .returned (.int .i64 (brK F.ks n o b : Nat)) ∧ Below w.heap.size w w' := by
  have c1 := h.cellS
  obtain ⟨k0, k1, k2⟩ := h.knot hn
  obtain ⟨l0, _, _, l3⟩ := h.lts
  have hi0 : (0 : Int) ≤ (n : Int) := by omega
  have hi1 : (n : Int) < (F.ks.length : Int) := by omega
  have hbr : brK F.ks n o b = if topK F.ks n = o then (if b then highK F.ks n else lowK F.ks n) else n := rfl
  have HBR := hide hbr
  clear hbr h
  by_cases ht : topK F.ks n = o
  · have ht1 : ((topK F.ks n : Int) != (o : Int)) = false := by simp [ht]
    have HT := hide ht
    clear ht
    cases b
    · go_enter Try.func63, Try.ntmps63
      go_wp2
      go_ret
      refine ⟨?_, (by repeat (first | exact Below.refl _ _ | assumption | refine Below.drew ?_ | refine Below.drewN ?_ _ | refine Below.allocT ?_ (Nat.le_refl _) _ | refine Below.setCell ?_ (by simp <;> omega) _ | refine Below.to ?_ (by assumption) (Nat.le_refl _)))⟩
      rw [HBR.out, if_pos HT.out]; rfl
    · go_enter Try.func63, Try.ntmps63
      go_wp2
      go_ret
      refine ⟨?_, (by repeat (first | exact Below.refl _ _ | assumption | refine Below.drew ?_ | refine Below.drewN ?_ _ | refine Below.allocT ?_ (Nat.le_refl _) _ | refine Below.setCell ?_ (by simp <;> omega) _ | refine Below.to ?_ (by assumption) (Nat.le_refl _)))⟩
      rw [HBR.out, if_pos HT.out]; rfl
  · have ht1 : ((topK F.ks n : Int) != (o : Int)) = true := by simp; omega
    have HT := hide ht
    clear ht
    go_enter Try.func63, Try.ntmps63
    go_wp2
    go_ret
    refine ⟨?_, (by repeat (first | exact Below.refl _ _ | assumption | refine Below.drew ?_ | refine Below.drewN ?_ _ | refine Below.allocT ?_ (Nat.le_refl _) _ | refine Below.setCell ?_ (by simp <;> omega) _ | refine Below.to ?_ (by assumption) (Nat.le_refl _)))⟩
    rw [HBR.out, if_neg HT.out]; rfl

/-- The forest that newForest makes. -/
def newFo (B N : Nat) : Fo := ⟨B, B + 3, N, [⟨N, 0, 0⟩, ⟨N, 0, 0⟩], B, 2, B + 1, 0, fun _ => none, B + 2, 0, fun _ => none⟩
theorem newFo_at (N : Nat) (hN : N ≤ 1000) (w w' : World) (C : Array Value) (hC : C = #[.int .i64 N, .int .i64 0, .int .i64 0, .int .i64 N, .int .i64 0, .int .i64 0])
    (h0 : w'.heap[w.heap.size]? = some (.cells C 89 (0, 0))) (h1 : w'.heap[w.heap.size + 1]? = some (.map #[] 0)) (h2 : w'.heap[w.heap.size + 2]? = some (.map #[] 0))
    (h3 : w'.heap[w.heap.size + 3]? = some (.cells #[.int .i64 N, .slice (some ⟨w.heap.size, 0, none⟩) 2 2, .map (some (w.heap.size + 1)), .map (some (w.heap.size + 2))] 94 (0, 0))) : FoAt w' (newFo w.heap.size N) where
  box := h3
  row := by
    subst hC
    exact ⟨by simp [flat, newFo], .inr ⟨w.heap.size, 2, _, rfl, Nat.le_refl _, h0, Nat.le_refl _, by unfold maxLen; decide, rfl, by simp [newFo, flat, List.range_succ, knF, topK, lowK, highK]⟩⟩
  known := ⟨.map [], ⟨#[], 0, h1, ⟨by simp, MapKept.stamped_empty 0, by simp⟩, Nat.le_refl _, rfl⟩, fun a l _ => ⟨fun _ => rfl, fun x h => by cases h⟩⟩
  joined := ⟨.map [], ⟨#[], 0, h2, ⟨by simp, MapKept.stamped_empty 0, by simp⟩, Nat.le_refl _, rfl⟩, fun a l _ => ⟨fun _ => rfl, fun x h => by cases h⟩⟩
  wf := WF.start N
  k1 := fun k x h => by cases h
  k2 := fun i h2 hi => by simp [newFo] at hi; omega
  j1 := fun o a b x h => by cases h
  nkk := by simp [newFo]
  pb := by simp [newFo]
  bb := by simp [newFo]
  ne1 := by simp [newFo]
  ne2 := by simp [newFo]
  small := by simp [newFo]; omega
set_option maxRecDepth 100000 in
theorem newForest_any (N : Nat) (hN : N ≤ 1000) (w : World) :
    Calls Try.prog 44 #[.int .i64 N] w fun e w' => e = .returned (.pointer (some ⟨w.heap.size + 3, 0, none⟩)) ∧ FoAt w' (newFo w.heap.size N) ∧ Below w.heap.size w w' := by
  have hmm := @run_makeMap Try.prog
  go_enter Try.func44, Try.ntmps44
  go_wp2
  go_ret
  obtain ⟨a0, a1, a2, a3, hB, _⟩ := alloc4 (rfl : _ = (((w.alloc (.cells #[.int .i64 N, .int .i64 0, .int .i64 0, .int .i64 N, .int .i64 0, .int .i64 0] 89)).alloc (.map #[] 0)).alloc (.map #[] 0)).alloc (.cells #[.int .i64 N, .slice (some ⟨w.heap.size, 0, none⟩) 2 2, .map (some (w.heap.size + 1)), .map (some (w.heap.size + 1 + 1))] 94))
  exact ⟨rfl, newFo_at N hN w _ _ rfl a0 a1 a2 a3, hB⟩
end Go.Proofs.Ytmgfijadjclmpaa

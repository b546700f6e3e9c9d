/- Part 13 of this claim's texts: walks and plain laws. -/
import Derived.Test.YtehadoecnmfeoaaGreatRows
import Derived.Test.YtehadoecnmfeoaaGreatGBS12
import Derived.Test.YtehadoecnmfeoaaGreatGBS9
import Derived.Test.YtehadoecnmfeoaaGreatGBS3
import Derived.Deep.RegionHeld3
import Derived.Deep.DrawnRows
import Derived.BigQuiet
import Derived.WalkSpells
import Derived.Lib.SliceRun
set_option linter.unusedVariables false
set_option linter.unusedSimpArgs false
set_option linter.unusedSectionVars false
namespace Go.Proofs.YtehadoecnmfeoaaGreat
open Go.RowKit
section
variable {α : Type} (enc : α → Value) (z : α)
def GRow (w : World) (B : Nat) (v : Value) (l : List α) : Prop := Sl w B 1 v l.length (fun j _ => enc (l.getD j z))
def GRows (w : World) (B : Nat) (v : Value) (L : List (List α)) : Prop := ∃ fv : Nat → Value, Sl w B 1 v L.length (fun i _ => fv i) ∧ ∀ i, i < L.length → GRow enc z w B (fv i) (L.getD i [])
structure GS (e : Nat) (X : Nat → Prop) (B : Nat) (w : World) (sv : Value) (L : List (List α)) (vs : List Value) : Prop where
 len : vs.length = L.length
 own : w.ownsRow B e 1 sv L.length vs
 nx : ∀ b, sv.ownBlock = some b → ¬ X b
 row : ∀ i, i < L.length → GRow enc z w w.heap.size (vs.getD i undef) (L.getD i [])
 ap : ∀ i, i < L.length → 0 < (L.getD i []).length → ∀ b, (vs.getD i undef).ownBlock = some b → ¬ X b ∧ sv.ownBlock ≠ some b
def GStk (e : Nat) (X : Nat → Prop) (B : Nat) (w : World) (sv : Value) (L : List (List α)) : Prop := ∃ vs, GS enc z e X B w sv L vs
variable {enc z}
theorem GRow.below {w w' : World} {B : Nat} {v : Value} {l : List α} (h : GRow enc z w B v l) (hb : Below B w w') : GRow enc z w' B v l := Sl.below h hb
theorem GRow.more {w : World} {B B' : Nat} {v : Value} {l : List α} (h : GRow enc z w B v l) (hB : B ≤ B') : GRow enc z w B' v l := Sl.more h hB
theorem GRow.block {w : World} {B : Nat} {v : Value} {l : List α} (h : GRow enc z w B v l) (hl : 0 < l.length) : ∃ b off cap, v = .slice (some ⟨b, off, none⟩) l.length cap ∧ b < B ∧ v.ownBlock = some b := by
 obtain ⟨A, b, off, cap, rfl, _, hA, _⟩ := h
 rcases hA with ⟨rfl, hb⟩ | h0
 ·
  exact ⟨b, off, cap, rfl, hb, rfl⟩
 ·
  omega
theorem GRow.stay {w w' : World} {B : Nat} {v : Value} {l : List α} (h : GRow enc z w B v l) (hs : ∀ b, 0 < l.length → v.ownBlock = some b → b < B → w'.heap[b]? = w.heap[b]?) : GRow enc z w' B v l := by
 obtain ⟨A, b, off, cap, rfl, hn, hA, hc⟩ := h
 refine ⟨A, b, off, cap, rfl, hn, hA, fun i j hi hj => ?_⟩
 rcases hA with ⟨rfl, hb⟩ | h0
 ·
  have := hs b (by omega) rfl hb
  exact (World.cell?_of_block (a := ⟨b, off + (i * 1 + j), none⟩) this).trans (hc i j hi hj)
 ·
  omega
theorem GRows.below {w w' : World} {B : Nat} {v : Value} {L : List (List α)} (h : GRows enc z w B v L) (hb : Below B w w') : GRows enc z w' B v L := by
 obtain ⟨fv, h1, h2⟩ := h
 exact ⟨fv, h1.below hb, fun i hi => (h2 i hi).below hb⟩
theorem GRows.more {w : World} {B B' : Nat} {v : Value} {L : List (List α)} (h : GRows enc z w B v L) (hB : B ≤ B') : GRows enc z w B' v L := by
 obtain ⟨fv, h1, h2⟩ := h
 exact ⟨fv, h1.more hB, fun i hi => (h2 i hi).more hB⟩
theorem GRows.up {w w' : World} {v : Value} {L : List (List α)} (h : GRows enc z w w.heap.size v L) (hb : Below w.heap.size w w') : GRows enc z w' w'.heap.size v L := (h.below hb).more hb.size
theorem GRows.form {w : World} {B : Nat} {v : Value} {L : List (List α)} (h : GRows enc z w B v L) : ∃ A cap, v = .slice A L.length cap := by
 obtain ⟨fv, h1, _⟩ := h
 exact Sl.form h1
theorem GStk.nil {e : Nat} {X : Nat → Prop} (w : World) (B : Nat) : GStk enc z e X B w (.slice none 0 0) [] :=
 ⟨[], rfl, World.ownsRow_nil w B e 1, fun b hb => (by cases hb), fun i hi => by simp at hi, fun i hi => by simp at hi⟩
theorem GStk.form {e : Nat} {X : Nat → Prop} {B : Nat} {w : World} {sv : Value} {L : List (List α)} (h : GStk enc z e X B w sv L) : ∃ A cap, sv = .slice A L.length cap ∧ L.length ≤ cap ∧ cap ≤ maxLen := by
 obtain ⟨vs, h⟩ := h
 rcases h.own.2 with ⟨h1, h2⟩ | ⟨g, cap, cur, h1, _, _, h2, h3, _⟩
 ·
  exact ⟨none, 0, by rw [h1, h2], by omega, by unfold maxLen; omega⟩
 ·
  exact ⟨_, cap, h1, h2, h3⟩
theorem ownsRow_same {w w' : World} {base e size n : Nat} {v : Value} {xs : List Value} (h : w.ownsRow base e size v n xs) (hs : ∀ b, v.ownBlock = some b → w'.heap[b]? = w.heap[b]?) : w'.ownsRow base e size v n xs := by
 obtain ⟨h1, h2 | ⟨g, cap, cur, rfl, h4, h5, h6⟩⟩ := h
 ·
  exact ⟨h1, .inl h2⟩
 ·
  exact ⟨h1, .inr ⟨g, cap, cur, rfl, h4, (hs g rfl).trans h5, h6⟩⟩
theorem GS.step {e : Nat} {S X X' : Nat → Prop} {B : Nat} {w w' : World} {sv : Value} {L : List (List α)} {vs : List Value} (h : GS enc z e X B w sv L vs) (hk : Keeps S w w') (hS : ∀ b, b < w.heap.size → S b → X b) (hX : ∀ b, b < w.heap.size → X' b → X b) : GS enc z e X' B w' sv L vs := by
 refine ⟨h.len, ownsRow_same h.own fun b hb => hk.block b (h.own.lt b hb).2 fun hs => h.nx b hb (hS b (h.own.lt b hb).2 hs), fun b hb hx => h.nx b hb (hX b (h.own.lt b hb).2 hx), fun i hi => ?_, fun i hi hl b hb => ?_⟩
 ·
  exact ((h.row i hi).stay fun b hl hb hlt => hk.block b hlt fun hs => (h.ap i hi hl b hb).1 (hS b hlt hs)).more hk.size
 ·
  obtain ⟨b', _, _, _, hlt, hob⟩ := (h.row i hi).block hl
  rw [hob] at hb
  injection hb with hb
  subst hb
  have h3 := h.ap i hi hl b' hob
  exact ⟨fun hx => h3.1 (hX b' hlt hx), h3.2⟩
theorem GS.below {e : Nat} {X : Nat → Prop} {B : Nat} {w w' : World} {sv : Value} {L : List (List α)} {vs : List Value} (h : GS enc z e X B w sv L vs) (hb : Below w.heap.size w w') : GS enc z e X B w' sv L vs :=
 h.step (S := fun _ => False) (Keeps.of_below hb) (fun _ _ h => h.elim) (fun _ _ h => h)
theorem GStk.base {e : Nat} {X : Nat → Prop} {B B' : Nat} {w : World} {sv : Value} {L : List (List α)} (h : GStk enc z e X B w sv L) (hB : B' ≤ B) : GStk enc z e X B' w sv L := by
 obtain ⟨vs, h⟩ := h
 exact ⟨vs, h.len, owns_base h.own hB, h.nx, h.row, h.ap⟩
theorem GStk.rows {e : Nat} {X : Nat → Prop} {B : Nat} {w : World} {sv : Value} {L : List (List α)} (h : GStk enc z e X B w sv L) : GRows enc z w w.heap.size sv L := by
 obtain ⟨vs, h⟩ := h
 refine ⟨fun i => vs.getD i undef, Sl.of_owns h.own fun i j hi hj => ?_, h.row⟩
 obtain rfl : j = 0 := by omega
 have := h.len
 have hi2 : i < vs.length := by omega
 rw [Nat.mul_one, Nat.add_zero]
 simp [hi2]
theorem getD_push {β : Type} {l : List β} {x d : β} {i : Nat} : (l ++ [x]).getD i d = if i < l.length then l.getD i d else if i = l.length then x else d := by
 split
 ·
  rename_i h
  rw [List.getD_eq_getElem?_getD, List.getElem?_append_left h, ← List.getD_eq_getElem?_getD]
 ·
  rename_i h
  split
  ·
   rename_i h2
   subst h2
   simp
  ·
   rw [List.getD_eq_getElem?_getD, List.getElem?_eq_none (by simp; omega)]
   rfl
theorem GS.push {e : Nat} {X : Nat → Prop} {B : Nat} {w w1 : World} {A : Option Addr} {n cap : Nat} {L : List (List α)} {vs : List Value} {rv v1 : Value} {l : List α} {o : Obj} (h : GS enc z e X B w (.slice A n cap) L vs) (hr : GRow enc z w w.heap.size rv l)
  (hrx : 0 < l.length → ∀ b, rv.ownBlock = some b → ¬ X b ∧ (Value.slice A n cap).ownBlock ≠ some b) (hXw : ∀ b, X b → b < w.heap.size)
  (hown : w1.ownsRow B e 1 v1 (L.length + 1) (vs ++ [rv])) (hg : (w.alloc o).grownBy w1 (Value.slice A n cap).ownBlock)
  (hat : v1.ownBlock = (Value.slice A n cap).ownBlock ∨ v1.ownBlock = some (w.alloc o).heap.size) :
  GStk enc z e X B w1 v1 (L ++ [l]) ∧ Keeps (fun i => (Value.slice A n cap).ownBlock = some i) w w1 := by
 have hk : Keeps (fun i => (Value.slice A n cap).ownBlock = some i) w w1 := Keeps.trans ((Keeps.refl _ w).alloc o) (Keeps.of_grown hg (fun k hk => hk)) (fun _ _ h => h)
 have hvl := h.len
 have hsz := hk.size
 have hall : ∀ i, i < (L ++ [l]).length → GRow enc z w w.heap.size ((vs ++ [rv]).getD i undef) ((L ++ [l]).getD i []) ∧ (0 < ((L ++ [l]).getD i []).length → ∀ b, ((vs ++ [rv]).getD i undef).ownBlock = some b → ¬ X b ∧ (Value.slice A n cap).ownBlock ≠ some b) := by
  intro i hi
  rw [getD_push, getD_push, hvl]
  by_cases h1 : i < L.length
  ·
   rw [if_pos h1, if_pos h1]
   exact ⟨h.row i h1, h.ap i h1⟩
  ·
   have : i = L.length := by simp at hi; omega
   rw [if_neg h1, if_pos this, if_neg h1, if_pos this]
   exact ⟨hr, hrx⟩
 refine ⟨⟨vs ++ [rv], by simp [hvl], by rw [List.length_append]; exact hown, fun b hb hx => ?_, fun i hi => ?_, fun i hi hl b hb => ?_⟩, hk⟩
 ·
  rcases hat with h1 | h1
  ·
   exact h.nx b (h1.symm.trans hb) hx
  ·
   rw [h1] at hb
   injection hb with hb
   have := hXw b hx
   simp at hb
   omega
 ·
  obtain ⟨q1, q2⟩ := hall i hi
  exact (q1.stay fun b hl hb hlt => hk.block b hlt fun hs => (q2 hl b hb).2 hs).more hsz
 ·
  obtain ⟨q1, q2⟩ := hall i hi
  obtain ⟨b', _, _, _, hlt, hob⟩ := q1.block hl
  have hbb : b = b' := by rw [hob] at hb; injection hb with hb; exact hb.symm
  subst hbb
  refine ⟨(q2 hl b hob).1, fun hv => ?_⟩
  rcases hat with h1 | h1
  ·
   exact (q2 hl b hob).2 (h1.symm.trans hv)
  ·
   rw [h1] at hv
   injection hv with hv
   simp at hv
   omega
end
abbrev Vars (w : World) (B : Nat) (v : Value) (L : List (List Bool)) : Prop := GRows Value.bool false w B v L
abbrev VStk (X : Nat → Prop) (B : Nat) (w : World) (sv : Value) (L : List (List Bool)) : Prop := GStk Value.bool false 35 X B w sv L
theorem infoBools : (Tryz.prog.info? 35).map (fun i => (i.zero, i.size, i.bytes)) = some (some (.slice none 0 0), 1, 24) := by kernel_rfl
theorem infoForm : (Tryz.prog.info? 46).map (fun i => (i.zero, i.size, i.bytes)) = some (some (.slice none 0 0), 1, 24) := by kernel_rfl
theorem and1 (x : Int) (h0 : 0 ≤ x) (h1 : x < 9223372036854775808) : bits .and .i64 x 1 = x % 2 := by
 have h := bits_mask .i64 63 (by decide) wrap_small 1 (by decide) x h0 (by simpa using h1)
 have e : ((2 : Int) ^ 1 - 1) = 1 := by decide
 have e2 : ((2 : Int) ^ 1) = 2 := by decide
 rw [e, e2] at h
 exact h
theorem bit_one (n d : Nat) (h : n < 9223372036854775808) : decide (n / 2 ^ d % 2 = 1) = (bits .and .i64 ((n : Int) / 2 ^ d) 1 == 1) := by
 have e : (n : Int) / 2 ^ d = ((n / 2 ^ d : Nat) : Int) := by simp
 have h2 : n / 2 ^ d ≤ n := Nat.div_le_self _ _
 rw [e]
 generalize n / 2 ^ d = q at h2 ⊢
 rw [and1 _ (by omega) (by omega)]
 by_cases h3 : q % 2 = 1
 ·
  simp [h3]; omega
 ·
  simp [h3]; omega
set_option maxRecDepth 100000 in
set_option maxHeartbeats 2000000 in
theorem variant_any (N n : Nat) (w : World) (hN : N ≤ 12) (hn : n < 2 ^ N) :
  Calls Tryz.prog 128 #[.int .i64 n, .int .i64 N] w fun e w' => e = .returned (.slice (some ⟨w.heap.size, 0, none⟩) N N) ∧ VarAt w' w.heap.size N (bitsN N n) ∧ Below w.heap.size w w' := by
 obtain ⟨i1, hi1, jz0, jz1, jz2⟩ := info_parts infoBool
 have hmk : ∀ W : World, (Instr.makeSlice 35 (.int .i64 N) (.int .i64 N)).run Tryz.prog W = .ok (.slice (some ⟨W.heap.size, 0, none⟩) N N) (W.alloc (.cells (madeCells #[.bool false] (N * 1)) 4)) := fun W => by
  have h1 := run_make (P := Tryz.prog) W 35 4 i1 (.bool false) Tryz.underlying35 hi1 jz0 .i64 .i64 N N (by omega) (Int.le_refl _) (by rw [jz2]; omega) (by omega)
  rw [jz1] at h1
  simpa [Value.cells] using h1
 go_enter Tryz.func128, Tryz.ntmps128
 go_wp2
 generalize hw0 : World.alloc _ _ = w0
 obtain ⟨hb0, hB0, hs0⟩ := alloc1 hw0
 clear hw0
 have hva : VarAt w0 w.heap.size N [] := by
  unfold VarAt
  rw [hb0, made_bools]
  rfl
 have HVA := hide hva
 have HB0 := hide hB0
 clear hb0 hB0 hs0 hva hmk
 have hn12 : (n : Int) < 4096 := by
  have : 2 ^ N ≤ 2 ^ 12 := Nat.pow_le_pow_right (by omega) hN
  omega
 go_loopw [6] (fun i wr => ∃ k : Nat, k ≤ N ∧ i = .int .i64 k ∧ Hid (VarAt wr w.heap.size N ((bitsN N n).take k)) ∧ Hid (Below w.heap.size w wr)) (fun i _ => N - (intOf i).toNat)
 case atStart => exact ⟨0, Nat.zero_le _, rfl, HVA.out, HB0.out⟩
 case round =>
  obtain ⟨k, hk, rfl, hV, hB⟩ := hrel
  by_cases hlt : k < N
  ·
   have hll : ((bitsN N n).take k).length = k := by simp [bitsN_len]; omega
   have c0 : wr.cell? ⟨w.heap.size, k, none⟩ = some (.bool false) := by have := hV.out.cell (by rw [hll]; exact hlt); rwa [hll] at this
   have c1 : wr.frozen? ⟨w.heap.size, k, none⟩ = false := unfrozenOf hV.out _
   clear hll
   go_wp2_with fail
   go_roundw
   case rel =>
    refine ⟨k + 1, by omega, by go_num, ?_, ?_⟩
    ·
     have h1 := hV.out.set (by simp [bitsN_len]; omega) (bits .and .i64 ((n : Int) / 2 ^ (N - 1 - k)) 1 == 1)
     have hll : ((bitsN N n).take k).length = k := by simp [bitsN_len]; omega
     rw [hll] at h1
     rw [take_getD (z := false) (by rw [bitsN_len]; exact hlt), bitsN_get N n k hlt, bit_one _ _ (by omega)]
     exact h1
    ·
     exact hB.out.setCell (Nat.le_refl _) _
   case measure => simp [intOf]; omega
  ·
   obtain rfl : k = N := by omega
   have hV2 := hV.out
   rw [List.take_of_length_le (by rw [bitsN_len]; exact Nat.le_refl _)] at hV2
   have HV2 := hide hV2
   clear hV2
   go_wp2_with fail
   go_ret
   exact ⟨rfl, HV2.out, hB.out⟩
theorem fst_neg {m : Mo} {vs : List Bool} (h : allF (vf vs) m.rules = true) : fstR vs m.rules = -1 := by
 refine idxI_none _ [] _ fun j hj => ?_
 have := (List.all_eq_true.1 h) (m.rules.getD j []) (getD_mem hj)
 simp only [this]; rfl
theorem fst_pos {m : Mo} {vs : List Bool} (h : allF (vf vs) m.rules = false) : 0 ≤ fstR vs m.rules := by
 have h1 := idxI_any (fun f => !evF1 (vf vs) f) m.rules
 have h2 : m.rules.any (fun f => !evF1 (vf vs) f) = true := by
  unfold allF at h
  rw [List.all_eq_false] at h
  obtain ⟨x, hx, hy⟩ := h
  rw [List.any_eq_true]
  exact ⟨x, hx, by simpa using hy⟩
 rw [h2, decide_eq_true_eq] at h1
 exact h1
theorem bitsN_vars {w : World} {b N n : Nat} (h : VarAt w b N (bitsN N n)) : Bols w w.heap.size (.slice (some ⟨b, 0, none⟩) N N) (bitsN N n) := by
 have h1 := VarAt.bols (w := w) (b := b) (l := bitsN N n) (by rw [bitsN_len]; exact h)
 rw [bitsN_len] at h1
 exact h1
set_option maxRecDepth 100000 in
set_option maxHeartbeats 4000000 in
theorem Variants_any (m : Mo) (ov rv : Value) (w : World) (h : MoAt w w.heap.size ov rv m) (he : m.err = 0) (hN : m.opts.length ≤ 12) :
  Calls Tryz.prog 59 #[.agg #[ov, rv]] w fun e w' => ∃ v, e = .returned v ∧ VStk (fun _ => False) w.heap.size w' v (allM m) ∧ Below w.heap.size w w' := by
 obtain ⟨i1, hi1, jz0, jz1, jz2⟩ := info_parts infoBools
 obtain ⟨A, cap, hov⟩ := Sl.form h.o
 obtain ⟨Ar, capr, hrv⟩ := h.r.form
 have H := hide h
 have HE := hide he
 subst hov hrv
 clear h he
 go_enter Tryz.func59, Tryz.ntmps59
 go_upto_region 1 with (fail)
 generalize hw0 : World.alloc _ _ = w0
 obtain ⟨hb0, hB0, hs0⟩ := alloc1 hw0
 clear hw0
 have HX0 : Hid (MoBox w0 w.heap.size (.slice A m.opts.length cap) (.slice Ar m.rules.length capr)) := hb0
 have HB0 := hide hB0
 clear hb0 hB0 hs0
 have hp12 : 2 ^ m.opts.length ≤ 4096 := by
  have : 2 ^ m.opts.length ≤ 2 ^ 12 := Nat.pow_le_pow_right (by omega) hN
  omega
 have hvl := varsN_all m
 have hbl : ∀ k, k < 2 ^ m.opts.length → Hid (k < 2 ^ m.opts.length) := fun k h => h
 have hwr : wrap64 ((2 : Int) ^ m.opts.length) = ((2 ^ m.opts.length : Nat) : Int) := by
  rw [show ((2 : Int) ^ m.opts.length) = ((2 ^ m.opts.length : Nat) : Int) by simp]
  generalize 2 ^ m.opts.length = p at hp12 ⊢
  exact IntWalk.wrap64_in _ (by omega)
 obtain ⟨p, hp⟩ : ∃ p, 2 ^ m.opts.length = p := ⟨_, rfl⟩
 rw [hp] at hp12 hvl hwr
 have HVL := hide hvl
 have HBL : Hid (∀ k, k < p → k < 2 ^ m.opts.length) := fun k hk => by rw [hp]; exact hk
 clear hvl hp hbl
 go_wp2_with fail
 go_loopw [3, 4] (fun sv i wr => ∃ k : Nat, k ≤ p ∧ i = .int .i64 k ∧ Hid (VStk (fun _ => False) (w.heap.size + 1) wr sv (varsN m k)) ∧ Hid (Below w.heap.size w wr) ∧ Hid (MoBox wr w.heap.size (.slice A m.opts.length cap) (.slice Ar m.rules.length capr))) (fun _ i _ => p - (intOf i).toNat)
 case atStart => exact ⟨0, Nat.zero_le _, rfl, GStk.nil _ _, HB0.out, HX0.out⟩
 case round =>
  obtain ⟨k, hk, rfl, hS, hB, hX⟩ := hrel
  have c0 := cellOf hX.out 0
  have c1 := cellOf hX.out 1
  by_cases hlt : k < p
  ·
   have hsz := box_lt hX.out
   have hvar := variant_any m.opts.length k wr hN (HBL.out k hlt)
   have HVAR := hide hvar
   obtain ⟨f, hf⟩ : ∃ f, fstR (bitsN m.opts.length k) m.rules = f := ⟨_, rfl⟩
   have HF := hide hf
   have HSZ := hide hsz
   obtain ⟨A1, cap1, hA1, hcap1, hcap2⟩ := hS.out.form
   subst hA1
   obtain ⟨vs, hgs⟩ := hS.out
   have HGS := hide hgs
   have hvk := varsN_le m k
   clear hvar hf hsz hgs
   cases hal : allF (vf (bitsN m.opts.length k)) m.rules with
   | true =>
    have hf1 : f = -1 := HF.out.symm.trans (fst_neg hal)
    have hvs := varsN_yes hal
    have hf2 : f < 0 := by omega
    have HF1 := hide hf1
    have HVS := hide hvs
    have HVK := hide hvk
    clear hal hf1 hvs hvk
    go_wp2_with (first | (go_at_call 128; refine HVAR.out.mono ?_; rintro e w1 ⟨rfl, hv1, hB1⟩; have hbx := box_to hX.out hB1; have d0 := cellOf hbx 0; have d1 := cellOf hbx 1; have HV1 := hide hv1; have HB1 := hide hB1; have HX1 := hide hbx; clear hbx hv1 hB1 c0 c1) | (go_at_call 129; refine (rfirst_any m (bitsN m.opts.length k) _ _ _ _ ((H.out.up hB.out).up HB1.out) (bitsN_vars HV1.out) HE.out (bitsN_len _ _)).mono ?_; rw [HF.out]; rintro e w2 ⟨rfl, hB2⟩; have hbx := box_to HX1.out hB2; have HX2 := hide hbx; have HB2 := hide hB2; have HG2 := hide ((HGS.out.below HB1.out).below hB2); have HS2 : Hid (w.heap.size + 1 ≤ w2.heap.size) := (by have h1 := HSZ.out; have h2 := HB1.out.size; have h3 := hB2.size; show _ ≤ _; omega); clear hbx hB2 d0 d1) | (at_builtin; go_must (refine wpList_append_own_at _ rfl (.tmp 24) (.tmp 26) _ rfl (w.heap.size + 1) 35 i1 _ 1 24 Tryz.underlying101 hi1 jz0 jz1 jz2 rfl (by omega) _ _ _ rfl ((HG2.out.own).alloc _) ⟨w2.heap.size, 0, none⟩ 1 1 [.slice (some ⟨wr.heap.size, 0, none⟩) m.opts.length m.opts.length] rfl rfl (World.news_of_block (heap_alloc_new w2 _)) (by simp [Value.oneCell']) (by have h1 := HVK.out; unfold maxLen; omega) (by have h1 := HVK.out; omega) (by have h1 := HS2.out; simp; omega) ?_); intro v1 w3 hown1 hg1 _ hat1; have HOWN := hide hown1; have HG1 := hide hg1; have HAT := hide hat1; clear hown1 hg1 hat1))
    go_roundw
    case rel =>
     have hp := HG2.out.push ((bitsN_vars HV1.out).up HB2.out) (fun _ b hb => ⟨fun h => h, fun hc => by
      have h1 := HGS.out.own.lt b hc
      injection hb with hb
      simp at hb
      omega⟩) (fun _ h => h.elim) HOWN.out HG1.out HAT.out
     have hlo : ∀ i, (Value.slice A1 (varsN m k).length cap1).ownBlock = some i → w.heap.size + 1 ≤ i := fun i hi => (HGS.out.own.lt i hi).1
     refine ⟨k + 1, by omega, by go_num, ?_, ?_, ?_⟩
     ·
      rw [HVS.out]; exact hp.1
     ·
      exact (Below.to (Below.to hB.out HB1.out (Nat.le_refl _)) HB2.out (Nat.le_refl _)).trans (hp.2.below (by have := HS2.out; omega) (fun k hk => by have := hlo k hk; omega))
     ·
      exact (hp.2.block _ (by have := HS2.out; omega) (fun hk => by have := hlo _ hk; omega)).trans HX2.out
    case measure => simp [intOf]; omega
   | false =>
    have hf1 := fst_pos hal
    rw [HF.out] at hf1
    have hvs := varsN_no hal
    have HVS := hide hvs
    have hf2 : ¬ f < 0 := by omega
    clear hal hf1 hvs hvk
    go_wp2_with (first | (go_at_call 128; refine HVAR.out.mono ?_; rintro e w1 ⟨rfl, hv1, hB1⟩; have hbx := box_to hX.out hB1; have d0 := cellOf hbx 0; have d1 := cellOf hbx 1; have HV1 := hide hv1; have HB1 := hide hB1; have HX1 := hide hbx; clear hbx hv1 hB1 c0 c1) | (go_at_call 129; refine (rfirst_any m (bitsN m.opts.length k) _ _ _ _ ((H.out.up hB.out).up HB1.out) (bitsN_vars HV1.out) HE.out (bitsN_len _ _)).mono ?_; rw [HF.out]; rintro e w2 ⟨rfl, hB2⟩; have hbx := box_to HX1.out hB2; have HX2 := hide hbx; have HB2 := hide hB2; have HG2 := hide ((HGS.out.below HB1.out).below hB2); clear hbx hB2 d0 d1))
    go_roundw
    case rel =>
     exact ⟨k + 1, by omega, by go_num, by rw [HVS.out]; exact ⟨vs, HG2.out⟩, Below.to (Below.to hB.out HB1.out (Nat.le_refl _)) HB2.out (Nat.le_refl _), HX2.out⟩
    case measure => simp [intOf]; omega
  ·
   obtain rfl : k = p := by omega
   obtain ⟨A1, cap1, hA1, hcap1, hcap2⟩ := hS.out.form
   have hs := hS.out.base (B' := w.heap.size) (by omega)
   rw [HVL.out] at hs
   have HSS := hide hs
   clear hs
   subst hA1
   go_wp2_with fail
   go_ret
   exact ⟨_, rfl, HSS.out, hB.out⟩
def cntE (m : Mo) (f : List Int) : Nat := if m.errF [f] ≠ 0 then 0 else (whereF (allM m) f).length
def lisE (m : Mo) (f : List Int) (most : Int) : Int := if m.errF [f] ≠ 0 then m.errF [f] else if most < 1 ∨ 64 < most then 1 else 0
def lisL (m : Mo) (f : List Int) (most : Int) : List (List Bool) := if lisE m f most = 0 then (whereF (allM m) f).take most.toNat else []
def ListP (L : List (List Bool)) (x : Int) (w : World) (e : Ending) (w' : World) : Prop := ∃ v, e = .returned (.tuple #[v, .int .i64 x]) ∧ Vars w' w'.heap.size v L ∧ Below w.heap.size w w'
theorem results_cell1 {P : Program} {fn : Func} {p : Tmp} {ty : TypeId} (h : fn.results = #[.cell p ty]) (tmps : Array Value) (w : World) :
  (results fn tmps).run P w = ((asAddr (tmps.getD p undef)).run P w).andThen fun a w₁ => (loadVar ty a).run P w₁ := by
 simp only [results, h]
 simp [Sem.run_bind, Result.andThen]
 try (congr; done)
theorem sl_box {w : World} {b B n t : Nat} {C : Array Value} {f : Nat → Nat → Value} (hb : w.heap[b]? = some (.cells C t (0, 0))) (hB : b < B) (h : ∀ i, i < n → C[i]? = some (f i 0)) : Sl w B 1 (.slice (some ⟨b, 0, none⟩) n n) n f :=
 ⟨_, b, 0, n, rfl, Nat.le_refl _, .inl ⟨rfl, hB⟩, fun i j hi hj => by
  obtain rfl : j = 0 := by omega
  rw [Nat.mul_one, Nat.add_zero, Nat.zero_add, cellOf hb]
  exact h i hi⟩
theorem ints_box {w : World} {b B t : Nat} {l : List Int} (hb : w.heap[b]? = some (.cells (l.map (Value.int .i64)).toArray t (0, 0))) (hB : b < B) : Ints w B (.slice (some ⟨b, 0, none⟩) l.length l.length) l :=
 sl_box hb hB fun i hi => by simp [hi]
theorem names_box {w : World} {b B t : Nat} {l : List ByteArray} (hb : w.heap[b]? = some (.cells (l.map Value.string).toArray t (0, 0))) (hB : b < B) : Names w B (.slice (some ⟨b, 0, none⟩) l.length l.length) l :=
 sl_box hb hB fun i hi => by simp [hi]
theorem bols_box {w : World} {b B t : Nat} {l : List Bool} (hb : w.heap[b]? = some (.cells (l.map Value.bool).toArray t (0, 0))) (hB : b < B) : Bols w B (.slice (some ⟨b, 0, none⟩) l.length l.length) l :=
 sl_box hb hB fun i hi => by simp [hi]
def exM : Mo := ⟨[⟨#[116, 111, 119]⟩, ⟨#[104, 101, 97, 116]⟩, ⟨#[108, 101, 100]⟩], [[-5, 1, 2], [-3, -4, 0, 2]]⟩
set_option maxRecDepth 100000 in
set_option maxHeartbeats 1000000 in
theorem SameVariant_any (a b : List Bool) (u v : Value) (w : World) (ha : Bols w w.heap.size u a) (hb : Bols w w.heap.size v b) (hal : a.length ≤ 1000) (hbl : b.length ≤ maxLen) :
  Calls Tryz.prog 41 #[u, v] w fun e w' => e = .returned (.bool (decide (a = b))) ∧ Below w.heap.size w w' := by
 obtain ⟨A, b0, off, cap, rfl, hnc, hA, hc⟩ := ha
 obtain ⟨A', b1, off1, cap1, rfl, hnc1, hA1, hc1⟩ := hb
 unfold maxLen at hbl
 by_cases hl : a.length = b.length
 ·
  have hl1 : ((a.length : Int) != (b.length : Int)) = false := by simp [hl]
  have HL := hide hl
  have HC := hide hc
  have HC1 := hide hc1
  have HA := hide hA
  have HA1 := hide hA1
  clear hl hc hc1 hA hA1
  go_enter Tryz.func41, Tryz.ntmps41
  go_wp2
  go_loopw [5] (fun i wr => ∃ k : Nat, k ≤ a.length ∧ i = .int .i64 k ∧ Hid (∀ j, j < k → a.getD j false = b.getD j false) ∧ Below w.heap.size w wr) (fun i _ => a.length - (intOf i).toNat)
  case atStart => exact ⟨0, Nat.zero_le _, rfl, fun j hj => by omega, Below.refl _ _⟩
  case round =>
   obtain ⟨k, hk, rfl, hall, hB⟩ := hrel
   by_cases hkl : k < a.length
   ·
    have hkb : k < b.length := by have := HL.out; omega
    obtain ⟨rfl, hbb⟩ : A = some ⟨b0, off, none⟩ ∧ b0 < w.heap.size := by
     rcases HA.out with h | h
     ·
      exact h
     ·
      omega
    obtain ⟨rfl, hbb1⟩ : A' = some ⟨b1, off1, none⟩ ∧ b1 < w.heap.size := by
     rcases HA1.out with h | h
     ·
      exact h
     ·
      omega
    obtain ⟨x, hx⟩ : ∃ x, a.getD k false = x := ⟨_, rfl⟩
    obtain ⟨y, hy⟩ : ∃ y, b.getD k false = y := ⟨_, rfl⟩
    have c0 : wr.cell? ⟨b0, off + k, none⟩ = some (.bool x) := by
     have h1 := HC.out k 0 hkl (by omega)
     rw [Nat.mul_one, Nat.add_zero, hx] at h1
     exact (hB.cell (p := ⟨b0, off + k, none⟩) hbb).trans h1
    have c1 : wr.cell? ⟨b1, off1 + k, none⟩ = some (.bool y) := by
     have h1 := HC1.out k 0 hkb (by omega)
     rw [Nat.mul_one, Nat.add_zero, hy] at h1
     exact (hB.cell (p := ⟨b1, off1 + k, none⟩) hbb1).trans h1
    have hsz := hB.size
    have l0 : b0 < wr.heap.size := by omega
    have l1 : b1 < wr.heap.size := by omega
    have j0 : (0 : Int) ≤ (k : Int) := by omega
    have j1 : (k : Int) < (a.length : Int) := by omega
    have j2 : (k : Int) < (b.length : Int) := by omega
    have HXY := hide (And.intro hx hy)
    clear hx hy
    by_cases hxy : x = y
    ·
     have hne : (!(x == y)) = false := by simp [hxy]
     have HE := hide hxy
     clear hxy
     go_wp2_with fail
     refine wp_region_held_drew (S := (fun w' => Below wr.heap.size wr w')) (by kernel_rfl) ?_ (fun hHeld => ?_)
     ·
      try dsimp only
      exact zP
     refine zT 0 rfl ?_
     refine zT 1 rfl ?_
     refine zT 2 rfl ?_
     refine zT 3 rfl ?_
     refine zT 4 rfl ?_
     refine zT 5 rfl ?_
     refine zT 6 rfl ?_
     refine zT 7 rfl ?_
     refine zT 8 rfl ?_
     refine wpAnyH_done (by kernel_rfl) ?_ _
     go_wp2_with fail
     go_roundw
     case rel => exact ⟨k + 1, by omega, by go_num, fun j hj => by
       rcases Nat.lt_or_ge j k with h | h
       ·
        exact hall.out j h
       ·
        rw [show j = k from by omega, HXY.out.1, HXY.out.2, HE.out], Below.to hB hHeld (Nat.le_refl _)⟩
     case measure => simp [intOf]; omega
    ·
     have hne : (!(x == y)) = true := by simpa using hxy
     have HE := hide hxy
     clear hxy
     go_wp2_with fail
     refine wp_region_held_drew (S := (fun w' => Below wr.heap.size wr w')) (by kernel_rfl) ?_ (fun hHeld => ?_)
     ·
      try dsimp only
      exact zP
     refine zT 0 rfl ?_
     refine zT 1 rfl ?_
     refine zT 2 rfl ?_
     refine zT 3 rfl ?_
     refine zT 4 rfl ?_
     refine zT 5 rfl ?_
     refine zT 6 rfl ?_
     refine zT 7 rfl ?_
     refine zT 8 rfl ?_
     refine wpAnyH_done (by kernel_rfl) ?_ _
     go_wp2_with fail
     go_ret
     refine ⟨ret_bool (Eq.symm (decide_eq_false fun e => HE.out ?_)), zP⟩
     rw [← HXY.out.1, ← HXY.out.2, e]
   ·
    obtain rfl : k = a.length := by omega
    go_wp2
    go_ret
    refine ⟨ret_bool (Eq.symm (decide_eq_true ?_)), hB⟩
    apply List.ext_getElem HL.out
    intro i h1 h2
    have := hall.out i h1
    simpa [List.getD_eq_getElem?_getD, h1, h2] using this
 ·
  have hl1 : ((a.length : Int) != (b.length : Int)) = true := by simp; omega
  have HL := hide hl
  clear hl hc hc1 hA hA1
  go_enter Tryz.func41, Tryz.ntmps41
  go_wp2
  go_ret
  exact ⟨ret_bool (Eq.symm (decide_eq_false fun e => HL.out (by rw [e]))), zP⟩
def ListR (F : Fo) (B : Nat) (L' : List (List Bool)) (out : Value) (w : World) (e : Ending) (w' : World) : Prop :=
 ∃ v', e = .returned v' ∧ VStk (SF F) B w' v' L' ∧ Keeps (fun k => out.ownBlock = some k) w w' ∧ (v'.ownBlock = out.ownBlock ∨ ∀ k, v'.ownBlock = some k → w.heap.size ≤ k)
def lstK (ks : List Kn) (N n : Nat) (l : List Bool) (k : Nat) : List (List Bool) := if k = 0 then [] else if k = 1 then sat ks N n (l ++ [false]) else sat ks N n l
def largeB (m : Mo) : Bool := (decide (9 < m.opts.length) && decide (m.opts.length ≤ 40)) || (decide (12 < m.rules.length) && decide (m.rules.length ≤ 60))
theorem large_small {m : Mo} (h : largeB m = false) (he : m.err = 0) : m.opts.length ≤ 9 ∧ m.rules.length ≤ 12 := by
 obtain ⟨h1, h2, _⟩ := Mo.ok he
 unfold largeB at h
 simp at h
 omega
set_option maxRecDepth 100000 in
set_option maxHeartbeats 2000000 in
theorem Large_any (m : Mo) (ov rv : Value) (w : World) (h : MoAt w w.heap.size ov rv m) :
  Calls Tryz.prog 51 #[.agg #[ov, rv]] w fun e w' => e = .returned (.bool (largeB m)) ∧ Below w.heap.size w w' := by
 obtain ⟨A, cap, hov⟩ := Sl.form h.o
 obtain ⟨Ar, capr, hrv⟩ := h.r.form
 subst hov hrv
 clear h
 by_cases h1 : (9 : Int) < (m.opts.length : Int)
 ·
  by_cases h2 : (m.opts.length : Int) ≤ 40
  ·
   have hr : largeB m = true := by simp [largeB]; omega
   have HR := hide hr
   clear hr
   go_enter Tryz.func51, Tryz.ntmps51
   go_wp2_with fail
   go_ret
   exact ⟨ret_bool HR.out.symm, zP⟩
  ·
   by_cases h3 : (12 : Int) < (m.rules.length : Int)
   ·
    have hr : largeB m = decide ((m.rules.length : Int) ≤ 60) := by
     unfold largeB
     rw [show decide (m.opts.length ≤ 40) = false from decide_eq_false (by omega), show decide (12 < m.rules.length) = true from decide_eq_true (by omega), Bool.and_false, Bool.false_or, Bool.true_and]
     exact decide_eq_decide.2 (by omega)
    have HR := hide hr
    clear hr
    go_enter Tryz.func51, Tryz.ntmps51
    go_wp2_with fail
    go_ret
    exact ⟨ret_bool HR.out.symm, zP⟩
   ·
    have hr : largeB m = false := by simp [largeB]; omega
    have HR := hide hr
    clear hr
    go_enter Tryz.func51, Tryz.ntmps51
    go_wp2_with fail
    go_ret
    exact ⟨ret_bool HR.out.symm, zP⟩
 ·
  by_cases h3 : (12 : Int) < (m.rules.length : Int)
  ·
   have hr : largeB m = decide ((m.rules.length : Int) ≤ 60) := by
    unfold largeB
    rw [show decide (9 < m.opts.length) = false from decide_eq_false (by omega), show decide (12 < m.rules.length) = true from decide_eq_true (by omega), Bool.false_and, Bool.false_or, Bool.true_and]
    exact decide_eq_decide.2 (by omega)
   have HR := hide hr
   clear hr
   go_enter Tryz.func51, Tryz.ntmps51
   go_wp2_with fail
   go_ret
   exact ⟨ret_bool HR.out.symm, zP⟩
  ·
   have hr : largeB m = false := by simp [largeB]; omega
   have HR := hide hr
   clear hr
   go_enter Tryz.func51, Tryz.ntmps51
   go_wp2_with fail
   go_ret
   exact ⟨ret_bool HR.out.symm, zP⟩
def frmE (m : Mo) (l : List (List Int)) : Int := if m.err ≠ 0 then m.err else if 200 < l.length then 2 else if l.all (validF m.opts.length) = false then 11 else 0
theorem frm_rest {m : Mo} {l : List (List Int)} (h : m.err = 0) (h2 : l.length ≤ 200) : frmE m l = m.errF l := by unfold frmE; rw [if_neg (by simp [h]), if_neg (by omega), Mo.errF_ok h]
end Go.Proofs.YtehadoecnmfeoaaGreat
namespace Go.Proofs.YtehadoecnmfeoaaGreat
def FirstMax (vals : Nat → Int) (k : Nat) (best at_ : Int) : Prop :=
 (k = 0 ∧ best = 0 ∧ at_ = -1) ∨ ∃ a : Nat, at_ = a ∧ a < k ∧ vals a = best ∧ (∀ j, j < k → vals j ≤ best) ∧ ∀ j, j < a → vals j < best
def befB : List Bool → List Bool → Bool
 | a :: x, b :: y => if a = b then befB x y else b
 | _, _ => false
theorem befB_self : ∀ x, befB x x = false
 | [] => rfl
 | a :: x => by simp [befB, befB_self x]
theorem befB_asym : ∀ x y, befB x y = true → befB y x = false
 | [], _, h => by simp [befB] at h
 | _ :: _, [], h => by simp [befB] at h
 | a :: x, b :: y, h => by
  unfold befB at h ⊢
  by_cases hab : a = b
  ·
   rw [if_pos hab] at h
   rw [if_pos hab.symm]
   exact befB_asym x y h
  ·
   rw [if_neg hab] at h
   rw [if_neg (fun e => hab e.symm)]
   cases a <;> cases b <;> simp_all
theorem befB_app (l : List Bool) : ∀ x y, befB (l ++ x) (l ++ y) = befB x y := by
 intro x y
 induction l with
 | nil => rfl
 | cons a l ih => simp only [List.cons_append, befB, if_true, ih]
theorem exts_sorted : ∀ (k : Nat) (l : List Bool), (exts k l).Pairwise fun x y => befB x y = true
 | 0, l => by simp [exts]
 | k + 1, l => by
  have h1 : exts (k + 1) l = exts k (l ++ [false]) ++ exts k (l ++ [true]) := rfl
  rw [h1, List.pairwise_append]
  refine ⟨exts_sorted k _, exts_sorted k _, fun x hx y hy => ?_⟩
  obtain ⟨x', rfl, _⟩ := exts_prefix hx
  obtain ⟨y', rfl, _⟩ := exts_prefix hy
  rw [List.append_assoc, List.append_assoc, befB_app]
  rfl
theorem allM_sorted (m : Mo) : (allM m).Pairwise fun x y => befB x y = true := (exts_sorted _ _).filter _
theorem find_before {l : List (List Bool)} (hs : l.Pairwise fun x y => befB x y = true) {p : List Bool → Bool} {x y : List Bool} (hx : l.find? p = some x) (hy : y ∈ l) (hp : p y = true) : befB y x = false := by
 obtain ⟨_, ps, bs, rfl, has⟩ := List.find?_eq_some_iff_append.1 hx
 rcases List.mem_append.1 hy with h | h
 ·
  have := has y h
  rw [hp] at this
  simp at this
 ·
  rcases List.mem_cons.1 h with rfl | h
  ·
   exact befB_self _
  ·
   rw [List.pairwise_append] at hs
   exact befB_asym _ _ ((List.pairwise_cons.1 hs.2.1).1 y h)
end Go.Proofs.YtehadoecnmfeoaaGreat

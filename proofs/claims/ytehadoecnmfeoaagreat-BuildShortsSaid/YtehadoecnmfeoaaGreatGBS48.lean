/- Part 48 of this claim's texts: walks and plain laws. -/
import Derived.Test.YtehadoecnmfeoaaGreatRows
import Derived.Test.YtehadoecnmfeoaaGreatGBS18
import Derived.Test.YtehadoecnmfeoaaGreatGBS13
import Derived.Test.YtehadoecnmfeoaaGreatGBS25
import Derived.Deep.DeepMust
import Derived.Deep.RegionHeld3
import Derived.Deep.DrawnRows
import Derived.Test.YtehadoecnmfeoaaGreatGBS3
import Derived.Test.YtehadoecnmfeoaaGreatGBS33
import Derived.Test.YtehadoecnmfeoaaGreatGBS2
import Derived.Test.YtehadoecnmfeoaaGreatGBS31
set_option linter.unusedVariables false
set_option linter.unusedSimpArgs false
set_option linter.unusedSectionVars false
namespace Go.Proofs.YtehadoecnmfeoaaGreat
open Go.RowKit
def lrgB (l : Lo) (ms : List Md) : Bool := largeB l.m || (decide (12 < l.ws.length) && decide (l.ws.length ≤ 60)) || (decide (8 < ms.length) && decide (ms.length ≤ 60))
theorem lrg_small {l : Lo} {ms : List Md} (h : lrgB l ms = false) (he : l.m.err = 0) : l.m.opts.length ≤ 9 ∧ l.m.rules.length ≤ 12 := by
 unfold lrgB at h
 simp only [Bool.or_eq_false_iff] at h
 exact large_small h.1.1 he
theorem lrg_wires {l : Lo} {ms : List Md} (h : lrgB l ms = false) (he : l.ws.length ≤ 60) : l.ws.length ≤ 12 := by
 unfold lrgB at h
 simp at h
 omega
set_option maxRecDepth 100000 in
set_option maxHeartbeats 4000000 in
theorem large12_any (ms : List Md) (Am : Option Addr) (qm : Nat) (A0 A1 A2 A3 A4 A5 : Option Addr) (q0 q1 q2 q3 q4 q5 : Nat) (l : Lo) (w : World) (h : LoA w w.heap.size A0 A1 A2 A3 A4 A5 q0 q1 q2 q3 q4 q5 l) :
  Calls Tryz.prog 14 #[.agg #[.slice A0 l.m.opts.length q0, .slice A1 l.m.rules.length q1, .slice A2 l.ss.length q2, .slice A3 l.us.length q3, .slice A4 l.ps.length q4, .slice A5 l.ws.length q5], .slice Am ms.length qm] w fun e w' => e = .returned (.bool (lrgB l ms)) ∧ Below w.heap.size w w' := by
 have H := hide h
 clear h
 cases hlg : largeB l.m with
 | true =>
  have HLG := hide hlg
  have HLB := hide hlg
  clear hlg
  have hr : lrgB l ms = true := by unfold lrgB; rw [HLG.out]; rfl
  have HR := hide hr
  clear hr HLB
  go_enter Tryz.func14, Tryz.ntmps14
  go_upto_region 1 with (fail)
  generalize hw0 : World.alloc _ _ = w0
  obtain ⟨hb0, hB0, hs0⟩ := alloc1 hw0
  have HB0 := hide hB0
  have HL0 : Hid (LoBox w0 w.heap.size A0 A1 A2 A3 A4 A5 q0 q1 q2 q3 q4 q5 l) := hb0
  obtain ⟨c0, c1, c2, c3, c4, c5⟩ := zL hb0
  have hlb := box_lt hb0
  clear hw0 hb0 hB0 hs0
  go_wp2_with (go_at_call 51; refine (Large_any l.m _ _ _ (H.out.up HB0.out).m).mono ?_; rw [HLG.out]; rintro e w1 ⟨rfl, hB1⟩; have HL1 := hide (HL0.out.to hB1); have HB1 := hide (Below.to HB0.out hB1 (Nat.le_refl _)); clear hB1 c0 c1 c2 c3 c4 c5 hlb; obtain ⟨c0, c1, c2, c3, c4, c5⟩ := zL HL1.out; have hlb := box_lt HL1.out)
  go_ret
  exact ⟨ret_bool HR.out.symm, HB1.out⟩
 | false =>
  have HLG := hide hlg
  have HLB := hide hlg
  clear hlg
  by_cases c1 : (12 : Int) < (l.ws.length : Int)
  ·
   by_cases c2 : (l.ws.length : Int) ≤ 60
   ·
    skip
    have hr : lrgB l ms = true := by unfold lrgB; rw [HLG.out, decide_eq_true (show 12 < l.ws.length by omega), decide_eq_true (show l.ws.length ≤ 60 by omega)]; rfl
    have d1 : decide ((12 : Int) < (l.ws.length : Int)) = true := decide_eq_true c1
    have d2 : decide ((l.ws.length : Int) ≤ 60) = true := decide_eq_true c2
    have HR := hide hr
    clear hr HLB
    go_enter Tryz.func14, Tryz.ntmps14
    go_upto_region 1 with (fail)
    generalize hw0 : World.alloc _ _ = w0
    obtain ⟨hb0, hB0, hs0⟩ := alloc1 hw0
    have HB0 := hide hB0
    have HL0 : Hid (LoBox w0 w.heap.size A0 A1 A2 A3 A4 A5 q0 q1 q2 q3 q4 q5 l) := hb0
    obtain ⟨c0, c1, c2, c3, c4, c5⟩ := zL hb0
    have hlb := box_lt hb0
    clear hw0 hb0 hB0 hs0
    go_wp2_with (go_at_call 51; refine (Large_any l.m _ _ _ (H.out.up HB0.out).m).mono ?_; rw [HLG.out]; rintro e w1 ⟨rfl, hB1⟩; have HL1 := hide (HL0.out.to hB1); have HB1 := hide (Below.to HB0.out hB1 (Nat.le_refl _)); clear hB1 c0 c1 c2 c3 c4 c5 hlb; obtain ⟨c0, c1, c2, c3, c4, c5⟩ := zL HL1.out; have hlb := box_lt HL1.out)
    go_ret
    exact ⟨ret_bool HR.out.symm, HB1.out⟩
   ·
    skip
    by_cases c3 : (8 : Int) < (ms.length : Int)
    ·
     skip
     have hr : lrgB l ms = decide ((ms.length : Int) ≤ 60) := by unfold lrgB; rw [HLG.out, decide_eq_false (show ¬ l.ws.length ≤ 60 by omega), Bool.and_false, decide_eq_true (show 8 < ms.length by omega), Bool.false_or, Bool.true_and]; exact decide_eq_decide.2 (by omega)
     have d1 : decide ((12 : Int) < (l.ws.length : Int)) = true := decide_eq_true c1
     have d2 : decide ((l.ws.length : Int) ≤ 60) = false := decide_eq_false c2
     have d3 : decide ((8 : Int) < (ms.length : Int)) = true := decide_eq_true c3
     have HR := hide hr
     clear hr HLB
     go_enter Tryz.func14, Tryz.ntmps14
     go_upto_region 1 with (fail)
     generalize hw0 : World.alloc _ _ = w0
     obtain ⟨hb0, hB0, hs0⟩ := alloc1 hw0
     have HB0 := hide hB0
     have HL0 : Hid (LoBox w0 w.heap.size A0 A1 A2 A3 A4 A5 q0 q1 q2 q3 q4 q5 l) := hb0
     obtain ⟨c0, c1, c2, c3, c4, c5⟩ := zL hb0
     have hlb := box_lt hb0
     clear hw0 hb0 hB0 hs0
     go_wp2_with (go_at_call 51; refine (Large_any l.m _ _ _ (H.out.up HB0.out).m).mono ?_; rw [HLG.out]; rintro e w1 ⟨rfl, hB1⟩; have HL1 := hide (HL0.out.to hB1); have HB1 := hide (Below.to HB0.out hB1 (Nat.le_refl _)); clear hB1 c0 c1 c2 c3 c4 c5 hlb; obtain ⟨c0, c1, c2, c3, c4, c5⟩ := zL HL1.out; have hlb := box_lt HL1.out)
     go_ret
     exact ⟨ret_bool HR.out.symm, HB1.out⟩
    ·
     skip
     have hr : lrgB l ms = false := by unfold lrgB; rw [HLG.out, decide_eq_false (show ¬ l.ws.length ≤ 60 by omega), Bool.and_false, decide_eq_false (show ¬ 8 < ms.length by omega)]; simp
     have d1 : decide ((12 : Int) < (l.ws.length : Int)) = true := decide_eq_true c1
     have d2 : decide ((l.ws.length : Int) ≤ 60) = false := decide_eq_false c2
     have d3 : decide ((8 : Int) < (ms.length : Int)) = false := decide_eq_false c3
     have HR := hide hr
     clear hr HLB
     go_enter Tryz.func14, Tryz.ntmps14
     go_upto_region 1 with (fail)
     generalize hw0 : World.alloc _ _ = w0
     obtain ⟨hb0, hB0, hs0⟩ := alloc1 hw0
     have HB0 := hide hB0
     have HL0 : Hid (LoBox w0 w.heap.size A0 A1 A2 A3 A4 A5 q0 q1 q2 q3 q4 q5 l) := hb0
     obtain ⟨c0, c1, c2, c3, c4, c5⟩ := zL hb0
     have hlb := box_lt hb0
     clear hw0 hb0 hB0 hs0
     go_wp2_with (go_at_call 51; refine (Large_any l.m _ _ _ (H.out.up HB0.out).m).mono ?_; rw [HLG.out]; rintro e w1 ⟨rfl, hB1⟩; have HL1 := hide (HL0.out.to hB1); have HB1 := hide (Below.to HB0.out hB1 (Nat.le_refl _)); clear hB1 c0 c1 c2 c3 c4 c5 hlb; obtain ⟨c0, c1, c2, c3, c4, c5⟩ := zL HL1.out; have hlb := box_lt HL1.out)
     go_ret
     exact ⟨ret_bool HR.out.symm, HB1.out⟩
  ·
   skip
   by_cases c3 : (8 : Int) < (ms.length : Int)
   ·
    skip
    have hr : lrgB l ms = decide ((ms.length : Int) ≤ 60) := by unfold lrgB; rw [HLG.out, decide_eq_false (show ¬ 12 < l.ws.length by omega), Bool.false_and, decide_eq_true (show 8 < ms.length by omega), Bool.false_or, Bool.true_and]; exact decide_eq_decide.2 (by omega)
    have d1 : decide ((12 : Int) < (l.ws.length : Int)) = false := decide_eq_false c1
    have d3 : decide ((8 : Int) < (ms.length : Int)) = true := decide_eq_true c3
    have HR := hide hr
    clear hr HLB
    go_enter Tryz.func14, Tryz.ntmps14
    go_upto_region 1 with (fail)
    generalize hw0 : World.alloc _ _ = w0
    obtain ⟨hb0, hB0, hs0⟩ := alloc1 hw0
    have HB0 := hide hB0
    have HL0 : Hid (LoBox w0 w.heap.size A0 A1 A2 A3 A4 A5 q0 q1 q2 q3 q4 q5 l) := hb0
    obtain ⟨c0, c1, c2, c3, c4, c5⟩ := zL hb0
    have hlb := box_lt hb0
    clear hw0 hb0 hB0 hs0
    go_wp2_with (go_at_call 51; refine (Large_any l.m _ _ _ (H.out.up HB0.out).m).mono ?_; rw [HLG.out]; rintro e w1 ⟨rfl, hB1⟩; have HL1 := hide (HL0.out.to hB1); have HB1 := hide (Below.to HB0.out hB1 (Nat.le_refl _)); clear hB1 c0 c1 c2 c3 c4 c5 hlb; obtain ⟨c0, c1, c2, c3, c4, c5⟩ := zL HL1.out; have hlb := box_lt HL1.out)
    go_ret
    exact ⟨ret_bool HR.out.symm, HB1.out⟩
   ·
    skip
    have hr : lrgB l ms = false := by unfold lrgB; rw [HLG.out, decide_eq_false (show ¬ 12 < l.ws.length by omega), Bool.false_and, decide_eq_false (show ¬ 8 < ms.length by omega)]; simp
    have d1 : decide ((12 : Int) < (l.ws.length : Int)) = false := decide_eq_false c1
    have d3 : decide ((8 : Int) < (ms.length : Int)) = false := decide_eq_false c3
    have HR := hide hr
    clear hr HLB
    go_enter Tryz.func14, Tryz.ntmps14
    go_upto_region 1 with (fail)
    generalize hw0 : World.alloc _ _ = w0
    obtain ⟨hb0, hB0, hs0⟩ := alloc1 hw0
    have HB0 := hide hB0
    have HL0 : Hid (LoBox w0 w.heap.size A0 A1 A2 A3 A4 A5 q0 q1 q2 q3 q4 q5 l) := hb0
    obtain ⟨c0, c1, c2, c3, c4, c5⟩ := zL hb0
    have hlb := box_lt hb0
    clear hw0 hb0 hB0 hs0
    go_wp2_with (go_at_call 51; refine (Large_any l.m _ _ _ (H.out.up HB0.out).m).mono ?_; rw [HLG.out]; rintro e w1 ⟨rfl, hB1⟩; have HL1 := hide (HL0.out.to hB1); have HB1 := hide (Below.to HB0.out hB1 (Nat.le_refl _)); clear hB1 c0 c1 c2 c3 c4 c5 hlb; obtain ⟨c0, c1, c2, c3, c4, c5⟩ := zL HL1.out; have hlb := box_lt HL1.out)
    go_ret
    exact ⟨ret_bool HR.out.symm, HB1.out⟩
def exB : Lo := ⟨⟨[⟨#[116, 111, 119]⟩, ⟨#[104, 101, 97, 116]⟩], []⟩, [⟨0, 0, 0⟩, ⟨100, 0, 0⟩, ⟨100, 50, 0⟩, ⟨200, 0, 0⟩], [⟨0, 1, 110, 5⟩, ⟨1, 2, 50, 3⟩, ⟨1, 3, 100, 3⟩],
 [⟨⟨#[97]⟩, 0, 2⟩, ⟨⟨#[98]⟩, 2, 2⟩, ⟨⟨#[99]⟩, 3, 2⟩], [⟨⟨#[120]⟩, 0, 0, 1, 0, 2, [0]⟩, ⟨⟨#[121]⟩, 0, 1, 2, 0, 2, [1]⟩, ⟨⟨#[122]⟩, 0, 0, 2, 1, 1, [1]⟩]⟩
theorem sl_boxes7 {w : World} {b B sz n t : Nat} {C : Array Value} {f : Nat → Nat → Value} (hb : w.heap[b]? = some (.cells C t (0, 0))) (hB : b < B) (h : ∀ i, i < n → ∀ j, j < sz → C[i * sz + j]? = some (f i j)) : Sl w B sz (.slice (some ⟨b, 0, none⟩) n n) n f :=
 ⟨_, b, 0, n, rfl, Nat.le_refl _, .inl ⟨rfl, hB⟩, fun i j hi hj => by
  rw [Nat.zero_add, cellOf hb]
  exact h i hi j hj⟩
def Bx6 (g : Nat) (w : World) : Prop := ∃ a0 a1 a2 a3 a4 a5, w.heap[g]? = some (.cells #[a0, a1, a2, a3, a4, a5] 31 (0, 0))
def Sx6 (w0 : World) (g : Nat) (w' : World) : Prop := w0.grownBy w' (some g) ∧ Bx6 g w'
theorem Sx6.to {w0 w w' : World} {g : Nat} (h : Sx6 w0 g w) (hb : Below w.heap.size w w') : Sx6 w0 g w' := by
 obtain ⟨h1, a0, a1, a2, a3, a4, a5, h2⟩ := h
 exact ⟨only_trans h1 (grown_of_below hb), a0, a1, a2, a3, a4, a5, box_to h2 hb⟩
theorem Sx6.first {w0 : World} {g : Nat} (h : Bx6 g w0) : Sx6 w0 g w0.drew := by
 obtain ⟨a0, a1, a2, a3, a4, a5, h⟩ := h
 exact Sx6.to ⟨only_refl _ _, a0, a1, a2, a3, a4, a5, h⟩ (Below.drew (Below.refl _ _))
theorem set6x {w wz : World} {p t : Nat} {a0 a1 a2 a3 a4 a5 b0 b1 b2 b3 b4 b5 : Value} (h : w.heap[p]? = some (.cells #[a0, a1, a2, a3, a4, a5] t (0, 0)))
  (hz : (((((w.setCell ⟨p, 0, none⟩ b0).setCell ⟨p, 1, none⟩ b1).setCell ⟨p, 2, none⟩ b2).setCell ⟨p, 3, none⟩ b3).setCell ⟨p, 4, none⟩ b4).setCell ⟨p, 5, none⟩ b5 = wz) : wz.heap[p]? = some (.cells #[b0, b1, b2, b3, b4, b5] t (0, 0)) ∧ w.grownBy wz (some p) := by
 subst hz
 refine ⟨setCellOf (setCellOf (setCellOf (setCellOf (setCellOf (setCellOf h _) _) _) _) _) _, ?_⟩
 refine only_setCell (only_setCell (only_setCell (only_setCell (only_setCell (only_setCell (only_refl _ _) ?_ _) ?_ _) ?_ _) ?_ _) ?_ _) ?_ _
 all_goals exact .inl rfl
def wireV (b p q r s t : Nat) (v : Value) : Value := .agg #[.string ⟨#[b.toUInt8]⟩, .int .i64 p, .int .i64 q, .int .i64 r, .int .i64 s, .int .i64 t, v]
def Gv (g : Nat) (w : World) (φ : World → Prop) : Prop := ∀ w' : World, w.grownBy w' (some g) → φ w'
theorem Gv.to {g : Nat} {w w1 : World} {φ : World → Prop} (h : Gv g w φ) (hb : Below w.heap.size w w1) : Gv g w1 φ := fun w' hg => h w' (only_trans (grown_of_below hb) hg)
theorem Gv.new {g t : Nat} {C : Array Value} {w : World} {φ : World → Prop} (hg : g < w.heap.size) (h : ∀ w' : World, w'.heap[w.heap.size]? = some (.cells C t (0, 0)) → w.heap.size < w'.heap.size → w.grownBy w' (some g) → φ w') : Gv g (w.alloc (.cells C t (0, 0))) φ := fun w' hw => by
 have hn : (w.alloc (.cells C t (0, 0))).heap.size = w.heap.size + 1 := by simp
 refine h w' ((hw.block w.heap.size (by omega) (fun e => by injection e with e; omega)).trans (heap_new _ _ _ rfl)) (by have := hw.size; omega) (only_trans (grown_of_below (Below.allocT (Below.refl _ _) (Nat.le_refl _) _)) hw)
def exbR (g j : Nat) (v : Value) (w : World) : Prop :=
 match j with
 | 0 => Gv g w fun w => Names w w.heap.size v exB.m.opts
 | 1 => ∃ A q, v = .agg #[.slice A 2 q, .slice none 0 0] ∧ Gv g w fun w => Names w w.heap.size (.slice A 2 q) exB.m.opts
 | 6 => Gv g w fun w => Sps w w.heap.size v exB.ss
 | 10 => Gv g w fun w => Rus w w.heap.size v exB.us
 | 14 => Gv g w fun w => Pls w w.heap.size v exB.ps
 | 21 => Gv g w fun w => Ints w w.heap.size v [0]
 | 29 => Gv g w fun w => Ints w w.heap.size v [1]
 | 37 => Gv g w fun w => Ints w w.heap.size v [1]
 | 22 => ∃ A q, v = .agg #[.string ⟨#[120]⟩, .int .i64 0, .int .i64 0, .int .i64 1, .int .i64 0, .int .i64 2, .slice A 1 q] ∧ Gv g w fun w => Ints w w.heap.size (.slice A 1 q) [0]
 | 30 => ∃ A q, v = .agg #[.string ⟨#[121]⟩, .int .i64 0, .int .i64 1, .int .i64 2, .int .i64 0, .int .i64 2, .slice A 1 q] ∧ Gv g w fun w => Ints w w.heap.size (.slice A 1 q) [1]
 | 38 => ∃ A q, v = .agg #[.string ⟨#[122]⟩, .int .i64 0, .int .i64 0, .int .i64 2, .int .i64 1, .int .i64 1, .slice A 1 q] ∧ Gv g w fun w => Ints w w.heap.size (.slice A 1 q) [1]
 | 39 => ∃ A q, v = .slice A 3 q ∧ Gv g w fun w => Wis w w.heap.size v exB.ws
 | 40 => ∃ (A0 A1 A2 A3 A4 A5 : Option Addr) (q0 q1 q2 q3 q4 q5 : Nat), v = .agg #[.slice A0 2 q0, .slice A1 0 q1, .slice A2 4 q2, .slice A3 3 q3, .slice A4 3 q4, .slice A5 3 q5] ∧ Gv g w fun w => LoA w w.heap.size A0 A1 A2 A3 A4 A5 q0 q1 q2 q3 q4 q5 exB
 | _ => True
theorem exbR_keep {w w' : World} {v : Value} (g j : Nat) (hb : Below w.heap.size w w') (h : exbR g j v w) : exbR g j v w' := by
 unfold exbR at h ⊢
 split at h
 case h_1 => exact h.to hb
 case h_2 => obtain ⟨A, q, e, h⟩ := h; exact ⟨A, q, e, h.to hb⟩
 case h_3 => exact h.to hb
 case h_4 => exact h.to hb
 case h_5 => exact h.to hb
 case h_6 => exact h.to hb
 case h_7 => exact h.to hb
 case h_8 => exact h.to hb
 case h_9 => obtain ⟨A, q, e, h⟩ := h; exact ⟨A, q, e, h.to hb⟩
 case h_10 => obtain ⟨A, q, e, h⟩ := h; exact ⟨A, q, e, h.to hb⟩
 case h_11 => obtain ⟨A, q, e, h⟩ := h; exact ⟨A, q, e, h.to hb⟩
 case h_12 => obtain ⟨A, q, e, h⟩ := h; exact ⟨A, q, e, h.to hb⟩
 case h_13 => obtain ⟨A0, A1, A2, A3, A4, A5, q0, q1, q2, q3, q4, q5, e, h⟩ := h; exact ⟨A0, A1, A2, A3, A4, A5, q0, q1, q2, q3, q4, q5, e, h.to hb⟩
 case h_14 => trivial
set_option maxRecDepth 100000 in
set_option maxHeartbeats 4000000 in
theorem exb_any (w : World) :
  Calls Tryz.prog 52 #[] w fun e w' => ∃ (A0 A1 A2 A3 A4 A5 : Option Addr) (q0 q1 q2 q3 q4 q5 : Nat), e = .returned (.agg #[.slice A0 exB.m.opts.length q0, .slice A1 exB.m.rules.length q1, .slice A2 exB.ss.length q2, .slice A3 exB.us.length q3, .slice A4 exB.ps.length q4, .slice A5 exB.ws.length q5]) ∧ LoA w' w'.heap.size A0 A1 A2 A3 A4 A5 q0 q1 q2 q3 q4 q5 exB ∧ Below w.heap.size w w' := by
 go_enter Tryz.func52, Tryz.ntmps52
 go_upto_region 2 with (fail)
 generalize hw0 : World.alloc _ _ = w0
 obtain ⟨hb0, hb1, hB0, hs0⟩ := alloc2 hw0
 have c0 := cellOf hb1 0
 have c1 := cellOf hb1 1
 have c2 := cellOf hb1 2
 have c3 := cellOf hb1 3
 have c4 := cellOf hb1 4
 have c5 := cellOf hb1 5
 have c6 := cellOf hb1 6
 have c7 := cellOf hb1 7
 have c8 := cellOf hb1 8
 have c9 := cellOf hb1 9
 have hlb : w.heap.size + 1 < w0.heap.size := by omega
 have HB0 := hide hB0
 have HZ0 := hide (Sx6.first ⟨_, _, _, _, _, _, hb0⟩)
 clear hw0 hB0 hs0 hb0 hb1
 refine wp_region_held_drew (S := (Sx6 w0 w.heap.size)) (by kernel_rfl) ?_ (fun hHeld => ?_)
 ·
  try dsimp only
  (first | exact HZ0.out | assumption)
 refine zH 2 rfl ?_
 refine zH 3 rfl ?_
 refine zH 4 rfl ?_
 refine zH 5 rfl ?_
 refine zH 7 rfl ?_
 refine zH 8 rfl ?_
 refine zH 9 rfl ?_
 refine zH 11 rfl ?_
 refine zH 12 rfl ?_
 refine zH 13 rfl ?_
 refine zH 15 rfl ?_
 refine zH 16 rfl ?_
 refine zH 17 rfl ?_
 refine zH 18 rfl ?_
 refine zH 19 rfl ?_
 refine zH 20 rfl ?_
 refine zH 23 rfl ?_
 refine zH 24 rfl ?_
 refine zH 25 rfl ?_
 refine zH 26 rfl ?_
 refine zH 27 rfl ?_
 refine zH 28 rfl ?_
 refine zH 31 rfl ?_
 refine zH 32 rfl ?_
 refine zH 33 rfl ?_
 refine zH 34 rfl ?_
 refine zH 35 rfl ?_
 refine zH 36 rfl ?_
 refine wpAnyH_start [0, 1, 6, 10, 14, 21, 22, 29, 30, 37, 38, 39, 40] (fun j => match j with | 0 => 8 | 1 => 9 | 6 => 14 | 10 => 18 | 14 => 22 | 21 => 29 | 22 => 30 | 29 => 37 | 30 => 38 | 37 => 45 | 38 => 46 | 39 => 47 | 40 => 48 | _ => 0) (exbR w.heap.size) 1 rfl (by kernel_rfl) (by kernel_rfl) (by decide) (by decide) (by kernel_rfl) hHeld ?hkeep ?hstep ?hend
 case hkeep => exact fun j _ v w w' hb h => exbR_keep _ j hb h
 case hstep =>
  intro j hj tv w5 hS hd
  have hg5 : w.heap.size < w5.heap.size := by have := hS.1.size; omega
  clear c0 c1 c2 c3 c4 c5 c6 c7 c8 c9
  simp only [List.mem_cons, List.not_mem_nil, or_false] at hj
  rcases hj with rfl | rfl | rfl | rfl | rfl | rfl | rfl | rfl | rfl | rfl | rfl | rfl | rfl
  ·
   refine wpOp_step rfl (fun K hK => ?_)
   generalize hax : putAll _ _ tv _ = ax at hK ⊢
   simp only [putAll, Act.put, List.setIfInBounds_toArray, List.set_cons_zero, List.set_cons_succ] at hax
   rw [← hax]
   go_simp
   exact hK _ _ ⟨⟨_, by rw [← hax]; rfl, Gv.new hg5 (fun w7 hb7 hl7 hg7 => names_box (l := exB.m.opts) hb7 hl7)⟩, zP, Sx6.to hS zP⟩
  ·
   have h0 : Gv w.heap.size w5 fun w => Names w w.heap.size (tv 0) exB.m.opts := hd 0 (by decide) (by kernel_rfl)
   obtain ⟨A, q, e0⟩ := Sl.form (h0 w5 (only_refl _ _))
   rw [e0] at h0
   have e0 : tv 0 = .slice A 2 q := e0
   refine wpOp_step rfl (fun K hK => ?_)
   generalize hax : putAll _ _ tv _ = ax at hK ⊢
   simp only [putAll, Act.put, List.setIfInBounds_toArray, List.set_cons_zero, List.set_cons_succ, e0] at hax
   rw [← hax]
   go_simp
   exact hK _ _ ⟨⟨_, by rw [← hax]; rfl, _, _, rfl, h0⟩, zP, Sx6.to hS zP⟩
  ·
   refine wpOp_step rfl (fun K hK => ?_)
   generalize hax : putAll _ _ tv _ = ax at hK ⊢
   simp only [putAll, Act.put, List.setIfInBounds_toArray, List.set_cons_zero, List.set_cons_succ] at hax
   rw [← hax]
   go_simp
   exact hK _ _ ⟨⟨_, by rw [← hax]; rfl, Gv.new hg5 (fun w7 hb7 hl7 hg7 => sl_boxes7 hb7 hl7 (fun i hi j hj => by
    have hi' : i < 4 := hi
    rcases (by omega : i = 0 ∨ i = 1 ∨ i = 2 ∨ i = 3) with rfl | rfl | rfl | rfl <;> (rcases (by omega : j = 0 ∨ j = 1 ∨ j = 2) with rfl | rfl | rfl) <;> rfl))⟩, zP, Sx6.to hS zP⟩
  ·
   refine wpOp_step rfl (fun K hK => ?_)
   generalize hax : putAll _ _ tv _ = ax at hK ⊢
   simp only [putAll, Act.put, List.setIfInBounds_toArray, List.set_cons_zero, List.set_cons_succ] at hax
   rw [← hax]
   go_simp
   exact hK _ _ ⟨⟨_, by rw [← hax]; rfl, Gv.new hg5 (fun w7 hb7 hl7 hg7 => sl_boxes7 hb7 hl7 (fun i hi j hj => by
    have hi' : i < 3 := hi
    rcases (by omega : i = 0 ∨ i = 1 ∨ i = 2) with rfl | rfl | rfl <;> (rcases (by omega : j = 0 ∨ j = 1 ∨ j = 2 ∨ j = 3) with rfl | rfl | rfl | rfl) <;> rfl))⟩, zP, Sx6.to hS zP⟩
  ·
   refine wpOp_step rfl (fun K hK => ?_)
   generalize hax : putAll _ _ tv _ = ax at hK ⊢
   simp only [putAll, Act.put, List.setIfInBounds_toArray, List.set_cons_zero, List.set_cons_succ] at hax
   rw [← hax]
   go_simp
   exact hK _ _ ⟨⟨_, by rw [← hax]; rfl, Gv.new hg5 (fun w7 hb7 hl7 hg7 => sl_boxes7 hb7 hl7 (fun i hi j hj => by
    have hi' : i < 3 := hi
    rcases (by omega : i = 0 ∨ i = 1 ∨ i = 2) with rfl | rfl | rfl <;> (rcases (by omega : j = 0 ∨ j = 1 ∨ j = 2) with rfl | rfl | rfl) <;> rfl))⟩, zP, Sx6.to hS zP⟩
  ·
   refine wpOp_step rfl (fun K hK => ?_)
   generalize hax : putAll _ _ tv _ = ax at hK ⊢
   simp only [putAll, Act.put, List.setIfInBounds_toArray, List.set_cons_zero, List.set_cons_succ] at hax
   rw [← hax]
   go_simp
   exact hK _ _ ⟨⟨_, by rw [← hax]; rfl, Gv.new hg5 (fun w7 hb7 hl7 hg7 => ints_box (l := [0]) hb7 hl7)⟩, zP, Sx6.to hS zP⟩
  ·
   have h21 : Gv w.heap.size w5 fun w => Ints w w.heap.size (tv 21) [0] := hd 21 (by decide) (by kernel_rfl)
   obtain ⟨A, q, e21⟩ := Sl.form (h21 w5 (only_refl _ _))
   rw [e21] at h21
   have e21 : tv 21 = .slice A 1 q := e21
   refine wpOp_step rfl (fun K hK => ?_)
   generalize hax : putAll _ _ tv _ = ax at hK ⊢
   simp only [putAll, Act.put, List.setIfInBounds_toArray, List.set_cons_zero, List.set_cons_succ, e21] at hax
   rw [← hax]
   go_simp
   exact hK _ _ ⟨⟨_, by rw [← hax]; rfl, _, _, rfl, h21⟩, zP, Sx6.to hS zP⟩
  ·
   refine wpOp_step rfl (fun K hK => ?_)
   generalize hax : putAll _ _ tv _ = ax at hK ⊢
   simp only [putAll, Act.put, List.setIfInBounds_toArray, List.set_cons_zero, List.set_cons_succ] at hax
   rw [← hax]
   go_simp
   exact hK _ _ ⟨⟨_, by rw [← hax]; rfl, Gv.new hg5 (fun w7 hb7 hl7 hg7 => ints_box (l := [1]) hb7 hl7)⟩, zP, Sx6.to hS zP⟩
  ·
   have h29 : Gv w.heap.size w5 fun w => Ints w w.heap.size (tv 29) [1] := hd 29 (by decide) (by kernel_rfl)
   obtain ⟨A, q, e29⟩ := Sl.form (h29 w5 (only_refl _ _))
   rw [e29] at h29
   have e29 : tv 29 = .slice A 1 q := e29
   refine wpOp_step rfl (fun K hK => ?_)
   generalize hax : putAll _ _ tv _ = ax at hK ⊢
   simp only [putAll, Act.put, List.setIfInBounds_toArray, List.set_cons_zero, List.set_cons_succ, e29] at hax
   rw [← hax]
   go_simp
   exact hK _ _ ⟨⟨_, by rw [← hax]; rfl, _, _, rfl, h29⟩, zP, Sx6.to hS zP⟩
  ·
   refine wpOp_step rfl (fun K hK => ?_)
   generalize hax : putAll _ _ tv _ = ax at hK ⊢
   simp only [putAll, Act.put, List.setIfInBounds_toArray, List.set_cons_zero, List.set_cons_succ] at hax
   rw [← hax]
   go_simp
   exact hK _ _ ⟨⟨_, by rw [← hax]; rfl, Gv.new hg5 (fun w7 hb7 hl7 hg7 => ints_box (l := [1]) hb7 hl7)⟩, zP, Sx6.to hS zP⟩
  ·
   have h37 : Gv w.heap.size w5 fun w => Ints w w.heap.size (tv 37) [1] := hd 37 (by decide) (by kernel_rfl)
   obtain ⟨A, q, e37⟩ := Sl.form (h37 w5 (only_refl _ _))
   rw [e37] at h37
   have e37 : tv 37 = .slice A 1 q := e37
   refine wpOp_step rfl (fun K hK => ?_)
   generalize hax : putAll _ _ tv _ = ax at hK ⊢
   simp only [putAll, Act.put, List.setIfInBounds_toArray, List.set_cons_zero, List.set_cons_succ, e37] at hax
   rw [← hax]
   go_simp
   exact hK _ _ ⟨⟨_, by rw [← hax]; rfl, _, _, rfl, h37⟩, zP, Sx6.to hS zP⟩
  ·
   obtain ⟨A22, q22, e22, h22⟩ := hd 22 (by decide) (by kernel_rfl)
   obtain ⟨A30, q30, e30, h30⟩ := hd 30 (by decide) (by kernel_rfl)
   obtain ⟨A38, q38, e38, h38⟩ := hd 38 (by decide) (by kernel_rfl)
   refine wpOp_step rfl (fun K hK => ?_)
   generalize hax : putAll _ _ tv _ = ax at hK ⊢
   simp only [putAll, Act.put, List.setIfInBounds_toArray, List.set_cons_zero, List.set_cons_succ, e22, e30, e38] at hax
   rw [← hax]
   go_simp
   exact hK _ _ ⟨⟨_, by rw [← hax]; rfl, _, _, rfl, Gv.new hg5 (fun w7 hb7 hl7 hg7 => ⟨(fun i => if i = 0 then .slice A22 1 q22 else if i = 1 then .slice A30 1 q30 else .slice A38 1 q38), sl_boxes7 hb7 hl7 (fun i hi j hj => by
    have hi' : i < 3 := hi
    rcases (by omega : i = 0 ∨ i = 1 ∨ i = 2) with rfl | rfl | rfl <;> (rcases (by omega : j = 0 ∨ j = 1 ∨ j = 2 ∨ j = 3 ∨ j = 4 ∨ j = 5 ∨ j = 6) with rfl | rfl | rfl | rfl | rfl | rfl | rfl) <;> rfl), fun i hi => by
    have hi' : i < 3 := hi
    rcases (by omega : i = 0 ∨ i = 1 ∨ i = 2) with rfl | rfl | rfl <;> first | exact h22 w7 hg7 | exact h30 w7 hg7 | exact h38 w7 hg7⟩)⟩, zP, Sx6.to hS zP⟩
  ·
   obtain ⟨A0, q0, e1, h1⟩ := hd 1 (by decide) (by kernel_rfl)
   have h6 : Gv w.heap.size w5 fun w => Sps w w.heap.size (tv 6) exB.ss := hd 6 (by decide) (by kernel_rfl)
   obtain ⟨A6, q6, e6⟩ := Sl.form (h6 w5 (only_refl _ _))
   rw [e6] at h6
   have e6 : tv 6 = .slice A6 4 q6 := e6
   have h10 : Gv w.heap.size w5 fun w => Rus w w.heap.size (tv 10) exB.us := hd 10 (by decide) (by kernel_rfl)
   obtain ⟨A10, q10, e10⟩ := Sl.form (h10 w5 (only_refl _ _))
   rw [e10] at h10
   have e10 : tv 10 = .slice A10 3 q10 := e10
   have h14 : Gv w.heap.size w5 fun w => Pls w w.heap.size (tv 14) exB.ps := hd 14 (by decide) (by kernel_rfl)
   obtain ⟨A14, q14, e14⟩ := Sl.form (h14 w5 (only_refl _ _))
   rw [e14] at h14
   have e14 : tv 14 = .slice A14 3 q14 := e14
   obtain ⟨A39, q39, e39, h39⟩ := hd 39 (by decide) (by kernel_rfl)
   rw [e39] at h39
   refine wpOp_step rfl (fun K hK => ?_)
   generalize hax : putAll _ _ tv _ = ax at hK ⊢
   simp only [putAll, Act.put, List.setIfInBounds_toArray, List.set_cons_zero, List.set_cons_succ, e1, e6, e10, e14, e39] at hax
   rw [← hax]
   go_simp
   exact hK _ _ ⟨⟨_, by rw [← hax]; rfl, _, _, _, _, _, _, _, _, _, _, _, _, rfl, fun w7 hg7 => ⟨⟨h1 w7 hg7, fun _ => undef, Sl.nil _ _ _ _, fun i hi => absurd (show i < 0 from hi) (by omega)⟩, h6 w7 hg7, h10 w7 hg7, h14 w7 hg7, h39 w7 hg7⟩⟩, zP, Sx6.to hS zP⟩
 case hend =>
  intro tv w5 hS hR
  obtain ⟨A0, A1, A2, A3, A4, A5, q0, q1, q2, q3, q4, q5, h40, hl⟩ := hR 40 (by decide)
  clear hR
  clear c0 c1 c2 c3 c4 c5 c6 c7 c8 c9
  obtain ⟨hg1, x0, x1, x2, x3, x4, x5, hbx⟩ := hS
  have y0 := unfrozenOf hbx 0
  have y1 := unfrozenOf hbx 1
  have y2 := unfrozenOf hbx 2
  have y3 := unfrozenOf hbx 3
  have y4 := unfrozenOf hbx 4
  have y5 := unfrozenOf hbx 5
  have z0 := cellOf hbx 0
  have z1 := cellOf hbx 1
  have z2 := cellOf hbx 2
  have z3 := cellOf hbx 3
  have z4 := cellOf hbx 4
  have z5 := cellOf hbx 5
  have lbx := box_lt hbx
  have HL := hide hl
  have HBX := hide hbx
  have HG1 := hide hg1
  clear hl hbx hg1
  simp only [putAll, Act.put, List.setIfInBounds_toArray, List.set_cons_zero, List.set_cons_succ, h40]
  refine wpAnyH_ready (rs := [41]) (by kernel_rfl) (by simp) ?_
  refine AllReadyH.cons rfl (fun K hK => ?_) AllReadyH.nil
  go_simp
  generalize hwz : World.setCell _ _ _ = wz
  obtain ⟨hz, hgr⟩ := set6x HBX.out hwz
  have hSz : Sx6 w0 w.heap.size wz := ⟨only_trans HG1.out hgr, _, _, _, _, _, _, hz⟩
  have HLZ := hide (HL.out wz hgr)
  have t0 := cellOf hz 0
  have t1 := cellOf hz 1
  have t2 := cellOf hz 2
  have t3 := cellOf hz 3
  have t4 := cellOf hz 4
  have t5 := cellOf hz 5
  have lz := box_lt hz
  have HBZ := hide (Below.grown HB0.out hSz.1 HB0.out.size (fun j hj => by injection hj with hj; omega))
  clear hwz hz hgr y0 y1 y2 y3 y4 y5 z0 z1 z2 z3 z4 z5 HL HBX HG1 lbx h40
  refine hK.out _ _ hSz (fun hNext => ?_)
  clear hK K hNext hSz
  refine wpAnyH_done (by kernel_rfl) ?_ _
  go_wp2_with fail
  refine bodyPost_ret (v := .agg #[.slice A0 2 q0, .slice A1 0 q1, .slice A2 4 q2, .slice A3 3 q3, .slice A4 3 q4, .slice A5 3 q5]) ?_ rfl ⟨_, _, _, _, _, _, _, _, _, _, _, _, rfl, HLZ.out, HBZ.out⟩
  rw [results_cell1 rfl]
  go_simp
theorem Nods.ints7 {w : World} {B : Nat} {v : Value} {l : List Nat} (h : Nods w B v l) : Ints w B v (l.map fun (n : Nat) => (n : Int)) := by
 obtain ⟨A, b, off, cap, h1, h2, h3, h4⟩ := h
 have hl : (l.map fun (n : Nat) => (n : Int)).length = l.length := by simp
 refine ⟨A, b, off, cap, ?_, by rw [hl]; exact h2, ?_, fun i j hi hj => ?_⟩
 ·
  rw [hl]; exact h1
 ·
  rw [hl]; exact h3
 ·
  rw [hl] at hi
  have := h4 i j hi hj
  rw [this]
  simp [hi]
set_option maxRecDepth 100000 in
set_option maxHeartbeats 2000000 in
theorem sameInts12_any (f : List Int) (u v : Value) (w : World) (hl : f.length ≤ maxLen) (h : Ints w w.heap.size u f) (h2 : Ints w w.heap.size v f) :
  Calls Tryz.prog 21 #[u, v] w fun e w' => e = .returned (.bool true) ∧ Below w.heap.size w w' := by
 obtain ⟨A, q, rfl⟩ := Sl.form h
 obtain ⟨C, r, rfl⟩ := Sl.form h2
 unfold maxLen at hl
 have H := hide h
 have H2 := hide h2
 clear h h2
 go_enter Tryz.func21, Tryz.ntmps21
 go_wp2_with fail
 go_loopw [5] (fun i wr => ∃ k : Nat, k ≤ f.length ∧ i = .int .i64 k ∧ Hid (Below w.heap.size w wr)) (fun i _ => f.length - (intOf i).toNat)
 case atStart => exact ⟨0, Nat.zero_le _, rfl, Below.refl _ _⟩
 case round =>
  obtain ⟨k, hk, rfl, hB⟩ := hrel
  by_cases hlt : k < f.length
  ·
   obtain ⟨_, hq, b, off, rfl, hb, g0⟩ := sl_at (Sl.below H.out hB.out) hlt
   obtain ⟨_, hq2, b2, off2, rfl, hb2, g1⟩ := sl_at (Sl.below H2.out hB.out) hlt
   have c0 := g0 0 (by omega)
   have d0 := g1 0 (by omega)
   rw [Nat.mul_one, Nat.add_zero] at c0 d0
   have l0 : b < wr.heap.size := Nat.lt_of_lt_of_le hb hB.out.size
   have l1 : b2 < wr.heap.size := Nat.lt_of_lt_of_le hb2 hB.out.size
   have ik0 : (0 : Int) ≤ (k : Int) := by omega
   have ik : (k : Int) < (f.length : Int) := by omega
   have iq : (f.length : Int) ≤ (q : Int) := by omega
   have iq2 : (f.length : Int) ≤ (r : Int) := by omega
   obtain ⟨x, hx⟩ : ∃ x, f.getD k 0 = x := ⟨_, rfl⟩
   rw [hx] at c0 d0
   have n1 : (x != x) = false := by simp
   clear hx g0 g1
   go_wp2_with fail
   refine wp_region_held_drew (S := (fun w' => Below wr.heap.size wr w')) (by kernel_rfl) ?_ (fun hHeld => ?_)
   ·
    try dsimp only
    exact zP
   refine zT 0 rfl ?_
   refine zT 1 rfl ?_
   refine zT 2 rfl ?_
   refine zT 3 rfl ?_
   refine zT 4 rfl ?_
   refine zT 5 rfl ?_
   refine zT 6 rfl ?_
   refine zT 7 rfl ?_
   refine zT 8 rfl ?_
   refine wpAnyH_done (by kernel_rfl) ?_ _
   go_wp2_with fail
   go_roundw
   case rel => exact ⟨k + 1, by omega, by go_num, Below.to hB.out hHeld (Nat.le_refl _)⟩
   case measure => simp [intOf]; omega
  ·
   go_wp2_with fail
   go_ret
   exact ⟨rfl, hB.out⟩
def exMd : List Md := [⟨[1], [1, 2]⟩]
theorem exB_aud : audA exB exMd = some (0, 1, [true, false]) := by kernel_rfl
theorem exB_err : bldE exB exMd = 0 := by kernel_rfl
theorem exB_rel : relR [6, 5, 4, 5] 10 = [0, 1, 0, 1] := by kernel_rfl
theorem exB_rele : relE [6, 5, 4, 5] 10 = 0 := by kernel_rfl
theorem exB_sized : SizedL exB := by
 have hm : ∀ n : Nat, n ≤ 100 → n ≤ maxLen := fun n hn => by unfold maxLen; omega
 refine ⟨⟨hm _ (by decide), fun x hx => hm _ ?_, hm _ (by decide), fun f hf => ?_⟩, hm _ (by decide), hm _ (by decide), hm _ (by decide), hm _ (by decide), fun x hx => hm _ ?_, fun x hx => ⟨hm _ ?_, hm _ ?_⟩⟩
 ·
  have : x = ⟨#[116, 111, 119]⟩ ∨ x = ⟨#[104, 101, 97, 116]⟩ := by simpa [exB] using hx
  rcases this with rfl | rfl <;> decide
 ·
  simp [exB] at hf
 ·
  simp [exB] at hx
  rcases hx with rfl | rfl | rfl <;> decide
 ·
  simp [exB] at hx
  rcases hx with rfl | rfl | rfl <;> decide
 ·
  simp [exB] at hx
  rcases hx with rfl | rfl | rfl <;> decide
theorem exMd_sized : SizedD exMd := ⟨by unfold maxLen; decide, fun x hx => by
 simp [exMd] at hx
 subst hx
 unfold maxLen
 decide⟩
theorem mods_ex {w w0 : World} {o p q : Obj} (h : ((w.alloc o).alloc p).alloc q = w0) {t u s : Nat} (ho : o = .cells #[.int .i64 1] t (0, 0)) (hp : p = .cells #[.int .i64 1, .int .i64 2] u (0, 0)) (hq : q = .cells #[.slice (some ⟨w.heap.size, 0, none⟩) 1 1, .slice (some ⟨w.heap.size + 1, 0, none⟩) 2 2] s (0, 0)) :
  Mods w0 w0.heap.size (.slice (some ⟨w.heap.size + 2, 0, none⟩) 1 1) exMd ∧ Below w.heap.size w w0 := by
 obtain ⟨h0, h1, h2, hB, hs⟩ := alloc3 h
 subst ho hp hq
 refine ⟨⟨fun _ => .slice (some ⟨w.heap.size, 0, none⟩) 1 1, fun _ => .slice (some ⟨w.heap.size + 1, 0, none⟩) 2 2, sl_boxes7 h2 (by omega) (fun i hi j hj => ?_), fun i hi => ?_⟩, hB⟩
 ·
  have hi1 : i < 1 := hi
  obtain rfl : i = 0 := by omega
  rcases (by omega : j = 0 ∨ j = 1) with rfl | rfl <;> rfl
 ·
  have hi1 : i < 1 := hi
  obtain rfl : i = 0 := by omega
  exact ⟨ints_box (l := [1]) h0 (by omega), ints_box (l := [1, 2]) h1 (by omega)⟩
set_option maxRecDepth 100000 in
set_option maxHeartbeats 2000000 in
theorem works_build (w : World) :
  Calls Tryz.prog 15 #[] w fun e w' => e = .returned (.bool true) ∧ Below w.heap.size w w' := by
 go_enter Tryz.func15, Tryz.ntmps15
 go_upto_region 2 with (first
  | (go_at_call 52; refine (exb_any w).mono ?_; rintro e w1 ⟨A0, A1, A2, A3, A4, A5, q0, q1, q2, q3, q4, q5, rfl, hl1, hB1⟩; have HL1 := hide hl1; have HB1 := hide hB1; clear hl1 hB1)
  | (go_at_call 16; generalize hw0 : World.alloc _ _ = w0; obtain ⟨hms, hBm⟩ := mods_ex hw0 rfl rfl rfl; refine (Audit_any exMd _ _ A0 A1 A2 A3 A4 A5 q0 q1 q2 q3 q4 q5 exB w0 exB_sized exMd_sized (HL1.out.up hBm) hms (fun _ => by decide)).mono ?_; rw [exB_aud, exB_err]; rintro e w2 ⟨v2, he2, hop2, hB2⟩; have he3 : e = .returned (.tuple #[.agg #[.int .i64 0, .int .i64 1, v2], .bool true, .int .i64 0]) := he2; subst he3; obtain ⟨ad2, p2, e2⟩ := hop2.1; subst e2; have HV2 := hide hop2.2; have HB2 := hide (Below.to HB1.out (Below.to hBm hB2 (Nat.le_refl _)) (Nat.le_refl _)); clear hw0 hms hBm hB2 hop2 he2))
 generalize hw3 : World.alloc _ _ = w3
 obtain ⟨hb3, hB3, hs3⟩ := alloc1 hw3
 have HV3 := hide (Sl.up HV2.out hB3)
 have HB3 := hide (Below.to HB2.out hB3 (Nat.le_refl _))
 have HZ3 := hide hb3
 clear hw3 hb3 hB3 hs3
 go_upto_region 3 with (go_at_call 53; generalize hw4 : World.alloc _ _ = w4; obtain ⟨hb4, hB4, hs4⟩ := alloc1 hw4; refine (Reels_any [6, 5, 4, 5] 10 _ _ w4 (by unfold maxLen; decide) (ints_box (l := [6, 5, 4, 5]) hb4 (by omega))).mono ?_; rw [exB_rel, exB_rele]; rintro e w5 ⟨v5, rfl, hv5, hB5⟩; have HV5 := hide (Sl.up (Sl.up HV3.out hB4) hB5); have HZ5 := hide (box_to (box_to HZ3.out hB4) hB5); have HN5 := hide hv5; have HB5 := hide (Below.to HB3.out (Below.to hB4 hB5 (Nat.le_refl _)) (Nat.le_refl _)); clear hw4 hb4 hB4 hs4 hv5 hB5)
 have y0 := cellOf HZ5.out 0
 have y1 := cellOf HZ5.out 1
 have y2 := cellOf HZ5.out 2
 have l5 := box_lt HZ5.out
 go_wp2_with (first
  | (go_at_call 41; refine (SameVariant_any [true, false] [true, false] _ _ _ (Sl.up HV5.out (Below.allocT (Below.refl _ _) (Nat.le_refl _) _)) (bols_box (l := [true, false]) (heap_new _ _ _ rfl) (by simp)) (by decide) (by unfold maxLen; decide)).mono ?_; rintro e w6 ⟨rfl, hB6⟩; have HN6 := hide (Sl.up HN5.out (Below.to (Below.allocT (Below.refl _ _) (Nat.le_refl _) _) hB6 (Nat.le_refl _))); have HB6 := hide (Below.to (Below.allocT HB5.out (Nat.le_refl _) _) hB6 (Nat.le_refl _)); clear hB6)
  | (go_at_call 21; refine (sameInts12_any [0, 1, 0, 1] _ _ _ (by unfold maxLen; decide) (Nods.ints7 (Sl.up HN6.out (Below.allocT (Below.refl _ _) (Nat.le_refl _) _))) (ints_box (l := [0, 1, 0, 1]) (heap_new _ _ _ rfl) (by simp))).mono ?_; rintro e w7 ⟨rfl, hB7⟩))
 go_ret
 exact ⟨rfl, Below.to (Below.allocT HB6.out (Nat.le_refl _) _) hB7 (Nat.le_refl _)⟩
end Go.Proofs.YtehadoecnmfeoaaGreat

/- Part 38 of this claim's texts: walks and plain laws. -/
import Derived.Test.YtmabfnddedffoaaRows
import Derived.Test.YtmabfnddedffoaaGLM34
import Derived.Laws.EntriesVeiled
import Derived.Deep.RegionHeld3
import Derived.Deep.DrawnRows
import Derived.Test.YtmabfnddedffoaaGLM3
import Derived.ArgAppend
import Derived.Test.YtmabfnddedffoaaGLM37
import Derived.Deep.DeepMust
import Derived.Test.YtmabfnddedffoaaGLM11
/- The program's route and length: walks. -/
namespace Go.Proofs.Ytmabfnddedffoaa
open Go.RowKit
set_option linter.unusedVariables false
set_option linter.unusedSimpArgs false
open Classical in
/-- The way between two spots. -/
noncomputable def wayL (l : Lo) (a b : Nat) : List Nat := if h : ∃ P, WayP l.rs (-1) a P b then Classical.choose h else []
theorem wayL_is {l : Lo} (ok : LoOk l) {a b : Nat} (ha : a < l.ss.length) (hb : b < l.ss.length) : WayP l.rs (-1) a (wayL l a b) b := by
  unfold wayL
  rw [dif_pos (ok.way_some ha hb)]
  exact Classical.choose_spec (ok.way_some ha hb)
/-- What Route and Length answer. -/
def rouE (l : Lo) (i : Int) : Int := havE l (btw i 0 ((l.ws.length : Int) - 1))
noncomputable def rouW (l : Lo) (i : Nat) : List Nat := spotsW l.rs (endF l i) (wayL l (endF l i) (endT l i))
noncomputable def rouL (l : Lo) (i : Int) : List Nat := if rouE l i = 0 then rouW l i.toNat else []
noncomputable def lenW (l : Lo) (i : Nat) : Int := distN l.rs (runLen l) (endF l i) (endT l i)
noncomputable def lenN (l : Lo) (i : Int) : Int := if rouE l i = 0 then lenW l i.toNat else 0
theorem rouE_ok {l : Lo} {i : Int} (h : rouE l i = 0) : LoOk l ∧ 0 ≤ i ∧ i < (l.ws.length : Int) := by
  obtain ⟨h1, h2⟩ := havE_ok h
  obtain ⟨h3, h4⟩ := btw_iff.1 h2
  exact ⟨h1, h3, by omega⟩
set_option maxRecDepth 100000 in
set_option maxHeartbeats 1000000 in
theorem ends_wire {i : Nat} {x : Wi} (Af : Option Addr) (n qf : Nat) (A0 A1 A2 A3 A4 A5 : Option Addr) (q0 q1 q2 q3 q4 q5 : Nat) (l : Lo) (w : World) (h : LoA w w.heap.size A0 A1 A2 A3 A4 A5 q0 q1 q2 q3 q4 q5 l) (ok : LoOk l) (hi : i < l.ws.length) (hx : l.ws.getD i Wi.o = x) :
    Calls Try.prog 102 #[.agg #[.slice A0 l.m.opts.length q0, .slice A1 l.m.rules.length q1, .slice A2 l.ss.length q2, .slice A3 l.us.length q3, .slice A4 l.ps.length q4, .slice A5 l.ws.length q5], .agg #[.string x.name, .int .i64 x.fp, .int .i64 x.fc, .int .i64 x.tp, .int .i64 x.tc, .int .i64 x.size, .slice Af n qf]] w fun e w' => e = .returned (.tuple #[.int .i64 (endF l i : Nat), .int .i64 (endT l i : Nat)]) ∧ Below w.heap.size w w' := by
  obtain ⟨⟨a1, a2, a3⟩, b1, b2, b3⟩ := ok.wpin hi
  rw [hx] at a1 a2 a3 b1 b2 b3
  have h1 := ends_any x Af n qf A0 A1 A2 A3 A4 A5 q0 q1 q2 q3 q4 q5 l w h a1 a2 b1 b2 ok.p30
  have e1 : (l.ps.getD x.fp.toNat Pl.o).spot = (endF l i : Nat) := by unfold endF; rw [hx]; omega
  have e2 : (l.ps.getD x.tp.toNat Pl.o).spot = (endT l i : Nat) := by unfold endT; rw [hx]; omega
  rw [e1, e2] at h1
  exact h1
set_option maxRecDepth 100000 in
set_option maxHeartbeats 2000000 in
theorem length_wire {i : Nat} {x : Wi} (Af : Option Addr) (n qf : Nat) (A0 A1 A2 A3 A4 A5 : Option Addr) (q0 q1 q2 q3 q4 q5 : Nat) (l : Lo) (w : World) (h : LoA w w.heap.size A0 A1 A2 A3 A4 A5 q0 q1 q2 q3 q4 q5 l) (ok : LoOk l) (hi : i < l.ws.length) (hx : l.ws.getD i Wi.o = x) :
    Calls Try.prog 107 #[.agg #[.slice A0 l.m.opts.length q0, .slice A1 l.m.rules.length q1, .slice A2 l.ss.length q2, .slice A3 l.us.length q3, .slice A4 l.ps.length q4, .slice A5 l.ws.length q5], .agg #[.string x.name, .int .i64 x.fp, .int .i64 x.fc, .int .i64 x.tp, .int .i64 x.tc, .int .i64 x.size, .slice Af n qf]] w fun e w' => e = .returned (.int .i64 (lenW l i)) ∧ Below w.heap.size w w' := by
  have H := hide h
  have OK := hide ok
  have HX := hide hx
  obtain ⟨hea, heb⟩ := ok.ends hi
  clear h ok hx
  go_enter Try.func107, Try.ntmps107
  go_upto_region 1 with (fail)
  generalize hw0 : World.alloc _ _ = w0
  obtain ⟨hb0, hb1, hB0, hs0⟩ := alloc2 hw0
  have c0 := cellOf hb0 0; have c1 := cellOf hb0 1; have c2 := cellOf hb0 2; have c3 := cellOf hb0 3; have c4 := cellOf hb0 4; have c5 := cellOf hb0 5
  have l0 := box_lt hb0
  have hpx := hb1
  have z0 := cellOf hpx 0; have z1 := cellOf hpx 1; have z2 := cellOf hpx 2; have z3 := cellOf hpx 3; have z4 := cellOf hpx 4; have z5 := cellOf hpx 5; have z6 := cellOf hpx 6
  have l1 := box_lt hb1
  have HB0 := hide hB0
  have HL0 : Hid (LoBox w0 w.heap.size A0 A1 A2 A3 A4 A5 q0 q1 q2 q3 q4 q5 l) := hb0
  clear hw0 hb0 hb1 hpx hB0 hs0
  go_wp2_with (first | (go_at_call 102; refine (ends_wire Af n qf A0 A1 A2 A3 A4 A5 q0 q1 q2 q3 q4 q5 l _ (H.out.up HB0.out) OK.out hi HX.out).mono ?_; rintro e w1 ⟨rfl, hB1⟩; have d0 := cellOf (HL0.out.to hB1) 0; have d1 := cellOf (HL0.out.to hB1) 1; have d2 := cellOf (HL0.out.to hB1) 2; have d3 := cellOf (HL0.out.to hB1) 3; have d4 := cellOf (HL0.out.to hB1) 4; have d5 := cellOf (HL0.out.to hB1) 5; have ld := box_lt (HL0.out.to hB1); have HB1 := hide (Below.to HB0.out hB1 (Nat.le_refl _)); clear hB1 c0 c1 c2 c3 c4 c5 l0 l1) | (go_at_call 89; refine (distance_any (endF l i) (endT l i) A0 A1 A2 A3 A4 A5 q0 q1 q2 q3 q4 q5 l _ (H.out.up HB1.out) OK.out hea heb).mono ?_; rintro e w2 ⟨rfl, hB2⟩; have HB2 := hide (Below.to HB1.out hB2 (Nat.le_refl _)); clear hB2))
  go_ret
  exact ⟨rfl, HB2.out⟩
set_option maxRecDepth 100000 in
set_option maxHeartbeats 1000000 in
theorem have_route (p0 p1 : Value) (b : Bool) (A0 A1 A2 A3 A4 A5 : Option Addr) (q0 q1 q2 q3 q4 q5 : Nat) (l : Lo) (w : World) (hs : SizedL l) (h : LoA w w.heap.size A0 A1 A2 A3 A4 A5 q0 q1 q2 q3 q4 q5 l)
    (hf : l.err = 0 → ∀ W, Below w.heap.size w W → Calls Try.prog 101 #[p0, p1] W fun e w' => e = .returned (.bool b) ∧ Below W.heap.size W w') :
    Calls Try.prog 82 #[.agg #[.slice A0 l.m.opts.length q0, .slice A1 l.m.rules.length q1, .slice A2 l.ss.length q2, .slice A3 l.us.length q3, .slice A4 l.ps.length q4, .slice A5 l.ws.length q5], .func (.func 101) #[] #[p0, p1]] w fun e w' => e = .returned (.int .i64 (havE l b)) ∧ Below w.heap.size w w' := by
  have H := hide h
  have HF := hide hf
  obtain ⟨z, hz⟩ : ∃ z, l.err = z := ⟨_, rfl⟩
  have HZ := hide hz
  clear h hf
  by_cases hz0 : z = 0
  · subst hz0
    have hr : havE l b = mustE b 1 := by unfold havE; rw [hz]; rfl
    rw [hr]
    have hf := HF.out hz
    have HF2 := hide hf
    clear hf hz hr
    go_enter Try.func82, Try.ntmps82
    go_upto_region 1 with (fail)
    generalize hw0 : World.alloc _ _ = w0
    obtain ⟨hb0, hB0, hs0⟩ := alloc1 hw0
    have c0 := cellOf hb0 0; have c1 := cellOf hb0 1; have c2 := cellOf hb0 2; have c3 := cellOf hb0 3; have c4 := cellOf hb0 4; have c5 := cellOf hb0 5
    have hlb := box_lt hb0
    have hck := Check_any A0 A1 A2 A3 A4 A5 q0 q1 q2 q3 q4 q5 l w0 hs (H.out.up hB0)
    rw [HZ.out] at hck
    have HCK := hide hck
    have HB0 := hide hB0
    clear hw0 hb0 hB0 hs0 hck
    go_wp2_with (first | (go_at_call 17; refine HCK.out.mono ?_; rintro e w1 ⟨rfl, hB1⟩; have HB1 := hide (Below.to HB0.out hB1 (Nat.le_refl _)); clear hB1 c0 c1 c2 c3 c4 c5 hlb) | (go_at_call 101; refine (HF2.out _ HB1.out).mono ?_; rintro e w2 ⟨rfl, hB2⟩; have HB2 := hide (Below.to HB1.out hB2 (Nat.le_refl _)); clear hB2) | (go_at_call 57; refine (must_any _ _ _).mono ?_; rintro e w3 ⟨rfl, rfl⟩))
    go_ret
    exact ⟨rfl, HB2.out⟩
  · have hr : havE l b = z := by unfold havE; rw [hz, if_pos hz0]
    have hz1 : (z != 0) = true := by simpa using hz0
    rw [hr]
    clear hz hr hz0
    go_enter Try.func82, Try.ntmps82
    go_upto_region 1 with (fail)
    generalize hw0 : World.alloc _ _ = w0
    obtain ⟨hb0, hB0, hs0⟩ := alloc1 hw0
    have c0 := cellOf hb0 0; have c1 := cellOf hb0 1; have c2 := cellOf hb0 2; have c3 := cellOf hb0 3; have c4 := cellOf hb0 4; have c5 := cellOf hb0 5
    have hlb := box_lt hb0
    have hck := Check_any A0 A1 A2 A3 A4 A5 q0 q1 q2 q3 q4 q5 l w0 hs (H.out.up hB0)
    rw [HZ.out] at hck
    have HCK := hide hck
    have HB0 := hide hB0
    clear hw0 hb0 hB0 hs0 hck
    go_wp2_with (go_at_call 17; refine HCK.out.mono ?_; rintro e w1 ⟨rfl, hB1⟩; have HB1 := hide (Below.to HB0.out hB1 (Nat.le_refl _)); clear hB1 c0 c1 c2 c3 c4 c5 hlb)
    go_ret
    exact ⟨rfl, HB1.out⟩

set_option maxRecDepth 100000 in
set_option maxHeartbeats 1000000 in
theorem have_length (p0 p1 : Value) (b : Bool) (A0 A1 A2 A3 A4 A5 : Option Addr) (q0 q1 q2 q3 q4 q5 : Nat) (l : Lo) (w : World) (hs : SizedL l) (h : LoA w w.heap.size A0 A1 A2 A3 A4 A5 q0 q1 q2 q3 q4 q5 l)
    (hf : l.err = 0 → ∀ W, Below w.heap.size w W → Calls Try.prog 106 #[p0, p1] W fun e w' => e = .returned (.bool b) ∧ Below W.heap.size W w') :
    Calls Try.prog 82 #[.agg #[.slice A0 l.m.opts.length q0, .slice A1 l.m.rules.length q1, .slice A2 l.ss.length q2, .slice A3 l.us.length q3, .slice A4 l.ps.length q4, .slice A5 l.ws.length q5], .func (.func 106) #[] #[p0, p1]] w fun e w' => e = .returned (.int .i64 (havE l b)) ∧ Below w.heap.size w w' := by
  have H := hide h
  have HF := hide hf
  obtain ⟨z, hz⟩ : ∃ z, l.err = z := ⟨_, rfl⟩
  have HZ := hide hz
  clear h hf
  by_cases hz0 : z = 0
  · subst hz0
    have hr : havE l b = mustE b 1 := by unfold havE; rw [hz]; rfl
    rw [hr]
    have hf := HF.out hz
    have HF2 := hide hf
    clear hf hz hr
    go_enter Try.func82, Try.ntmps82
    go_upto_region 1 with (fail)
    generalize hw0 : World.alloc _ _ = w0
    obtain ⟨hb0, hB0, hs0⟩ := alloc1 hw0
    have c0 := cellOf hb0 0; have c1 := cellOf hb0 1; have c2 := cellOf hb0 2; have c3 := cellOf hb0 3; have c4 := cellOf hb0 4; have c5 := cellOf hb0 5
    have hlb := box_lt hb0
    have hck := Check_any A0 A1 A2 A3 A4 A5 q0 q1 q2 q3 q4 q5 l w0 hs (H.out.up hB0)
    rw [HZ.out] at hck
    have HCK := hide hck
    have HB0 := hide hB0
    clear hw0 hb0 hB0 hs0 hck
    go_wp2_with (first | (go_at_call 17; refine HCK.out.mono ?_; rintro e w1 ⟨rfl, hB1⟩; have HB1 := hide (Below.to HB0.out hB1 (Nat.le_refl _)); clear hB1 c0 c1 c2 c3 c4 c5 hlb) | (go_at_call 106; refine (HF2.out _ HB1.out).mono ?_; rintro e w2 ⟨rfl, hB2⟩; have HB2 := hide (Below.to HB1.out hB2 (Nat.le_refl _)); clear hB2) | (go_at_call 57; refine (must_any _ _ _).mono ?_; rintro e w3 ⟨rfl, rfl⟩))
    go_ret
    exact ⟨rfl, HB2.out⟩
  · have hr : havE l b = z := by unfold havE; rw [hz, if_pos hz0]
    have hz1 : (z != 0) = true := by simpa using hz0
    rw [hr]
    clear hz hr hz0
    go_enter Try.func82, Try.ntmps82
    go_upto_region 1 with (fail)
    generalize hw0 : World.alloc _ _ = w0
    obtain ⟨hb0, hB0, hs0⟩ := alloc1 hw0
    have c0 := cellOf hb0 0; have c1 := cellOf hb0 1; have c2 := cellOf hb0 2; have c3 := cellOf hb0 3; have c4 := cellOf hb0 4; have c5 := cellOf hb0 5
    have hlb := box_lt hb0
    have hck := Check_any A0 A1 A2 A3 A4 A5 q0 q1 q2 q3 q4 q5 l w0 hs (H.out.up hB0)
    rw [HZ.out] at hck
    have HCK := hide hck
    have HB0 := hide hB0
    clear hw0 hb0 hB0 hs0 hck
    go_wp2_with (go_at_call 17; refine HCK.out.mono ?_; rintro e w1 ⟨rfl, hB1⟩; have HB1 := hide (Below.to HB0.out hB1 (Nat.le_refl _)); clear hB1 c0 c1 c2 c3 c4 c5 hlb)
    go_ret
    exact ⟨rfl, HB1.out⟩

set_option maxRecDepth 100000 in
theorem route1_any (i : Int) (A0 A1 A2 A3 A4 A5 : Option Addr) (q0 q1 q2 q3 q4 q5 : Nat) (l : Lo) (rb lb : Nat) (w : World) (hm : l.ws.length ≤ maxLen) (hr : w.heap[rb]? = some (.cells #[.int .i64 i] 3 (0, 0))) (h : LoBox w lb A0 A1 A2 A3 A4 A5 q0 q1 q2 q3 q4 q5 l) :
    Calls Try.prog 101 #[.pointer (some ⟨rb, 0, none⟩), .pointer (some ⟨lb, 0, none⟩)] w fun e w' => e = .returned (.bool (btw i 0 ((l.ws.length : Int) - 1))) ∧ Below w.heap.size w w' := by
  have c3 := cellOf h 5
  have d0 := cellOf hr 0
  have hlb := box_lt h
  have hlr := box_lt hr
  unfold maxLen at hm
  clear h hr
  go_enter Try.func101, Try.ntmps101
  go_wp2_with (go_at_call 54; refine (within_any _ _ _ _).mono ?_; rintro e w1 ⟨rfl, rfl⟩)
  go_ret
  exact ⟨rfl, Below.refl _ _⟩
set_option maxRecDepth 100000 in
theorem length1_any (i : Int) (A0 A1 A2 A3 A4 A5 : Option Addr) (q0 q1 q2 q3 q4 q5 : Nat) (l : Lo) (rb lb : Nat) (w : World) (hm : l.ws.length ≤ maxLen) (hr : w.heap[rb]? = some (.cells #[.int .i64 i] 3 (0, 0))) (h : LoBox w lb A0 A1 A2 A3 A4 A5 q0 q1 q2 q3 q4 q5 l) :
    Calls Try.prog 106 #[.pointer (some ⟨rb, 0, none⟩), .pointer (some ⟨lb, 0, none⟩)] w fun e w' => e = .returned (.bool (btw i 0 ((l.ws.length : Int) - 1))) ∧ Below w.heap.size w w' := by
  have c3 := cellOf h 5
  have d0 := cellOf hr 0
  have hlb := box_lt h
  have hlr := box_lt hr
  unfold maxLen at hm
  clear h hr
  go_enter Try.func106, Try.ntmps106
  go_wp2_with (go_at_call 54; refine (within_any _ _ _ _).mono ?_; rintro e w1 ⟨rfl, rfl⟩)
  go_ret
  exact ⟨rfl, Below.refl _ _⟩
set_option maxRecDepth 100000 in
set_option maxHeartbeats 4000000 in
theorem Length_any (i : Int) (A0 A1 A2 A3 A4 A5 : Option Addr) (q0 q1 q2 q3 q4 q5 : Nat) (l : Lo) (w : World) (hs : SizedL l) (h : LoA w w.heap.size A0 A1 A2 A3 A4 A5 q0 q1 q2 q3 q4 q5 l) :
    Calls Try.prog 34 #[.agg #[.slice A0 l.m.opts.length q0, .slice A1 l.m.rules.length q1, .slice A2 l.ss.length q2, .slice A3 l.us.length q3, .slice A4 l.ps.length q4, .slice A5 l.ws.length q5], .int .i64 i] w (FilP (lenN l i) (rouE l i) w) := by
  have H := hide h
  have HS := hide hs
  have hu := hs.w
  obtain ⟨z, hz⟩ : ∃ z, rouE l i = z := ⟨_, rfl⟩
  obtain ⟨nn, hnn⟩ : ∃ z, lenN l i = z := ⟨_, rfl⟩
  rw [hz, hnn]
  have HZ := hide hz
  clear h hs
  go_enter Try.func34, Try.ntmps34
  go_upto_region 1 with (fail)
  generalize hw0 : World.alloc _ _ = w0
  obtain ⟨hb0, hb1, hB0, hs0⟩ := alloc2 hw0
  have c0 := cellOf hb0 0; have c1 := cellOf hb0 1; have c2 := cellOf hb0 2; have c3 := cellOf hb0 3; have c4 := cellOf hb0 4; have c5 := cellOf hb0 5
  have hlb := box_lt hb0
  have hhv := have_length (.pointer (some ⟨w.heap.size + 1, 0, none⟩)) (.pointer (some ⟨w.heap.size, 0, none⟩)) (btw i 0 ((l.ws.length : Int) - 1)) A0 A1 A2 A3 A4 A5 q0 q1 q2 q3 q4 q5 l w0 HS.out (H.out.up hB0) (fun _ W hW => length1_any i A0 A1 A2 A3 A4 A5 q0 q1 q2 q3 q4 q5 l _ _ W hu (box_to hb1 hW) (LoBox.to hb0 hW))
  rw [show havE l (btw i 0 ((l.ws.length : Int) - 1)) = z from HZ.out] at hhv
  have HHV := hide hhv
  have HB0 := hide hB0
  have HL0 : Hid (LoBox w0 w.heap.size A0 A1 A2 A3 A4 A5 q0 q1 q2 q3 q4 q5 l) := hb0
  have HR0 := hide hb1
  clear hw0 hb0 hb1 hB0 hs0 hhv
  by_cases hz0 : z = 0
  case neg =>
    have hN : lenN l i = 0 := by unfold lenN; rw [if_neg (by rw [hz]; exact hz0)]
    rw [hN] at hnn
    subst hnn
    have hz1 : (z != 0) = true := by simpa using hz0
    clear hz hz0 hN
    go_wp2_with (go_at_call 82; refine HHV.out.mono ?_; rintro e w1 ⟨rfl, hB1⟩; have HB1 := hide (Below.to HB0.out hB1 (Nat.le_refl _)); clear hB1)
    go_ret2
    exact ⟨rfl, HB1.out⟩
  case pos =>
  subst hz0
  obtain ⟨ok, i0, i1⟩ := rouE_ok hz
  have hN : lenN l i = lenW l i.toNat := by unfold lenN; rw [if_pos hz]
  obtain ⟨k, rfl⟩ := Int.eq_ofNat_of_zero_le i0
  rw [Int.toNat_natCast] at hN
  rw [hN] at hnn
  subst hnn
  have hk : k < l.ws.length := by omega
  obtain ⟨bw, offw, x, Af, qf, HX, rfl, hbw, hq5, HFO, e0, e1, e2, e3, e4, e5, e6⟩ := H.out.wi hk
  have ii : (k : Int) < (l.ws.length : Int) := by omega
  have iq : (l.ws.length : Int) ≤ (q5 : Int) := by omega
  have OK := hide ok
  have HE := hide (And.intro e0 (And.intro e1 (And.intro e2 (And.intro e3 (And.intro e4 (And.intro e5 e6))))))
  clear hz hN ok i0 i1 e0 e1 e2 e3 e4 e5 e6
  go_upto_region 4 with (go_at_call 82; refine HHV.out.mono ?_; rintro e w1 ⟨rfl, hB1⟩; have HL1 := hide (HL0.out.to hB1); have HR1 := hide (box_to HR0.out hB1); have HB1 := hide (Below.to HB0.out hB1 (Nat.le_refl _)); clear hB1 c0 c1 c2 c3 c4 c5 hlb)
  have f0 := cellOf HR1.out 0
  have lf := box_lt HR1.out
  have d0 := cellOf HL1.out 0; have d1 := cellOf HL1.out 1; have d2 := cellOf HL1.out 2; have d3 := cellOf HL1.out 3; have d4 := cellOf HL1.out 4; have d5 := cellOf HL1.out 5
  have ld := box_lt HL1.out
  have hBw := HB1.out
  have lbw : bw < w1.heap.size := Nat.lt_of_lt_of_le hbw hBw.size
  have z0 := (hBw.cell (p := ⟨bw, offw + k * 7, none⟩) hbw).trans HE.out.1
  have z1 := (hBw.cell (p := ⟨bw, offw + k * 7 + 1, none⟩) hbw).trans HE.out.2.1
  have z2 := (hBw.cell (p := ⟨bw, offw + k * 7 + 2, none⟩) hbw).trans HE.out.2.2.1
  have z3 := (hBw.cell (p := ⟨bw, offw + k * 7 + 3, none⟩) hbw).trans HE.out.2.2.2.1
  have z4 := (hBw.cell (p := ⟨bw, offw + k * 7 + 4, none⟩) hbw).trans HE.out.2.2.2.2.1
  have z5 := (hBw.cell (p := ⟨bw, offw + k * 7 + 5, none⟩) hbw).trans HE.out.2.2.2.2.2.1
  have z6 := (hBw.cell (p := ⟨bw, offw + k * 7 + 6, none⟩) hbw).trans HE.out.2.2.2.2.2.2
  have HH1 := hide (H.out.up hBw)
  clear hBw
  refine wp_region_held_drew (S := (fun w' => Below w1.heap.size w1 w')) (by kernel_rfl) ?_ (fun hHeld => ?_)
  · try dsimp only
    exact (by repeat (first | exact Below.refl _ _ | assumption | refine Below.drew ?_ | refine Below.drewN ?_ _ | refine Below.allocT ?_ (Nat.le_refl _) _ | refine Below.setCell ?_ (by simp <;> omega) _ | refine Below.to ?_ (by assumption) (Nat.le_refl _)))
  refine zT 0 rfl ?_
  try simp only [zX]
  refine zT 1 rfl ?_
  try simp only [zX]
  refine zT 2 rfl ?_
  try simp only [zX]
  refine zT 3 rfl ?_
  try simp only [zX]
  refine zT 4 rfl ?_
  try simp only [zX]
  refine zT 5 rfl ?_
  try simp only [zX]
  refine wpAnyH_ready (rs := [6]) (by kernel_rfl) (by simp) ?_
  refine AllReadyH.cons rfl (fun K hK => ?_) AllReadyH.nil
  go_simp
  ((go_at_call 107; refine (length_wire Af x.form.length qf _ _ _ _ _ _ _ _ _ _ _ _ l _ (HH1.out.up (by repeat (first | exact Below.refl _ _ | assumption | refine Below.drew ?_ | refine Below.drewN ?_ _ | refine Below.allocT ?_ (Nat.le_refl _) _ | refine Below.setCell ?_ (by simp <;> omega) _ | refine Below.to ?_ (by assumption) (Nat.le_refl _)))) OK.out hk HX.out).mono ?_; rintro e w5 ⟨rfl, hB5⟩))
  (try dsimp only)
  refine hK.out _ _ ?_ (fun hNext => ?_)
  · try dsimp only
    exact (by repeat (first | exact Below.refl _ _ | assumption | refine Below.drew ?_ | refine Below.drewN ?_ _ | refine Below.allocT ?_ (Nat.le_refl _) _ | refine Below.setCell ?_ (by simp <;> omega) _ | refine Below.to ?_ (by assumption) (Nat.le_refl _)))
  clear hK K hHeld
  have hHeld := hNext
  clear hNext
  (try dsimp only at hHeld)
  try simp only [zX]
  refine zT 7 rfl ?_
  try simp only [zX]
  refine zT 8 rfl ?_
  try simp only [zX]
  refine wpAnyH_done (by kernel_rfl) ?_ _
  go_wp2_with fail
  go_ret2
  exact ⟨rfl, Below.to HB1.out hHeld (Nat.le_refl _)⟩
set_option maxRecDepth 100000 in
set_option maxHeartbeats 4000000 in
theorem Route_any (i : Int) (A0 A1 A2 A3 A4 A5 : Option Addr) (q0 q1 q2 q3 q4 q5 : Nat) (l : Lo) (w : World) (hs : SizedL l) (h : LoA w w.heap.size A0 A1 A2 A3 A4 A5 q0 q1 q2 q3 q4 q5 l) :
    Calls Try.prog 32 #[.agg #[.slice A0 l.m.opts.length q0, .slice A1 l.m.rules.length q1, .slice A2 l.ss.length q2, .slice A3 l.us.length q3, .slice A4 l.ps.length q4, .slice A5 l.ws.length q5], .int .i64 i] w (TigP (rouL l i) (rouE l i) w) := by
  have H := hide h
  have HS := hide hs
  have hu := hs.w
  obtain ⟨z, hz⟩ : ∃ z, rouE l i = z := ⟨_, rfl⟩
  obtain ⟨nn, hnn⟩ : ∃ z, rouL l i = z := ⟨_, rfl⟩
  rw [hz, hnn]
  have HZ := hide hz
  clear h hs
  go_enter Try.func32, Try.ntmps32
  go_upto_region 1 with (fail)
  generalize hw0 : World.alloc _ _ = w0
  obtain ⟨hb0, hb1, hB0, hs0⟩ := alloc2 hw0
  have c0 := cellOf hb0 0; have c1 := cellOf hb0 1; have c2 := cellOf hb0 2; have c3 := cellOf hb0 3; have c4 := cellOf hb0 4; have c5 := cellOf hb0 5
  have hlb := box_lt hb0
  have hhv := have_route (.pointer (some ⟨w.heap.size + 1, 0, none⟩)) (.pointer (some ⟨w.heap.size, 0, none⟩)) (btw i 0 ((l.ws.length : Int) - 1)) A0 A1 A2 A3 A4 A5 q0 q1 q2 q3 q4 q5 l w0 HS.out (H.out.up hB0) (fun _ W hW => route1_any i A0 A1 A2 A3 A4 A5 q0 q1 q2 q3 q4 q5 l _ _ W hu (box_to hb1 hW) (LoBox.to hb0 hW))
  rw [show havE l (btw i 0 ((l.ws.length : Int) - 1)) = z from HZ.out] at hhv
  have HHV := hide hhv
  have HB0 := hide hB0
  have HL0 : Hid (LoBox w0 w.heap.size A0 A1 A2 A3 A4 A5 q0 q1 q2 q3 q4 q5 l) := hb0
  have HR0 := hide hb1
  clear hw0 hb0 hb1 hB0 hs0 hhv
  by_cases hz0 : z = 0
  case neg =>
    have hN : rouL l i = [] := by unfold rouL; rw [if_neg (by rw [hz]; exact hz0)]
    rw [hN] at hnn
    subst hnn
    have hz1 : (z != 0) = true := by simpa using hz0
    clear hz hz0 hN
    go_wp2_with (go_at_call 82; refine HHV.out.mono ?_; rintro e w1 ⟨rfl, hB1⟩; have HB1 := hide (Below.to HB0.out hB1 (Nat.le_refl _)); clear hB1)
    go_ret2
    exact ⟨_, rfl, Sl.nil _ _ _ _, HB1.out⟩
  case pos =>
  subst hz0
  obtain ⟨ok, i0, i1⟩ := rouE_ok hz
  have hN : rouL l i = rouW l i.toNat := by unfold rouL; rw [if_pos hz]
  obtain ⟨k, rfl⟩ := Int.eq_ofNat_of_zero_le i0
  rw [Int.toNat_natCast] at hN
  rw [hN] at hnn
  subst hnn
  have hk : k < l.ws.length := by omega
  obtain ⟨bw, offw, x, Af, qf, HX, rfl, hbw, hq5, HFO, e0, e1, e2, e3, e4, e5, e6⟩ := H.out.wi hk
  have ii : (k : Int) < (l.ws.length : Int) := by omega
  have iq : (l.ws.length : Int) ≤ (q5 : Int) := by omega
  obtain ⟨hea, heb⟩ := ok.ends hk
  have HWL := hide (wayL_is ok hea heb)
  have OK := hide ok
  have HE := hide (And.intro e0 (And.intro e1 (And.intro e2 (And.intro e3 (And.intro e4 (And.intro e5 e6))))))
  clear hz hN ok i0 i1 e0 e1 e2 e3 e4 e5 e6
  go_upto_region 4 with (go_at_call 82; refine HHV.out.mono ?_; rintro e w1 ⟨rfl, hB1⟩; have HL1 := hide (HL0.out.to hB1); have HR1 := hide (box_to HR0.out hB1); have HB1 := hide (Below.to HB0.out hB1 (Nat.le_refl _)); clear hB1 c0 c1 c2 c3 c4 c5 hlb)
  have f0 := cellOf HR1.out 0
  have lf := box_lt HR1.out
  have d0 := cellOf HL1.out 0; have d1 := cellOf HL1.out 1; have d2 := cellOf HL1.out 2; have d3 := cellOf HL1.out 3; have d4 := cellOf HL1.out 4; have d5 := cellOf HL1.out 5
  have ld := box_lt HL1.out
  have hBw := HB1.out
  have lbw : bw < w1.heap.size := Nat.lt_of_lt_of_le hbw hBw.size
  have z0 := (hBw.cell (p := ⟨bw, offw + k * 7, none⟩) hbw).trans HE.out.1
  have z1 := (hBw.cell (p := ⟨bw, offw + k * 7 + 1, none⟩) hbw).trans HE.out.2.1
  have z2 := (hBw.cell (p := ⟨bw, offw + k * 7 + 2, none⟩) hbw).trans HE.out.2.2.1
  have z3 := (hBw.cell (p := ⟨bw, offw + k * 7 + 3, none⟩) hbw).trans HE.out.2.2.2.1
  have z4 := (hBw.cell (p := ⟨bw, offw + k * 7 + 4, none⟩) hbw).trans HE.out.2.2.2.2.1
  have z5 := (hBw.cell (p := ⟨bw, offw + k * 7 + 5, none⟩) hbw).trans HE.out.2.2.2.2.2.1
  have z6 := (hBw.cell (p := ⟨bw, offw + k * 7 + 6, none⟩) hbw).trans HE.out.2.2.2.2.2.2
  have HH1 := hide (H.out.up hBw)
  clear hBw
  refine wp_region_held_drew (S := (fun w' => Below w1.heap.size w1 w')) (by kernel_rfl) ?_ (fun hHeld => ?_)
  · try dsimp only
    exact (by repeat (first | exact Below.refl _ _ | assumption | refine Below.drew ?_ | refine Below.drewN ?_ _ | refine Below.allocT ?_ (Nat.le_refl _) _ | refine Below.setCell ?_ (by simp <;> omega) _ | refine Below.to ?_ (by assumption) (Nat.le_refl _)))
  refine zT 0 rfl ?_
  try simp only [zX]
  refine zT 1 rfl ?_
  try simp only [zX]
  refine zT 2 rfl ?_
  try simp only [zX]
  refine zT 3 rfl ?_
  try simp only [zX]
  refine zT 4 rfl ?_
  try simp only [zX]
  refine zT 5 rfl ?_
  try simp only [zX]
  refine wpAnyH_ready (rs := [6]) (by kernel_rfl) (by simp) ?_
  refine AllReadyH.cons rfl (fun K hK => ?_) AllReadyH.nil
  go_simp
  ((go_at_call 102; refine (ends_wire Af x.form.length qf _ _ _ _ _ _ _ _ _ _ _ _ l _ (HH1.out.up (by repeat (first | exact Below.refl _ _ | assumption | refine Below.drew ?_ | refine Below.drewN ?_ _ | refine Below.allocT ?_ (Nat.le_refl _) _ | refine Below.setCell ?_ (by simp <;> omega) _ | refine Below.to ?_ (by assumption) (Nat.le_refl _)))) OK.out hk HX.out).mono ?_; rintro e w5 ⟨rfl, hB5⟩))
  (try dsimp only)
  refine hK.out _ _ ?_ (fun hNext => ?_)
  · try dsimp only
    exact (by repeat (first | exact Below.refl _ _ | assumption | refine Below.drew ?_ | refine Below.drewN ?_ _ | refine Below.allocT ?_ (Nat.le_refl _) _ | refine Below.setCell ?_ (by simp <;> omega) _ | refine Below.to ?_ (by assumption) (Nat.le_refl _)))
  clear hK K hHeld
  have hHeld := hNext
  clear hNext
  (try dsimp only at hHeld)
  try simp only [zX]
  refine zT 7 rfl ?_
  try simp only [zX]
  refine zT 8 rfl ?_
  try simp only [zX]
  refine zT 9 rfl ?_
  try simp only [zX]
  refine zT 10 rfl ?_
  try simp only [zX]
  refine zT 11 rfl ?_
  try simp only [zX]
  refine wpAnyH_done (by kernel_rfl) ?_ _
  have HL2 := hide (HL1.out.to hHeld)
  have g0 := cellOf HL2.out 0; have g1 := cellOf HL2.out 1; have g2 := cellOf HL2.out 2; have g3 := cellOf HL2.out 3; have g4 := cellOf HL2.out 4; have g5 := cellOf HL2.out 5
  have lg := box_lt HL2.out
  have HB2 := hide (Below.to HB1.out hHeld (Nat.le_refl _))
  clear hHeld d0 d1 d2 d3 d4 d5 ld f0 lf z0 z1 z2 z3 z4 z5 z6 lbw
  go_wp2_with (go_at_call 103; refine (wayP_any (endF l k) (endT l k) _ _ _ _ _ _ _ _ _ _ _ _ l _ (H.out.up HB2.out) OK.out hea heb).mono ?_; rintro e w6 ⟨P, sv, rv, hP, rfl, hn1, hn2, hB6⟩; have hPe := OK.out.wayU hP HWL.out; subst hPe; have HN1 := hide hn1; have HB6 := hide (Below.to HB2.out hB6 (Nat.le_refl _)); clear hP hn1 hn2 hB6)
  go_ret2
  exact ⟨_, rfl, HN1.out, HB6.out⟩
end Go.Proofs.Ytmabfnddedffoaa
/- The elder route and length: walks. -/
namespace Go.Proofs.Ytmabfnddedffoaa
open Go.RowKit
set_option linter.unusedVariables false
set_option linter.unusedSimpArgs false
end Go.Proofs.Ytmabfnddedffoaa
/- Sharp bends, the program: walk. -/
namespace Go.Proofs.Ytmabfnddedffoaa
open Go.RowKit
set_option linter.unusedVariables false
set_option linter.unusedSimpArgs false
/-- A sharp bend between three spots. -/
def bndN (a b c : Sp) : Int := (b.x - a.x) * (c.x - b.x) + (b.y - a.y) * (c.y - b.y) + (b.z - a.z) * (c.z - b.z)
noncomputable def benB (l : Lo) (Q : List Nat) (k : Nat) : Bool := decide (bndN (l.ss.getD (Q.getD (k - 1) 0) Sp.o) (l.ss.getD (Q.getD k 0) Sp.o) (l.ss.getD (Q.getD (k + 1) 0) Sp.o) < 0)
noncomputable def benI (l : Lo) (i k : Nat) : List (Nat × Nat) := ((List.range k).filter fun j => decide (1 ≤ j) && benB l (rouW l i) j).map fun j => (i, (rouW l i).getD j 0)
noncomputable def benO (l : Lo) (i : Nat) : List (Nat × Nat) := (List.range i).flatMap fun j => benI l j ((rouW l j).length - 1)
noncomputable def benE (l : Lo) : List (Nat × Nat) := if l.err = 0 then benO l l.ws.length else []
theorem rouW_len {l : Lo} (ok : LoOk l) {i : Nat} (hi : i < l.ws.length) : 1 ≤ (rouW l i).length ∧ (rouW l i).length ≤ 41 := by
  obtain ⟨hea, heb⟩ := ok.ends hi
  have hP := wayL_is ok hea heb
  have h2 := nodup_len (n := l.rs.length) (hP.mem ok.tree).1 (fun j hj => hP.lt j hj)
  have h3 := ok.u40
  rw [rs_len] at h2
  unfold rouW
  rw [spotsW_len]
  omega
theorem rouW_lt {l : Lo} (ok : LoOk l) {i : Nat} (hi : i < l.ws.length) {k : Nat} (hk : k < (rouW l i).length) : (rouW l i).getD k 0 < l.ss.length := by
  obtain ⟨hea, heb⟩ := ok.ends hi
  have hP := wayL_is ok hea heb
  unfold rouW at hk ⊢
  rw [spotsW_len] at hk
  cases k with
  | zero => rw [spotsW_first]; exact hea
  | succ t =>
    obtain ⟨h1, h2⟩ := hP.step t (by omega)
    have h3 := ok.tree.lt _ h1
    rcases h2 with h2 | h2 <;> rw [h2] at h3
    · exact h3.2
    · exact h3.1
theorem LoOk.sp {l : Lo} (ok : LoOk l) {k : Nat} (hk : k < l.ss.length) : (-100000 ≤ (l.ss.getD k Sp.o).x ∧ (l.ss.getD k Sp.o).x ≤ 100000) ∧ (-100000 ≤ (l.ss.getD k Sp.o).y ∧ (l.ss.getD k Sp.o).y ≤ 100000) ∧ (-100000 ≤ (l.ss.getD k Sp.o).z ∧ (l.ss.getD k Sp.o).z ≤ 100000) := by
  have h := ok.ss _ (getD_mem3 (z := Sp.o) hk)
  unfold Sp.ok at h
  simp only [Bool.and_eq_true, btw_iff] at h
  exact ⟨h.1.1, h.1.2, h.2⟩
/-- Three spots in cells of their own. -/
structure BenC (wr wc : World) (ba bb bc : Nat) (a b c : Sp) : Prop where
  below : Below wr.heap.size wr wc
  a : wc.heap[ba]? = some (.cells #[.int .i64 a.x, .int .i64 a.y, .int .i64 a.z] 97 (0, 0))
  b : wc.heap[bb]? = some (.cells #[.int .i64 b.x, .int .i64 b.y, .int .i64 b.z] 97 (0, 0))
  c : wc.heap[bc]? = some (.cells #[.int .i64 c.x, .int .i64 c.y, .int .i64 c.z] 97 (0, 0))
end Go.Proofs.Ytmabfnddedffoaa
/- Along a route the rest becomes shorter by each step; lists of two and three numbers: plain. -/
namespace Go.Proofs.Ytmabfnddedffoaa
open Go.RowKit
set_option linter.unusedVariables false
set_option linter.unusedSimpArgs false
theorem TreeR.way_step {rs : List (Nat × Nat)} {n : Nat} (T : TreeR rs n) (f : Nat → Int) {w : Int} {x z : Nat} {P : List Nat} (h : WayP rs w x P z) : ∀ t, t < P.length →
    distN rs f ((spotsW rs x P).getD t 0) z = distN rs f ((spotsW rs x P).getD t 0) ((spotsW rs x P).getD (t + 1) 0) + distN rs f ((spotsW rs x P).getD (t + 1) 0) z := by
  induction h with
  | nil => intro t ht; simp at ht
  | @cons w x y z k P hk hne hi hxz hr hP ih =>
    intro t ht
    have hs : spotsW rs x (k :: P) = x :: spotsW rs y P := by simp only [spotsW, inc_far hi]
    rw [hs]
    cases t with
    | zero =>
      have h1 := spotsW_first rs y P
      simp only [List.getD_cons_zero, List.getD_cons_succ]
      rw [h1, T.dist_next hk hi f, T.dist_edge hk hi.symm f hr]
      omega
    | succ t =>
      simp only [List.getD_cons_succ]
      exact ih t (by simpa using ht)
section
variable {l : Lo} (ok : LoOk l)
include ok
theorem LoOk.rou_step {i t : Nat} (hi : i < l.ws.length) (ht : t + 1 < (rouW l i).length) : distN l.rs (runLen l) ((rouW l i).getD t 0) (endT l i) = distN l.rs (runLen l) ((rouW l i).getD t 0) ((rouW l i).getD (t + 1) 0) + distN l.rs (runLen l) ((rouW l i).getD (t + 1) 0) (endT l i) := by
  obtain ⟨hea, heb⟩ := ok.ends hi
  have hP := wayL_is ok hea heb
  unfold rouW at ht ⊢
  rw [spotsW_len] at ht
  exact ok.tree.way_step (runLen l) hP t (by omega)
theorem LoOk.rou_ends {i : Nat} (hi : i < l.ws.length) : (rouW l i).getD 0 0 = endF l i ∧ (rouW l i).getD ((rouW l i).length - 1) 0 = endT l i := by
  obtain ⟨hea, heb⟩ := ok.ends hi
  have hP := wayL_is ok hea heb
  unfold rouW
  rw [spotsW_len, Nat.add_sub_cancel]
  exact ⟨spotsW_first _ _ _, hP.last⟩
end
theorem disE_zero {l : Lo} {a b : Nat} (he : l.err = 0) (ha : a < l.ss.length) (hb : b < l.ss.length) : disE l a b = 0 ∧ disN l a b = distN l.rs (runLen l) a b := by
  have h1 : disE l a b = 0 := by
    unfold disE havE disB
    rw [if_neg (by simp [he]), btw_t (by omega) (by omega), btw_t (by omega) (by omega)]
    rfl
  refine ⟨h1, ?_⟩
  rw [disN_ok h1, Int.toNat_natCast, Int.toNat_natCast]
theorem givE_zero {l : Lo} {ts : List Int} (he : l.err = 0) (h1 : 1 ≤ ts.length) (h2 : ts.length ≤ 40) (h : ∀ t ∈ ts, 0 ≤ t ∧ t < (l.ss.length : Int)) : givE l ts = 0 := by
  unfold givE havE givB
  rw [if_neg (by simp [he]), btw_t (by omega) (by omega)]
  have h3 : ts.any (badS l) = false := by
    rw [List.any_eq_false]
    intro t ht
    obtain ⟨h4, h5⟩ := h t ht
    unfold badS
    rw [btw_t (by omega) (by omega)]
    simp
  rw [h3]
  rfl
theorem ints_two {w : World} {b B t : Nat} {x y : Int} (hb : w.heap[b]? = some (.cells #[.int .i64 x, .int .i64 y] t (0, 0))) (hB : b < B) : Ints w B (.slice (some ⟨b, 0, none⟩) 2 2) [x, y] :=
  ⟨_, b, 0, 2, rfl, Nat.le_refl _, .inl ⟨rfl, hB⟩, fun i j hi hj => by
    simp at hi
    obtain rfl : j = 0 := by omega
    rw [cellOf hb]
    match i, hi with
    | 0, _ => rfl
    | 1, _ => rfl⟩
theorem ints_three {w : World} {b B t : Nat} {x y z : Int} (hb : w.heap[b]? = some (.cells #[.int .i64 x, .int .i64 y, .int .i64 z] t (0, 0))) (hB : b < B) : Ints w B (.slice (some ⟨b, 0, none⟩) 3 3) [x, y, z] :=
  ⟨_, b, 0, 3, rfl, Nat.le_refl _, .inl ⟨rfl, hB⟩, fun i j hi hj => by
    simp at hi
    obtain rfl : j = 0 := by omega
    rw [cellOf hb]
    match i, hi with
    | 0, _ => rfl
    | 1, _ => rfl
    | 2, _ => rfl⟩
end Go.Proofs.Ytmabfnddedffoaa
/- The laws' looms, opened: no condition. -/
namespace Go.Proofs.Ytmabfnddedffoaa
open Go.Joins Go.ChangeShapes Go.WideShapes Go.ChangeAt Go.RowKit Go.Deep
set_option maxRecDepth 100000
set_option linter.unusedVariables false
set_option linter.unusedSimpArgs false
section
variable {H : Type} {enc : TypeId × Value → H} {W : World} {base b0 : Nat} {r : Reach} {spare : Nat → Bool} {held : Bool} {v : Value} {d : DataW H} {p : List MemPlace}
theorem open_lo (hv : Value.okWide Try.prog W r b0 31 v) (h : DataW.Trod enc Try.prog W base spare held 31 v d p) :
    ∃ (A0 A1 A2 A3 A4 A5 : Option Addr) (q0 q1 q2 q3 q4 q5 : Nat), ∃ l : Lo, v = .agg #[.slice A0 l.m.opts.length q0, .slice A1 l.m.rules.length q1, .slice A2 l.ss.length q2, .slice A3 l.us.length q3, .slice A4 l.ps.length q4, .slice A5 l.ws.length q5] ∧ LoA W W.heap.size A0 A1 A2 A3 A4 A5 q0 q1 q2 q3 q4 q5 l ∧ SizedL l := by
  obtain ⟨ov, rv, sv, uv, pv, wv, l, rfl, hl, hs, _⟩ := open_loom hv h
  obtain ⟨A0, A1, A2, A3, A4, A5, q0, q1, q2, q3, q4, q5, rfl, rfl, rfl, rfl, rfl, rfl, hla⟩ := hl.form
  exact ⟨A0, A1, A2, A3, A4, A5, q0, q1, q2, q3, q4, q5, l, rfl, hla, hs⟩
end
end Go.Proofs.Ytmabfnddedffoaa

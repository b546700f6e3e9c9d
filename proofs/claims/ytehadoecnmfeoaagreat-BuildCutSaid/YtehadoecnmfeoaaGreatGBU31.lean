/- Part 31 of this claim's texts: walks and plain laws. -/
import Derived.Test.YtehadoecnmfeoaaGreatRows
import Derived.Test.YtehadoecnmfeoaaGreatGBU30
import Derived.Laws.EntriesVeiled
import Derived.Deep.RegionHeld3
import Derived.Deep.DrawnRows
import Derived.Test.YtehadoecnmfeoaaGreatGBU3
/- The program's route and length: walks. -/
namespace Go.Proofs.YtehadoecnmfeoaaGreat
open Go.RowKit
set_option linter.unusedVariables false
set_option linter.unusedSimpArgs false
open Classical in
/-- The way between two spots. -/
noncomputable def wayL (l : Lo) (a b : Nat) : List Nat := if h : ∃ P, WayP l.rs (-1) a P b then Classical.choose h else []
/-- What Route and Length answer. -/
def rouE (l : Lo) (i : Int) : Int := havE l (btw i 0 ((l.ws.length : Int) - 1))
noncomputable def rouW (l : Lo) (i : Nat) : List Nat := spotsW l.rs (endF l i) (wayL l (endF l i) (endT l i))
noncomputable def rouL (l : Lo) (i : Int) : List Nat := if rouE l i = 0 then rouW l i.toNat else []
noncomputable def lenW (l : Lo) (i : Nat) : Int := distN l.rs (runLen l) (endF l i) (endT l i)
noncomputable def lenN (l : Lo) (i : Int) : Int := if rouE l i = 0 then lenW l i.toNat else 0
theorem rouE_ok {l : Lo} {i : Int} (h : rouE l i = 0) : LoOk l ∧ 0 ≤ i ∧ i < (l.ws.length : Int) := by
  obtain ⟨h1, h2⟩ := havE_ok h
  obtain ⟨h3, h4⟩ := btw_iff.1 h2
  exact ⟨h1, h3, by omega⟩
set_option maxRecDepth 100000 in
set_option maxHeartbeats 1000000 in
theorem ends_wire {i : Nat} {x : Wi} (Af : Option Addr) (n qf : Nat) (A0 A1 A2 A3 A4 A5 : Option Addr) (q0 q1 q2 q3 q4 q5 : Nat) (l : Lo) (w : World) (h : LoA w w.heap.size A0 A1 A2 A3 A4 A5 q0 q1 q2 q3 q4 q5 l) (ok : LoOk l) (hi : i < l.ws.length) (hx : l.ws.getD i Wi.o = x) :
    Calls Tryz.prog 170 #[.agg #[.slice A0 l.m.opts.length q0, .slice A1 l.m.rules.length q1, .slice A2 l.ss.length q2, .slice A3 l.us.length q3, .slice A4 l.ps.length q4, .slice A5 l.ws.length q5], .agg #[.string x.name, .int .i64 x.fp, .int .i64 x.fc, .int .i64 x.tp, .int .i64 x.tc, .int .i64 x.size, .slice Af n qf]] w fun e w' => e = .returned (.tuple #[.int .i64 (endF l i : Nat), .int .i64 (endT l i : Nat)]) ∧ Below w.heap.size w w' := by
  obtain ⟨⟨a1, a2, a3⟩, b1, b2, b3⟩ := ok.wpin hi
  rw [hx] at a1 a2 a3 b1 b2 b3
  have h1 := ends_any x Af n qf A0 A1 A2 A3 A4 A5 q0 q1 q2 q3 q4 q5 l w h a1 a2 b1 b2 ok.p30
  have e1 : (l.ps.getD x.fp.toNat Pl.o).spot = (endF l i : Nat) := by unfold endF; rw [hx]; omega
  have e2 : (l.ps.getD x.tp.toNat Pl.o).spot = (endT l i : Nat) := by unfold endT; rw [hx]; omega
  rw [e1, e2] at h1
  exact h1
set_option maxRecDepth 100000 in
set_option maxHeartbeats 2000000 in
theorem length_wire {i : Nat} {x : Wi} (Af : Option Addr) (n qf : Nat) (A0 A1 A2 A3 A4 A5 : Option Addr) (q0 q1 q2 q3 q4 q5 : Nat) (l : Lo) (w : World) (h : LoA w w.heap.size A0 A1 A2 A3 A4 A5 q0 q1 q2 q3 q4 q5 l) (ok : LoOk l) (hi : i < l.ws.length) (hx : l.ws.getD i Wi.o = x) :
    Calls Tryz.prog 103 #[.agg #[.slice A0 l.m.opts.length q0, .slice A1 l.m.rules.length q1, .slice A2 l.ss.length q2, .slice A3 l.us.length q3, .slice A4 l.ps.length q4, .slice A5 l.ws.length q5], .agg #[.string x.name, .int .i64 x.fp, .int .i64 x.fc, .int .i64 x.tp, .int .i64 x.tc, .int .i64 x.size, .slice Af n qf]] w fun e w' => e = .returned (.int .i64 (lenW l i)) ∧ Below w.heap.size w w' := by
  have H := hide h
  have OK := hide ok
  have HX := hide hx
  obtain ⟨hea, heb⟩ := ok.ends hi
  clear h ok hx
  go_enter Tryz.func103, Tryz.ntmps103
  go_upto_region 1 with (fail)
  generalize hw0 : World.alloc _ _ = w0
  obtain ⟨hb0, hb1, hB0, hs0⟩ := alloc2 hw0
  have c0 := cellOf hb0 0; have c1 := cellOf hb0 1; have c2 := cellOf hb0 2; have c3 := cellOf hb0 3; have c4 := cellOf hb0 4; have c5 := cellOf hb0 5
  have l0 := box_lt hb0
  have hpx := hb1
  have z0 := cellOf hpx 0; have z1 := cellOf hpx 1; have z2 := cellOf hpx 2; have z3 := cellOf hpx 3; have z4 := cellOf hpx 4; have z5 := cellOf hpx 5; have z6 := cellOf hpx 6
  have l1 := box_lt hb1
  have HB0 := hide hB0
  have HL0 : Hid (LoBox w0 w.heap.size A0 A1 A2 A3 A4 A5 q0 q1 q2 q3 q4 q5 l) := hb0
  clear hw0 hb0 hb1 hpx hB0 hs0
  go_wp2_with (first | (go_at_call 170; refine (ends_wire Af n qf A0 A1 A2 A3 A4 A5 q0 q1 q2 q3 q4 q5 l _ (H.out.up HB0.out) OK.out hi HX.out).mono ?_; rintro e w1 ⟨rfl, hB1⟩; have d0 := cellOf (HL0.out.to hB1) 0; have d1 := cellOf (HL0.out.to hB1) 1; have d2 := cellOf (HL0.out.to hB1) 2; have d3 := cellOf (HL0.out.to hB1) 3; have d4 := cellOf (HL0.out.to hB1) 4; have d5 := cellOf (HL0.out.to hB1) 5; have ld := box_lt (HL0.out.to hB1); have HB1 := hide (Below.to HB0.out hB1 (Nat.le_refl _)); clear hB1 c0 c1 c2 c3 c4 c5 l0 l1) | (go_at_call 171; refine (distance_any (endF l i) (endT l i) A0 A1 A2 A3 A4 A5 q0 q1 q2 q3 q4 q5 l _ (H.out.up HB1.out) OK.out hea heb).mono ?_; rintro e w2 ⟨rfl, hB2⟩; have HB2 := hide (Below.to HB1.out hB2 (Nat.le_refl _)); clear hB2))
  go_ret
  exact ⟨rfl, HB2.out⟩
set_option maxRecDepth 100000 in
set_option maxHeartbeats 1000000 in
theorem have_length (p0 p1 : Value) (b : Bool) (A0 A1 A2 A3 A4 A5 : Option Addr) (q0 q1 q2 q3 q4 q5 : Nat) (l : Lo) (w : World) (hs : SizedL l) (h : LoA w w.heap.size A0 A1 A2 A3 A4 A5 q0 q1 q2 q3 q4 q5 l)
    (hf : l.err = 0 → ∀ W, Below w.heap.size w W → Calls Tryz.prog 105 #[p0, p1] W fun e w' => e = .returned (.bool b) ∧ Below W.heap.size W w') :
    Calls Tryz.prog 100 #[.agg #[.slice A0 l.m.opts.length q0, .slice A1 l.m.rules.length q1, .slice A2 l.ss.length q2, .slice A3 l.us.length q3, .slice A4 l.ps.length q4, .slice A5 l.ws.length q5], .func (.func 105) #[] #[p0, p1]] w fun e w' => e = .returned (.int .i64 (havE l b)) ∧ Below w.heap.size w w' := by
  have H := hide h
  have HF := hide hf
  obtain ⟨z, hz⟩ : ∃ z, l.err = z := ⟨_, rfl⟩
  have HZ := hide hz
  clear h hf
  by_cases hz0 : z = 0
  · subst hz0
    have hr : havE l b = mustE b 1 := by unfold havE; rw [hz]; rfl
    rw [hr]
    have hf := HF.out hz
    have HF2 := hide hf
    clear hf hz hr
    go_enter Tryz.func100, Tryz.ntmps100
    go_upto_region 1 with (fail)
    generalize hw0 : World.alloc _ _ = w0
    obtain ⟨hb0, hB0, hs0⟩ := alloc1 hw0
    have c0 := cellOf hb0 0; have c1 := cellOf hb0 1; have c2 := cellOf hb0 2; have c3 := cellOf hb0 3; have c4 := cellOf hb0 4; have c5 := cellOf hb0 5
    have hlb := box_lt hb0
    have hck := Check_any A0 A1 A2 A3 A4 A5 q0 q1 q2 q3 q4 q5 l w0 hs (H.out.up hB0)
    rw [HZ.out] at hck
    have HCK := hide hck
    have HB0 := hide hB0
    clear hw0 hb0 hB0 hs0 hck
    go_wp2_with (first | (go_at_call 62; refine HCK.out.mono ?_; rintro e w1 ⟨rfl, hB1⟩; have HB1 := hide (Below.to HB0.out hB1 (Nat.le_refl _)); clear hB1 c0 c1 c2 c3 c4 c5 hlb) | (go_at_call 105; refine (HF2.out _ HB1.out).mono ?_; rintro e w2 ⟨rfl, hB2⟩; have HB2 := hide (Below.to HB1.out hB2 (Nat.le_refl _)); clear hB2) | (go_at_call 134; refine (must_any _ _ _).mono ?_; rintro e w3 ⟨rfl, rfl⟩))
    go_ret
    exact ⟨rfl, HB2.out⟩
  · have hr : havE l b = z := by unfold havE; rw [hz, if_pos hz0]
    have hz1 : (z != 0) = true := by simpa using hz0
    rw [hr]
    clear hz hr hz0
    go_enter Tryz.func100, Tryz.ntmps100
    go_upto_region 1 with (fail)
    generalize hw0 : World.alloc _ _ = w0
    obtain ⟨hb0, hB0, hs0⟩ := alloc1 hw0
    have c0 := cellOf hb0 0; have c1 := cellOf hb0 1; have c2 := cellOf hb0 2; have c3 := cellOf hb0 3; have c4 := cellOf hb0 4; have c5 := cellOf hb0 5
    have hlb := box_lt hb0
    have hck := Check_any A0 A1 A2 A3 A4 A5 q0 q1 q2 q3 q4 q5 l w0 hs (H.out.up hB0)
    rw [HZ.out] at hck
    have HCK := hide hck
    have HB0 := hide hB0
    clear hw0 hb0 hB0 hs0 hck
    go_wp2_with (go_at_call 62; refine HCK.out.mono ?_; rintro e w1 ⟨rfl, hB1⟩; have HB1 := hide (Below.to HB0.out hB1 (Nat.le_refl _)); clear hB1 c0 c1 c2 c3 c4 c5 hlb)
    go_ret
    exact ⟨rfl, HB1.out⟩

set_option maxRecDepth 100000 in
theorem length1_any (i : Int) (A0 A1 A2 A3 A4 A5 : Option Addr) (q0 q1 q2 q3 q4 q5 : Nat) (l : Lo) (rb lb : Nat) (w : World) (hm : l.ws.length ≤ maxLen) (hr : w.heap[rb]? = some (.cells #[.int .i64 i] 3 (0, 0))) (h : LoBox w lb A0 A1 A2 A3 A4 A5 q0 q1 q2 q3 q4 q5 l) :
    Calls Tryz.prog 105 #[.pointer (some ⟨rb, 0, none⟩), .pointer (some ⟨lb, 0, none⟩)] w fun e w' => e = .returned (.bool (btw i 0 ((l.ws.length : Int) - 1))) ∧ Below w.heap.size w w' := by
  have c3 := cellOf h 5
  have d0 := cellOf hr 0
  have hlb := box_lt h
  have hlr := box_lt hr
  unfold maxLen at hm
  clear h hr
  go_enter Tryz.func105, Tryz.ntmps105
  go_wp2_with (go_at_call 106; refine (within_any _ _ _ _).mono ?_; rintro e w1 ⟨rfl, rfl⟩)
  go_ret
  exact ⟨rfl, Below.refl _ _⟩
set_option maxRecDepth 100000 in
set_option maxHeartbeats 4000000 in
theorem Length_any (i : Int) (A0 A1 A2 A3 A4 A5 : Option Addr) (q0 q1 q2 q3 q4 q5 : Nat) (l : Lo) (w : World) (hs : SizedL l) (h : LoA w w.heap.size A0 A1 A2 A3 A4 A5 q0 q1 q2 q3 q4 q5 l) :
    Calls Tryz.prog 38 #[.agg #[.slice A0 l.m.opts.length q0, .slice A1 l.m.rules.length q1, .slice A2 l.ss.length q2, .slice A3 l.us.length q3, .slice A4 l.ps.length q4, .slice A5 l.ws.length q5], .int .i64 i] w (FilP (lenN l i) (rouE l i) w) := by
  have H := hide h
  have HS := hide hs
  have hu := hs.w
  obtain ⟨z, hz⟩ : ∃ z, rouE l i = z := ⟨_, rfl⟩
  obtain ⟨nn, hnn⟩ : ∃ z, lenN l i = z := ⟨_, rfl⟩
  rw [hz, hnn]
  have HZ := hide hz
  clear h hs
  go_enter Tryz.func38, Tryz.ntmps38
  go_upto_region 1 with (fail)
  generalize hw0 : World.alloc _ _ = w0
  obtain ⟨hb0, hb1, hB0, hs0⟩ := alloc2 hw0
  have c0 := cellOf hb0 0; have c1 := cellOf hb0 1; have c2 := cellOf hb0 2; have c3 := cellOf hb0 3; have c4 := cellOf hb0 4; have c5 := cellOf hb0 5
  have hlb := box_lt hb0
  have hhv := have_length (.pointer (some ⟨w.heap.size + 1, 0, none⟩)) (.pointer (some ⟨w.heap.size, 0, none⟩)) (btw i 0 ((l.ws.length : Int) - 1)) A0 A1 A2 A3 A4 A5 q0 q1 q2 q3 q4 q5 l w0 HS.out (H.out.up hB0) (fun _ W hW => length1_any i A0 A1 A2 A3 A4 A5 q0 q1 q2 q3 q4 q5 l _ _ W hu (box_to hb1 hW) (LoBox.to hb0 hW))
  rw [show havE l (btw i 0 ((l.ws.length : Int) - 1)) = z from HZ.out] at hhv
  have HHV := hide hhv
  have HB0 := hide hB0
  have HL0 : Hid (LoBox w0 w.heap.size A0 A1 A2 A3 A4 A5 q0 q1 q2 q3 q4 q5 l) := hb0
  have HR0 := hide hb1
  clear hw0 hb0 hb1 hB0 hs0 hhv
  by_cases hz0 : z = 0
  case neg =>
    have hN : lenN l i = 0 := by unfold lenN; rw [if_neg (by rw [hz]; exact hz0)]
    rw [hN] at hnn
    subst hnn
    have hz1 : (z != 0) = true := by simpa using hz0
    clear hz hz0 hN
    go_wp2_with (go_at_call 100; refine HHV.out.mono ?_; rintro e w1 ⟨rfl, hB1⟩; have HB1 := hide (Below.to HB0.out hB1 (Nat.le_refl _)); clear hB1)
    go_ret2
    exact ⟨rfl, HB1.out⟩
  case pos =>
  subst hz0
  obtain ⟨ok, i0, i1⟩ := rouE_ok hz
  have hN : lenN l i = lenW l i.toNat := by unfold lenN; rw [if_pos hz]
  obtain ⟨k, rfl⟩ := Int.eq_ofNat_of_zero_le i0
  rw [Int.toNat_natCast] at hN
  rw [hN] at hnn
  subst hnn
  have hk : k < l.ws.length := by omega
  obtain ⟨bw, offw, x, Af, qf, HX, rfl, hbw, hq5, HFO, e0, e1, e2, e3, e4, e5, e6⟩ := H.out.wi hk
  have ii : (k : Int) < (l.ws.length : Int) := by omega
  have iq : (l.ws.length : Int) ≤ (q5 : Int) := by omega
  have OK := hide ok
  have HE := hide (And.intro e0 (And.intro e1 (And.intro e2 (And.intro e3 (And.intro e4 (And.intro e5 e6))))))
  clear hz hN ok i0 i1 e0 e1 e2 e3 e4 e5 e6
  go_upto_region 4 with (go_at_call 100; refine HHV.out.mono ?_; rintro e w1 ⟨rfl, hB1⟩; have HL1 := hide (HL0.out.to hB1); have HR1 := hide (box_to HR0.out hB1); have HB1 := hide (Below.to HB0.out hB1 (Nat.le_refl _)); clear hB1 c0 c1 c2 c3 c4 c5 hlb)
  have f0 := cellOf HR1.out 0
  have lf := box_lt HR1.out
  have d0 := cellOf HL1.out 0; have d1 := cellOf HL1.out 1; have d2 := cellOf HL1.out 2; have d3 := cellOf HL1.out 3; have d4 := cellOf HL1.out 4; have d5 := cellOf HL1.out 5
  have ld := box_lt HL1.out
  have hBw := HB1.out
  have lbw : bw < w1.heap.size := Nat.lt_of_lt_of_le hbw hBw.size
  have z0 := (hBw.cell (p := ⟨bw, offw + k * 7, none⟩) hbw).trans HE.out.1
  have z1 := (hBw.cell (p := ⟨bw, offw + k * 7 + 1, none⟩) hbw).trans HE.out.2.1
  have z2 := (hBw.cell (p := ⟨bw, offw + k * 7 + 2, none⟩) hbw).trans HE.out.2.2.1
  have z3 := (hBw.cell (p := ⟨bw, offw + k * 7 + 3, none⟩) hbw).trans HE.out.2.2.2.1
  have z4 := (hBw.cell (p := ⟨bw, offw + k * 7 + 4, none⟩) hbw).trans HE.out.2.2.2.2.1
  have z5 := (hBw.cell (p := ⟨bw, offw + k * 7 + 5, none⟩) hbw).trans HE.out.2.2.2.2.2.1
  have z6 := (hBw.cell (p := ⟨bw, offw + k * 7 + 6, none⟩) hbw).trans HE.out.2.2.2.2.2.2
  have HH1 := hide (H.out.up hBw)
  clear hBw
  refine wp_region_held_drew (S := (fun w' => Below w1.heap.size w1 w')) (by kernel_rfl) ?_ (fun hHeld => ?_)
  · try dsimp only
    exact (by repeat (first | exact Below.refl _ _ | assumption | refine Below.drew ?_ | refine Below.drewN ?_ _ | refine Below.allocT ?_ (Nat.le_refl _) _ | refine Below.setCell ?_ (by simp <;> omega) _ | refine Below.to ?_ (by assumption) (Nat.le_refl _)))
  refine zT 0 rfl ?_
  try simp only [zX]
  refine zT 1 rfl ?_
  try simp only [zX]
  refine zT 2 rfl ?_
  try simp only [zX]
  refine zT 3 rfl ?_
  try simp only [zX]
  refine zT 4 rfl ?_
  try simp only [zX]
  refine zT 5 rfl ?_
  try simp only [zX]
  refine wpAnyH_ready (rs := [6]) (by kernel_rfl) (by simp) ?_
  refine AllReadyH.cons rfl (fun K hK => ?_) AllReadyH.nil
  go_simp
  ((go_at_call 103; refine (length_wire Af x.form.length qf _ _ _ _ _ _ _ _ _ _ _ _ l _ (HH1.out.up (by repeat (first | exact Below.refl _ _ | assumption | refine Below.drew ?_ | refine Below.drewN ?_ _ | refine Below.allocT ?_ (Nat.le_refl _) _ | refine Below.setCell ?_ (by simp <;> omega) _ | refine Below.to ?_ (by assumption) (Nat.le_refl _)))) OK.out hk HX.out).mono ?_; rintro e w5 ⟨rfl, hB5⟩))
  (try dsimp only)
  refine hK.out _ _ ?_ (fun hNext => ?_)
  · try dsimp only
    exact (by repeat (first | exact Below.refl _ _ | assumption | refine Below.drew ?_ | refine Below.drewN ?_ _ | refine Below.allocT ?_ (Nat.le_refl _) _ | refine Below.setCell ?_ (by simp <;> omega) _ | refine Below.to ?_ (by assumption) (Nat.le_refl _)))
  clear hK K hHeld
  have hHeld := hNext
  clear hNext
  (try dsimp only at hHeld)
  try simp only [zX]
  refine zT 7 rfl ?_
  try simp only [zX]
  refine zT 8 rfl ?_
  try simp only [zX]
  refine wpAnyH_done (by kernel_rfl) ?_ _
  go_wp2_with fail
  go_ret2
  exact ⟨rfl, Below.to HB1.out hHeld (Nat.le_refl _)⟩
end Go.Proofs.YtehadoecnmfeoaaGreat
/- The program's copper of a variant: walk. -/
namespace Go.Proofs.YtehadoecnmfeoaaGreat
open Go.RowKit
set_option linter.unusedVariables false
set_option linter.unusedSimpArgs false
/-- The copper of the first wires of a variant. -/
noncomputable def copF (l : Lo) (v : List Bool) (i : Nat) : Int := if inB l v i then lenW l i * (l.ws.getD i Wi.o).size else 0
def copE (l : Lo) (v : List Bool) : Int := havE l (decide (v.length = l.m.opts.length))
noncomputable def copN (l : Lo) (v : List Bool) : Int := if copE l v = 0 then sumN (copF l v) l.ws.length else 0
theorem copE_ok {l : Lo} {v : List Bool} (h : copE l v = 0) : LoOk l ∧ v.length = l.m.opts.length := by
  obtain ⟨h1, h2⟩ := havE_ok h
  exact ⟨h1, of_decide_eq_true h2⟩
theorem pos_bd {x y c d : Int} (h1 : 0 ≤ x) (h2 : x ≤ c) (h3 : 0 ≤ y) (h4 : y ≤ d) : 0 ≤ x * y ∧ x * y ≤ c * d :=
  ⟨Int.mul_nonneg h1 h3, Int.mul_le_mul h2 h4 h3 (by omega)⟩
theorem copF_bd {l : Lo} (ok : LoOk l) (v : List Bool) {i : Nat} (hi : i < l.ws.length) : 0 ≤ copF l v i ∧ copF l v i ≤ 400000000000 := by
  have h1 := ok.dist (x := endF l i) (z := endT l i)
  have h2 := sz_ok ok hi
  have h3 := pos_bd (x := lenW l i) (y := (l.ws.getD i Wi.o).size) (c := 40000000) (d := 10000) h1.1 h1.2 (by omega) h2.2
  unfold copF
  split <;> omega
theorem copS_bd {l : Lo} (ok : LoOk l) (v : List Bool) : ∀ {k : Nat}, k ≤ l.ws.length → 0 ≤ sumN (copF l v) k ∧ sumN (copF l v) k ≤ (k : Int) * 400000000000
  | 0, _ => by simp [sumN]
  | k + 1, h => by
    have h1 := copS_bd ok v (k := k) (by omega)
    have h2 := copF_bd ok v (i := k) (by omega)
    have h3 : sumN (copF l v) (k + 1) = sumN (copF l v) k + copF l v k := rfl
    rw [h3]
    omega
set_option maxRecDepth 100000 in
set_option maxHeartbeats 1000000 in
theorem have_copper (p0 p1 : Value) (b : Bool) (A0 A1 A2 A3 A4 A5 : Option Addr) (q0 q1 q2 q3 q4 q5 : Nat) (l : Lo) (w : World) (hs : SizedL l) (h : LoA w w.heap.size A0 A1 A2 A3 A4 A5 q0 q1 q2 q3 q4 q5 l)
    (hf : l.err = 0 → ∀ W, Below w.heap.size w W → Calls Tryz.prog 101 #[p0, p1] W fun e w' => e = .returned (.bool b) ∧ Below W.heap.size W w') :
    Calls Tryz.prog 100 #[.agg #[.slice A0 l.m.opts.length q0, .slice A1 l.m.rules.length q1, .slice A2 l.ss.length q2, .slice A3 l.us.length q3, .slice A4 l.ps.length q4, .slice A5 l.ws.length q5], .func (.func 101) #[] #[p0, p1]] w fun e w' => e = .returned (.int .i64 (havE l b)) ∧ Below w.heap.size w w' := by
  have H := hide h
  have HF := hide hf
  obtain ⟨z, hz⟩ : ∃ z, l.err = z := ⟨_, rfl⟩
  have HZ := hide hz
  clear h hf
  by_cases hz0 : z = 0
  · subst hz0
    have hr : havE l b = mustE b 1 := by unfold havE; rw [hz]; rfl
    rw [hr]
    have hf := HF.out hz
    have HF2 := hide hf
    clear hf hz hr
    go_enter Tryz.func100, Tryz.ntmps100
    go_upto_region 1 with (fail)
    generalize hw0 : World.alloc _ _ = w0
    obtain ⟨hb0, hB0, hs0⟩ := alloc1 hw0
    have c0 := cellOf hb0 0; have c1 := cellOf hb0 1; have c2 := cellOf hb0 2; have c3 := cellOf hb0 3; have c4 := cellOf hb0 4; have c5 := cellOf hb0 5
    have hlb := box_lt hb0
    have hck := Check_any A0 A1 A2 A3 A4 A5 q0 q1 q2 q3 q4 q5 l w0 hs (H.out.up hB0)
    rw [HZ.out] at hck
    have HCK := hide hck
    have HB0 := hide hB0
    clear hw0 hb0 hB0 hs0 hck
    go_wp2_with (first | (go_at_call 62; refine HCK.out.mono ?_; rintro e w1 ⟨rfl, hB1⟩; have HB1 := hide (Below.to HB0.out hB1 (Nat.le_refl _)); clear hB1 c0 c1 c2 c3 c4 c5 hlb) | (go_at_call 101; refine (HF2.out _ HB1.out).mono ?_; rintro e w2 ⟨rfl, hB2⟩; have HB2 := hide (Below.to HB1.out hB2 (Nat.le_refl _)); clear hB2) | (go_at_call 134; refine (must_any _ _ _).mono ?_; rintro e w3 ⟨rfl, rfl⟩))
    go_ret
    exact ⟨rfl, HB2.out⟩
  · have hr : havE l b = z := by unfold havE; rw [hz, if_pos hz0]
    have hz1 : (z != 0) = true := by simpa using hz0
    rw [hr]
    clear hz hr hz0
    go_enter Tryz.func100, Tryz.ntmps100
    go_upto_region 1 with (fail)
    generalize hw0 : World.alloc _ _ = w0
    obtain ⟨hb0, hB0, hs0⟩ := alloc1 hw0
    have c0 := cellOf hb0 0; have c1 := cellOf hb0 1; have c2 := cellOf hb0 2; have c3 := cellOf hb0 3; have c4 := cellOf hb0 4; have c5 := cellOf hb0 5
    have hlb := box_lt hb0
    have hck := Check_any A0 A1 A2 A3 A4 A5 q0 q1 q2 q3 q4 q5 l w0 hs (H.out.up hB0)
    rw [HZ.out] at hck
    have HCK := hide hck
    have HB0 := hide hB0
    clear hw0 hb0 hB0 hs0 hck
    go_wp2_with (go_at_call 62; refine HCK.out.mono ?_; rintro e w1 ⟨rfl, hB1⟩; have HB1 := hide (Below.to HB0.out hB1 (Nat.le_refl _)); clear hB1 c0 c1 c2 c3 c4 c5 hlb)
    go_ret
    exact ⟨rfl, HB1.out⟩

set_option maxRecDepth 100000 in
set_option maxHeartbeats 1000000 in
theorem copper1_any (v : List Bool) (A : Option Addr) (q : Nat) (A0 A1 A2 A3 A4 A5 : Option Addr) (q0 q1 q2 q3 q4 q5 : Nat) (l : Lo) (lb vb : Nat) (w : World) (hv : w.heap[vb]? = some (.cells #[.slice A v.length q] 35 (0, 0))) (h : LoBox w lb A0 A1 A2 A3 A4 A5 q0 q1 q2 q3 q4 q5 l) :
    Calls Tryz.prog 101 #[.pointer (some ⟨vb, 0, none⟩), .pointer (some ⟨lb, 0, none⟩)] w fun e w' => e = .returned (.bool (decide (v.length = l.m.opts.length))) ∧ Below w.heap.size w w' := by
  have c0 := cellOf h 0
  have e0 := cellOf hv 0
  have hlb := box_lt h
  have hlv := box_lt hv
  by_cases hvl : v.length = l.m.opts.length
  · have g1 : ((v.length : Int) == (l.m.opts.length : Int)) = true := by simp [hvl]
    have HV : Hid (decide (v.length = l.m.opts.length) = true) := decide_eq_true hvl
    clear h hv hvl
    go_enter Tryz.func101, Tryz.ntmps101
    go_wp2_with fail
    go_ret
    exact ⟨ret_bool HV.out.symm, Below.refl _ _⟩
  · have g1 : ((v.length : Int) == (l.m.opts.length : Int)) = false := by simp; omega
    have HV : Hid (decide (v.length = l.m.opts.length) = false) := decide_eq_false hvl
    clear h hv hvl
    go_enter Tryz.func101, Tryz.ntmps101
    go_wp2_with fail
    go_ret
    exact ⟨ret_bool HV.out.symm, Below.refl _ _⟩
set_option maxRecDepth 100000 in
set_option maxHeartbeats 4000000 in
theorem Copper_any (v : List Bool) (Av : Option Addr) (qv : Nat) (A0 A1 A2 A3 A4 A5 : Option Addr) (q0 q1 q2 q3 q4 q5 : Nat) (l : Lo) (w : World) (hs : SizedL l) (h : LoA w w.heap.size A0 A1 A2 A3 A4 A5 q0 q1 q2 q3 q4 q5 l) (hv : Bols w w.heap.size (.slice Av v.length qv) v) :
    Calls Tryz.prog 36 #[.agg #[.slice A0 l.m.opts.length q0, .slice A1 l.m.rules.length q1, .slice A2 l.ss.length q2, .slice A3 l.us.length q3, .slice A4 l.ps.length q4, .slice A5 l.ws.length q5], .slice Av v.length qv] w (FilP (copN l v) (copE l v) w) := by
  have H := hide h
  have HS := hide hs
  have HV := hide hv
  obtain ⟨z, hz⟩ : ∃ z, copE l v = z := ⟨_, rfl⟩
  obtain ⟨n1, hn1⟩ : ∃ z, copN l v = z := ⟨_, rfl⟩
  rw [hz, hn1]
  have HZ := hide hz
  clear h hs hv
  go_enter Tryz.func36, Tryz.ntmps36
  go_upto_region 1 with (fail)
  generalize hw0 : World.alloc _ _ = w0
  obtain ⟨hb0, hb1, hB0, hs0⟩ := alloc2 hw0
  have c0 := cellOf hb0 0; have c1 := cellOf hb0 1; have c2 := cellOf hb0 2; have c3 := cellOf hb0 3; have c4 := cellOf hb0 4; have c5 := cellOf hb0 5
  have hlb := box_lt hb0
  have hhv := have_copper (.pointer (some ⟨w.heap.size + 1, 0, none⟩)) (.pointer (some ⟨w.heap.size, 0, none⟩)) (decide (v.length = l.m.opts.length)) A0 A1 A2 A3 A4 A5 q0 q1 q2 q3 q4 q5 l w0 HS.out (H.out.up hB0) (fun _ W hW => copper1_any v Av qv A0 A1 A2 A3 A4 A5 q0 q1 q2 q3 q4 q5 l _ _ W (box_to hb1 hW) (LoBox.to hb0 hW))
  rw [show havE l (decide (v.length = l.m.opts.length)) = z from HZ.out] at hhv
  have HHV := hide hhv
  have HB0 := hide hB0
  have HL0 : Hid (LoBox w0 w.heap.size A0 A1 A2 A3 A4 A5 q0 q1 q2 q3 q4 q5 l) := hb0
  have HR0 := hide hb1
  clear hw0 hb0 hb1 hB0 hs0 hhv
  by_cases hz0 : z = 0
  case neg =>
    have hn0 : n1 = 0 := by rw [← hn1]; unfold copN; rw [if_neg (by rw [hz]; exact hz0)]
    subst hn0
    have hz1 : (z != 0) = true := by simpa using hz0
    clear hz hz0 hn1
    go_wp2_with (go_at_call 100; refine HHV.out.mono ?_; rintro e w1 ⟨rfl, hB1⟩; have HB1 := hide (Below.to HB0.out hB1 (Nat.le_refl _)); clear hB1)
    go_ret2
    exact ⟨rfl, HB1.out⟩
  case pos =>
  subst hz0
  obtain ⟨ok, hvl⟩ := copE_ok hz
  obtain ⟨f, hf⟩ : ∃ f : Nat → Int, copF l v = f := ⟨_, rfl⟩
  have hn1' : sumN f l.ws.length = n1 := by rw [← hn1, ← hf]; unfold copN; rw [if_pos hz]
  have hfb : ∀ k, k ≤ l.ws.length → 0 ≤ sumN f k ∧ sumN f k ≤ (k : Int) * 400000000000 := fun k hk => by rw [← hf]; exact copS_bd ok v hk
  have hfi : ∀ i, f i = if inB l v i then lenW l i * (l.ws.getD i Wi.o).size else 0 := fun i => by rw [← hf]; rfl
  have OK := hide ok
  have HN1 := hide hn1'
  have HFB := hide hfb
  have HFI := hide hfi
  have hw60 := ok.w60
  clear hz hn1 ok hf hn1' hfb hfi hvl
  go_wp2_with (go_at_call 100; refine HHV.out.mono ?_; rintro e w1 ⟨rfl, hB1⟩; have d0 := cellOf (HL0.out.to hB1) 0; have d1 := cellOf (HL0.out.to hB1) 1; have d2 := cellOf (HL0.out.to hB1) 2; have d3 := cellOf (HL0.out.to hB1) 3; have d4 := cellOf (HL0.out.to hB1) 4; have d5 := cellOf (HL0.out.to hB1) 5; have ld := box_lt (HL0.out.to hB1); have HL1 := hide (HL0.out.to hB1); have HR1 := hide (box_to HR0.out hB1); have HB1 := hide (Below.to HB0.out hB1 (Nat.le_refl _)); clear hB1 c0 c1 c2 c3 c4 c5 hlb)
  clear d0 d1 d2 d3 d4 d5 ld
  go_loopw [7, 8, 9, 19] (fun o _ _ i wr => ∃ (k : Nat) (s : Int), i = .int .i64 k ∧ o = .int .i64 s ∧ k ≤ l.ws.length ∧ Hid (sumN f k = s) ∧ Hid (Below w1.heap.size w1 wr)) (fun _ _ _ i _ => l.ws.length - (intOf i).toNat)
  case atStart => exact ⟨0, 0, rfl, rfl, Nat.zero_le _, rfl, Below.refl _ _⟩
  case round =>
    obtain ⟨k, s, rfl, rfl, hk, HSU, HBr⟩ := hrel
    by_cases hkl : k < l.ws.length
    · have hBw := Below.to HB1.out HBr.out (Nat.le_refl _)
      obtain ⟨bw, offw, x, Af, qf, HX, rfl, hbw, hq5, HFO, e0, e1, e2, e3, e4, e5, e6⟩ := (H.out.up hBw).wi hkl
      have hsz := sz_ok OK.out hkl
      rw [HX.out] at hsz
      have hln := OK.out.dist (x := endF l k) (z := endT l k)
      obtain ⟨a, ha⟩ : ∃ z, lenW l k = z := ⟨_, rfl⟩
      rw [show distN l.rs (runLen l) (endF l k) (endT l k) = a from ha] at hln
      have hsr := HFB.out k hk
      rw [HSU.out] at hsr
      have hpr := pos_bd (x := a) (y := x.size) (c := 40000000) (d := 10000) hln.1 hln.2 (by omega) hsz.2
      obtain ⟨pr, hpe⟩ : ∃ z, a * x.size = z := ⟨_, rfl⟩
      rw [hpe] at hpr
      have hnew : sumN f (k + 1) = s + f k := by show sumN f k + f k = _; rw [HSU.out]
      have hfk : f k = if inB l v k then pr else 0 := by rw [HFI.out, ha, HX.out, hpe]
      have wr1 : IntKind.i64.wrap (a * x.size) = pr := by rw [hpe]; exact IntWalk.i64_in _ (by omega)
      have wr2 : IntKind.i64.wrap (s + pr) = s + pr := IntWalk.i64_in _ (by omega)
      obtain ⟨b, hb⟩ : ∃ b, inB l v k = b := ⟨_, rfl⟩
      rw [hb] at hfk
      have HBV := hide hb
      have HA := hide ha
      have HNEW := hide hnew
      have HFK := hide hfk
      have ik : (k : Int) < (l.ws.length : Int) := by omega
      have iq : (l.ws.length : Int) ≤ (q5 : Int) := by omega
      have lbw : bw < wr.heap.size := hbw
      have WR := hide (And.intro wr1 wr2)
      clear hpe hnew hfk hb ha hsr hpr hln hbw wr1 wr2
      go_upto_region 8 with (fail)
      generalize hw2 : World.alloc _ _ = w2
      obtain ⟨hb2, hB2, hs2⟩ := alloc1 hw2
      have HX2 := hide hb2
      have HB2 := hide (Below.to HBr.out hB2 (Nat.le_refl _))
      have d0 := cellOf (HL1.out.to HB2.out) 0; have d1 := cellOf (HL1.out.to HB2.out) 1; have d2 := cellOf (HL1.out.to HB2.out) 2; have d3 := cellOf (HL1.out.to HB2.out) 3; have d4 := cellOf (HL1.out.to HB2.out) 4; have d5 := cellOf (HL1.out.to HB2.out) 5
      have ld := box_lt (HL1.out.to HB2.out)
      have hr2 := box_to HR1.out HB2.out
      have y0 := cellOf hr2 0
      have ly := box_lt hr2
      have hBw2 := Below.to HB1.out HB2.out (Nat.le_refl _)
      have HH2 := hide (H.out.up hBw2)
      have HV2 := hide (Sl.up HV.out hBw2)
      clear hw2 hb2 hB2 hs2 hr2 hBw hBw2 e0 e1 e2 e3 e4 e5 e6 lbw
      cases b with
      | false =>
        have hnew : sumN f (k + 1) = s := by rw [HNEW.out, HFK.out]; simp
        have HN' := hide hnew
        clear hnew
        go_wp2_with (go_at_call 102; refine (in_any k v Av qv _ _ _ _ _ _ _ _ _ _ _ _ l _ HS.out HH2.out HV2.out hkl hw60).mono ?_; rw [HBV.out]; rintro e w3 ⟨rfl, hB3⟩; have HX3 := hide (box_to HX2.out hB3); have HB3 := hide (Below.to HB2.out hB3 (Nat.le_refl _)); clear hB3 d0 d1 d2 d3 d4 d5 ld y0 ly)
        go_roundw
        case rel => exact ⟨k + 1, s, by go_num, rfl, by omega, HN'.out, HB3.out⟩
        case measure => simp [intOf]; omega
      | true =>
        have hnew : sumN f (k + 1) = s + pr := by rw [HNEW.out, HFK.out]; simp
        have HN' := hide hnew
        clear hnew
        go_upto_region 9 with (go_at_call 102; refine (in_any k v Av qv _ _ _ _ _ _ _ _ _ _ _ _ l _ HS.out HH2.out HV2.out hkl hw60).mono ?_; rw [HBV.out]; rintro e w3 ⟨rfl, hB3⟩; have HX3 := hide (box_to HX2.out hB3); have HB3 := hide (Below.to HB2.out hB3 (Nat.le_refl _)); clear hB3 d0 d1 d2 d3 d4 d5 ld y0 ly)
        have hx3 := HX3.out
        have x0 := cellOf hx3 0; have x1 := cellOf hx3 1; have x2 := cellOf hx3 2; have x3 := cellOf hx3 3; have x4 := cellOf hx3 4; have x5 := cellOf hx3 5; have x6 := cellOf hx3 6
        have lx := box_lt HX3.out
        have d0 := cellOf (HL1.out.to HB3.out) 0; have d1 := cellOf (HL1.out.to HB3.out) 1; have d2 := cellOf (HL1.out.to HB3.out) 2; have d3 := cellOf (HL1.out.to HB3.out) 3; have d4 := cellOf (HL1.out.to HB3.out) 4; have d5 := cellOf (HL1.out.to HB3.out) 5
        have ld := box_lt (HL1.out.to HB3.out)
        have HH3 := hide (H.out.up (Below.to HB1.out HB3.out (Nat.le_refl _)))
        obtain ⟨wr1, wr2⟩ := WR.out
        clear hx3
        refine wp_region_held_drew (S := (fun w' => Below w3.heap.size w3 w')) (by kernel_rfl) ?_ (fun hHeld => ?_)
        · try dsimp only
          exact (by repeat (first | exact Below.refl _ _ | assumption | refine Below.drew ?_ | refine Below.drewN ?_ _ | refine Below.allocT ?_ (Nat.le_refl _) _ | refine Below.setCell ?_ (by simp <;> omega) _ | refine Below.to ?_ (by assumption) (Nat.le_refl _)))
        refine zT 0 rfl ?_
        try simp only [zX]
        refine zT 1 rfl ?_
        try simp only [zX]
        refine zT 2 rfl ?_
        try simp only [zX]
        refine zT 4 rfl ?_
        try simp only [zX]
        refine zT 5 rfl ?_
        try simp only [zX]
        refine wpAnyH_ready (rs := [3]) (by kernel_rfl) (by simp) ?_
        refine AllReadyH.cons rfl (fun K hK => ?_) AllReadyH.nil
        go_simp
        ((go_at_call 103; refine (length_wire Af x.form.length qf _ _ _ _ _ _ _ _ _ _ _ _ l _ (HH3.out.up (by repeat (first | exact Below.refl _ _ | assumption | refine Below.drew ?_ | refine Below.drewN ?_ _ | refine Below.allocT ?_ (Nat.le_refl _) _ | refine Below.setCell ?_ (by simp <;> omega) _ | refine Below.to ?_ (by assumption) (Nat.le_refl _)))) OK.out hkl HX.out).mono ?_; rw [HA.out]; rintro e w5 ⟨rfl, hB5⟩))
        (try dsimp only)
        refine hK.out _ _ ?_ (fun hNext => ?_)
        · try dsimp only
          exact (by repeat (first | exact Below.refl _ _ | assumption | refine Below.drew ?_ | refine Below.drewN ?_ _ | refine Below.allocT ?_ (Nat.le_refl _) _ | refine Below.setCell ?_ (by simp <;> omega) _ | refine Below.to ?_ (by assumption) (Nat.le_refl _)))
        clear hK K hHeld
        have hHeld := hNext
        clear hNext
        (try dsimp only at hHeld)
        try simp only [zX]
        refine zT 6 rfl ?_
        try simp only [zX]
        refine zT 7 rfl ?_
        try simp only [zX]
        refine zT 8 rfl ?_
        try simp only [zX]
        refine wpAnyH_done (by kernel_rfl) ?_ _
        have HB5 := hide (Below.to HB3.out hHeld (Nat.le_refl _))
        clear hHeld d0 d1 d2 d3 d4 d5 ld x0 x1 x2 x3 x4 x5 x6 lx wr1 wr2
        go_wp2_with fail
        go_roundw
        case rel => exact ⟨k + 1, s + pr, by go_num, by first | rfl | go_num, by omega, HN'.out, HB5.out⟩
        case measure => simp [intOf]; omega
    · have hke : k = l.ws.length := by omega
      subst hke
      have hfin : n1 = s := by rw [← HN1.out, HSU.out]
      subst hfin
      go_wp2_with fail
      go_ret2
      exact ⟨rfl, Below.to HB1.out HBr.out (Nat.le_refl _)⟩
end Go.Proofs.YtehadoecnmfeoaaGreat

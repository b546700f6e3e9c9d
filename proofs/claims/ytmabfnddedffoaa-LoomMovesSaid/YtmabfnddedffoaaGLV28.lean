/- Part 28 of this claim's texts: walks and plain laws. -/
import Derived.Test.YtmabfnddedffoaaRows
import Derived.Test.YtmabfnddedffoaaGLV27
import Derived.Deep.RegionHeld3
import Derived.Deep.DrawnRows
import Derived.Test.YtmabfnddedffoaaGLV3
/- Equal looms are told equal: walk. -/
namespace Go.Proofs.Ytmabfnddedffoaa
open Go.RowKit
set_option linter.unusedVariables false
set_option linter.unusedSimpArgs false
theorem ints_at {w : World} {B : Nat} {A : Option Addr} {n q : Nat} {f : List Int} (h : Ints w B (.slice A n q) f) {k : Nat} (hk : k < f.length) : ∃ b off, A = some ⟨b, off, none⟩ ∧ b < B ∧ f.length ≤ q ∧ w.cell? ⟨b, off + k, none⟩ = some (.int .i64 (f.getD k 0)) := by
  obtain ⟨h1, h2, b, off, h3, h4, h5⟩ := sl_at h hk
  have h7 := h5 0 (by omega)
  rw [Nat.mul_one, Nat.add_zero] at h7
  exact ⟨b, off, h3, h4, h1 ▸ h2, h7⟩
set_option maxRecDepth 100000 in
set_option maxHeartbeats 2000000 in
theorem sameForm_any (f : List Int) (A C : Option Addr) (q r : Nat) (w : World) (hl : f.length ≤ maxLen) (h : Ints w w.heap.size (.slice A f.length q) f) (h2 : Ints w w.heap.size (.slice C f.length r) f) :
    Calls Try.prog 81 #[.slice A f.length q, .slice C f.length r] w fun e w' => e = .returned (.bool true) ∧ Below w.heap.size w w' := by
  unfold maxLen at hl
  have H := hide h
  have H2 := hide h2
  clear h h2
  go_enter Try.func81, Try.ntmps81
  go_wp2_with fail
  go_loopw [5] (fun i wr => ∃ k : Nat, k ≤ f.length ∧ i = .int .i64 k ∧ Hid (Below w.heap.size w wr)) (fun i _ => f.length - (intOf i).toNat)
  case atStart => exact ⟨0, Nat.zero_le _, rfl, Below.refl _ _⟩
  case round =>
    obtain ⟨k, hk, rfl, hB⟩ := hrel
    by_cases hlt : k < f.length
    · obtain ⟨b, off, rfl, hb, hq, c0⟩ := ints_at (H.out.below hB.out) hlt
      obtain ⟨b2, off2, rfl, hb2, hq2, d0⟩ := ints_at (H2.out.below hB.out) hlt
      have l0 : b < wr.heap.size := Nat.lt_of_lt_of_le hb hB.out.size
      have l1 : b2 < wr.heap.size := Nat.lt_of_lt_of_le hb2 hB.out.size
      have ik0 : (0 : Int) ≤ (k : Int) := by omega
      have ik : (k : Int) < (f.length : Int) := by omega
      have iq : (f.length : Int) ≤ (q : Int) := by omega
      have iq2 : (f.length : Int) ≤ (r : Int) := by omega
      obtain ⟨x, hx⟩ : ∃ x, f.getD k 0 = x := ⟨_, rfl⟩
      rw [hx] at c0 d0
      have n1 : (x != x) = false := by simp
      clear hx
      go_wp2_with fail
      refine wp_region_held_drew (S := (fun w' => Below wr.heap.size wr w')) (by kernel_rfl) ?_ (fun hHeld => ?_)
      · try dsimp only
        exact (by repeat (first | exact Below.refl _ _ | assumption | refine Below.drew ?_ | refine Below.drewN ?_ _ | refine Below.allocT ?_ (Nat.le_refl _) _ | refine Below.setCell ?_ (by simp <;> omega) _ | refine Below.to ?_ (by assumption) (Nat.le_refl _)))
      refine zT 0 rfl ?_
      try simp only [zX]
      refine zT 1 rfl ?_
      try simp only [zX]
      refine zT 2 rfl ?_
      try simp only [zX]
      refine zT 3 rfl ?_
      try simp only [zX]
      refine zT 4 rfl ?_
      try simp only [zX]
      refine zT 5 rfl ?_
      try simp only [zX]
      refine zT 6 rfl ?_
      try simp only [zX]
      refine zT 7 rfl ?_
      try simp only [zX]
      refine zT 8 rfl ?_
      try simp only [zX]
      refine wpAnyH_done (by kernel_rfl) ?_ _
      go_wp2_with fail
      go_roundw
      case rel => exact ⟨k + 1, by omega, by go_num, Below.to hB.out hHeld (Nat.le_refl _)⟩
      case measure => simp [intOf]; omega
    · go_wp2_with fail
      go_ret
      exact ⟨rfl, hB.out⟩
set_option maxRecDepth 100000 in
set_option maxHeartbeats 4000000 in
theorem sameModel_any (m : Mo) (A0 A1 C0 C1 : Option Addr) (q0 q1 r0 r1 : Nat) (w : World) (hs : SizedM m) (h : MoAt w w.heap.size (.slice A0 m.opts.length q0) (.slice A1 m.rules.length q1) m) (h2 : MoAt w w.heap.size (.slice C0 m.opts.length r0) (.slice C1 m.rules.length r1) m) :
    Calls Try.prog 80 #[.agg #[.slice A0 m.opts.length q0, .slice A1 m.rules.length q1], .agg #[.slice C0 m.opts.length r0, .slice C1 m.rules.length r1]] w fun e w' => e = .returned (.bool true) ∧ Below w.heap.size w w' := by
  have H := hide h
  have H2 := hide h2
  have HS := hide hs
  have hn := hs.n
  have hr := hs.r.1
  unfold maxLen at hn hr
  clear h h2 hs
  have e1 : ((m.opts.length : Int) != (m.opts.length : Int)) = false := by simp
  have e2 : ((m.rules.length : Int) != (m.rules.length : Int)) = false := by simp
  go_enter Try.func80, Try.ntmps80
  go_upto_region 1 with (fail)
  generalize hw0 : World.alloc _ _ = w0
  obtain ⟨hb0, hb1, hB0, hs0⟩ := alloc2 hw0
  have HX := hide hb0
  have HY := hide hb1
  have HB0 := hide hB0
  have x0 := cellOf hb0 0
  have x1 := cellOf hb0 1
  have y0 := cellOf hb1 0
  have y1 := cellOf hb1 1
  have lx := box_lt hb0
  have ly := box_lt hb1
  clear hw0 hb0 hb1 hB0 hs0
  go_wp2_with fail
  clear x0 x1 y0 y1 lx ly
  go_loopw [5] (fun i wr => ∃ k : Nat, k ≤ m.opts.length ∧ i = .int .i64 k ∧ Hid (Below w0.heap.size w0 wr)) (fun i _ => m.opts.length - (intOf i).toNat)
  case atStart => exact ⟨0, Nat.zero_le _, rfl, Below.refl _ _⟩
  case round =>
    obtain ⟨k, hk, rfl, hB⟩ := hrel
    obtain ⟨wo, hwo⟩ : ∃ wo : World, wo = wr := ⟨_, rfl⟩
    subst hwo
    have x0 := cellOf (box_to HX.out hB.out) 0
    have x1 := cellOf (box_to HX.out hB.out) 1
    have y0 := cellOf (box_to HY.out hB.out) 0
    have y1 := cellOf (box_to HY.out hB.out) 1
    have lx := box_lt (box_to HX.out hB.out)
    have ly := box_lt (box_to HY.out hB.out)
    by_cases hlt : k < m.opts.length
    · obtain ⟨b, off, s, HX1, rfl, hb, hq, c0⟩ := (H.out.below (Below.to HB0.out hB.out (Nat.le_refl _))).opt_at hlt
      obtain ⟨b2, off2, s2, HX2, rfl, hb2, hq2, d0⟩ := (H2.out.below (Below.to HB0.out hB.out (Nat.le_refl _))).opt_at hlt
      obtain rfl : s = s2 := HX1.out.symm.trans HX2.out
      have l0 : b < wo.heap.size := by have := HB0.out.size; have := hB.out.size; omega
      have l1 : b2 < wo.heap.size := by have := HB0.out.size; have := hB.out.size; omega
      have ik0 : (0 : Int) ≤ (k : Int) := by omega
      have ik : (k : Int) < (m.opts.length : Int) := by omega
      have iq : (m.opts.length : Int) ≤ (q0 : Int) := by omega
      have iq2 : (m.opts.length : Int) ≤ (r0 : Int) := by omega
      have n1 : (s.toList != s.toList) = false := by simp
      go_wp2_with fail
      refine wp_region_held_drew (S := (fun w' => Below wo.heap.size wo w')) (by kernel_rfl) ?_ (fun hHeld => ?_)
      · try dsimp only
        exact (by repeat (first | exact Below.refl _ _ | assumption | refine Below.drew ?_ | refine Below.drewN ?_ _ | refine Below.allocT ?_ (Nat.le_refl _) _ | refine Below.setCell ?_ (by simp <;> omega) _ | refine Below.to ?_ (by assumption) (Nat.le_refl _)))
      refine zT 0 rfl ?_
      try simp only [zX]
      refine zT 1 rfl ?_
      try simp only [zX]
      refine zT 2 rfl ?_
      try simp only [zX]
      refine zT 3 rfl ?_
      try simp only [zX]
      refine zT 4 rfl ?_
      try simp only [zX]
      refine zT 5 rfl ?_
      try simp only [zX]
      refine zT 6 rfl ?_
      try simp only [zX]
      refine zT 7 rfl ?_
      try simp only [zX]
      refine zT 8 rfl ?_
      try simp only [zX]
      refine zT 9 rfl ?_
      try simp only [zX]
      refine zT 10 rfl ?_
      try simp only [zX]
      refine wpAnyH_done (by kernel_rfl) ?_ _
      go_wp2_with fail
      go_roundw
      case rel => exact ⟨k + 1, by omega, by go_num, Below.to hB.out hHeld (Nat.le_refl _)⟩
      case measure => simp [intOf]; omega
    · go_wp2_with fail
      clear x0 x1 y0 y1 lx ly
      go_loopw [6] (fun i wr => ∃ k : Nat, k ≤ m.rules.length ∧ i = .int .i64 k ∧ Hid (Below w0.heap.size w0 wr)) (fun i _ => m.rules.length - (intOf i).toNat)
      case atStart => exact ⟨0, Nat.zero_le _, rfl, hB.out⟩
      case round =>
        obtain ⟨j, hj, rfl, hC⟩ := hrel
        have x0 := cellOf (box_to HX.out hC.out) 0
        have x1 := cellOf (box_to HX.out hC.out) 1
        have y0 := cellOf (box_to HY.out hC.out) 0
        have y1 := cellOf (box_to HY.out hC.out) 1
        have lx := box_lt (box_to HX.out hC.out)
        have ly := box_lt (box_to HY.out hC.out)
        have HCW := hide (Below.to HB0.out hC.out (Nat.le_refl _))
        by_cases hlt : j < m.rules.length
        · obtain ⟨b, off, f, Af, qf, HX1, rfl, hb, hq, HF1, c0⟩ := (H.out.up HCW.out).rule_at hlt
          obtain ⟨b2, off2, f2, Ag, qg, HX2, rfl, hb2, hq2, HF2, d0⟩ := (H2.out.up HCW.out).rule_at hlt
          obtain rfl : f = f2 := HX1.out.symm.trans HX2.out
          have hfl : f.length ≤ maxLen := HS.out.r.2 f (by rw [← HX1.out]; exact getD_mem3f hlt)
          have ik0 : (0 : Int) ≤ (j : Int) := by omega
          have ik : (j : Int) < (m.rules.length : Int) := by omega
          have iq : (m.rules.length : Int) ≤ (q1 : Int) := by omega
          have iq2 : (m.rules.length : Int) ≤ (r1 : Int) := by omega
          go_wp2_with fail
          refine wp_region_held_drew (S := (fun w' => Below wr.heap.size wr w')) (by kernel_rfl) ?_ (fun hHeld => ?_)
          · try dsimp only
            exact (by repeat (first | exact Below.refl _ _ | assumption | refine Below.drew ?_ | refine Below.drewN ?_ _ | refine Below.allocT ?_ (Nat.le_refl _) _ | refine Below.setCell ?_ (by simp <;> omega) _ | refine Below.to ?_ (by assumption) (Nat.le_refl _)))
          refine zT 0 rfl ?_
          try simp only [zX]
          refine zT 1 rfl ?_
          try simp only [zX]
          refine zT 2 rfl ?_
          try simp only [zX]
          refine zT 3 rfl ?_
          try simp only [zX]
          refine zT 4 rfl ?_
          try simp only [zX]
          refine zT 5 rfl ?_
          try simp only [zX]
          refine zT 6 rfl ?_
          try simp only [zX]
          refine zT 7 rfl ?_
          try simp only [zX]
          refine zT 8 rfl ?_
          try simp only [zX]
          refine zT 9 rfl ?_
          try simp only [zX]
          refine wpAnyH_ready (rs := [10]) (by kernel_rfl) (by simp) ?_
          refine AllReadyH.cons rfl (fun K hK => ?_) AllReadyH.nil
          go_simp
          ((go_at_call 81; refine (sameForm_any f _ _ _ _ _ hfl (HF1.out.up (by assumption)) (HF2.out.up (by assumption))).mono ?_; rintro e w5 ⟨rfl, hB5⟩))
          (try dsimp only)
          refine hK.out _ _ ?_ (fun hNext => ?_)
          · try dsimp only
            exact (by repeat (first | exact Below.refl _ _ | assumption | refine Below.drew ?_ | refine Below.drewN ?_ _ | refine Below.allocT ?_ (Nat.le_refl _) _ | refine Below.setCell ?_ (by simp <;> omega) _ | refine Below.to ?_ (by assumption) (Nat.le_refl _)))
          clear hK K hHeld
          have hHeld := hNext
          clear hNext
          (try dsimp only at hHeld)
          try simp only [zX]
          refine zT 11 rfl ?_
          try simp only [zX]
          refine wpAnyH_done (by kernel_rfl) ?_ _
          go_wp2_with fail
          go_roundw
          case rel => exact ⟨j + 1, by omega, by go_num, Below.to hC.out hHeld (Nat.le_refl _)⟩
          case measure => simp [intOf]; omega
        · go_wp2_with fail
          go_ret
          exact ⟨rfl, HCW.out⟩
set_option maxRecDepth 100000 in
set_option maxHeartbeats 8000000 in
theorem Same_any (A0 A1 A2 A3 A4 A5 : Option Addr) (q0 q1 q2 q3 q4 q5 : Nat) (C0 C1 C2 C3 C4 C5 : Option Addr) (r0 r1 r2 r3 r4 r5 : Nat) (l : Lo) (w : World) (hs : SizedL l) (h : LoA w w.heap.size A0 A1 A2 A3 A4 A5 q0 q1 q2 q3 q4 q5 l) (h2 : LoA w w.heap.size C0 C1 C2 C3 C4 C5 r0 r1 r2 r3 r4 r5 l) :
    Calls Try.prog 19 #[.agg #[.slice A0 l.m.opts.length q0, .slice A1 l.m.rules.length q1, .slice A2 l.ss.length q2, .slice A3 l.us.length q3, .slice A4 l.ps.length q4, .slice A5 l.ws.length q5], .agg #[.slice C0 l.m.opts.length r0, .slice C1 l.m.rules.length r1, .slice C2 l.ss.length r2, .slice C3 l.us.length r3, .slice C4 l.ps.length r4, .slice C5 l.ws.length r5]] w fun e w' => e = .returned (.bool true) ∧ Below w.heap.size w w' := by
  have H := hide h
  have H2 := hide h2
  have HS := hide hs
  have e1 : ((l.ss.length : Int) != (l.ss.length : Int)) = false := by simp
  have e2 : ((l.us.length : Int) != (l.us.length : Int)) = false := by simp
  have e3 : ((l.ps.length : Int) != (l.ps.length : Int)) = false := by simp
  have e4 : ((l.ws.length : Int) != (l.ws.length : Int)) = false := by simp
  have z1 := hs.s
  have z2 := hs.u
  have z3 := hs.p
  have z4 := hs.w
  unfold maxLen at z1 z2 z3 z4
  clear h h2 hs
  go_enter Try.func19, Try.ntmps19
  go_upto_region 1 with (fail)
  generalize hw0 : World.alloc _ _ = w0
  obtain ⟨hb0, hb1, hB0, hs0⟩ := alloc2 hw0
  have HX : Hid (LoBox w0 w.heap.size A0 A1 A2 A3 A4 A5 q0 q1 q2 q3 q4 q5 l) := hb0
  have HY : Hid (LoBox w0 (w.heap.size + 1) C0 C1 C2 C3 C4 C5 r0 r1 r2 r3 r4 r5 l) := hb1
  have HB0 := hide hB0
  have x0 := cellOf hb0 0; have x1 := cellOf hb0 1; have x2 := cellOf hb0 2; have x3 := cellOf hb0 3; have x4 := cellOf hb0 4; have x5 := cellOf hb0 5
  have y0 := cellOf hb1 0; have y1 := cellOf hb1 1; have y2 := cellOf hb1 2; have y3 := cellOf hb1 3; have y4 := cellOf hb1 4; have y5 := cellOf hb1 5
  have lx := box_lt hb0
  have ly := box_lt hb1
  have hsm := sameModel_any l.m A0 A1 C0 C1 q0 q1 r0 r1 w0 HS.out.m (H.out.up hB0).m (H2.out.up hB0).m
  have HSM := hide hsm
  clear hw0 hb0 hb1 hB0 hs0 hsm
  go_wp2_with (go_at_call 80; refine HSM.out.mono ?_; rintro e w1 ⟨rfl, hB1⟩; have HX1 := hide (HX.out.to hB1); have HY1 := hide (HY.out.to hB1); have HB1 := hide (Below.to HB0.out hB1 (Nat.le_refl _)); have s0 := cellOf (HX.out.to hB1) 0; have s1 := cellOf (HX.out.to hB1) 1; have s2 := cellOf (HX.out.to hB1) 2; have s3 := cellOf (HX.out.to hB1) 3; have s4 := cellOf (HX.out.to hB1) 4; have s5 := cellOf (HX.out.to hB1) 5; have t0 := cellOf (HY.out.to hB1) 0; have t1 := cellOf (HY.out.to hB1) 1; have t2 := cellOf (HY.out.to hB1) 2; have t3 := cellOf (HY.out.to hB1) 3; have t4 := cellOf (HY.out.to hB1) 4; have t5 := cellOf (HY.out.to hB1) 5; have ls := box_lt (HX.out.to hB1); have lt := box_lt (HY.out.to hB1); clear hB1 x0 x1 x2 x3 x4 x5 y0 y1 y2 y3 y4 y5 lx ly)
  clear s0 s1 s2 s3 s4 s5 t0 t1 t2 t3 t4 t5 ls lt HX HY HSM
  go_loopw [5] (fun i wr => ∃ k : Nat, k ≤ l.ss.length ∧ i = .int .i64 k ∧ Hid (Below w1.heap.size w1 wr)) (fun i _ => l.ss.length - (intOf i).toNat)
  case atStart => exact ⟨0, Nat.zero_le _, rfl, Below.refl _ _⟩
  case round =>
    obtain ⟨k, hk, rfl, hB⟩ := hrel
    obtain ⟨wo0, hwo⟩ : ∃ wo : World, wo = wr := ⟨_, rfl⟩
    subst hwo
    have HBW := hide (Below.to HB1.out hB.out (Nat.le_refl _))
    have x0 := cellOf (HX1.out.to hB.out) 0; have x1 := cellOf (HX1.out.to hB.out) 1; have x2 := cellOf (HX1.out.to hB.out) 2; have x3 := cellOf (HX1.out.to hB.out) 3; have x4 := cellOf (HX1.out.to hB.out) 4; have x5 := cellOf (HX1.out.to hB.out) 5
    have y0 := cellOf (HY1.out.to hB.out) 0; have y1 := cellOf (HY1.out.to hB.out) 1; have y2 := cellOf (HY1.out.to hB.out) 2; have y3 := cellOf (HY1.out.to hB.out) 3; have y4 := cellOf (HY1.out.to hB.out) 4; have y5 := cellOf (HY1.out.to hB.out) 5
    have lx := box_lt (HX1.out.to hB.out)
    have ly := box_lt (HY1.out.to hB.out)
    by_cases hlt : k < l.ss.length
    · obtain ⟨b, off, x, HE1, rfl, hb, hq, e0, e1, e2⟩ := (H.out.up HBW.out).sp hlt
      obtain ⟨b2, off2, x2, HE2, rfl, hb2, hq2, f0, f1, f2⟩ := (H2.out.up HBW.out).sp hlt
      obtain rfl : x = x2 := HE1.out.symm.trans HE2.out
      have ik0 : (0 : Int) ≤ (k : Int) := by omega
      have ik : (k : Int) < (l.ss.length : Int) := by omega
      have iq : (l.ss.length : Int) ≤ (q2 : Int) := by omega
      have iq2 : (l.ss.length : Int) ≤ (r2 : Int) := by omega
      go_wp2_with fail
      refine wp_region_held_drew (S := (fun w' => Below wo0.heap.size wo0 w')) (by kernel_rfl) ?_ (fun hHeld => ?_)
      · try dsimp only
        exact (by repeat (first | exact Below.refl _ _ | assumption | refine Below.drew ?_ | refine Below.drewN ?_ _ | refine Below.allocT ?_ (Nat.le_refl _) _ | refine Below.setCell ?_ (by simp <;> omega) _ | refine Below.to ?_ (by assumption) (Nat.le_refl _)))
      refine zT 0 rfl ?_
      try simp only [zX]
      refine zT 1 rfl ?_
      try simp only [zX]
      refine zT 2 rfl ?_
      try simp only [zX]
      refine zT 3 rfl ?_
      try simp only [zX]
      refine zT 4 rfl ?_
      try simp only [zX]
      refine zT 5 rfl ?_
      try simp only [zX]
      refine zT 6 rfl ?_
      try simp only [zX]
      refine zT 7 rfl ?_
      try simp only [zX]
      refine zT 8 rfl ?_
      try simp only [zX]
      refine zT 9 rfl ?_
      try simp only [zX]
      refine zT 10 rfl ?_
      try simp only [zX]
      refine wpAnyH_done (by kernel_rfl) ?_ _
      go_wp2_with fail
      go_roundw
      case rel => exact ⟨k + 1, by omega, by go_num, Below.to hB.out hHeld (Nat.le_refl _)⟩
      case measure => simp [intOf]; omega
    · go_wp2_with fail
      clear x0 x1 x2 x3 x4 x5 y0 y1 y2 y3 y4 y5 lx ly HBW
      go_loopw [6] (fun i wr => ∃ k : Nat, k ≤ l.us.length ∧ i = .int .i64 k ∧ Hid (Below w1.heap.size w1 wr)) (fun i _ => l.us.length - (intOf i).toNat)
      case atStart => exact ⟨0, Nat.zero_le _, rfl, hB.out⟩
      case round =>
        obtain ⟨k, hk, rfl, hB⟩ := hrel
        obtain ⟨wo1, hwo⟩ : ∃ wo : World, wo = wr := ⟨_, rfl⟩
        subst hwo
        have HBW := hide (Below.to HB1.out hB.out (Nat.le_refl _))
        have x0 := cellOf (HX1.out.to hB.out) 0; have x1 := cellOf (HX1.out.to hB.out) 1; have x2 := cellOf (HX1.out.to hB.out) 2; have x3 := cellOf (HX1.out.to hB.out) 3; have x4 := cellOf (HX1.out.to hB.out) 4; have x5 := cellOf (HX1.out.to hB.out) 5
        have y0 := cellOf (HY1.out.to hB.out) 0; have y1 := cellOf (HY1.out.to hB.out) 1; have y2 := cellOf (HY1.out.to hB.out) 2; have y3 := cellOf (HY1.out.to hB.out) 3; have y4 := cellOf (HY1.out.to hB.out) 4; have y5 := cellOf (HY1.out.to hB.out) 5
        have lx := box_lt (HX1.out.to hB.out)
        have ly := box_lt (HY1.out.to hB.out)
        by_cases hlt : k < l.us.length
        · obtain ⟨b, off, x, HE1, rfl, hb, hq, e0, e1, e2, e3⟩ := (H.out.up HBW.out).ru hlt
          obtain ⟨b2, off2, x2, HE2, rfl, hb2, hq2, f0, f1, f2, f3⟩ := (H2.out.up HBW.out).ru hlt
          obtain rfl : x = x2 := HE1.out.symm.trans HE2.out
          have ik0 : (0 : Int) ≤ (k : Int) := by omega
          have ik : (k : Int) < (l.us.length : Int) := by omega
          have iq : (l.us.length : Int) ≤ (q3 : Int) := by omega
          have iq2 : (l.us.length : Int) ≤ (r3 : Int) := by omega
          go_wp2_with fail
          refine wp_region_held_drew (S := (fun w' => Below wo1.heap.size wo1 w')) (by kernel_rfl) ?_ (fun hHeld => ?_)
          · try dsimp only
            exact (by repeat (first | exact Below.refl _ _ | assumption | refine Below.drew ?_ | refine Below.drewN ?_ _ | refine Below.allocT ?_ (Nat.le_refl _) _ | refine Below.setCell ?_ (by simp <;> omega) _ | refine Below.to ?_ (by assumption) (Nat.le_refl _)))
          refine zT 0 rfl ?_
          try simp only [zX]
          refine zT 1 rfl ?_
          try simp only [zX]
          refine zT 2 rfl ?_
          try simp only [zX]
          refine zT 3 rfl ?_
          try simp only [zX]
          refine zT 4 rfl ?_
          try simp only [zX]
          refine zT 5 rfl ?_
          try simp only [zX]
          refine zT 6 rfl ?_
          try simp only [zX]
          refine zT 7 rfl ?_
          try simp only [zX]
          refine zT 8 rfl ?_
          try simp only [zX]
          refine zT 9 rfl ?_
          try simp only [zX]
          refine zT 10 rfl ?_
          try simp only [zX]
          refine wpAnyH_done (by kernel_rfl) ?_ _
          go_wp2_with fail
          go_roundw
          case rel => exact ⟨k + 1, by omega, by go_num, Below.to hB.out hHeld (Nat.le_refl _)⟩
          case measure => simp [intOf]; omega
        · go_wp2_with fail
          clear x0 x1 x2 x3 x4 x5 y0 y1 y2 y3 y4 y5 lx ly HBW
          go_loopw [7] (fun i wr => ∃ k : Nat, k ≤ l.ps.length ∧ i = .int .i64 k ∧ Hid (Below w1.heap.size w1 wr)) (fun i _ => l.ps.length - (intOf i).toNat)
          case atStart => exact ⟨0, Nat.zero_le _, rfl, hB.out⟩
          case round =>
            obtain ⟨k, hk, rfl, hB⟩ := hrel
            obtain ⟨wo2, hwo⟩ : ∃ wo : World, wo = wr := ⟨_, rfl⟩
            subst hwo
            have HBW := hide (Below.to HB1.out hB.out (Nat.le_refl _))
            have x0 := cellOf (HX1.out.to hB.out) 0; have x1 := cellOf (HX1.out.to hB.out) 1; have x2 := cellOf (HX1.out.to hB.out) 2; have x3 := cellOf (HX1.out.to hB.out) 3; have x4 := cellOf (HX1.out.to hB.out) 4; have x5 := cellOf (HX1.out.to hB.out) 5
            have y0 := cellOf (HY1.out.to hB.out) 0; have y1 := cellOf (HY1.out.to hB.out) 1; have y2 := cellOf (HY1.out.to hB.out) 2; have y3 := cellOf (HY1.out.to hB.out) 3; have y4 := cellOf (HY1.out.to hB.out) 4; have y5 := cellOf (HY1.out.to hB.out) 5
            have lx := box_lt (HX1.out.to hB.out)
            have ly := box_lt (HY1.out.to hB.out)
            by_cases hlt : k < l.ps.length
            · obtain ⟨b, off, x, HE1, rfl, hb, hq, e0, e1, e2⟩ := (H.out.up HBW.out).pl hlt
              obtain ⟨b2, off2, x2, HE2, rfl, hb2, hq2, f0, f1, f2⟩ := (H2.out.up HBW.out).pl hlt
              obtain rfl : x = x2 := HE1.out.symm.trans HE2.out
              have ik0 : (0 : Int) ≤ (k : Int) := by omega
              have ik : (k : Int) < (l.ps.length : Int) := by omega
              have iq : (l.ps.length : Int) ≤ (q4 : Int) := by omega
              have iq2 : (l.ps.length : Int) ≤ (r4 : Int) := by omega
              go_wp2_with fail
              refine wp_region_held_drew (S := (fun w' => Below wo2.heap.size wo2 w')) (by kernel_rfl) ?_ (fun hHeld => ?_)
              · try dsimp only
                exact (by repeat (first | exact Below.refl _ _ | assumption | refine Below.drew ?_ | refine Below.drewN ?_ _ | refine Below.allocT ?_ (Nat.le_refl _) _ | refine Below.setCell ?_ (by simp <;> omega) _ | refine Below.to ?_ (by assumption) (Nat.le_refl _)))
              refine zT 0 rfl ?_
              try simp only [zX]
              refine zT 1 rfl ?_
              try simp only [zX]
              refine zT 2 rfl ?_
              try simp only [zX]
              refine zT 3 rfl ?_
              try simp only [zX]
              refine zT 4 rfl ?_
              try simp only [zX]
              refine zT 5 rfl ?_
              try simp only [zX]
              refine zT 6 rfl ?_
              try simp only [zX]
              refine zT 7 rfl ?_
              try simp only [zX]
              refine zT 8 rfl ?_
              try simp only [zX]
              refine zT 9 rfl ?_
              try simp only [zX]
              refine zT 10 rfl ?_
              try simp only [zX]
              refine wpAnyH_done (by kernel_rfl) ?_ _
              go_wp2_with fail
              go_roundw
              case rel => exact ⟨k + 1, by omega, by go_num, Below.to hB.out hHeld (Nat.le_refl _)⟩
              case measure => simp [intOf]; omega
            · go_wp2_with fail
              clear x0 x1 x2 x3 x4 x5 y0 y1 y2 y3 y4 y5 lx ly HBW
              go_loopw [8, 9, 10] (fun i _ _ wr => ∃ k : Nat, k ≤ l.ws.length ∧ i = .int .i64 k ∧ Hid (Below w1.heap.size w1 wr)) (fun i _ _ _ => l.ws.length - (intOf i).toNat)
              case atStart => exact ⟨0, Nat.zero_le _, rfl, hB.out⟩
              case round =>
                obtain ⟨k, hk, rfl, hB⟩ := hrel
                obtain ⟨wo3, hwo⟩ : ∃ wo : World, wo = wr := ⟨_, rfl⟩
                subst hwo
                have HBW := hide (Below.to HB1.out hB.out (Nat.le_refl _))
                have x0 := cellOf (HX1.out.to hB.out) 0; have x1 := cellOf (HX1.out.to hB.out) 1; have x2 := cellOf (HX1.out.to hB.out) 2; have x3 := cellOf (HX1.out.to hB.out) 3; have x4 := cellOf (HX1.out.to hB.out) 4; have x5 := cellOf (HX1.out.to hB.out) 5
                have y0 := cellOf (HY1.out.to hB.out) 0; have y1 := cellOf (HY1.out.to hB.out) 1; have y2 := cellOf (HY1.out.to hB.out) 2; have y3 := cellOf (HY1.out.to hB.out) 3; have y4 := cellOf (HY1.out.to hB.out) 4; have y5 := cellOf (HY1.out.to hB.out) 5
                have lx := box_lt (HX1.out.to hB.out)
                have ly := box_lt (HY1.out.to hB.out)
                by_cases hlt : k < l.ws.length
                · obtain ⟨b, off, x, Af, qf, HE1, rfl, hb, hq, HF1, e0, e1, e2, e3, e4, e5, e6⟩ := (H.out.up HBW.out).wi hlt
                  obtain ⟨b2, off2, x2, Ag, qg, HE2, rfl, hb2, hq2, HF2, f0, f1, f2, f3, f4, f5, f6⟩ := (H2.out.up HBW.out).wi hlt
                  obtain rfl : x = x2 := HE1.out.symm.trans HE2.out
                  have hfl : x.form.length ≤ maxLen := (HS.out.wn x (by rw [← HE1.out]; exact getD_mem3f hlt)).2
                  have ik0 : (0 : Int) ≤ (k : Int) := by omega
                  have ik : (k : Int) < (l.ws.length : Int) := by omega
                  have iq : (l.ws.length : Int) ≤ (q5 : Int) := by omega
                  have iq2 : (l.ws.length : Int) ≤ (r5 : Int) := by omega
                  go_upto_region 21 with (fail)
                  refine wp_region_held_drew (S := (fun w' => Below wo3.heap.size wo3 w')) (by kernel_rfl) ?_ (fun hHeld => ?_)
                  · try dsimp only
                    exact (by repeat (first | exact Below.refl _ _ | assumption | refine Below.drew ?_ | refine Below.drewN ?_ _ | refine Below.allocT ?_ (Nat.le_refl _) _ | refine Below.setCell ?_ (by simp <;> omega) _ | refine Below.to ?_ (by assumption) (Nat.le_refl _)))
                  refine zT 0 rfl ?_
                  try simp only [zX]
                  refine zT 1 rfl ?_
                  try simp only [zX]
                  refine zT 2 rfl ?_
                  try simp only [zX]
                  refine zT 3 rfl ?_
                  try simp only [zX]
                  refine zT 4 rfl ?_
                  try simp only [zX]
                  refine zT 5 rfl ?_
                  try simp only [zX]
                  refine zT 6 rfl ?_
                  try simp only [zX]
                  refine zT 7 rfl ?_
                  try simp only [zX]
                  refine zT 8 rfl ?_
                  try simp only [zX]
                  refine zT 9 rfl ?_
                  try simp only [zX]
                  refine wpAnyH_ready (rs := [10, 11]) (by kernel_rfl) (by simp) ?_
                  refine (AllReadyH.cons rfl (fun K hK => ?o1_11_10) (AllReadyH.cons rfl (fun K hK => ?o1_11_11) AllReadyH.nil))
                  case' o1_11_10 =>
                    go_simp
                    refine hK.out _ _ ?_ (fun hNext => ?_)
                    · try dsimp only
                      exact (by repeat (first | exact Below.refl _ _ | assumption | refine Below.drew ?_ | refine Below.drewN ?_ _ | refine Below.allocT ?_ (Nat.le_refl _) _ | refine Below.setCell ?_ (by simp <;> omega) _ | refine Below.to ?_ (by assumption) (Nat.le_refl _)))
                    clear hK K hHeld
                    have hHeld := hNext
                    clear hNext
                    (try dsimp only at hHeld)
                    try simp only [zX]
                    refine wpAnyH_ready (rs := [11]) (by kernel_rfl) (by simp) ?_
                    refine (AllReadyH.cons rfl (fun K hK => ?_) AllReadyH.nil)
                    go_simp
                    refine hK.out _ _ ?_ (fun hNext => ?_)
                    · try dsimp only
                      exact (by repeat (first | exact Below.refl _ _ | assumption | refine Below.drew ?_ | refine Below.drewN ?_ _ | refine Below.allocT ?_ (Nat.le_refl _) _ | refine Below.setCell ?_ (by simp <;> omega) _ | refine Below.to ?_ (by assumption) (Nat.le_refl _)))
                    clear hK K hHeld
                    have hHeld := hNext
                    clear hNext
                    (try dsimp only at hHeld)
                    try simp only [zX]
                    refine wpAnyH_ready (rs := [12]) (by kernel_rfl) (by simp) ?_
                    refine (AllReadyH.cons rfl (fun K hK => ?_) AllReadyH.nil)
                    go_simp
                    refine hK.out _ _ ?_ (fun hNext => ?_)
                    · try dsimp only
                      exact (by repeat (first | exact Below.refl _ _ | assumption | refine Below.drew ?_ | refine Below.drewN ?_ _ | refine Below.allocT ?_ (Nat.le_refl _) _ | refine Below.setCell ?_ (by simp <;> omega) _ | refine Below.to ?_ (by assumption) (Nat.le_refl _)))
                    clear hK K hHeld
                    have hHeld := hNext
                    clear hNext
                    (try dsimp only at hHeld)
                    try simp only [zX]
                    refine wpAnyH_ready (rs := [13]) (by kernel_rfl) (by simp) ?_
                    refine (AllReadyH.cons rfl (fun K hK => ?_) AllReadyH.nil)
                    go_simp
                    refine hK.out _ _ ?_ (fun hNext => ?_)
                    · try dsimp only
                      exact (by repeat (first | exact Below.refl _ _ | assumption | refine Below.drew ?_ | refine Below.drewN ?_ _ | refine Below.allocT ?_ (Nat.le_refl _) _ | refine Below.setCell ?_ (by simp <;> omega) _ | refine Below.to ?_ (by assumption) (Nat.le_refl _)))
                    clear hK K hHeld
                    have hHeld := hNext
                    clear hNext
                    (try dsimp only at hHeld)
                    try simp only [zX]
                    refine wpAnyH_done (by kernel_rfl) ?_ _
                  case' o1_11_11 =>
                    go_simp
                    refine hK.out _ _ ?_ (fun hNext => ?_)
                    · try dsimp only
                      exact (by repeat (first | exact Below.refl _ _ | assumption | refine Below.drew ?_ | refine Below.drewN ?_ _ | refine Below.allocT ?_ (Nat.le_refl _) _ | refine Below.setCell ?_ (by simp <;> omega) _ | refine Below.to ?_ (by assumption) (Nat.le_refl _)))
                    clear hK K hHeld
                    have hHeld := hNext
                    clear hNext
                    (try dsimp only at hHeld)
                    try simp only [zX]
                    refine wpAnyH_ready (rs := [10]) (by kernel_rfl) (by simp) ?_
                    refine (AllReadyH.cons rfl (fun K hK => ?_) AllReadyH.nil)
                    go_simp
                    refine hK.out _ _ ?_ (fun hNext => ?_)
                    · try dsimp only
                      exact (by repeat (first | exact Below.refl _ _ | assumption | refine Below.drew ?_ | refine Below.drewN ?_ _ | refine Below.allocT ?_ (Nat.le_refl _) _ | refine Below.setCell ?_ (by simp <;> omega) _ | refine Below.to ?_ (by assumption) (Nat.le_refl _)))
                    clear hK K hHeld
                    have hHeld := hNext
                    clear hNext
                    (try dsimp only at hHeld)
                    try simp only [zX]
                    refine wpAnyH_ready (rs := [12]) (by kernel_rfl) (by simp) ?_
                    refine (AllReadyH.cons rfl (fun K hK => ?_) AllReadyH.nil)
                    go_simp
                    refine hK.out _ _ ?_ (fun hNext => ?_)
                    · try dsimp only
                      exact (by repeat (first | exact Below.refl _ _ | assumption | refine Below.drew ?_ | refine Below.drewN ?_ _ | refine Below.allocT ?_ (Nat.le_refl _) _ | refine Below.setCell ?_ (by simp <;> omega) _ | refine Below.to ?_ (by assumption) (Nat.le_refl _)))
                    clear hK K hHeld
                    have hHeld := hNext
                    clear hNext
                    (try dsimp only at hHeld)
                    try simp only [zX]
                    refine wpAnyH_ready (rs := [13]) (by kernel_rfl) (by simp) ?_
                    refine (AllReadyH.cons rfl (fun K hK => ?_) AllReadyH.nil)
                    go_simp
                    refine hK.out _ _ ?_ (fun hNext => ?_)
                    · try dsimp only
                      exact (by repeat (first | exact Below.refl _ _ | assumption | refine Below.drew ?_ | refine Below.drewN ?_ _ | refine Below.allocT ?_ (Nat.le_refl _) _ | refine Below.setCell ?_ (by simp <;> omega) _ | refine Below.to ?_ (by assumption) (Nat.le_refl _)))
                    clear hK K hHeld
                    have hHeld := hNext
                    clear hNext
                    (try dsimp only at hHeld)
                    try simp only [zX]
                    refine wpAnyH_done (by kernel_rfl) ?_ _
                  all_goals
                    go_wp2_with (go_at_call 81; refine (sameForm_any x.form _ _ _ _ _ hfl (HF1.out.up hHeld) (HF2.out.up hHeld)).mono ?_; rintro e w5 ⟨rfl, hB5⟩)
                    go_roundw
                    case rel => exact ⟨k + 1, by omega, by go_num, Below.to (Below.to hB.out hHeld (Nat.le_refl _)) hB5 (Nat.le_refl _)⟩
                    case measure => simp [intOf]; omega
                · go_wp2_with fail
                  go_ret
                  exact ⟨rfl, HBW.out⟩

end Go.Proofs.Ytmabfnddedffoaa

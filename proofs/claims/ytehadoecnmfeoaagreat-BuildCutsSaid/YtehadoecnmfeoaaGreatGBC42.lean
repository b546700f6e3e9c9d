/- Part 42 of this claim's texts: walks and plain laws. -/
import Derived.Test.YtehadoecnmfeoaaGreatRows
import Derived.Test.YtehadoecnmfeoaaGreatGBC37
import Derived.Laws.EntriesVeiled
import Derived.Deep.RegionHeld3
import Derived.ArgAppend
import Derived.Deep.DrawnRows
/- The elder route and length: walks. -/
namespace Go.Proofs.YtehadoecnmfeoaaGreat
open Go.RowKit
set_option linter.unusedVariables false
set_option linter.unusedSimpArgs false
theorem havE_btw2 {l : Lo} {run : Int} : rouE l run = if l.err ≠ 0 then l.err else if run < 0 ∨ (l.ws.length : Int) ≤ run then 1 else 0 := by
  unfold rouE havE
  split
  · rfl
  · by_cases h : run < 0 ∨ (l.ws.length : Int) ≤ run
    · rw [if_pos h, btw_f (by omega)]; rfl
    · rw [if_neg h, btw_t (by omega) (by omega)]; rfl
set_option maxRecDepth 100000 in
set_option maxHeartbeats 2000000 in
theorem wired_any (run : Int) (A0 A1 A2 A3 A4 A5 : Option Addr) (q0 q1 q2 q3 q4 q5 : Nat) (l : Lo) (w : World) (hs : SizedL l) (h : LoA w w.heap.size A0 A1 A2 A3 A4 A5 q0 q1 q2 q3 q4 q5 l) :
    Calls Tryz.prog 167 #[.agg #[.slice A0 l.m.opts.length q0, .slice A1 l.m.rules.length q1, .slice A2 l.ss.length q2, .slice A3 l.us.length q3, .slice A4 l.ps.length q4, .slice A5 l.ws.length q5], .int .i64 run] w fun e w' => e = .returned (.int .i64 (rouE l run)) ∧ Below w.heap.size w w' := by
  have H := hide h
  have HW := hide (havE_btw2 (l := l) (run := run))
  obtain ⟨z, hz⟩ : ∃ z, l.err = z := ⟨_, rfl⟩
  rw [hz] at HW
  have HZ := hide hz
  clear h hz
  have hstart : True := trivial
  by_cases hz0 : z = 0
  · subst hz0
    have hE : rouE l run = if run < 0 ∨ (l.ws.length : Int) ≤ run then 1 else 0 := by rw [HW.out, if_neg (by simp)]
    by_cases h0 : run < 0
    · have HR : Hid (rouE l run = 1) := by show _ = _; rw [hE, if_pos (.inl h0)]
      have d1 : decide (run < 0) = true := decide_eq_true h0
      clear hE
      go_enter Tryz.func167, Tryz.ntmps167
      go_upto_region 1 with (fail)
      generalize hw0 : World.alloc _ _ = w0
      obtain ⟨hb0, hB0, hs0⟩ := alloc1 hw0
      have HL0 : Hid (LoBox w0 w.heap.size A0 A1 A2 A3 A4 A5 q0 q1 q2 q3 q4 q5 l) := hb0
      have HB0 := hide hB0
      have c0 := cellOf hb0 0; have c1 := cellOf hb0 1; have c2 := cellOf hb0 2; have c3 := cellOf hb0 3; have c4 := cellOf hb0 4; have c5 := cellOf hb0 5
      have hlb := box_lt hb0
      clear hw0 hb0 hB0 hs0
      go_wp2_with (go_at_call 67; refine (rCheck_any A0 A1 A2 A3 A4 A5 q0 q1 q2 q3 q4 q5 l _ hs (H.out.up HB0.out)).mono ?_; rw [HZ.out]; rintro e w1 ⟨rfl, hB1⟩; have d0 := cellOf (HL0.out.to hB1) 0; have d1 := cellOf (HL0.out.to hB1) 1; have d2 := cellOf (HL0.out.to hB1) 2; have d3 := cellOf (HL0.out.to hB1) 3; have d4 := cellOf (HL0.out.to hB1) 4; have d5 := cellOf (HL0.out.to hB1) 5; have ld := box_lt (HL0.out.to hB1); have HB1 := hide (Below.to HB0.out hB1 (Nat.le_refl _)); clear hB1 c0 c1 c2 c3 c4 c5 hlb)
      go_ret
      exact ⟨ret_int HR.out.symm, HB1.out⟩
    · have d1 : decide (run < 0) = false := decide_eq_false h0
      by_cases h1 : (l.ws.length : Int) ≤ run
      · have HR : Hid (rouE l run = 1) := by show _ = _; rw [hE, if_pos (.inr h1)]
        clear hE
        go_enter Tryz.func167, Tryz.ntmps167
        go_upto_region 1 with (fail)
        generalize hw0 : World.alloc _ _ = w0
        obtain ⟨hb0, hB0, hs0⟩ := alloc1 hw0
        have HL0 : Hid (LoBox w0 w.heap.size A0 A1 A2 A3 A4 A5 q0 q1 q2 q3 q4 q5 l) := hb0
        have HB0 := hide hB0
        have c0 := cellOf hb0 0; have c1 := cellOf hb0 1; have c2 := cellOf hb0 2; have c3 := cellOf hb0 3; have c4 := cellOf hb0 4; have c5 := cellOf hb0 5
        have hlb := box_lt hb0
        clear hw0 hb0 hB0 hs0
        go_wp2_with (go_at_call 67; refine (rCheck_any A0 A1 A2 A3 A4 A5 q0 q1 q2 q3 q4 q5 l _ hs (H.out.up HB0.out)).mono ?_; rw [HZ.out]; rintro e w1 ⟨rfl, hB1⟩; have d0 := cellOf (HL0.out.to hB1) 0; have d1 := cellOf (HL0.out.to hB1) 1; have d2 := cellOf (HL0.out.to hB1) 2; have d3 := cellOf (HL0.out.to hB1) 3; have d4 := cellOf (HL0.out.to hB1) 4; have d5 := cellOf (HL0.out.to hB1) 5; have ld := box_lt (HL0.out.to hB1); have HB1 := hide (Below.to HB0.out hB1 (Nat.le_refl _)); clear hB1 c0 c1 c2 c3 c4 c5 hlb)
        go_ret
        exact ⟨ret_int HR.out.symm, HB1.out⟩
      · have HR : Hid (rouE l run = 0) := by show _ = _; rw [hE, if_neg (by omega)]
        clear hE
        go_enter Tryz.func167, Tryz.ntmps167
        go_upto_region 1 with (fail)
        generalize hw0 : World.alloc _ _ = w0
        obtain ⟨hb0, hB0, hs0⟩ := alloc1 hw0
        have HL0 : Hid (LoBox w0 w.heap.size A0 A1 A2 A3 A4 A5 q0 q1 q2 q3 q4 q5 l) := hb0
        have HB0 := hide hB0
        have c0 := cellOf hb0 0; have c1 := cellOf hb0 1; have c2 := cellOf hb0 2; have c3 := cellOf hb0 3; have c4 := cellOf hb0 4; have c5 := cellOf hb0 5
        have hlb := box_lt hb0
        clear hw0 hb0 hB0 hs0
        go_wp2_with (go_at_call 67; refine (rCheck_any A0 A1 A2 A3 A4 A5 q0 q1 q2 q3 q4 q5 l _ hs (H.out.up HB0.out)).mono ?_; rw [HZ.out]; rintro e w1 ⟨rfl, hB1⟩; have d0 := cellOf (HL0.out.to hB1) 0; have d1 := cellOf (HL0.out.to hB1) 1; have d2 := cellOf (HL0.out.to hB1) 2; have d3 := cellOf (HL0.out.to hB1) 3; have d4 := cellOf (HL0.out.to hB1) 4; have d5 := cellOf (HL0.out.to hB1) 5; have ld := box_lt (HL0.out.to hB1); have HB1 := hide (Below.to HB0.out hB1 (Nat.le_refl _)); clear hB1 c0 c1 c2 c3 c4 c5 hlb)
        go_ret
        exact ⟨ret_int HR.out.symm, HB1.out⟩
  · have HR : Hid (rouE l run = z) := by show _ = _; rw [HW.out, if_pos hz0]
    have hz1 : (z != 0) = true := by simpa using hz0
    clear hz0
    go_enter Tryz.func167, Tryz.ntmps167
    go_upto_region 1 with (fail)
    generalize hw0 : World.alloc _ _ = w0
    obtain ⟨hb0, hB0, hs0⟩ := alloc1 hw0
    have HB0 := hide hB0
    have c0 := cellOf hb0 0; have c1 := cellOf hb0 1; have c2 := cellOf hb0 2; have c3 := cellOf hb0 3; have c4 := cellOf hb0 4; have c5 := cellOf hb0 5
    have hlb := box_lt hb0
    clear hw0 hb0 hB0 hs0
    go_wp2_with (go_at_call 67; refine (rCheck_any A0 A1 A2 A3 A4 A5 q0 q1 q2 q3 q4 q5 l _ hs (H.out.up HB0.out)).mono ?_; rw [HZ.out]; rintro e w1 ⟨rfl, hB1⟩; have HB1 := hide (Below.to HB0.out hB1 (Nat.le_refl _)); clear hB1 c0 c1 c2 c3 c4 c5 hlb)
    go_ret
    exact ⟨ret_int HR.out.symm, HB1.out⟩
set_option maxRecDepth 100000 in
set_option maxHeartbeats 4000000 in
theorem rLength_any (i : Int) (A0 A1 A2 A3 A4 A5 : Option Addr) (q0 q1 q2 q3 q4 q5 : Nat) (l : Lo) (w : World) (hs : SizedL l) (h : LoA w w.heap.size A0 A1 A2 A3 A4 A5 q0 q1 q2 q3 q4 q5 l) :
    Calls Tryz.prog 99 #[.agg #[.slice A0 l.m.opts.length q0, .slice A1 l.m.rules.length q1, .slice A2 l.ss.length q2, .slice A3 l.us.length q3, .slice A4 l.ps.length q4, .slice A5 l.ws.length q5], .int .i64 i] w (FilP (lenN l i) (rouE l i) w) := by
  have H := hide h
  have HS := hide hs
  obtain ⟨z, hz⟩ : ∃ z, rouE l i = z := ⟨_, rfl⟩
  obtain ⟨nn, hnn⟩ : ∃ z, lenN l i = z := ⟨_, rfl⟩
  rw [hz, hnn]
  have HZ := hide hz
  clear h hs
  go_enter Tryz.func99, Tryz.ntmps99
  go_upto_region 1 with (fail)
  generalize hw0 : World.alloc _ _ = w0
  obtain ⟨hb0, hB0, hs0⟩ := alloc1 hw0
  have c0 := cellOf hb0 0; have c1 := cellOf hb0 1; have c2 := cellOf hb0 2; have c3 := cellOf hb0 3; have c4 := cellOf hb0 4; have c5 := cellOf hb0 5
  have hlb := box_lt hb0
  have HB0 := hide hB0
  have HL0 : Hid (LoBox w0 w.heap.size A0 A1 A2 A3 A4 A5 q0 q1 q2 q3 q4 q5 l) := hb0
  clear hw0 hb0 hB0 hs0
  by_cases hz0 : z = 0
  case neg =>
    have hN : lenN l i = 0 := by unfold lenN; rw [if_neg (by rw [hz]; exact hz0)]
    rw [hN] at hnn
    subst hnn
    have hz1 : (z != 0) = true := by simpa using hz0
    clear hz hz0 hN
    go_wp2_with (go_at_call 167; refine (wired_any i A0 A1 A2 A3 A4 A5 q0 q1 q2 q3 q4 q5 l _ HS.out (H.out.up HB0.out)).mono ?_; rw [HZ.out]; rintro e w1 ⟨rfl, hB1⟩; have HB1 := hide (Below.to HB0.out hB1 (Nat.le_refl _)); clear hB1)
    go_ret2
    exact ⟨rfl, HB1.out⟩
  case pos =>
  subst hz0
  obtain ⟨ok, i0, i1⟩ := rouE_ok hz
  have hN : lenN l i = lenW l i.toNat := by unfold lenN; rw [if_pos hz]
  obtain ⟨k, rfl⟩ := Int.eq_ofNat_of_zero_le i0
  rw [Int.toNat_natCast] at hN
  rw [hN] at hnn
  subst hnn
  have hk : k < l.ws.length := by omega
  obtain ⟨hea, heb⟩ := ok.ends hk
  have OK := hide ok
  clear hz hN ok i0 i1
  go_wp2_with (first | (go_at_call 167; refine (wired_any k A0 A1 A2 A3 A4 A5 q0 q1 q2 q3 q4 q5 l _ HS.out (H.out.up HB0.out)).mono ?_; rw [HZ.out]; rintro e w1 ⟨rfl, hB1⟩; have d0 := cellOf (HL0.out.to hB1) 0; have d1 := cellOf (HL0.out.to hB1) 1; have d2 := cellOf (HL0.out.to hB1) 2; have d3 := cellOf (HL0.out.to hB1) 3; have d4 := cellOf (HL0.out.to hB1) 4; have d5 := cellOf (HL0.out.to hB1) 5; have ld := box_lt (HL0.out.to hB1); have HL1 := hide (HL0.out.to hB1); have HB1 := hide (Below.to HB0.out hB1 (Nat.le_refl _)); clear hB1 c0 c1 c2 c3 c4 c5 hlb) | (go_at_call 168; refine (rends_any k A0 A1 A2 A3 A4 A5 q0 q1 q2 q3 q4 q5 l _ (H.out.up HB1.out) OK.out hk).mono ?_; rintro e w2 ⟨rfl, hB2⟩; have f0 := cellOf (HL1.out.to hB2) 0; have f1 := cellOf (HL1.out.to hB2) 1; have f2 := cellOf (HL1.out.to hB2) 2; have f3 := cellOf (HL1.out.to hB2) 3; have f4 := cellOf (HL1.out.to hB2) 4; have f5 := cellOf (HL1.out.to hB2) 5; have lf := box_lt (HL1.out.to hB2); have HB2 := hide (Below.to HB1.out hB2 (Nat.le_refl _)); clear hB2 d0 d1 d2 d3 d4 d5 ld) | (go_at_call 169; refine (rdistance_any (endF l k) (endT l k) A0 A1 A2 A3 A4 A5 q0 q1 q2 q3 q4 q5 l _ (H.out.up HB2.out) OK.out hea heb).mono ?_; rintro e w3 ⟨rfl, hB3⟩; have HB3 := hide (Below.to HB2.out hB3 (Nat.le_refl _)); clear hB3))
  go_ret2
  exact ⟨rfl, HB3.out⟩
end Go.Proofs.YtehadoecnmfeoaaGreat

/- Part 38 of this claim's texts: walks and plain laws. -/
import Derived.Test.YtehadoecnmfeoaaGreatRows
import Derived.Test.YtehadoecnmfeoaaGreatGBC33
import Derived.Test.YtehadoecnmfeoaaGreatGBC34
import Derived.Test.YtehadoecnmfeoaaGreatGBC37
import Derived.Deep.DeepMust
import Derived.Deep.RegionHeld3
import Derived.Deep.DrawnRows
/- The wires that belong to a variant, on both sides: walks. -/
namespace Go.Proofs.YtehadoecnmfeoaaGreat
open Go.RowKit
set_option linter.unusedVariables false
set_option linter.unusedSimpArgs false
def belK (l : Lo) (x : List Bool) (k : Nat) : List Nat := (List.range k).filter fun i => evF1 (vf x) (fmW l i)
def belL (l : Lo) (x : List Bool) : List Nat := belK l x l.ws.length
theorem belK_succ (l : Lo) (x : List Bool) (k : Nat) : belK l x (k + 1) = if evF1 (vf x) (fmW l k) then belK l x k ++ [k] else belK l x k := by
  unfold belK
  rw [List.range_succ, List.filter_append, List.filter_cons]
  cases evF1 (vf x) (fmW l k) <;> simp
theorem belK_le (l : Lo) (x : List Bool) (k : Nat) : (belK l x k).length ≤ k := by
  have := List.length_filter_le (fun i => evF1 (vf x) (fmW l i)) (List.range k)
  rwa [List.length_range] at this
theorem belL_lt {l : Lo} {x : List Bool} {i : Nat} (h : i ∈ belL l x) : i < l.ws.length ∧ evF1 (vf x) (fmW l i) = true := by
  unfold belL belK at h
  simpa using h
def belN (l : Lo) (x : List Bool) : List Nat := if copE l x = 0 then belL l x else []
theorem copE_err {l : Lo} {x : List Bool} (h : l.err ≠ 0) : copE l x = l.err ∧ belN l x = [] := by
  have h1 : copE l x = l.err := by unfold copE havE; rw [if_pos h]
  refine ⟨h1, ?_⟩
  unfold belN
  rw [h1, if_neg h]
theorem copE_arg {l : Lo} {x : List Bool} (h : l.err = 0) (h2 : x.length ≠ l.m.opts.length) : copE l x = 1 ∧ belN l x = [] := by
  have h1 : copE l x = 1 := by unfold copE havE; rw [if_neg (by simp [h]), decide_eq_false h2]; rfl
  refine ⟨h1, ?_⟩
  unfold belN
  rw [h1, if_neg (by decide)]
theorem copE_yes {l : Lo} {x : List Bool} (h : l.err = 0) (h2 : x.length = l.m.opts.length) : copE l x = 0 ∧ belN l x = belL l x := by
  have h1 : copE l x = 0 := by unfold copE havE; rw [if_neg (by simp [h]), decide_eq_true h2]; rfl
  refine ⟨h1, ?_⟩
  unfold belN
  rw [if_pos h1]
set_option maxRecDepth 100000 in
set_option maxHeartbeats 8000000 in
theorem belonging_any (x : List Bool) (Ax : Option Addr) (qx : Nat) (A0 A1 A2 A3 A4 A5 : Option Addr) (q0 q1 q2 q3 q4 q5 : Nat) (l : Lo) (w : World) (hs : SizedL l) (h : LoA w w.heap.size A0 A1 A2 A3 A4 A5 q0 q1 q2 q3 q4 q5 l) (hx : Bols w w.heap.size (.slice Ax x.length qx) x) :
    Calls Tryz.prog 93 #[.agg #[.slice A0 l.m.opts.length q0, .slice A1 l.m.rules.length q1, .slice A2 l.ss.length q2, .slice A3 l.us.length q3, .slice A4 l.ps.length q4, .slice A5 l.ws.length q5], .slice Ax x.length qx] w (PicP (belN l x) (copE l x) w) := by
  obtain ⟨i0, hi0, iz0, iz1, iz2⟩ := info_parts infoInt
  have H := hide h
  have HS := hide hs
  have HX := hide hx
  obtain ⟨er, her⟩ : ∃ z, l.err = z := ⟨_, rfl⟩
  have HER := hide her
  clear h hs hx
  by_cases h0 : er = 0
  case neg =>
    have hp := copE_err (l := l) (x := x) (by rw [her]; exact h0)
    rw [hp.1, hp.2, her]
    have hz1 : (er != 0) = true := by simpa using h0
    clear her h0 hp
    go_enter Tryz.func93, Tryz.ntmps93
    go_upto_region 1 with (fail)
    generalize hw0 : World.alloc _ _ = w0
    obtain ⟨hb0, hB0, hs0⟩ := alloc1 hw0
    have HL0 : Hid (LoBox w0 w.heap.size A0 A1 A2 A3 A4 A5 q0 q1 q2 q3 q4 q5 l) := hb0
    have HB0 := hide hB0
    have c0 := cellOf hb0 0; have c1 := cellOf hb0 1; have c2 := cellOf hb0 2; have c3 := cellOf hb0 3; have c4 := cellOf hb0 4; have c5 := cellOf hb0 5
    have hlb := box_lt hb0
    clear hw0 hb0 hB0 hs0
    go_wp2_with (go_at_call 62; refine (Check_any A0 A1 A2 A3 A4 A5 q0 q1 q2 q3 q4 q5 l _ HS.out (H.out.up HB0.out)).mono ?_; rw [HER.out]; rintro e w1 ⟨rfl, hB1⟩; have HL1 := hide (HL0.out.to hB1); have HB1 := hide (Below.to HB0.out hB1 (Nat.le_refl _)); clear hB1 c0 c1 c2 c3 c4 c5 hlb; have c0 := cellOf HL1.out 0; have c1 := cellOf HL1.out 1; have c2 := cellOf HL1.out 2; have c3 := cellOf HL1.out 3; have c4 := cellOf HL1.out 4; have c5 := cellOf HL1.out 5; have hlb := box_lt HL1.out)
    go_ret2
    exact ⟨_, rfl, Sl.nil _ _ _ _, HB1.out⟩
  case pos =>
  subst h0
  have g0 : ((0 : Int) != 0) = false := by decide
  by_cases hxl : x.length = l.m.opts.length
  case neg =>
    have hp := copE_arg her hxl
    rw [hp.1, hp.2]
    have n1 : ((x.length : Int) != (l.m.opts.length : Int)) = true := by simp; omega
    clear her hxl hp
    go_enter Tryz.func93, Tryz.ntmps93
    go_upto_region 1 with (fail)
    generalize hw0 : World.alloc _ _ = w0
    obtain ⟨hb0, hB0, hs0⟩ := alloc1 hw0
    have HL0 : Hid (LoBox w0 w.heap.size A0 A1 A2 A3 A4 A5 q0 q1 q2 q3 q4 q5 l) := hb0
    have HB0 := hide hB0
    have c0 := cellOf hb0 0; have c1 := cellOf hb0 1; have c2 := cellOf hb0 2; have c3 := cellOf hb0 3; have c4 := cellOf hb0 4; have c5 := cellOf hb0 5
    have hlb := box_lt hb0
    clear hw0 hb0 hB0 hs0
    go_wp2_with (go_at_call 62; refine (Check_any A0 A1 A2 A3 A4 A5 q0 q1 q2 q3 q4 q5 l _ HS.out (H.out.up HB0.out)).mono ?_; rw [HER.out]; rintro e w1 ⟨rfl, hB1⟩; have HL1 := hide (HL0.out.to hB1); have HB1 := hide (Below.to HB0.out hB1 (Nat.le_refl _)); clear hB1 c0 c1 c2 c3 c4 c5 hlb; have c0 := cellOf HL1.out 0; have c1 := cellOf HL1.out 1; have c2 := cellOf HL1.out 2; have c3 := cellOf HL1.out 3; have c4 := cellOf HL1.out 4; have c5 := cellOf HL1.out 5; have hlb := box_lt HL1.out)
    go_ret2
    exact ⟨_, rfl, Sl.nil _ _ _ _, HB1.out⟩
  case pos =>
  have hp := copE_yes her hxl
  obtain ⟨LR, hLR⟩ : ∃ z, belL l x = z := ⟨_, rfl⟩
  rw [hp.1, hp.2, hLR]
  have HLR := hide hLR
  clear hLR
  have n1 : ((x.length : Int) != (l.m.opts.length : Int)) = false := by simp; omega
  have HXL := hide hxl
  have ok := Lo.err_ok her
  have OK := hide ok
  have h60 := ok.w60
  have HMO := hide ok.m
  clear her hxl hp ok
  go_enter Tryz.func93, Tryz.ntmps93
  go_upto_region 1 with (fail)
  generalize hw0 : World.alloc _ _ = w0
  obtain ⟨hb0, hB0, hs0⟩ := alloc1 hw0
  have HL0 : Hid (LoBox w0 w.heap.size A0 A1 A2 A3 A4 A5 q0 q1 q2 q3 q4 q5 l) := hb0
  have HB0 := hide hB0
  have c0 := cellOf hb0 0; have c1 := cellOf hb0 1; have c2 := cellOf hb0 2; have c3 := cellOf hb0 3; have c4 := cellOf hb0 4; have c5 := cellOf hb0 5
  have hlb := box_lt hb0
  clear hw0 hb0 hB0 hs0
  go_upto_region 4 with (go_at_call 62; refine (Check_any A0 A1 A2 A3 A4 A5 q0 q1 q2 q3 q4 q5 l _ HS.out (H.out.up HB0.out)).mono ?_; rw [HER.out]; rintro e w1 ⟨rfl, hB1⟩; have HL1 := hide (HL0.out.to hB1); have HB1 := hide (Below.to HB0.out hB1 (Nat.le_refl _)); clear hB1 c0 c1 c2 c3 c4 c5 hlb; have c0 := cellOf HL1.out 0; have c1 := cellOf HL1.out 1; have c2 := cellOf HL1.out 2; have c3 := cellOf HL1.out 3; have c4 := cellOf HL1.out 4; have c5 := cellOf HL1.out 5; have hlb := box_lt HL1.out)
  obtain ⟨W1, hW1⟩ : ∃ wo : World, wo = w1 := ⟨_, rfl⟩
  subst hW1
  go_wp2_with fail
  clear c0 c1 c2 c3 c4 c5 hlb
  go_loopw [4, 7, 8, 24] (fun sv _ _ i wr => ∃ (k : Nat) (L : List Nat), i = .int .i64 k ∧ k ≤ l.ws.length ∧ L.length ≤ k ∧ Hid (belK l x k = L) ∧ Hid (wr.ownsRow W1.heap.size 3 1 sv L.length (L.map fun (n : Nat) => Value.int .i64 n)) ∧ Hid (Below W1.heap.size W1 wr)) (fun _ _ _ i _ => l.ws.length - (intOf i).toNat)
  case atStart => exact ⟨0, [], rfl, Nat.zero_le _, Nat.le_refl _, rfl, World.ownsRow_nil _ _ _ _, Below.refl _ _⟩
  case round =>
    obtain ⟨k, L, rfl, hk, hLk, HL, HO, HB⟩ := hrel
    obtain ⟨A9, q9, hv9⟩ := owns_form HO.out
    subst hv9
    by_cases hkl : k < l.ws.length
    case neg =>
      have hkl1 : ¬ (k : Int) < (l.ws.length : Int) := by omega
      have hLL : LR = L := by rw [← HL.out, ← HLR.out]; unfold belL; rw [show l.ws.length = k by omega]
      subst hLL
      clear hkl
      go_wp2_with fail
      go_ret2
      exact ⟨_, rfl, Nods.of_own HO.out, Below.to HB1.out HB.out (Nat.le_refl _)⟩
    case pos =>
    have hkl1 : (k : Int) < (l.ws.length : Int) := by omega
    have ik0 : (0 : Int) ≤ (k : Int) := by omega
    have HBr := hide (Below.to HB1.out HB.out (Nat.le_refl _))
    obtain ⟨bw, ow, d, Af, qf, HX7, hA5, hbw, hq5, HF, e0, e1, e2, e3, e4, e5, e6⟩ := H.out.wi hkl
    subst hA5
    have lbw : bw < wr.heap.size := Nat.lt_of_lt_of_le hbw HBr.out.size
    have iq5 : (l.ws.length : Int) ≤ (q5 : Int) := by omega
    have hfx : fmW l k = d.form := by unfold fmW; rw [HX7.out]
    have hxv := (LoOk.wi OK.out hkl).2
    rw [HX7.out] at hxv
    have hxl := (HS.out.wn (l.ws.getD k Wi.o) (getD_mem7 hkl)).2
    rw [HX7.out] at hxl
    have HVD := hide hxv
    have HDL := hide hxl
    have hps := belK_succ l x k
    rw [HL.out, hfx] at hps
    have hLl : L.length ≤ 60 := by omega
    have g0 := (HBr.out.cell (p := ⟨bw, ow + k * 7, none⟩) hbw).trans e0
    have g1 := (HBr.out.cell (p := ⟨bw, ow + k * 7 + 1, none⟩) hbw).trans e1
    have g2 := (HBr.out.cell (p := ⟨bw, ow + k * 7 + 2, none⟩) hbw).trans e2
    have g3 := (HBr.out.cell (p := ⟨bw, ow + k * 7 + 3, none⟩) hbw).trans e3
    have g4 := (HBr.out.cell (p := ⟨bw, ow + k * 7 + 4, none⟩) hbw).trans e4
    have g5 := (HBr.out.cell (p := ⟨bw, ow + k * 7 + 5, none⟩) hbw).trans e5
    have g6 := (HBr.out.cell (p := ⟨bw, ow + k * 7 + 6, none⟩) hbw).trans e6
    clear e0 e1 e2 e3 e4 e5 e6 hq5 hxv hxl hfx
    go_upto_region 9 with (fail)
    generalize hw3 : World.alloc _ _ = w3
    obtain ⟨hb3, hB3, hs3⟩ := alloc1 hw3
    have m6 := cellOf hb3 6
    have lm := box_lt hb3
    have HLr3 := hide (HL1.out.to (Below.to HB.out hB3 (Nat.le_refl _)))
    have c0 := cellOf HLr3.out 0; have c1 := cellOf HLr3.out 1; have c2 := cellOf HLr3.out 2; have c3 := cellOf HLr3.out 3; have c4 := cellOf HLr3.out 4; have c5 := cellOf HLr3.out 5
    have hlb := box_lt HLr3.out
    have HO3 := hide (owns_below HO.out hB3)
    have HB3 := hide (Below.to HB.out hB3 (Nat.le_refl _))
    have HBr3 := hide (Below.to HB1.out HB3.out (Nat.le_refl _))
    clear hw3 hb3 hB3 hs3 g0 g1 g2 g3 g4 g5 g6 lbw
    cases hc : evF1 (vf x) d.form with
    | true =>
      rw [hc, if_pos rfl] at hps
      have HC := hide hc
      have HPS := hide hps
      clear hps hc
      go_wp2_with (first | (go_at_call 85; refine (bholds_any d.form x Af qf _ _ _ _ _ _ _ _ _ _ _ _ _ l w3 HS.out HDL.out (H.out.up HBr3.out) (HF.out.up HBr3.out) (Sl.up HX.out HBr3.out) HMO.out HVD.out HXL.out).mono ?_; rw [HC.out]; rintro e w4 ⟨rfl, hB4⟩; have HO4 := hide (owns_below HO3.out hB4); have HB4 := hide (Below.to HB3.out hB4 (Nat.le_refl _)); clear hB4 c0 c1 c2 c3 c4 c5 hlb m6 lm) | (at_builtin; go_must (refine wpList_append_own_at _ rfl (.tmp 34) (.tmp 36) _ rfl (W1.heap.size) 3 i0 _ 1 8 Tryz.underlying45 hi0 iz0 iz1 iz2 rfl (by omega) _ _ _ rfl ((HO4.out).alloc _) ⟨w4.heap.size, 0, none⟩ 1 1 [.int .i64 (k : Nat)] rfl rfl (World.news_of_block (heap_alloc_new w4 _)) (by simp [Value.oneCell']) (by have h1 := hLl; unfold maxLen; omega) (by have h1 := hLl; omega) (by have h1 := HB4.out.size; simp; omega) ?_); intro v1 w3 hown1 hg1 _ hat1; have HO5 := hide hown1; have HB5 := hide (Below.grown (Below.allocT HB4.out (Nat.le_refl _) _) hg1 (by have := HB4.out.size; simp; omega) (fun j hj => (HO4.out.lt j hj).1)); clear hown1 hg1 hat1))
      go_roundw
      case rel => exact ⟨k + 1, L ++ [k], by go_num, by omega, by simp; omega, HPS, by
          have := HO5.out
          rw [List.map_append, List.length_append, List.length_singleton]
          exact this, HB5⟩
      case measure => simp [intOf]; omega
    | false =>
      rw [hc, if_neg (by simp)] at hps
      have HC := hide hc
      have HPS := hide hps
      clear hps hc
      go_wp2_with (go_at_call 85; refine (bholds_any d.form x Af qf _ _ _ _ _ _ _ _ _ _ _ _ _ l w3 HS.out HDL.out (H.out.up HBr3.out) (HF.out.up HBr3.out) (Sl.up HX.out HBr3.out) HMO.out HVD.out HXL.out).mono ?_; rw [HC.out]; rintro e w4 ⟨rfl, hB4⟩; have HO4 := hide (owns_below HO3.out hB4); have HB4 := hide (Below.to HB3.out hB4 (Nat.le_refl _)); clear hB4 c0 c1 c2 c3 c4 c5 hlb m6 lm)
      go_roundw
      case rel => exact ⟨k + 1, L, by go_num, by omega, by omega, HPS, HO4, HB4⟩
      case measure => simp [intOf]; omega
set_option maxRecDepth 100000 in
set_option maxHeartbeats 4000000 in
theorem rbelong_any (x : List Bool) (vv : Value) (A0 A1 A2 A3 A4 A5 : Option Addr) (q0 q1 q2 q3 q4 q5 : Nat) (l : Lo) (w : World) (hs : SizedL l) (h : LoA w w.heap.size A0 A1 A2 A3 A4 A5 q0 q1 q2 q3 q4 q5 l) (ok : LoOk l) (hx : Bols w w.heap.size vv x) (hN : x.length = l.m.opts.length) :
    Calls Tryz.prog 98 #[.agg #[.slice A0 l.m.opts.length q0, .slice A1 l.m.rules.length q1, .slice A2 l.ss.length q2, .slice A3 l.us.length q3, .slice A4 l.ps.length q4, .slice A5 l.ws.length q5], vv] w fun e w' => ∃ v, e = .returned v ∧ Nods w' w'.heap.size v (belL l x) ∧ Below w.heap.size w w' := by
  obtain ⟨i0, hi0, iz0, iz1, iz2⟩ := info_parts infoInt
  obtain ⟨Ax, qx, hvv⟩ := Sl.form hx
  have H := hide h
  have HS := hide hs
  have HX := hide hx
  have HN := hide hN
  have OK := hide ok
  have h60 := ok.w60
  obtain ⟨LR, hLR⟩ : ∃ z, belL l x = z := ⟨_, rfl⟩
  rw [hLR]
  have HLR := hide hLR
  subst hvv
  clear h hs hx hN hLR ok
  go_enter Tryz.func98, Tryz.ntmps98
  go_upto_region 1 with (fail)
  generalize hw0 : World.alloc _ _ = w0
  obtain ⟨hb0, hB0, hs0⟩ := alloc1 hw0
  have HL0 : Hid (LoBox w0 w.heap.size A0 A1 A2 A3 A4 A5 q0 q1 q2 q3 q4 q5 l) := hb0
  have HB0 := hide hB0
  clear hw0 hb0 hB0 hs0
  obtain ⟨W1, hW1⟩ : ∃ wo : World, wo = w0 := ⟨_, rfl⟩
  subst hW1
  go_wp2_with fail
  go_loopw [5, 6] (fun sv i wr => ∃ (k : Nat) (L : List Nat), i = .int .i64 k ∧ k ≤ l.ws.length ∧ L.length ≤ k ∧ Hid (belK l x k = L) ∧ Hid (wr.ownsRow W1.heap.size 3 1 sv L.length (L.map fun (n : Nat) => Value.int .i64 n)) ∧ Hid (Below W1.heap.size W1 wr)) (fun _ i _ => l.ws.length - (intOf i).toNat)
  case atStart => exact ⟨0, [], rfl, Nat.zero_le _, Nat.le_refl _, rfl, World.ownsRow_nil _ _ _ _, Below.refl _ _⟩
  case round =>
    obtain ⟨k, L, rfl, hk, hLk, HL, HO, HB⟩ := hrel
    obtain ⟨A9, q9, hv9⟩ := owns_form HO.out
    subst hv9
    have HBr := hide (Below.to HB0.out HB.out (Nat.le_refl _))
    have HLr := hide (HL0.out.to HB.out)
    have c0 := cellOf HLr.out 0; have c1 := cellOf HLr.out 1; have c2 := cellOf HLr.out 2; have c3 := cellOf HLr.out 3; have c4 := cellOf HLr.out 4; have c5 := cellOf HLr.out 5
    have hlb := box_lt HLr.out
    by_cases hkl : k < l.ws.length
    case neg =>
      have hkl1 : ¬ (k : Int) < (l.ws.length : Int) := by omega
      have hLL : LR = L := by rw [← HL.out, ← HLR.out]; unfold belL; rw [show l.ws.length = k by omega]
      subst hLL
      clear hkl
      go_wp2_with fail
      go_ret
      exact ⟨_, rfl, Nods.of_own HO.out, HBr.out⟩
    case pos =>
    have hkl1 : (k : Int) < (l.ws.length : Int) := by omega
    have ik0 : (0 : Int) ≤ (k : Int) := by omega
    obtain ⟨bw, ow, d, Af, qf, HX7, hA5, hbw, hq5, HF, e0, e1, e2, e3, e4, e5, e6⟩ := H.out.wi hkl
    subst hA5
    have lbw : bw < wr.heap.size := Nat.lt_of_lt_of_le hbw HBr.out.size
    have iq5 : (l.ws.length : Int) ≤ (q5 : Int) := by omega
    have hfx : fmW l k = d.form := by unfold fmW; rw [HX7.out]
    have hxv := (LoOk.wi OK.out hkl).2
    rw [HX7.out] at hxv
    have hxl := (HS.out.wn (l.ws.getD k Wi.o) (getD_mem7 hkl)).2
    rw [HX7.out] at hxl
    have HVD := hide hxv
    have HDL := hide hxl
    have hps := belK_succ l x k
    rw [HL.out, hfx] at hps
    have hLl : L.length ≤ 60 := by omega
    have g6 := (HBr.out.cell (p := ⟨bw, ow + k * 7 + 6, none⟩) hbw).trans e6
    have htr := True_any d.form l.m.opts.length x (.slice Af d.form.length qf) (.slice Ax x.length qx) w.heap.size wr (HF.out.below HBr.out) (Sl.below HX.out HBr.out) HN.out HVD.out
    clear e0 e1 e2 e3 e4 e5 e6 hq5 hxv hxl hfx
    cases hc : evF1 (vf x) d.form with
    | true =>
      rw [hc] at htr hps
      rw [if_pos rfl] at hps
      have HT := hide htr
      have HPS := hide hps
      clear htr hps hc
      go_wp2_with (first | (go_at_call 61; refine HT.out.mono ?_; rintro e w2 ⟨rfl, rfl⟩) | (at_builtin; go_must (refine wpList_append_own_at _ rfl (.tmp 22) (.tmp 24) _ rfl (W1.heap.size) 3 i0 _ 1 8 Tryz.underlying45 hi0 iz0 iz1 iz2 rfl (by omega) _ _ _ rfl ((HO.out).alloc _) ⟨wr.heap.size, 0, none⟩ 1 1 [.int .i64 (k : Nat)] rfl rfl (World.news_of_block (heap_alloc_new wr _)) (by simp [Value.oneCell']) (by have h1 := hLl; unfold maxLen; omega) (by have h1 := hLl; omega) (by have h1 := HB.out.size; simp; omega) ?_); intro v1 w3 hown1 hg1 _ hat1; have HO1 := hide hown1; have HB1 := hide (Below.grown (Below.allocT HB.out (Nat.le_refl _) _) hg1 (by have := HB.out.size; simp; omega) (fun j hj => (HO.out.lt j hj).1)); clear hown1 hg1 hat1 c0 c1 c2 c3 c4 c5 hlb g6 lbw))
      go_roundw
      case rel => exact ⟨k + 1, L ++ [k], by go_num, by omega, by simp; omega, HPS, by
          have := HO1.out
          rw [List.map_append, List.length_append, List.length_singleton]
          exact this, HB1⟩
      case measure => simp [intOf]; omega
    | false =>
      rw [hc] at htr hps
      rw [if_neg (by simp)] at hps
      have HT := hide htr
      have HPS := hide hps
      clear htr hps hc
      go_wp2_with (go_at_call 61; refine HT.out.mono ?_; rintro e w2 ⟨rfl, rfl⟩)
      go_roundw
      case rel => exact ⟨k + 1, L, by go_num, by omega, by omega, HPS, HO, HB⟩
      case measure => simp [intOf]; omega
end Go.Proofs.YtehadoecnmfeoaaGreat
/- What has to be cut: plain laws. -/
namespace Go.Proofs.YtehadoecnmfeoaaGreat
set_option linter.unusedVariables false
set_option linter.unusedSimpArgs false
theorem sort_uniq {α : Type} {lt : α → α → Bool} (hi : ∀ a, lt a a = false) (ht : ∀ a b c, lt a b = true → lt b c = true → lt a c = true) :
    ∀ {l r : List α}, l.Pairwise (fun a b => lt a b = true) → r.Pairwise (fun a b => lt a b = true) → (∀ a, a ∈ l ↔ a ∈ r) → l = r
  | [], [], _, _, _ => rfl
  | [], b :: r, _, _, h => absurd ((h b).2 (by simp)) (by simp)
  | a :: l, [], _, _, h => absurd ((h a).1 (by simp)) (by simp)
  | a :: l, b :: r, hl, hr, h => by
    obtain ⟨l1, l2⟩ := List.pairwise_cons.1 hl
    obtain ⟨r1, r2⟩ := List.pairwise_cons.1 hr
    have hab : a = b := by
      rcases List.mem_cons.1 ((h a).1 (by simp)) with e | e
      · exact e
      · rcases List.mem_cons.1 ((h b).2 (by simp)) with e2 | e2
        · exact e2.symm
        · have h3 := ht _ _ _ (r1 a e) (l1 b e2)
          rw [hi] at h3
          cases h3
    subst hab
    have hlr : l = r := sort_uniq hi ht l2 r2 fun c => by
      constructor
      · intro hc
        rcases List.mem_cons.1 ((h c).1 (by simp [hc])) with e | e
        · subst e
          have h3 := l1 c hc
          rw [hi] at h3
          cases h3
        · exact e
      · intro hc
        rcases List.mem_cons.1 ((h c).2 (by simp [hc])) with e | e
        · subst e
          have h3 := r1 c hc
          rw [hi] at h3
          cases h3
        · exact e
    rw [hlr]
structure Ct where
  s : Int
  n : Int
  c : Int
def Ct.o : Ct := ⟨0, 0, 0⟩
def ltK (a b : Ct) : Bool := decide (a.s < b.s) || (a.s == b.s && decide (a.n < b.n))
theorem ltK_iff {a b : Ct} : ltK a b = true ↔ a.s < b.s ∨ (a.s = b.s ∧ a.n < b.n) := by
  unfold ltK
  simp
theorem ltK_irr (a : Ct) : ltK a a = false := by
  unfold ltK
  simp
theorem ltK_trans (a b c : Ct) (h : ltK a b = true) (k : ltK b c = true) : ltK a c = true := by
  rw [ltK_iff] at h k ⊢
  omega
def sameK (a b : Ct) : Bool := a.s == b.s && a.n == b.n
theorem sameK_iff {a b : Ct} : sameK a b = true ↔ a.s = b.s ∧ a.n = b.n := by
  unfold sameK
  simp
def insC (x : Ct) : List Ct → List Ct
  | [] => [x]
  | a :: r => if ltK a x = true then a :: insC x r else if sameK a x = true then ⟨a.s, a.n, a.c + 1⟩ :: r else x :: a :: r
theorem insC_key {x : Ct} : ∀ {o : List Ct} {b : Ct}, b ∈ insC x o → (b.s = x.s ∧ b.n = x.n) ∨ ∃ a ∈ o, b.s = a.s ∧ b.n = a.n
  | [], b, h => by
    have h1 : b = x := by simpa [insC] using h
    exact .inl ⟨by rw [h1], by rw [h1]⟩
  | a :: r, b, h => by
    unfold insC at h
    by_cases h1 : ltK a x = true
    · rw [if_pos h1] at h
      rcases List.mem_cons.1 h with e | e
      · exact .inr ⟨a, by simp, by rw [e], by rw [e]⟩
      · rcases insC_key e with h2 | ⟨c, hc, h2⟩
        · exact .inl h2
        · exact .inr ⟨c, by simp [hc], h2⟩
    · rw [if_neg h1] at h
      by_cases h2 : sameK a x = true
      · rw [if_pos h2] at h
        rcases List.mem_cons.1 h with e | e
        · exact .inr ⟨a, by simp, by rw [e], by rw [e]⟩
        · exact .inr ⟨b, by simp [e], rfl, rfl⟩
      · rw [if_neg h2] at h
        rcases List.mem_cons.1 h with e | e
        · exact .inl ⟨by rw [e], by rw [e]⟩
        · exact .inr ⟨b, e, rfl, rfl⟩
theorem insC_has (x : Ct) : ∀ o : List Ct, ∃ b ∈ insC x o, b.s = x.s ∧ b.n = x.n
  | [] => ⟨x, by simp [insC], rfl, rfl⟩
  | a :: r => by
    unfold insC
    by_cases h1 : ltK a x = true
    · rw [if_pos h1]
      obtain ⟨b, hb, h2⟩ := insC_has x r
      exact ⟨b, by simp [hb], h2⟩
    · rw [if_neg h1]
      by_cases h2 : sameK a x = true
      · rw [if_pos h2]
        exact ⟨⟨a.s, a.n, a.c + 1⟩, by simp, sameK_iff.1 h2⟩
      · rw [if_neg h2]
        exact ⟨x, by simp, rfl, rfl⟩
theorem insC_old {x : Ct} : ∀ {o : List Ct} {a : Ct}, a ∈ o → ∃ b ∈ insC x o, b.s = a.s ∧ b.n = a.n
  | [], a, h => absurd h (by simp)
  | d :: r, a, h => by
    unfold insC
    by_cases h1 : ltK d x = true
    · rw [if_pos h1]
      rcases List.mem_cons.1 h with e | e
      · exact ⟨d, by simp, by rw [e], by rw [e]⟩
      · obtain ⟨b, hb, h2⟩ := insC_old (x := x) e
        exact ⟨b, by simp [hb], h2⟩
    · rw [if_neg h1]
      by_cases h2 : sameK d x = true
      · rw [if_pos h2]
        rcases List.mem_cons.1 h with e | e
        · exact ⟨⟨d.s, d.n, d.c + 1⟩, by simp, by rw [e], by rw [e]⟩
        · exact ⟨a, by simp [e], rfl, rfl⟩
      · rw [if_neg h2]
        exact ⟨a, by simp only [List.mem_cons] at h ⊢; exact .inr h, rfl, rfl⟩
theorem insC_sorted {x : Ct} : ∀ {o : List Ct}, o.Pairwise (fun a b => ltK a b = true) → (insC x o).Pairwise (fun a b => ltK a b = true)
  | [], _ => by simp [insC]
  | a :: r, h => by
    obtain ⟨h1, h2⟩ := List.pairwise_cons.1 h
    unfold insC
    by_cases h3 : ltK a x = true
    · rw [if_pos h3]
      refine List.pairwise_cons.2 ⟨fun b hb => ?_, insC_sorted h2⟩
      rw [ltK_iff] at h3 ⊢
      rcases insC_key hb with ⟨e1, e2⟩ | ⟨c, hc, e1, e2⟩
      · rw [e1, e2]; exact h3
      · have := ltK_iff.1 (h1 c hc)
        rw [e1, e2]; exact this
    · rw [if_neg h3]
      by_cases h4 : sameK a x = true
      · rw [if_pos h4]
        exact List.pairwise_cons.2 ⟨fun b hb => by have := ltK_iff.1 (h1 b hb); exact ltK_iff.2 this, h2⟩
      · rw [if_neg h4]
        have h5 : ltK x a = true := by
          rw [ltK_iff]
          rw [ltK_iff] at h3
          rw [sameK_iff] at h4
          omega
        refine List.pairwise_cons.2 ⟨fun b hb => ?_, h⟩
        rcases List.mem_cons.1 hb with e | e
        · rw [e]; exact h5
        · exact ltK_trans _ _ _ h5 (h1 b e)
theorem insC_cnt {x : Ct} (hx : x.c = 1) : ∀ {o : List Ct} {f g : Int → Int → Int}, o.Pairwise (fun a b => ltK a b = true) → (∀ a ∈ o, a.c = f a.s a.n) → ((∀ a ∈ o, ¬ (a.s = x.s ∧ a.n = x.n)) → f x.s x.n = 0) →
    g x.s x.n = f x.s x.n + 1 → (∀ s n, ¬ (s = x.s ∧ n = x.n) → g s n = f s n) → ∀ b ∈ insC x o, b.c = g b.s b.n
  | [], f, g, _, _, h0, hg, _, b, hb => by
    have h1 : b = x := by simpa [insC] using hb
    rw [h1, hg, h0 (fun a ha => absurd ha (by simp)), hx]
    rfl
  | a :: r, f, g, hs, hf, h0, hg, hg2, b, hb => by
    obtain ⟨h1, h2⟩ := List.pairwise_cons.1 hs
    have hfa := hf a (by simp)
    unfold insC at hb
    by_cases h3 : ltK a x = true
    · rw [if_pos h3] at hb
      have h4 := ltK_iff.1 h3
      rcases List.mem_cons.1 hb with e | e
      · rw [e, hg2 _ _ (by omega)]
        exact hfa
      · refine insC_cnt hx h2 (fun c hc => hf c (by simp [hc])) (fun hno => h0 fun c hc => ?_) hg hg2 b e
        rcases List.mem_cons.1 hc with e2 | e2
        · rw [e2]; omega
        · exact hno c e2
    · rw [if_neg h3] at hb
      by_cases h4 : sameK a x = true
      · rw [if_pos h4] at hb
        obtain ⟨e1, e2⟩ := sameK_iff.1 h4
        rcases List.mem_cons.1 hb with e | e
        · rw [e]
          show a.c + 1 = g a.s a.n
          rw [hfa, e1, e2, hg]
        · have h5 := ltK_iff.1 (h1 b e)
          rw [hg2 _ _ (by omega)]
          exact hf b (by simp [e])
      · rw [if_neg h4] at hb
        have h5 : ltK x a = true := by
          rw [ltK_iff]
          rw [ltK_iff] at h3
          rw [sameK_iff] at h4
          omega
        have h6 : ∀ c ∈ a :: r, ¬ (c.s = x.s ∧ c.n = x.n) := fun c hc => by
          have h7 : ltK x c = true := by
            rcases List.mem_cons.1 hc with e | e
            · rw [e]; exact h5
            · exact ltK_trans _ _ _ h5 (h1 c e)
          have h8 := ltK_iff.1 h7
          omega
        rcases List.mem_cons.1 hb with e | e
        · rw [e, hg, h0 h6, hx]
          rfl
        · rw [hg2 _ _ (h6 b e)]
          exact hf b e
def cntC (ps : List (Int × Int)) (s n : Int) : Nat := ps.countP fun p => p.1 == s && p.2 == n
theorem cntC_snoc (ps : List (Int × Int)) (p : Int × Int) (s n : Int) : cntC (ps ++ [p]) s n = cntC ps s n + if p.1 = s ∧ p.2 = n then 1 else 0 := by
  unfold cntC
  rw [List.countP_append]
  congr 1
  simp only [List.countP_cons, List.countP_nil, Nat.zero_add, Bool.and_eq_true, beq_iff_eq]
theorem cntC_pos {ps : List (Int × Int)} {s n : Int} : 0 < cntC ps s n ↔ (s, n) ∈ ps := by
  unfold cntC
  rw [List.countP_pos_iff]
  constructor
  · rintro ⟨p, hp, h⟩
    have h1 : p.1 = s ∧ p.2 = n := by simpa using h
    rw [← h1.1, ← h1.2]
    exact hp
  · intro h
    exact ⟨(s, n), h, by simp⟩
def cutS (ps : List (Int × Int)) : List Ct := ps.foldl (fun o p => insC ⟨p.1, p.2, 1⟩ o) []
theorem cutS_snoc (ps : List (Int × Int)) (p : Int × Int) : cutS (ps ++ [p]) = insC ⟨p.1, p.2, 1⟩ (cutS ps) := by
  unfold cutS
  rw [List.foldl_append]
  rfl
structure CutI (ps : List (Int × Int)) (o : List Ct) : Prop where
  so : o.Pairwise (fun a b => ltK a b = true)
  c : ∀ a ∈ o, a.c = (cntC ps a.s a.n : Nat)
  key : ∀ a ∈ o, (a.s, a.n) ∈ ps
  all : ∀ p ∈ ps, ∃ a ∈ o, a.s = p.1 ∧ a.n = p.2
theorem CutI.snoc {ps : List (Int × Int)} {o : List Ct} (h : CutI ps o) (p : Int × Int) : CutI (ps ++ [p]) (insC ⟨p.1, p.2, 1⟩ o) := by
  refine ⟨insC_sorted h.so, ?_, fun a ha => ?_, fun q hq => ?_⟩
  · refine insC_cnt rfl h.so (f := fun s n => (cntC ps s n : Nat)) (g := fun s n => (cntC (ps ++ [p]) s n : Nat)) h.c (fun hno => ?_) ?_ ?_
    · have h1 : ¬ 0 < cntC ps p.1 p.2 := fun h2 => by
        obtain ⟨a, ha, e1, e2⟩ := h.all _ (cntC_pos.1 h2)
        exact hno a ha ⟨e1, e2⟩
      show ((cntC ps p.1 p.2 : Nat) : Int) = 0
      omega
    · show ((cntC (ps ++ [p]) p.1 p.2 : Nat) : Int) = ((cntC ps p.1 p.2 : Nat) : Int) + 1
      rw [cntC_snoc, if_pos ⟨rfl, rfl⟩]
      omega
    · intro s n hne
      show ((cntC (ps ++ [p]) s n : Nat) : Int) = ((cntC ps s n : Nat) : Int)
      rw [cntC_snoc, if_neg (fun h2 => hne ⟨h2.1.symm, h2.2.symm⟩)]
      rfl
  · rcases insC_key ha with ⟨e1, e2⟩ | ⟨b, hb, e1, e2⟩
    · rw [e1, e2]
      simp
    · rw [e1, e2]
      simp [h.key b hb]
  · rcases List.mem_append.1 hq with hq | hq
    · obtain ⟨a, ha, e1, e2⟩ := h.all q hq
      obtain ⟨b, hb, e3, e4⟩ := insC_old (x := ⟨p.1, p.2, 1⟩) ha
      exact ⟨b, hb, e3.trans e1, e4.trans e2⟩
    · have e : q = p := by simpa using hq
      subst e
      exact insC_has ⟨q.1, q.2, 1⟩ o
theorem cutI_nil : CutI [] [] := ⟨List.Pairwise.nil, fun a h => absurd h (by simp), fun a h => absurd h (by simp), fun a h => absurd h (by simp)⟩
theorem cutS_is (ps : List (Int × Int)) : CutI ps (cutS ps) := by
  suffices h : ∀ (qs rs : List (Int × Int)) (o : List Ct), CutI qs o → CutI (qs ++ rs) (rs.foldl (fun o p => insC ⟨p.1, p.2, 1⟩ o) o) by
    have h1 := h [] ps [] cutI_nil
    rw [List.nil_append] at h1
    exact h1
  intro qs rs
  induction rs generalizing qs with
  | nil => intro o h; rw [List.append_nil]; exact h
  | cons p rs ih =>
    intro o h
    have h1 := ih (qs ++ [p]) _ (h.snoc p)
    rw [List.append_assoc] at h1
    exact h1
theorem cutI_mem {ps : List (Int × Int)} {o : List Ct} (h : CutI ps o) (a : Ct) : a ∈ o ↔ a.c = (cntC ps a.s a.n : Nat) ∧ (a.s, a.n) ∈ ps := by
  constructor
  · exact fun ha => ⟨h.c a ha, h.key a ha⟩
  · rintro ⟨h1, h2⟩
    obtain ⟨b, hb, e1, e2⟩ := h.all _ h2
    have h3 := h.c b hb
    have e3 : b.c = a.c := by rw [h3, h1, e1, e2]
    obtain ⟨bs, bn, bc⟩ := b
    obtain ⟨a1, a2, a3⟩ := a
    simp only at e1 e2 e3
    subst e1 e2 e3
    exact hb
theorem cutI_uniq {ps : List (Int × Int)} {o o' : List Ct} (h : CutI ps o) (h' : CutI ps o') : o = o' :=
  sort_uniq ltK_irr ltK_trans h.so h'.so fun a => (cutI_mem h a).trans (cutI_mem h' a).symm
end Go.Proofs.YtehadoecnmfeoaaGreat

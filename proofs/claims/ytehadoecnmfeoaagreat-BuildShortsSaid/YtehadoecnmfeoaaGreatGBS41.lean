/- Part 41 of this claim's texts: walks and plain laws. -/
import Derived.Test.YtehadoecnmfeoaaGreatRows
import Derived.Test.YtehadoecnmfeoaaGreatGBS40
import Derived.Deep.DeepMust
import Derived.Deep.RegionHeld3
import Derived.Deep.DrawnRows
import Derived.Test.YtehadoecnmfeoaaGreatGBS3
set_option linter.unusedVariables false
set_option linter.unusedSimpArgs false
set_option linter.unusedSectionVars false
namespace Go.Proofs.YtehadoecnmfeoaaGreat
open Go.RowKit
def belK (l : Lo) (x : List Bool) (k : Nat) : List Nat := (List.range k).filter fun i => evF1 (vf x) (fmW l i)
def belL (l : Lo) (x : List Bool) : List Nat := belK l x l.ws.length
theorem belK_succ (l : Lo) (x : List Bool) (k : Nat) : belK l x (k + 1) = if evF1 (vf x) (fmW l k) then belK l x k ++ [k] else belK l x k := by
 unfold belK
 rw [List.range_succ, List.filter_append, List.filter_cons]
 cases evF1 (vf x) (fmW l k) <;> simp
theorem belK_le (l : Lo) (x : List Bool) (k : Nat) : (belK l x k).length ≤ k := by
 have := List.length_filter_le (fun i => evF1 (vf x) (fmW l i)) (List.range k)
 rwa [List.length_range] at this
theorem belL_lt {l : Lo} {x : List Bool} {i : Nat} (h : i ∈ belL l x) : i < l.ws.length ∧ evF1 (vf x) (fmW l i) = true := by
 unfold belL belK at h
 simpa using h
def belN (l : Lo) (x : List Bool) : List Nat := if copE l x = 0 then belL l x else []
theorem copE_err {l : Lo} {x : List Bool} (h : l.err ≠ 0) : copE l x = l.err ∧ belN l x = [] := by
 have h1 : copE l x = l.err := by unfold copE havE; rw [if_pos h]
 refine ⟨h1, ?_⟩
 unfold belN
 rw [h1, if_neg h]
theorem copE_arg {l : Lo} {x : List Bool} (h : l.err = 0) (h2 : x.length ≠ l.m.opts.length) : copE l x = 1 ∧ belN l x = [] := by
 have h1 : copE l x = 1 := by unfold copE havE; rw [if_neg (by simp [h]), decide_eq_false h2]; rfl
 refine ⟨h1, ?_⟩
 unfold belN
 rw [h1, if_neg (by decide)]
theorem copE_yes {l : Lo} {x : List Bool} (h : l.err = 0) (h2 : x.length = l.m.opts.length) : copE l x = 0 ∧ belN l x = belL l x := by
 have h1 : copE l x = 0 := by unfold copE havE; rw [if_neg (by simp [h]), decide_eq_true h2]; rfl
 refine ⟨h1, ?_⟩
 unfold belN
 rw [if_pos h1]
set_option maxRecDepth 100000 in
set_option maxHeartbeats 8000000 in
theorem belonging_any (x : List Bool) (Ax : Option Addr) (qx : Nat) (A0 A1 A2 A3 A4 A5 : Option Addr) (q0 q1 q2 q3 q4 q5 : Nat) (l : Lo) (w : World) (hs : SizedL l) (h : LoA w w.heap.size A0 A1 A2 A3 A4 A5 q0 q1 q2 q3 q4 q5 l) (hx : Bols w w.heap.size (.slice Ax x.length qx) x) :
  Calls Tryz.prog 93 #[.agg #[.slice A0 l.m.opts.length q0, .slice A1 l.m.rules.length q1, .slice A2 l.ss.length q2, .slice A3 l.us.length q3, .slice A4 l.ps.length q4, .slice A5 l.ws.length q5], .slice Ax x.length qx] w (PicP (belN l x) (copE l x) w) := by
 obtain ⟨i0, hi0, iz0, iz1, iz2⟩ := info_parts infoInt
 have H := hide h
 have HS := hide hs
 have HX := hide hx
 obtain ⟨er, her⟩ : ∃ z, l.err = z := ⟨_, rfl⟩
 have HER := hide her
 clear h hs hx
 by_cases h0 : er = 0
 case neg =>
  have hp := copE_err (l := l) (x := x) (by rw [her]; exact h0)
  rw [hp.1, hp.2, her]
  have hz1 : (er != 0) = true := by simpa using h0
  clear her h0 hp
  go_enter Tryz.func93, Tryz.ntmps93
  go_upto_region 1 with (fail)
  generalize hw0 : World.alloc _ _ = w0
  obtain ⟨hb0, hB0, hs0⟩ := alloc1 hw0
  have HL0 : Hid (LoBox w0 w.heap.size A0 A1 A2 A3 A4 A5 q0 q1 q2 q3 q4 q5 l) := hb0
  have HB0 := hide hB0
  obtain ⟨c0, c1, c2, c3, c4, c5⟩ := zL hb0
  have hlb := box_lt hb0
  clear hw0 hb0 hB0 hs0
  go_wp2_with (go_at_call 62; refine (Check_any A0 A1 A2 A3 A4 A5 q0 q1 q2 q3 q4 q5 l _ HS.out (H.out.up HB0.out)).mono ?_; rw [HER.out]; rintro e w1 ⟨rfl, hB1⟩; have HL1 := hide (HL0.out.to hB1); have HB1 := hide (Below.to HB0.out hB1 (Nat.le_refl _)); clear hB1 c0 c1 c2 c3 c4 c5 hlb; obtain ⟨c0, c1, c2, c3, c4, c5⟩ := zL HL1.out; have hlb := box_lt HL1.out)
  go_ret2
  exact ⟨_, rfl, Sl.nil _ _ _ _, HB1.out⟩
 case pos =>
 subst h0
 have g0 : ((0 : Int) != 0) = false := by decide
 by_cases hxl : x.length = l.m.opts.length
 case neg =>
  have hp := copE_arg her hxl
  rw [hp.1, hp.2]
  have n1 : ((x.length : Int) != (l.m.opts.length : Int)) = true := by simp; omega
  clear her hxl hp
  go_enter Tryz.func93, Tryz.ntmps93
  go_upto_region 1 with (fail)
  generalize hw0 : World.alloc _ _ = w0
  obtain ⟨hb0, hB0, hs0⟩ := alloc1 hw0
  have HL0 : Hid (LoBox w0 w.heap.size A0 A1 A2 A3 A4 A5 q0 q1 q2 q3 q4 q5 l) := hb0
  have HB0 := hide hB0
  obtain ⟨c0, c1, c2, c3, c4, c5⟩ := zL hb0
  have hlb := box_lt hb0
  clear hw0 hb0 hB0 hs0
  go_wp2_with (go_at_call 62; refine (Check_any A0 A1 A2 A3 A4 A5 q0 q1 q2 q3 q4 q5 l _ HS.out (H.out.up HB0.out)).mono ?_; rw [HER.out]; rintro e w1 ⟨rfl, hB1⟩; have HL1 := hide (HL0.out.to hB1); have HB1 := hide (Below.to HB0.out hB1 (Nat.le_refl _)); clear hB1 c0 c1 c2 c3 c4 c5 hlb; obtain ⟨c0, c1, c2, c3, c4, c5⟩ := zL HL1.out; have hlb := box_lt HL1.out)
  go_ret2
  exact ⟨_, rfl, Sl.nil _ _ _ _, HB1.out⟩
 case pos =>
 have hp := copE_yes her hxl
 obtain ⟨LR, hLR⟩ : ∃ z, belL l x = z := ⟨_, rfl⟩
 rw [hp.1, hp.2, hLR]
 have HLR := hide hLR
 clear hLR
 have n1 : ((x.length : Int) != (l.m.opts.length : Int)) = false := by simp; omega
 have HXL := hide hxl
 have ok := Lo.err_ok her
 have OK := hide ok
 have h60 := ok.w60
 have HMO := hide ok.m
 clear her hxl hp ok
 go_enter Tryz.func93, Tryz.ntmps93
 go_upto_region 1 with (fail)
 generalize hw0 : World.alloc _ _ = w0
 obtain ⟨hb0, hB0, hs0⟩ := alloc1 hw0
 have HL0 : Hid (LoBox w0 w.heap.size A0 A1 A2 A3 A4 A5 q0 q1 q2 q3 q4 q5 l) := hb0
 have HB0 := hide hB0
 obtain ⟨c0, c1, c2, c3, c4, c5⟩ := zL hb0
 have hlb := box_lt hb0
 clear hw0 hb0 hB0 hs0
 go_upto_region 4 with (go_at_call 62; refine (Check_any A0 A1 A2 A3 A4 A5 q0 q1 q2 q3 q4 q5 l _ HS.out (H.out.up HB0.out)).mono ?_; rw [HER.out]; rintro e w1 ⟨rfl, hB1⟩; have HL1 := hide (HL0.out.to hB1); have HB1 := hide (Below.to HB0.out hB1 (Nat.le_refl _)); clear hB1 c0 c1 c2 c3 c4 c5 hlb; obtain ⟨c0, c1, c2, c3, c4, c5⟩ := zL HL1.out; have hlb := box_lt HL1.out)
 obtain ⟨W1, hW1⟩ : ∃ wo : World, wo = w1 := ⟨_, rfl⟩
 subst hW1
 go_wp2_with fail
 clear c0 c1 c2 c3 c4 c5 hlb
 go_loopw [4, 7, 8, 24] (fun sv _ _ i wr => ∃ (k : Nat) (L : List Nat), i = .int .i64 k ∧ k ≤ l.ws.length ∧ L.length ≤ k ∧ Hid (belK l x k = L) ∧ Hid (wr.ownsRow W1.heap.size 3 1 sv L.length (L.map fun (n : Nat) => Value.int .i64 n)) ∧ Hid (Below W1.heap.size W1 wr)) (fun _ _ _ i _ => l.ws.length - (intOf i).toNat)
 case atStart => exact ⟨0, [], rfl, Nat.zero_le _, Nat.le_refl _, rfl, World.ownsRow_nil _ _ _ _, Below.refl _ _⟩
 case round =>
  obtain ⟨k, L, rfl, hk, hLk, HL, HO, HB⟩ := hrel
  obtain ⟨A9, q9, hv9⟩ := owns_form HO.out
  subst hv9
  by_cases hkl : k < l.ws.length
  case neg =>
   have hkl1 : ¬ (k : Int) < (l.ws.length : Int) := by omega
   have hLL : LR = L := by rw [← HL.out, ← HLR.out]; unfold belL; rw [show l.ws.length = k by omega]
   subst hLL
   clear hkl
   go_wp2_with fail
   go_ret2
   exact ⟨_, rfl, Nods.of_own HO.out, Below.to HB1.out HB.out (Nat.le_refl _)⟩
  case pos =>
  have hkl1 : (k : Int) < (l.ws.length : Int) := by omega
  have ik0 : (0 : Int) ≤ (k : Int) := by omega
  have HBr := hide (Below.to HB1.out HB.out (Nat.le_refl _))
  obtain ⟨bw, ow, d, Af, qf, HX7, hA5, hbw, hq5, HF, e0, e1, e2, e3, e4, e5, e6⟩ := H.out.wi hkl
  subst hA5
  have lbw : bw < wr.heap.size := Nat.lt_of_lt_of_le hbw HBr.out.size
  have iq5 : (l.ws.length : Int) ≤ (q5 : Int) := by omega
  have hfx : fmW l k = d.form := by unfold fmW; rw [HX7.out]
  have hxv := (LoOk.wi OK.out hkl).2
  rw [HX7.out] at hxv
  have hxl := (HS.out.wn (l.ws.getD k Wi.o) (getD_mem7 hkl)).2
  rw [HX7.out] at hxl
  have HVD := hide hxv
  have HDL := hide hxl
  have hps := belK_succ l x k
  rw [HL.out, hfx] at hps
  have hLl : L.length ≤ 60 := by omega
  have g0 := (HBr.out.cell (p := ⟨bw, ow + k * 7, none⟩) hbw).trans e0
  have g1 := (HBr.out.cell (p := ⟨bw, ow + k * 7 + 1, none⟩) hbw).trans e1
  have g2 := (HBr.out.cell (p := ⟨bw, ow + k * 7 + 2, none⟩) hbw).trans e2
  have g3 := (HBr.out.cell (p := ⟨bw, ow + k * 7 + 3, none⟩) hbw).trans e3
  have g4 := (HBr.out.cell (p := ⟨bw, ow + k * 7 + 4, none⟩) hbw).trans e4
  have g5 := (HBr.out.cell (p := ⟨bw, ow + k * 7 + 5, none⟩) hbw).trans e5
  have g6 := (HBr.out.cell (p := ⟨bw, ow + k * 7 + 6, none⟩) hbw).trans e6
  clear e0 e1 e2 e3 e4 e5 e6 hq5 hxv hxl hfx
  go_upto_region 9 with (fail)
  generalize hw3 : World.alloc _ _ = w3
  obtain ⟨hb3, hB3, hs3⟩ := alloc1 hw3
  have m6 := cellOf hb3 6
  have lm := box_lt hb3
  have HLr3 := hide (HL1.out.to (Below.to HB.out hB3 (Nat.le_refl _)))
  obtain ⟨c0, c1, c2, c3, c4, c5⟩ := zL HLr3.out
  have hlb := box_lt HLr3.out
  have HO3 := hide (owns_below HO.out hB3)
  have HB3 := hide (Below.to HB.out hB3 (Nat.le_refl _))
  have HBr3 := hide (Below.to HB1.out HB3.out (Nat.le_refl _))
  clear hw3 hb3 hB3 hs3 g0 g1 g2 g3 g4 g5 g6 lbw
  cases hc : evF1 (vf x) d.form with
  | true =>
   rw [hc, if_pos rfl] at hps
   have HC := hide hc
   have HPS := hide hps
   clear hps hc
   go_wp2_with (first | (go_at_call 85; refine (bholds_any d.form x Af qf _ _ _ _ _ _ _ _ _ _ _ _ _ l w3 HS.out HDL.out (H.out.up HBr3.out) (HF.out.up HBr3.out) (Sl.up HX.out HBr3.out) HMO.out HVD.out HXL.out).mono ?_; rw [HC.out]; rintro e w4 ⟨rfl, hB4⟩; have HO4 := hide (owns_below HO3.out hB4); have HB4 := hide (Below.to HB3.out hB4 (Nat.le_refl _)); clear hB4 c0 c1 c2 c3 c4 c5 hlb m6 lm) | (at_builtin; go_must (refine wpList_append_own_at _ rfl (.tmp 34) (.tmp 36) _ rfl (W1.heap.size) 3 i0 _ 1 8 Tryz.underlying45 hi0 iz0 iz1 iz2 rfl (by omega) _ _ _ rfl ((HO4.out).alloc _) ⟨w4.heap.size, 0, none⟩ 1 1 [.int .i64 (k : Nat)] rfl rfl (World.news_of_block (heap_alloc_new w4 _)) (by simp [Value.oneCell']) (by have h1 := hLl; unfold maxLen; omega) (by have h1 := hLl; omega) (by have h1 := HB4.out.size; simp; omega) ?_); intro v1 w3 hown1 hg1 _ hat1; have HO5 := hide hown1; have HB5 := hide (Below.grown (Below.allocT HB4.out (Nat.le_refl _) _) hg1 (by have := HB4.out.size; simp; omega) (fun j hj => (HO4.out.lt j hj).1)); clear hown1 hg1 hat1))
   go_roundw
   case rel => exact ⟨k + 1, L ++ [k], by go_num, by omega, by simp; omega, HPS, by
     have := HO5.out
     rw [List.map_append, List.length_append, List.length_singleton]
     exact this, HB5⟩
   case measure => simp [intOf]; omega
  | false =>
   rw [hc, if_neg (by simp)] at hps
   have HC := hide hc
   have HPS := hide hps
   clear hps hc
   go_wp2_with (go_at_call 85; refine (bholds_any d.form x Af qf _ _ _ _ _ _ _ _ _ _ _ _ _ l w3 HS.out HDL.out (H.out.up HBr3.out) (HF.out.up HBr3.out) (Sl.up HX.out HBr3.out) HMO.out HVD.out HXL.out).mono ?_; rw [HC.out]; rintro e w4 ⟨rfl, hB4⟩; have HO4 := hide (owns_below HO3.out hB4); have HB4 := hide (Below.to HB3.out hB4 (Nat.le_refl _)); clear hB4 c0 c1 c2 c3 c4 c5 hlb m6 lm)
   go_roundw
   case rel => exact ⟨k + 1, L, by go_num, by omega, by omega, HPS, HO4, HB4⟩
   case measure => simp [intOf]; omega
set_option maxRecDepth 100000 in
set_option maxHeartbeats 4000000 in
theorem rbelong_any (x : List Bool) (vv : Value) (A0 A1 A2 A3 A4 A5 : Option Addr) (q0 q1 q2 q3 q4 q5 : Nat) (l : Lo) (w : World) (hs : SizedL l) (h : LoA w w.heap.size A0 A1 A2 A3 A4 A5 q0 q1 q2 q3 q4 q5 l) (ok : LoOk l) (hx : Bols w w.heap.size vv x) (hN : x.length = l.m.opts.length) :
  Calls Tryz.prog 98 #[.agg #[.slice A0 l.m.opts.length q0, .slice A1 l.m.rules.length q1, .slice A2 l.ss.length q2, .slice A3 l.us.length q3, .slice A4 l.ps.length q4, .slice A5 l.ws.length q5], vv] w fun e w' => ∃ v, e = .returned v ∧ Nods w' w'.heap.size v (belL l x) ∧ Below w.heap.size w w' := by
 obtain ⟨i0, hi0, iz0, iz1, iz2⟩ := info_parts infoInt
 obtain ⟨Ax, qx, hvv⟩ := Sl.form hx
 have H := hide h
 have HS := hide hs
 have HX := hide hx
 have HN := hide hN
 have OK := hide ok
 have h60 := ok.w60
 obtain ⟨LR, hLR⟩ : ∃ z, belL l x = z := ⟨_, rfl⟩
 rw [hLR]
 have HLR := hide hLR
 subst hvv
 clear h hs hx hN hLR ok
 go_enter Tryz.func98, Tryz.ntmps98
 go_upto_region 1 with (fail)
 generalize hw0 : World.alloc _ _ = w0
 obtain ⟨hb0, hB0, hs0⟩ := alloc1 hw0
 have HL0 : Hid (LoBox w0 w.heap.size A0 A1 A2 A3 A4 A5 q0 q1 q2 q3 q4 q5 l) := hb0
 have HB0 := hide hB0
 clear hw0 hb0 hB0 hs0
 obtain ⟨W1, hW1⟩ : ∃ wo : World, wo = w0 := ⟨_, rfl⟩
 subst hW1
 go_wp2_with fail
 go_loopw [5, 6] (fun sv i wr => ∃ (k : Nat) (L : List Nat), i = .int .i64 k ∧ k ≤ l.ws.length ∧ L.length ≤ k ∧ Hid (belK l x k = L) ∧ Hid (wr.ownsRow W1.heap.size 3 1 sv L.length (L.map fun (n : Nat) => Value.int .i64 n)) ∧ Hid (Below W1.heap.size W1 wr)) (fun _ i _ => l.ws.length - (intOf i).toNat)
 case atStart => exact ⟨0, [], rfl, Nat.zero_le _, Nat.le_refl _, rfl, World.ownsRow_nil _ _ _ _, Below.refl _ _⟩
 case round =>
  obtain ⟨k, L, rfl, hk, hLk, HL, HO, HB⟩ := hrel
  obtain ⟨A9, q9, hv9⟩ := owns_form HO.out
  subst hv9
  have HBr := hide (Below.to HB0.out HB.out (Nat.le_refl _))
  have HLr := hide (HL0.out.to HB.out)
  obtain ⟨c0, c1, c2, c3, c4, c5⟩ := zL HLr.out
  have hlb := box_lt HLr.out
  by_cases hkl : k < l.ws.length
  case neg =>
   have hkl1 : ¬ (k : Int) < (l.ws.length : Int) := by omega
   have hLL : LR = L := by rw [← HL.out, ← HLR.out]; unfold belL; rw [show l.ws.length = k by omega]
   subst hLL
   clear hkl
   go_wp2_with fail
   go_ret
   exact ⟨_, rfl, Nods.of_own HO.out, HBr.out⟩
  case pos =>
  have hkl1 : (k : Int) < (l.ws.length : Int) := by omega
  have ik0 : (0 : Int) ≤ (k : Int) := by omega
  obtain ⟨bw, ow, d, Af, qf, HX7, hA5, hbw, hq5, HF, e0, e1, e2, e3, e4, e5, e6⟩ := H.out.wi hkl
  subst hA5
  have lbw : bw < wr.heap.size := Nat.lt_of_lt_of_le hbw HBr.out.size
  have iq5 : (l.ws.length : Int) ≤ (q5 : Int) := by omega
  have hfx : fmW l k = d.form := by unfold fmW; rw [HX7.out]
  have hxv := (LoOk.wi OK.out hkl).2
  rw [HX7.out] at hxv
  have hxl := (HS.out.wn (l.ws.getD k Wi.o) (getD_mem7 hkl)).2
  rw [HX7.out] at hxl
  have HVD := hide hxv
  have HDL := hide hxl
  have hps := belK_succ l x k
  rw [HL.out, hfx] at hps
  have hLl : L.length ≤ 60 := by omega
  have g6 := (HBr.out.cell (p := ⟨bw, ow + k * 7 + 6, none⟩) hbw).trans e6
  have htr := True_any d.form l.m.opts.length x (.slice Af d.form.length qf) (.slice Ax x.length qx) w.heap.size wr (HF.out.below HBr.out) (Sl.below HX.out HBr.out) HN.out HVD.out
  clear e0 e1 e2 e3 e4 e5 e6 hq5 hxv hxl hfx
  cases hc : evF1 (vf x) d.form with
  | true =>
   rw [hc] at htr hps
   rw [if_pos rfl] at hps
   have HT := hide htr
   have HPS := hide hps
   clear htr hps hc
   go_wp2_with (first | (go_at_call 61; refine HT.out.mono ?_; rintro e w2 ⟨rfl, rfl⟩) | (at_builtin; go_must (refine wpList_append_own_at _ rfl (.tmp 22) (.tmp 24) _ rfl (W1.heap.size) 3 i0 _ 1 8 Tryz.underlying45 hi0 iz0 iz1 iz2 rfl (by omega) _ _ _ rfl ((HO.out).alloc _) ⟨wr.heap.size, 0, none⟩ 1 1 [.int .i64 (k : Nat)] rfl rfl (World.news_of_block (heap_alloc_new wr _)) (by simp [Value.oneCell']) (by have h1 := hLl; unfold maxLen; omega) (by have h1 := hLl; omega) (by have h1 := HB.out.size; simp; omega) ?_); intro v1 w3 hown1 hg1 _ hat1; have HO1 := hide hown1; have HB1 := hide (Below.grown (Below.allocT HB.out (Nat.le_refl _) _) hg1 (by have := HB.out.size; simp; omega) (fun j hj => (HO.out.lt j hj).1)); clear hown1 hg1 hat1 c0 c1 c2 c3 c4 c5 hlb g6 lbw))
   go_roundw
   case rel => exact ⟨k + 1, L ++ [k], by go_num, by omega, by simp; omega, HPS, by
     have := HO1.out
     rw [List.map_append, List.length_append, List.length_singleton]
     exact this, HB1⟩
   case measure => simp [intOf]; omega
  | false =>
   rw [hc] at htr hps
   rw [if_neg (by simp)] at hps
   have HT := hide htr
   have HPS := hide hps
   clear htr hps hc
   go_wp2_with (go_at_call 61; refine HT.out.mono ?_; rintro e w2 ⟨rfl, rfl⟩)
   go_roundw
   case rel => exact ⟨k + 1, L, by go_num, by omega, by omega, HPS, HO, HB⟩
   case measure => simp [intOf]; omega
end Go.Proofs.YtehadoecnmfeoaaGreat

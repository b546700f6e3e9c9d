/- Part 34 of this claim's texts: walks and plain laws. -/
import Derived.Test.YtehadoecnmfeoaaGreatRows
import Derived.Test.YtehadoecnmfeoaaGreatGBT33
import Derived.Laws.EntriesVeiled
import Derived.Deep.RegionHeld3
import Derived.Deep.DrawnRows
import Derived.Deep.DeepMust
import Derived.Test.YtehadoecnmfeoaaGreatGBT30
import Derived.Test.YtehadoecnmfeoaaGreatGBT32
/- The program's copper of a variant: walk. -/
namespace Go.Proofs.YtehadoecnmfeoaaGreat
open Go.RowKit
set_option linter.unusedVariables false
set_option linter.unusedSimpArgs false
/-- The copper of the first wires of a variant. -/
noncomputable def copF (l : Lo) (v : List Bool) (i : Nat) : Int := if inB l v i then lenW l i * (l.ws.getD i Wi.o).size else 0
def copE (l : Lo) (v : List Bool) : Int := havE l (decide (v.length = l.m.opts.length))
noncomputable def copN (l : Lo) (v : List Bool) : Int := if copE l v = 0 then sumN (copF l v) l.ws.length else 0
theorem copE_ok {l : Lo} {v : List Bool} (h : copE l v = 0) : LoOk l ∧ v.length = l.m.opts.length := by
  obtain ⟨h1, h2⟩ := havE_ok h
  exact ⟨h1, of_decide_eq_true h2⟩
end Go.Proofs.YtehadoecnmfeoaaGreat
/- The wires that belong to a variant, on both sides: walks. -/
namespace Go.Proofs.YtehadoecnmfeoaaGreat
open Go.RowKit
set_option linter.unusedVariables false
set_option linter.unusedSimpArgs false
/-- The first wires that belong to a variant. -/
def belK (l : Lo) (x : List Bool) (k : Nat) : List Nat := (List.range k).filter fun i => evF1 (vf x) (fmW l i)
def belL (l : Lo) (x : List Bool) : List Nat := belK l x l.ws.length
theorem belK_succ (l : Lo) (x : List Bool) (k : Nat) : belK l x (k + 1) = if evF1 (vf x) (fmW l k) then belK l x k ++ [k] else belK l x k := by
  unfold belK
  rw [List.range_succ, List.filter_append, List.filter_cons]
  cases evF1 (vf x) (fmW l k) <;> simp
theorem belK_le (l : Lo) (x : List Bool) (k : Nat) : (belK l x k).length ≤ k := by
  have := List.length_filter_le (fun i => evF1 (vf x) (fmW l i)) (List.range k)
  rwa [List.length_range] at this
theorem belL_lt {l : Lo} {x : List Bool} {i : Nat} (h : i ∈ belL l x) : i < l.ws.length ∧ evF1 (vf x) (fmW l i) = true := by
  unfold belL belK at h
  simpa using h
def belN (l : Lo) (x : List Bool) : List Nat := if copE l x = 0 then belL l x else []
theorem copE_err {l : Lo} {x : List Bool} (h : l.err ≠ 0) : copE l x = l.err ∧ belN l x = [] := by
  have h1 : copE l x = l.err := by unfold copE havE; rw [if_pos h]
  refine ⟨h1, ?_⟩
  unfold belN
  rw [h1, if_neg h]
theorem copE_arg {l : Lo} {x : List Bool} (h : l.err = 0) (h2 : x.length ≠ l.m.opts.length) : copE l x = 1 ∧ belN l x = [] := by
  have h1 : copE l x = 1 := by unfold copE havE; rw [if_neg (by simp [h]), decide_eq_false h2]; rfl
  refine ⟨h1, ?_⟩
  unfold belN
  rw [h1, if_neg (by decide)]
theorem copE_yes {l : Lo} {x : List Bool} (h : l.err = 0) (h2 : x.length = l.m.opts.length) : copE l x = 0 ∧ belN l x = belL l x := by
  have h1 : copE l x = 0 := by unfold copE havE; rw [if_neg (by simp [h]), decide_eq_true h2]; rfl
  refine ⟨h1, ?_⟩
  unfold belN
  rw [if_pos h1]
set_option maxRecDepth 100000 in
set_option maxHeartbeats 8000000 in
theorem belonging_any (x : List Bool) (Ax : Option Addr) (qx : Nat) (A0 A1 A2 A3 A4 A5 : Option Addr) (q0 q1 q2 q3 q4 q5 : Nat) (l : Lo) (w : World) (hs : SizedL l) (h : LoA w w.heap.size A0 A1 A2 A3 A4 A5 q0 q1 q2 q3 q4 q5 l) (hx : Bols w w.heap.size (.slice Ax x.length qx) x) :
    Calls Tryz.prog 93 #[.agg #[.slice A0 l.m.opts.length q0, .slice A1 l.m.rules.length q1, .slice A2 l.ss.length q2, .slice A3 l.us.length q3, .slice A4 l.ps.length q4, .slice A5 l.ws.length q5], .slice Ax x.length qx] w (PicP (belN l x) (copE l x) w) := by
  obtain ⟨i0, hi0, iz0, iz1, iz2⟩ := info_parts infoInt
  have H := hide h
  have HS := hide hs
  have HX := hide hx
  obtain ⟨er, her⟩ : ∃ z, l.err = z := ⟨_, rfl⟩
  have HER := hide her
  clear h hs hx
  by_cases h0 : er = 0
  case neg =>
    have hp := copE_err (l := l) (x := x) (by rw [her]; exact h0)
    rw [hp.1, hp.2, her]
    have hz1 : (er != 0) = true := by simpa using h0
    clear her h0 hp
    go_enter Tryz.func93, Tryz.ntmps93
    go_upto_region 1 with (fail)
    generalize hw0 : World.alloc _ _ = w0
    obtain ⟨hb0, hB0, hs0⟩ := alloc1 hw0
    have HL0 : Hid (LoBox w0 w.heap.size A0 A1 A2 A3 A4 A5 q0 q1 q2 q3 q4 q5 l) := hb0
    have HB0 := hide hB0
    have c0 := cellOf hb0 0; have c1 := cellOf hb0 1; have c2 := cellOf hb0 2; have c3 := cellOf hb0 3; have c4 := cellOf hb0 4; have c5 := cellOf hb0 5
    have hlb := box_lt hb0
    clear hw0 hb0 hB0 hs0
    go_wp2_with (go_at_call 62; refine (Check_any A0 A1 A2 A3 A4 A5 q0 q1 q2 q3 q4 q5 l _ HS.out (H.out.up HB0.out)).mono ?_; rw [HER.out]; rintro e w1 ⟨rfl, hB1⟩; have HL1 := hide (HL0.out.to hB1); have HB1 := hide (Below.to HB0.out hB1 (Nat.le_refl _)); clear hB1 c0 c1 c2 c3 c4 c5 hlb; have c0 := cellOf HL1.out 0; have c1 := cellOf HL1.out 1; have c2 := cellOf HL1.out 2; have c3 := cellOf HL1.out 3; have c4 := cellOf HL1.out 4; have c5 := cellOf HL1.out 5; have hlb := box_lt HL1.out)
    go_ret2
    exact ⟨_, rfl, Sl.nil _ _ _ _, HB1.out⟩
  case pos =>
  subst h0
  have g0 : ((0 : Int) != 0) = false := by decide
  by_cases hxl : x.length = l.m.opts.length
  case neg =>
    have hp := copE_arg her hxl
    rw [hp.1, hp.2]
    have n1 : ((x.length : Int) != (l.m.opts.length : Int)) = true := by simp; omega
    clear her hxl hp
    go_enter Tryz.func93, Tryz.ntmps93
    go_upto_region 1 with (fail)
    generalize hw0 : World.alloc _ _ = w0
    obtain ⟨hb0, hB0, hs0⟩ := alloc1 hw0
    have HL0 : Hid (LoBox w0 w.heap.size A0 A1 A2 A3 A4 A5 q0 q1 q2 q3 q4 q5 l) := hb0
    have HB0 := hide hB0
    have c0 := cellOf hb0 0; have c1 := cellOf hb0 1; have c2 := cellOf hb0 2; have c3 := cellOf hb0 3; have c4 := cellOf hb0 4; have c5 := cellOf hb0 5
    have hlb := box_lt hb0
    clear hw0 hb0 hB0 hs0
    go_wp2_with (go_at_call 62; refine (Check_any A0 A1 A2 A3 A4 A5 q0 q1 q2 q3 q4 q5 l _ HS.out (H.out.up HB0.out)).mono ?_; rw [HER.out]; rintro e w1 ⟨rfl, hB1⟩; have HL1 := hide (HL0.out.to hB1); have HB1 := hide (Below.to HB0.out hB1 (Nat.le_refl _)); clear hB1 c0 c1 c2 c3 c4 c5 hlb; have c0 := cellOf HL1.out 0; have c1 := cellOf HL1.out 1; have c2 := cellOf HL1.out 2; have c3 := cellOf HL1.out 3; have c4 := cellOf HL1.out 4; have c5 := cellOf HL1.out 5; have hlb := box_lt HL1.out)
    go_ret2
    exact ⟨_, rfl, Sl.nil _ _ _ _, HB1.out⟩
  case pos =>
  have hp := copE_yes her hxl
  obtain ⟨LR, hLR⟩ : ∃ z, belL l x = z := ⟨_, rfl⟩
  rw [hp.1, hp.2, hLR]
  have HLR := hide hLR
  clear hLR
  have n1 : ((x.length : Int) != (l.m.opts.length : Int)) = false := by simp; omega
  have HXL := hide hxl
  have ok := Lo.err_ok her
  have OK := hide ok
  have h60 := ok.w60
  have HMO := hide ok.m
  clear her hxl hp ok
  go_enter Tryz.func93, Tryz.ntmps93
  go_upto_region 1 with (fail)
  generalize hw0 : World.alloc _ _ = w0
  obtain ⟨hb0, hB0, hs0⟩ := alloc1 hw0
  have HL0 : Hid (LoBox w0 w.heap.size A0 A1 A2 A3 A4 A5 q0 q1 q2 q3 q4 q5 l) := hb0
  have HB0 := hide hB0
  have c0 := cellOf hb0 0; have c1 := cellOf hb0 1; have c2 := cellOf hb0 2; have c3 := cellOf hb0 3; have c4 := cellOf hb0 4; have c5 := cellOf hb0 5
  have hlb := box_lt hb0
  clear hw0 hb0 hB0 hs0
  go_upto_region 4 with (go_at_call 62; refine (Check_any A0 A1 A2 A3 A4 A5 q0 q1 q2 q3 q4 q5 l _ HS.out (H.out.up HB0.out)).mono ?_; rw [HER.out]; rintro e w1 ⟨rfl, hB1⟩; have HL1 := hide (HL0.out.to hB1); have HB1 := hide (Below.to HB0.out hB1 (Nat.le_refl _)); clear hB1 c0 c1 c2 c3 c4 c5 hlb; have c0 := cellOf HL1.out 0; have c1 := cellOf HL1.out 1; have c2 := cellOf HL1.out 2; have c3 := cellOf HL1.out 3; have c4 := cellOf HL1.out 4; have c5 := cellOf HL1.out 5; have hlb := box_lt HL1.out)
  obtain ⟨W1, hW1⟩ : ∃ wo : World, wo = w1 := ⟨_, rfl⟩
  subst hW1
  go_wp2_with fail
  clear c0 c1 c2 c3 c4 c5 hlb
  go_loopw [4, 7, 8, 24] (fun sv _ _ i wr => ∃ (k : Nat) (L : List Nat), i = .int .i64 k ∧ k ≤ l.ws.length ∧ L.length ≤ k ∧ Hid (belK l x k = L) ∧ Hid (wr.ownsRow W1.heap.size 3 1 sv L.length (L.map fun (n : Nat) => Value.int .i64 n)) ∧ Hid (Below W1.heap.size W1 wr)) (fun _ _ _ i _ => l.ws.length - (intOf i).toNat)
  case atStart => exact ⟨0, [], rfl, Nat.zero_le _, Nat.le_refl _, rfl, World.ownsRow_nil _ _ _ _, Below.refl _ _⟩
  case round =>
    obtain ⟨k, L, rfl, hk, hLk, HL, HO, HB⟩ := hrel
    obtain ⟨A9, q9, hv9⟩ := owns_form HO.out
    subst hv9
    by_cases hkl : k < l.ws.length
    case neg =>
      have hkl1 : ¬ (k : Int) < (l.ws.length : Int) := by omega
      have hLL : LR = L := by rw [← HL.out, ← HLR.out]; unfold belL; rw [show l.ws.length = k by omega]
      subst hLL
      clear hkl
      go_wp2_with fail
      go_ret2
      exact ⟨_, rfl, Nods.of_own HO.out, Below.to HB1.out HB.out (Nat.le_refl _)⟩
    case pos =>
    have hkl1 : (k : Int) < (l.ws.length : Int) := by omega
    have ik0 : (0 : Int) ≤ (k : Int) := by omega
    have HBr := hide (Below.to HB1.out HB.out (Nat.le_refl _))
    obtain ⟨bw, ow, d, Af, qf, HX7, hA5, hbw, hq5, HF, e0, e1, e2, e3, e4, e5, e6⟩ := H.out.wi hkl
    subst hA5
    have lbw : bw < wr.heap.size := Nat.lt_of_lt_of_le hbw HBr.out.size
    have iq5 : (l.ws.length : Int) ≤ (q5 : Int) := by omega
    have hfx : fmW l k = d.form := by unfold fmW; rw [HX7.out]
    have hxv := (LoOk.wi OK.out hkl).2
    rw [HX7.out] at hxv
    have hxl := (HS.out.wn (l.ws.getD k Wi.o) (getD_mem7 hkl)).2
    rw [HX7.out] at hxl
    have HVD := hide hxv
    have HDL := hide hxl
    have hps := belK_succ l x k
    rw [HL.out, hfx] at hps
    have hLl : L.length ≤ 60 := by omega
    have g0 := (HBr.out.cell (p := ⟨bw, ow + k * 7, none⟩) hbw).trans e0
    have g1 := (HBr.out.cell (p := ⟨bw, ow + k * 7 + 1, none⟩) hbw).trans e1
    have g2 := (HBr.out.cell (p := ⟨bw, ow + k * 7 + 2, none⟩) hbw).trans e2
    have g3 := (HBr.out.cell (p := ⟨bw, ow + k * 7 + 3, none⟩) hbw).trans e3
    have g4 := (HBr.out.cell (p := ⟨bw, ow + k * 7 + 4, none⟩) hbw).trans e4
    have g5 := (HBr.out.cell (p := ⟨bw, ow + k * 7 + 5, none⟩) hbw).trans e5
    have g6 := (HBr.out.cell (p := ⟨bw, ow + k * 7 + 6, none⟩) hbw).trans e6
    clear e0 e1 e2 e3 e4 e5 e6 hq5 hxv hxl hfx
    go_upto_region 9 with (fail)
    generalize hw3 : World.alloc _ _ = w3
    obtain ⟨hb3, hB3, hs3⟩ := alloc1 hw3
    have m6 := cellOf hb3 6
    have lm := box_lt hb3
    have HLr3 := hide (HL1.out.to (Below.to HB.out hB3 (Nat.le_refl _)))
    have c0 := cellOf HLr3.out 0; have c1 := cellOf HLr3.out 1; have c2 := cellOf HLr3.out 2; have c3 := cellOf HLr3.out 3; have c4 := cellOf HLr3.out 4; have c5 := cellOf HLr3.out 5
    have hlb := box_lt HLr3.out
    have HO3 := hide (owns_below HO.out hB3)
    have HB3 := hide (Below.to HB.out hB3 (Nat.le_refl _))
    have HBr3 := hide (Below.to HB1.out HB3.out (Nat.le_refl _))
    clear hw3 hb3 hB3 hs3 g0 g1 g2 g3 g4 g5 g6 lbw
    cases hc : evF1 (vf x) d.form with
    | true =>
      rw [hc, if_pos rfl] at hps
      have HC := hide hc
      have HPS := hide hps
      clear hps hc
      go_wp2_with (first | (go_at_call 85; refine (bholds_any d.form x Af qf _ _ _ _ _ _ _ _ _ _ _ _ _ l w3 HS.out HDL.out (H.out.up HBr3.out) (HF.out.up HBr3.out) (Sl.up HX.out HBr3.out) HMO.out HVD.out HXL.out).mono ?_; rw [HC.out]; rintro e w4 ⟨rfl, hB4⟩; have HO4 := hide (owns_below HO3.out hB4); have HB4 := hide (Below.to HB3.out hB4 (Nat.le_refl _)); clear hB4 c0 c1 c2 c3 c4 c5 hlb m6 lm) | (at_builtin; go_must (refine wpList_append_own_at _ rfl (.tmp 34) (.tmp 36) _ rfl (W1.heap.size) 3 i0 _ 1 8 Tryz.underlying45 hi0 iz0 iz1 iz2 rfl (by omega) _ _ _ rfl ((HO4.out).alloc _) ⟨w4.heap.size, 0, none⟩ 1 1 [.int .i64 (k : Nat)] rfl rfl (World.news_of_block (heap_alloc_new w4 _)) (by simp [Value.oneCell']) (by have h1 := hLl; unfold maxLen; omega) (by have h1 := hLl; omega) (by have h1 := HB4.out.size; simp; omega) ?_); intro v1 w3 hown1 hg1 _ hat1; have HO5 := hide hown1; have HB5 := hide (Below.grown (Below.allocT HB4.out (Nat.le_refl _) _) hg1 (by have := HB4.out.size; simp; omega) (fun j hj => (HO4.out.lt j hj).1)); clear hown1 hg1 hat1))
      go_roundw
      case rel => exact ⟨k + 1, L ++ [k], by go_num, by omega, by simp; omega, HPS, by
          have := HO5.out
          rw [List.map_append, List.length_append, List.length_singleton]
          exact this, HB5⟩
      case measure => simp [intOf]; omega
    | false =>
      rw [hc, if_neg (by simp)] at hps
      have HC := hide hc
      have HPS := hide hps
      clear hps hc
      go_wp2_with (go_at_call 85; refine (bholds_any d.form x Af qf _ _ _ _ _ _ _ _ _ _ _ _ _ l w3 HS.out HDL.out (H.out.up HBr3.out) (HF.out.up HBr3.out) (Sl.up HX.out HBr3.out) HMO.out HVD.out HXL.out).mono ?_; rw [HC.out]; rintro e w4 ⟨rfl, hB4⟩; have HO4 := hide (owns_below HO3.out hB4); have HB4 := hide (Below.to HB3.out hB4 (Nat.le_refl _)); clear hB4 c0 c1 c2 c3 c4 c5 hlb m6 lm)
      go_roundw
      case rel => exact ⟨k + 1, L, by go_num, by omega, by omega, HPS, HO4, HB4⟩
      case measure => simp [intOf]; omega
end Go.Proofs.YtehadoecnmfeoaaGreat
/- Nets of wires (the elder): walk. -/
namespace Go.Proofs.YtehadoecnmfeoaaGreat
open Go.RowKit
set_option linter.unusedVariables false
set_option linter.unusedSimpArgs false
/-- The pins of a wire. -/
def wirP (l : Lo) (i : Nat) : Pn × Pn := (((l.ws.getD i Wi.o).fp, (l.ws.getD i Wi.o).fc), ((l.ws.getD i Wi.o).tp, (l.ws.getD i Wi.o).tc))
def esL (l : Lo) (is : List Nat) : List (Pn × Pn) := is.map (wirP l)
theorem NetS.empty (w : World) (b0 B : Nat) : NetS w b0 B (.slice none 0 0) [] [] where
  own := World.ownsRow_nil _ _ _ _
  len := rfl
  low := fun j hj => nomatch hj
  row := fun i hi => absurd (show i < 0 from hi) (by omega)
  small := fun i hi => absurd (show i < 0 from hi) (by omega)
theorem esL_succ {l : Lo} {is : List Nat} {k x : Nat} (hk : k < is.length) (hx : is.getD k 0 = x) : esL l (is.take (k + 1)) = esL l (is.take k) ++ [wirP l x] := by
  unfold esL
  rw [List.take_add_one, List.map_append, List.getElem?_eq_getElem hk]
  rw [List.getD_eq_getElem?_getD, List.getElem?_eq_getElem hk] at hx
  have hx' : is[k] = x := hx
  rw [hx']
  rfl
theorem esL_len (l : Lo) (is : List Nat) (k : Nat) : (esL l (is.take k)).length ≤ is.length := by
  unfold esL
  rw [List.length_map, List.length_take]
  omega
/-- Two neighbours of the row change places. -/
theorem NetS.swap {w w' : World} {b0 B g n q : Nat} {o : List (List Pn)} {vs : List Value} (h : NetS w b0 B (.slice (some ⟨g, 0, none⟩) n q) o vs) {j : Nat} (hj : j < o.length) (h0 : 0 < j)
    (hown : w'.ownsRow b0 86 1 (.slice (some ⟨g, 0, none⟩) n q) o.length (swapL undef vs j)) (hg : w.grownBy w' (some g)) : NetS w' b0 B (.slice (some ⟨g, 0, none⟩) n q) (swapL [] o j) (swapL undef vs j) := by
  have hl := h.len
  obtain ⟨C, hC⟩ : ∃ C, w.heap[g]? = some (.cells C 86 (0, 0)) := by
    rcases h.own.2 with ⟨h', _⟩ | ⟨g', cap', cur, h', _, hg', _⟩
    · cases h'
    · injection h' with e1
      injection e1 with e1
      injection e1 with e1
      subst e1
      exact ⟨cur, hg'⟩
  have key : ∀ i, i < o.length → ∃ m, m < o.length ∧ (swapL [] o j).getD i [] = o.getD m [] ∧ (swapL undef vs j).getD i undef = vs.getD m undef := fun i hi => by
    rw [swapL_at hj h0, swapL_at (by omega) h0]
    by_cases h1 : i = j - 1
    · rw [if_pos h1, if_pos h1]
      exact ⟨j, hj, rfl, rfl⟩
    · rw [if_neg h1, if_neg h1]
      by_cases h2 : i = j
      · rw [if_pos h2, if_pos h2]
        exact ⟨j - 1, by omega, rfl, rfl⟩
      · rw [if_neg h2, if_neg h2]
        exact ⟨i, hi, rfl, rfl⟩
  refine ⟨by rw [swapL_len]; exact hown, by rw [swapL_len, swapL_len]; exact hl, h.low, fun i hi => ?_, fun i hi => ?_⟩
  · rw [swapL_len] at hi
    obtain ⟨m, h1, h2, h3⟩ := key i hi
    rw [h2, h3]
    obtain ⟨h4, h5⟩ := h.row m h1
    exact ⟨owns_grown h4 hg hC (by decide), h5⟩
  · rw [swapL_len] at hi
    obtain ⟨m, h1, h2, _⟩ := key i hi
    rw [h2]
    exact h.small m h1
/-- A net of the row and its first pin, in memory. -/
theorem NetS.firstAt {w : World} {b0 B n q : Nat} {A : Option Addr} {o : List (List Pn)} {vs : List Value} (h : NetS w b0 B (.slice A n q) o vs) (hi : ∀ net ∈ o, net ≠ []) {k : Nat} (hk : k < o.length) : ∃ g g1 n1 c1, A = some ⟨g, 0, none⟩ ∧ g < w.heap.size ∧ o.length ≤ q ∧ w.cell? ⟨g, k, none⟩ = some (.slice (some ⟨g1, 0, none⟩) n1 c1) ∧ vs.getD k undef = .slice (some ⟨g1, 0, none⟩) n1 c1 ∧ 0 < n1 ∧ n1 ≤ c1 ∧ g1 < w.heap.size ∧
    w.cell? ⟨g1, 0, none⟩ = some (.int .i64 (hdP (o.getD k [])).1) ∧ w.cell? ⟨g1, 1, none⟩ = some (.int .i64 (hdP (o.getD k [])).2) := by
  obtain ⟨g, Ai, qi, net, HN, hA, lg, hq, hl, hv, hc, hp⟩ := h.at hk
  have hm : o.getD k [] ∈ o := by
    rw [List.getD_eq_getElem?_getD, List.getElem?_eq_getElem hk]
    exact List.getElem_mem hk
  have hne := hi _ hm
  have hrow := (h.row k hk).1
  rw [hv] at hrow
  have hpos : 0 < (o.getD k []).length := List.length_pos_iff.2 hne
  obtain ⟨g1, a, HA, hA1, _, hg1, hn1, hq1, c0, c1, _⟩ := own_pn hrow hpos
  subst hA1
  have e : (o.getD k []).getD 0 (0, 0) = hdP (o.getD k []) := by
    unfold hdP
    cases o.getD k [] <;> rfl
  have e2 := HA.out
  rw [e] at e2
  rw [e2]
  exact ⟨g, g1, _, qi, hA, lg, hq, hc, hv, by omega, by omega, hg1, by simpa using c0, by simpa using c1⟩
end Go.Proofs.YtehadoecnmfeoaaGreat
/- Nets of wires (the younger): walk. -/
namespace Go.Proofs.YtehadoecnmfeoaaGreat
open Go.RowKit
set_option linter.unusedVariables false
set_option linter.unusedSimpArgs false
theorem NetS.append {wX w3 : World} {b0 B : Nat} {v v1 x : Value} {o : List (List Pn)} {vs : List Value} {net : List Pn} {ob : Obj} (h : NetS wX b0 B v o vs) (hx : wX.ownsRow b0 74 2 x net.length (rowV pnE net)) (hown : w3.ownsRow b0 86 1 v1 (vs.length + 1) (vs ++ [x])) (hg : (wX.alloc ob).grownBy w3 v.ownBlock) (hn : net.length ≤ 100000) :
    NetS w3 b0 w3.heap.size v1 (o ++ [net]) (vs ++ [x]) := by
  have ha : Below wX.heap.size wX (wX.alloc ob) := (Below.refl _ _).alloc (Nat.le_refl _) _
  have ho := owns_below h.own ha
  have key : ∀ {n : Nat} {u : Value} {c : List Value}, wX.ownsRow b0 74 2 u n c → w3.ownsRow b0 74 2 u n c := fun h1 => owns_other (owns_below h1 ha) ho (by decide) hg
  refine NetS.snoc hown h.len (fun j hj => (hown.lt j hj).2) (fun i hi => ?_) h.small (key hx) (fun j hj => ((key hx).lt j hj).2) hn
  have h1 := key (h.row i hi).1
  exact ⟨h1, fun j hj => (h1.lt j hj).2⟩
theorem NetS.base {w : World} {b0 b1 B : Nat} {v : Value} {o : List (List Pn)} {vs : List Value} (h : NetS w b0 B v o vs) (hb : b1 ≤ b0) : NetS w b1 B v o vs :=
  ⟨owns_base h.own hb, h.len, h.low, fun i hi => ⟨owns_base (h.row i hi).1 hb, (h.row i hi).2⟩, h.small⟩
theorem row_of_lit {w : World} {B e n size g : Nat} {cs : List Value} (hb : w.heap[g]? = some (.cells cs.toArray e (0, 0))) (hB : B ≤ g) (hm : n ≤ maxLen) (hs : cs.length = n * size) : w.ownsRow B e size (.slice (some ⟨g, 0, none⟩) n n) n cs :=
  ⟨hs, .inr ⟨g, n, _, rfl, hB, hb, Nat.le_refl _, hm, by simpa using hs, by simp [← hs]⟩⟩
set_option maxRecDepth 100000 in
set_option maxHeartbeats 8000000 in
theorem nets_any (is : List Nat) (v : Value) (A0 A1 A2 A3 A4 A5 : Option Addr) (q0 q1 q2 q3 q4 q5 : Nat) (l : Lo) (w : World) (h : LoA w w.heap.size A0 A1 A2 A3 A4 A5 q0 q1 q2 q3 q4 q5 l) (hin : ∀ i ∈ is, i < l.ws.length) (hl : is.length ≤ 100) (hw60 : l.ws.length ≤ 1000) (hv : Nods w w.heap.size v is) :
    Calls Tryz.prog 113 #[.agg #[.slice A0 l.m.opts.length q0, .slice A1 l.m.rules.length q1, .slice A2 l.ss.length q2, .slice A3 l.us.length q3, .slice A4 l.ps.length q4, .slice A5 l.ws.length q5], v] w (JoiP w.heap.size (netL (esL l is)) w) := by
  obtain ⟨i1, hi1, jz0, jz1, jz2⟩ := info_parts infoNet
  obtain ⟨Av, qv, rfl⟩ := hv.form
  have H := hide h
  have HV := hide hv
  have HIN := hide hin
  clear h hv hin
  go_enter Tryz.func113, Tryz.ntmps113
  go_upto_region 1 with (fail)
  generalize hw0 : World.alloc _ _ = w0
  obtain ⟨hb0, hB0, hs0⟩ := alloc1 hw0
  have HL0 : Hid (LoBox w0 w.heap.size A0 A1 A2 A3 A4 A5 q0 q1 q2 q3 q4 q5 l) := hb0
  have HB0 := hide hB0
  obtain ⟨lb, hlb⟩ : ∃ z, w.heap.size = z := ⟨_, rfl⟩
  rw [hlb] at HL0 ⊢
  have HLB := hide hlb
  have HLL : Hid (lb < w0.heap.size) := by rw [← hlb]; have := box_lt hb0; exact this
  clear hw0 hb0 hB0 hs0 hlb
  obtain ⟨W0, hW0⟩ : ∃ wo : World, wo = w0 := ⟨_, rfl⟩
  subst hW0
  go_wp2_with fail
  go_loopw [4, 11] (fun ov iv wr => ∃ (k : Nat) (vs : List Value), iv = .int .i64 k ∧ k ≤ is.length ∧ Hid (k = 0 → ov = .slice none 0 0) ∧ Hid (NetS wr W0.heap.size wr.heap.size ov (netU (esL l (is.take k))) vs) ∧ Hid (Below W0.heap.size W0 wr)) (fun _ iv _ => is.length - (intOf iv).toNat)
  case atStart => exact ⟨0, [], rfl, Nat.zero_le _, fun _ => rfl, NetS.empty _ _ _, Below.refl _ _⟩
  case round =>
    obtain ⟨k, vs, rfl, hk, HK0, HN, HBr⟩ := hrel
    obtain ⟨Ao, qo, e⟩ := owns_form HN.out.own
    subst e
    by_cases hlt : k < is.length
    case pos =>
      have hlt1 : (k : Int) < (is.length : Int) := by omega
      have ik0 : (0 : Int) ≤ (k : Int) := by omega
      obtain ⟨bi, oi, x, hxi, HX, hAi, hbi, hqi, ci⟩ : ∃ bi oi x, x < l.ws.length ∧ Hid (is.getD k 0 = x) ∧ Av = some ⟨bi, oi, none⟩ ∧ bi < wr.heap.size ∧ is.length ≤ qv ∧ wr.cell? ⟨bi, oi + k, none⟩ = some (.int .i64 (x : Nat)) := by
        obtain ⟨h1, h2, b, off, h3, h4, h5⟩ := sl_at (Sl.up HV.out (Below.trans HB0.out (HBr.out.mono HB0.out.size))) hlt
        refine ⟨b, off, _, HIN.out _ (by rw [List.getD_eq_getElem?_getD, List.getElem?_eq_getElem hlt]; exact List.getElem_mem hlt), rfl, h3, h4, by omega, ?_⟩
        have h6 := h5 0 (by omega)
        simpa using h6
      subst hAi
      have hxw : (x : Int) < (l.ws.length : Int) := by omega
      have hx0 : (0 : Int) ≤ (x : Int) := by omega
      have hxw2 : x < l.ws.length := hxi
      have HLr := hide (HL0.out.to HBr.out)
      have c0 := cellOf HLr.out 0; have c1 := cellOf HLr.out 1; have c2 := cellOf HLr.out 2; have c3 := cellOf HLr.out 3; have c4 := cellOf HLr.out 4; have c5 := cellOf HLr.out 5
      have hlb := box_lt HLr.out
      obtain ⟨b5, o5, y, Af, qf, HY, hA5, hb5, hq5, HYF, y0, y1, y2, y3, y4, y5, y6⟩ := (H.out.up (Below.trans HB0.out (HBr.out.mono HB0.out.size))).wi hxi
      subst hA5
      have iq5 : (l.ws.length : Int) ≤ (q5 : Int) := by omega
      have iqv : (is.length : Int) ≤ (qv : Int) := by omega
      clear hqi hq5 hxi
      go_upto_region 6 with (fail)
      generalize hw7 : World.alloc _ _ = w7
      obtain ⟨hx7, hr7, hj7, hB7, hs7⟩ := alloc3x hw7
      obtain ⟨wb, hwb⟩ : ∃ z, wr.heap.size = z := ⟨_, rfl⟩
      obtain ⟨rb, hrb⟩ : ∃ z, wr.heap.size + 1 = z := ⟨_, rfl⟩
      obtain ⟨jb, hjb⟩ : ∃ z, wr.heap.size + 1 + 1 = z := ⟨_, rfl⟩
      have hj7' : w7.heap[jb]? = some (.cells #[.slice (some ⟨rb, 0, none⟩) 2 2] 86 (0, 0)) := by
        rw [← hjb, ← hrb]
        exact hj7
      have hx7' : w7.heap[wb]? = some (.cells #[.string y.name, .int .i64 y.fp, .int .i64 y.fc, .int .i64 y.tp, .int .i64 y.tc, .int .i64 y.size, .slice Af y.form.length qf] 76 (0, 0)) := by
        rw [← hwb]
        exact hx7
      have hrow : w7.ownsRow wr.heap.size 74 2 (.slice (some ⟨rb, 0, none⟩) 2 2) 2 (rowV pnE [(y.fp, y.fc), (y.tp, y.tc)]) := by
        refine row_of_lit (g := rb) (by rw [← hrb]; exact hr7) (by omega) (by unfold maxLen; omega) rfl
      rw [hjb, hwb]
      have HX7 := hide hx7'
      have HJ7 := hide hj7'
      have HR7 := hide hrow
      have HB7 := hide hB7
      have HWB : Hid (wr.heap.size ≤ wb) := by show _ ≤ _; omega
      have HJB : Hid (wr.heap.size ≤ jb) := by show _ ≤ _; omega
      clear hw7 hx7 hr7 hj7 hB7 hs7 hx7' hj7' hrow hwb hrb hjb c0 c1 c2 c3 c4 c5 hlb y0 y1 y2 y3 y4 y5 y6 ci hbi hb5
      obtain ⟨o, ho⟩ : ∃ z, netU (esL l (is.take k)) = z := ⟨_, rfl⟩
      have hol : o.length ≤ 1000 := by
        rw [← ho]
        have h1 := netU_len (esL l (is.take k))
        have h2 := esL_len l is k
        omega
      have htt : totN o ≤ 2000 := by
        rw [← ho]
        have h1 := netU_tot (esL l (is.take k))
        have h2 := esL_len l is k
        omega
      have HNI : Hid (NetI o) := by show NetI _; rw [← ho]; exact netU_i _
      have HNX : Hid (netU (esL l (is.take (k + 1))) = joiL o (y.fp, y.fc) (y.tp, y.tc)) := by
        show _ = _
        rw [esL_succ hlt HX.out, netU_snoc, ho]
        unfold wirP
        rw [HY.out]
      rw [ho] at HN ⊢
      have HN7 := hide (HN.out.to HB7.out)
      have HB07 : Hid (Below W0.heap.size W0 w7) := Below.to HBr.out HB7.out (Nat.le_refl _)
      have HW0 : Hid (W0.heap.size ≤ wr.heap.size) := HBr.out.size
      have HJK : Hid (∀ m, m ≤ o.length → (jonK [(y.fp, y.fc), (y.tp, y.tc)] (y.fp, y.fc) (y.tp, y.tc) o m).length ≤ 100000) := fun m hm => by
        have h1 := jonK_le [(y.fp, y.fc), (y.tp, y.tc)] (y.fp, y.fc) (y.tp, y.tc) o m hm
        have h2 := take_tot o m
        simp only [List.length_cons, List.length_nil] at h1
        omega
      have hbl : (bothL o (y.fp, y.fc) (y.tp, y.tc)).length ≤ 2000 := by
        have h1 := totN_split (touB (y.fp, y.fc) (y.tp, y.tc)) o
        have h2 : (bothL o (y.fp, y.fc) (y.tp, y.tc)).length = totN (o.filter (touB (y.fp, y.fc) (y.tp, y.tc))) := rfl
        omega
      have hfl : (o.filter fun n => !touB (y.fp, y.fc) (y.tp, y.tc) n).length ≤ 1000 := Nat.le_trans (List.length_filter_le _ _) hol
      clear ho htt
      go_upto_region 7 with (go_at_call 181; refine (deleteNets_any [(y.fp, y.fc), (y.tp, y.tc)] (y.fp, y.fc) (y.tp, y.tc) o vs Ao qo _ _ _ _ wb jb W0.heap.size wr.heap.size w7 HX7.out HJ7.out HR7.out HN7.out HJK.out (by omega) HB7.out.size HJB.out HWB.out HW0.out).mono ?_; rintro e w8 ⟨v8, vs8, jv8, rfl, hN8, hJ8, hR8, hB8, _⟩; have HN8 := hide hN8; have HJ8 := hide hJ8; have HR8 := hide hR8; have HB8 := hide (Below.trans HB07.out (hB8.mono (Nat.le_refl _))); clear hN8 hJ8 hR8 hB8)
      obtain ⟨F, hF⟩ : ∃ z, (o.filter fun n => !touB (y.fp, y.fc) (y.tp, y.tc) n) = z := ⟨_, rfl⟩
      obtain ⟨J, hJ⟩ : ∃ z, [(y.fp, y.fc), (y.tp, y.tc)] ++ bothL o (y.fp, y.fc) (y.tp, y.tc) = z := ⟨_, rfl⟩
      rw [hF] at HN8 hfl
      rw [hJ] at HR8
      have hJl : J.length ≤ 2002 ∧ 2 ≤ J.length := by rw [← hJ]; simp; omega
      obtain ⟨A8, q8, e8⟩ := owns_form HN8.out.own
      subst e8
      obtain ⟨Aj, qj, e8⟩ := owns_form HR8.out
      subst e8
      have HF := hide hF
      have HJE := hide hJ
      obtain ⟨g8, _, hz1, hA8, hz2⟩ := own_pn HR8.out (k := 0) (by omega)
      subst hA8
      have y0 := cellOf HJ8.out 0
      have ly := box_lt HJ8.out
      have HJL := hide hJl
      clear hF hJ hz1 hz2 hbl
      go_upto_region 8 with (go_at_call 183; refine (sortPins_own J wr.heap.size _ w8 (by omega) HR8.out).mono ?_; rintro e w9 ⟨rfl, Q, hQp, hQs, hQo, hQg⟩; have HQP := hide hQp; have HQS := hide hQs; have HQO := hide hQo; have HQG := hide hQg; clear hQp hQs hQo hQg y0 ly)
      have hBr8 : wr.heap.size ≤ w8.heap.size := by
        have := (HR8.out.lt g8 rfl)
        omega
      have HQG2 : Hid (Below wr.heap.size w8 w9) := (Below.refl _ _).grown HQG.out hBr8 (fun q hq => (HR8.out.lt q hq).1)
      have HJ9 : Hid (w9.heap[jb]? = some (.cells #[.slice (some ⟨g8, 0, none⟩) J.length qj] 86 (0, 0))) := (HQG.out.block jb (box_lt HJ8.out) (fun e => ownsNot HR8.out HJ8.out (by decide) e.symm)).trans HJ8.out
      have HN9 := hide (HN8.out.to HQG2.out)
      have HB9 := hide (Below.trans HB8.out (HQG2.out.mono HW0.out))
      have hBr9 : wr.heap.size ≤ w9.heap.size := Nat.le_trans hBr8 HQG2.out.size
      have hQl : Q.length = J.length := HQP.out.length_eq
      have HQO2 : Hid (w9.ownsRow wr.heap.size 74 2 (.slice (some ⟨g8, 0, none⟩) Q.length qj) Q.length (rowV pnE Q)) := by
        show World.ownsRow _ _ _ _ _ _ _
        have h1 := HQO.out
        rw [hQl] at h1 ⊢
        exact h1
      have HCP : Hid (Calls Tryz.prog 185 #[.slice (some ⟨g8, 0, none⟩) J.length qj] w9 fun e w' => e = .returned (.slice (some ⟨g8, 0, none⟩) (cmpP Q).length qj) ∧
          w'.ownsRow wr.heap.size 74 2 (.slice (some ⟨g8, 0, none⟩) (cmpP Q).length qj) (cmpP Q).length (rowV pnE (cmpP Q)) ∧ Below wr.heap.size w9 w') := by
        have h1 := compactP_any Q wr.heap.size g8 qj w9 (by omega) (by omega) hBr9 HQO2.out
        rw [hQl] at h1
        exact h1
      have HCS : Hid (cmpP Q = sortU ((y.fp, y.fc) :: (y.tp, y.tc) :: bothL o (y.fp, y.fc) (y.tp, y.tc))) := cmpP_sort HQS.out (by rw [← HJE.out] at HQP; exact HQP.out)
      have HCL : Hid ((cmpP Q).length ≤ 100000) := by
        show _ ≤ _
        rw [cmpP_len]
        have := kepC_le Q Q.length
        omega
      have hvl : vs8.length ≤ 1000 := by rw [HN8.out.len]; exact hfl
      have z0 := cellOf HJ9.out 0
      have lz := box_lt HJ9.out
      have HFL := HN8.out.len
      clear hBr8 hQl hJl
      go_wp2_with (first | (go_at_call 185; refine HCP.out.mono ?_; rintro e wc ⟨rfl, hRc, hBc⟩; have HRc := hide hRc; have HNc := hide (HN9.out.to hBc); have HBc := hide (Below.trans HB9.out (hBc.mono HW0.out)); clear hRc hBc z0 lz) | (at_builtin; go_must (refine wpList_append_own_at _ rfl (.tmp 30) (.tmp 33) _ rfl (W0.heap.size) 86 i1 _ 1 24 Tryz.underlying82 hi1 jz0 jz1 jz2 rfl (by omega) _ _ _ rfl ((HNc.out.own).alloc _) ⟨wc.heap.size, 0, none⟩ 1 1 [.slice (some ⟨g8, 0, none⟩) (cmpP Q).length qj] rfl rfl (World.news_of_block (heap_alloc_new wc _)) (by simp [Value.oneCell']) (by have h1 := hfl; unfold maxLen; omega) (by have h1 := hfl; omega) (by have h1 := HBc.out.size; simp; omega) ?_); intro v1 w3 hown1 hg1 _ hat1; obtain ⟨A9, q9, e2⟩ := owns_form hown1; subst e2; have HO3 := hide hown1; have HG3 := hide hg1; clear hown1 hg1 hat1))
      have HN3 : Hid (NetS w3 W0.heap.size w3.heap.size (.slice A9 (F.length + 1) q9) (netU (esL l (is.take (k + 1)))) (vs8 ++ [.slice (some ⟨g8, 0, none⟩) (cmpP Q).length qj])) := by
        show NetS _ _ _ _ _ _
        have h1 : joiL o (y.fp, y.fc) (y.tp, y.tc) = F ++ [cmpP Q] := by
          rw [HCS.out, ← HF.out]
          rfl
        rw [HNX.out, h1]
        refine NetS.append HNc.out (owns_base HRc.out HW0.out) ?_ HG3.out HCL.out
        have h2 := HO3.out
        rw [← HFL] at h2
        rw [← HFL]
        exact h2
      have HB3 : Hid (Below W0.heap.size W0 w3) := own_low HBc.out HNc.out.own (Nat.le_refl _) HG3.out
      go_roundw
      case rel => exact ⟨k + 1, _, by go_num, by omega, fun h => absurd h (by omega), HN3.out, HB3.out⟩
      case measure => simp [intOf]; omega
    case neg =>
      have hlt1 : ¬ (k : Int) < (is.length : Int) := by omega
      have hkk : is.take k = is := List.take_of_length_le (by omega)
      rw [hkk] at HN HK0 ⊢
      have hki : k = is.length := by omega
      obtain ⟨o, ho⟩ : ∃ z, netU (esL l is) = z := ⟨_, rfl⟩
      have hol : o.length ≤ 1000 := by
        rw [← ho]
        have h1 := netU_len (esL l is)
        have h2 := esL_len l is is.length
        rw [List.take_length] at h2
        omega
      have HNI : Hid (NetI o) := by show NetI _; rw [← ho]; exact netU_i _
      have HNL : Hid (netL (esL l is) = sortN o) := by show _ = _; unfold netL; rw [ho]
      have HNE : Hid (is ≠ [] → o ≠ []) := fun hne => by
        rw [← ho]
        have h1 : is = is.take (is.length - 1) ++ [is.getD (is.length - 1) 0] := by
          have h2 : 0 < is.length := List.length_pos_iff.2 hne
          conv => lhs; rw [← List.take_append_drop (is.length - 1) is]
          congr 1
          rw [List.drop_eq_getElem_cons (by omega), List.drop_eq_nil_of_le (by omega), List.getD_eq_getElem?_getD, List.getElem?_eq_getElem (by omega)]
          rfl
        rw [h1]
        unfold esL
        rw [List.map_append, List.map_cons, List.map_nil, netU_snoc]
        unfold joiL
        simp
      rw [ho] at HN HK0 ⊢
      have HBW := hide (Below.trans HB0.out (HBr.out.mono HB0.out.size))
      have HKI := hide hki
      clear ho hkk hki
      by_cases his : is = []
      · have h0 := HK0.out (by rw [HKI.out, his]; rfl)
        have h1 : o = [] := by
          have h2 := HNL.out
          rw [his] at h2
          have h3 : netL (esL l []) = [] := rfl
          rw [h3] at h2
          cases ho2 : o with
          | nil => rfl
          | cons a r =>
            have h4 : a ∈ sortN o := sortN_mem.2 (by rw [ho2]; simp)
            rw [← h2] at h4
            cases h4
        have HR0 : Hid (JoiP w.heap.size (netL (esL l is)) w (.returned (.slice none 0 0)) wr) := by
          refine ⟨_, [], rfl, ?_, HBW.out⟩
          rw [HNL.out, h1]
          exact NetS.empty _ _ _
        have hso : Hid (Calls Tryz.prog 186 #[.slice none 0 0, .func (.func 187) #[] #[]] wr fun e w' => e = .returned (.tuple #[]) ∧ w' = wr) := AnyF.slices_SortFunc_none sfLays_f186b none 0 (.func (.func 187) #[] #[]) wr
        rw [h0] at HN ⊢
        clear h0 h1
        have h00 : (o.length : Int) = (o.length : Int) := rfl
        clear h00
        go_wp2_with (go_at_call 186; refine hso.out.mono ?_; rintro e w9 ⟨rfl, rfl⟩)
        go_ret
        exact HR0.out
      · have hne := HNE.out his
        have HSO := hide (sortNets_own o vs _ W0.heap.size wr HN.out HNI.out hne (by omega))
        have HIS := hide his
        clear his hne
        go_wp2_with (go_at_call 186; refine HSO.out.mono ?_; rintro e w9 ⟨rfl, ⟨vs9, hN9⟩, hB9⟩; have HN9 := hide hN9; have HB9 := hide hB9; clear hN9 hB9)
        go_ret
        refine ⟨_, vs9, rfl, ?_, ?_⟩
        · rw [HNL.out]
          exact HN9.out.base HB0.out.size
        · exact Below.trans HBW.out ((HB9.out HBr.out.size).mono HB0.out.size)
end Go.Proofs.YtehadoecnmfeoaaGreat

/- Part 43 of this claim's texts: walks and plain laws. -/
import Derived.Test.YtehadoecnmfeoaaGreatRows
import Derived.Test.YtehadoecnmfeoaaGreatGBC39
import Derived.Test.YtehadoecnmfeoaaGreatGBC41
import Derived.Test.YtehadoecnmfeoaaGreatGBC42
import Derived.Laws.EntriesVeiled
import Derived.Deep.DeepMust
import Derived.Deep.RegionHeld3
import Derived.Deep.DrawnRows
import Derived.Test.YtehadoecnmfeoaaGreatGBC3
/- What has to be cut (the elder): walk. -/
namespace Go.Proofs.YtehadoecnmfeoaaGreat
open Go.RowKit
set_option linter.unusedVariables false
set_option linter.unusedSimpArgs false
theorem ct_set {O : List Ct} {j : Nat} (hj : j < O.length) (c : Int) : (rowV ctE O).set (j * 3 + 1 + 1) (.int .i64 c) = rowV ctE (O.set j ⟨(O.getD j Ct.o).s, (O.getD j Ct.o).n, c⟩) := by
  rw [← rowV_set ctE_len hj]
  have g0 : (rowV ctE O)[j * 3]? = some (.int .i64 (O.getD j Ct.o).s) := rowV_get (j := 0) ctE_len Ct.o hj (by omega)
  have g1 : (rowV ctE O)[j * 3 + 1]? = some (.int .i64 (O.getD j Ct.o).n) := rowV_get (j := 1) ctE_len Ct.o hj (by omega)
  show _ = (((rowV ctE O).set (j * 3) (.int .i64 (O.getD j Ct.o).s)).set (j * 3 + 1) (.int .i64 (O.getD j Ct.o).n)).set (j * 3 + 1 + 1) (.int .i64 c)
  rw [set_same g0, set_same g1]
theorem own_ct {w : World} {B e n q : Nat} {A : Option Addr} {L : List Ct} (h : w.ownsRow B e 3 (.slice A n q) L.length (rowV ctE L)) {k : Nat} (hk : k < L.length) : ∃ g a, Hid (L.getD k Ct.o = a) ∧ A = some ⟨g, 0, none⟩ ∧ B ≤ g ∧ g < w.heap.size ∧ n = L.length ∧ L.length ≤ q ∧
    w.cell? ⟨g, k * 3, none⟩ = some (.int .i64 a.s) ∧ w.cell? ⟨g, k * 3 + 1, none⟩ = some (.int .i64 a.n) ∧ w.cell? ⟨g, k * 3 + 1 + 1, none⟩ = some (.int .i64 a.c) ∧ (∀ j, w.frozen? ⟨g, j, none⟩ = false) := by
  have hh := h
  rcases hh.2 with ⟨_, hl⟩ | ⟨g, cap, cur, hv, hB, hg, hnc, _⟩
  · omega
  injection hv with e1 e2 e3
  subst e1 e2 e3
  have cellAt : ∀ j, j < 3 → w.cell? ⟨g, k * 3 + j, none⟩ = some (ctF (L.getD k Ct.o) j) := fun j hj => by
    have h2 := h.cellAt (k * 3 + j) (by have : (k + 1) * 3 ≤ L.length * 3 := Nat.mul_le_mul_right _ hk; omega)
    rw [rowV_get ctE_len Ct.o hk hj, ctE_get _ hj] at h2
    exact h2
  exact ⟨g, _, rfl, rfl, hB, box_lt hg, rfl, hnc, cellAt 0 (by omega), cellAt 1 (by omega), cellAt 2 (by omega), fun j => h.frozenAt j⟩
set_option maxRecDepth 100000 in
set_option maxHeartbeats 12000000 in
theorem rCuts_any (x : List Bool) (Ax : Option Addr) (qx : Nat) (A0 A1 A2 A3 A4 A5 : Option Addr) (q0 q1 q2 q3 q4 q5 : Nat) (l : Lo) (w : World) (hs : SizedL l) (h : LoA w w.heap.size A0 A1 A2 A3 A4 A5 q0 q1 q2 q3 q4 q5 l) (hx : Bols w w.heap.size (.slice Ax x.length qx) x) :
    Calls Tryz.prog 35 #[.agg #[.slice A0 l.m.opts.length q0, .slice A1 l.m.rules.length q1, .slice A2 l.ss.length q2, .slice A3 l.us.length q3, .slice A4 l.ps.length q4, .slice A5 l.ws.length q5], .slice Ax x.length qx] w (CutP (cutL l x) (copE l x) w) := by
  obtain ⟨i0, hi0, iz0, iz1, iz2⟩ := info_parts infoCut
  have H := hide h
  have HS := hide hs
  have HX := hide hx
  obtain ⟨er, her⟩ : ∃ z, copE l x = z := ⟨_, rfl⟩
  have hpc := pik_cop l x
  rw [her] at hpc
  have HER := hide hpc
  obtain ⟨R, hR⟩ : ∃ z, cutL l x = z := ⟨_, rfl⟩
  rw [hR, her]
  have HR := hide hR
  have hd0 : SizedD [] := ⟨by simp, fun _ h => absurd h (by simp)⟩
  have HD0 := hide hd0
  clear h hs hx hR hpc hd0
  by_cases h0 : er = 0
  case neg =>
    have hp := cutL_err (l := l) (x := x) (by rw [her]; exact h0)
    obtain rfl : R = [] := HR.out.symm.trans hp
    have hz1 : (er != 0) = true := by simpa using h0
    clear her h0 hp
    go_enter Tryz.func35, Tryz.ntmps35
    go_upto_region 1 with (fail)
    generalize hw0 : World.alloc _ _ = w0
    obtain ⟨hb0, hB0, hs0⟩ := alloc1 hw0
    have HB0 := hide hB0
    have c0 := cellOf hb0 0; have c1 := cellOf hb0 1; have c2 := cellOf hb0 2; have c3 := cellOf hb0 3; have c4 := cellOf hb0 4; have c5 := cellOf hb0 5
    have hlb := box_lt hb0
    clear hw0 hb0 hB0 hs0
    go_wp2_with (go_at_call 86; refine (rcheckVariant_any [] x none 0 Ax qx A0 A1 A2 A3 A4 A5 q0 q1 q2 q3 q4 q5 l _ HS.out HD0.out (H.out.up HB0.out) (Mods.nil _ _)).mono ?_; rw [HER.out]; rintro e w1 ⟨rfl, hB1⟩; have HB1 := hide (Below.to HB0.out hB1 (Nat.le_refl _)); clear hB1 c0 c1 c2 c3 c4 c5 hlb)
    go_ret2
    exact ⟨_, rfl, Sl.nil _ _ _ _, HB1.out⟩
  case pos =>
  subst h0
  have hp := cutL_ok her
  obtain ⟨ok, hxl⟩ := copE_ok her
  have HE0 := hide (copE_zero her)
  have OK := hide ok
  have HXL := hide hxl
  have h60 := ok.w60
  obtain ⟨LR, hLR⟩ : ∃ z, belL l x = z := ⟨_, rfl⟩
  have HLR := hide hLR
  have HLT : Hid (∀ i, i < LR.length → LR.getD i 0 < l.ws.length) := fun i hi => by
    rw [← hLR] at hi ⊢
    exact (belL_lt (getD_mem7 hi)).1
  have hLR60 : LR.length ≤ 60 := by rw [← hLR]; exact Nat.le_trans (belK_le l x _) h60
  have HRR : Hid (cutS (cutK l LR LR.length) = R) := by
    show _ = _
    rw [← HR.out, hp]
    unfold cutP
    rw [hLR]
  have n0 : ((0 : Int) != 0) = false := by decide
  clear her ok hxl hp hLR
  go_enter Tryz.func35, Tryz.ntmps35
  go_upto_region 1 with (fail)
  generalize hw0 : World.alloc _ _ = w0
  obtain ⟨hb0, hB0, hs0⟩ := alloc1 hw0
  have HL0 : Hid (LoBox w0 w.heap.size A0 A1 A2 A3 A4 A5 q0 q1 q2 q3 q4 q5 l) := hb0
  have HB0 := hide hB0
  have c0 := cellOf hb0 0; have c1 := cellOf hb0 1; have c2 := cellOf hb0 2; have c3 := cellOf hb0 3; have c4 := cellOf hb0 4; have c5 := cellOf hb0 5
  have hlb := box_lt hb0
  clear hw0 hb0 hB0 hs0
  go_upto_region 5 with (go_at_call 86; refine (rcheckVariant_any [] x none 0 Ax qx A0 A1 A2 A3 A4 A5 q0 q1 q2 q3 q4 q5 l _ HS.out HD0.out (H.out.up HB0.out) (Mods.nil _ _)).mono ?_; rw [HER.out]; rintro e w1 ⟨rfl, hB1⟩; have HL1 := hide (HL0.out.to hB1); have HB1 := hide (Below.to HB0.out hB1 (Nat.le_refl _)); clear hB1 c0 c1 c2 c3 c4 c5 hlb)
  have d0 := cellOf HL1.out 0; have d1 := cellOf HL1.out 1; have d2 := cellOf HL1.out 2; have d3 := cellOf HL1.out 3; have d4 := cellOf HL1.out 4; have d5 := cellOf HL1.out 5
  have hld := box_lt HL1.out
  go_upto_region 6 with (go_at_call 98; refine (rbelong_any x _ A0 A1 A2 A3 A4 A5 q0 q1 q2 q3 q4 q5 l w1 HS.out (H.out.up HB1.out) OK.out (Sl.up HX.out HB1.out) HXL.out).mono ?_; rw [HLR.out]; rintro e w2 ⟨v2, rfl, hv2, hB2⟩; obtain ⟨AL, qL, e2⟩ := Sl.form hv2; subst e2; have HV2 : Hid (Nods w2 w2.heap.size (.slice AL LR.length qL) LR) := hv2; have HL2 := hide (HL1.out.to hB2); have HB2 := hide (Below.to HB1.out hB2 (Nat.le_refl _)); clear hB2 hv2 d0 d1 d2 d3 d4 d5 hld)
  obtain ⟨W1, hW1⟩ : ∃ wo : World, wo = w2 := ⟨_, rfl⟩
  subst hW1
  go_wp2_with fail
  go_loopw [7, 9, 10, 11, 12, 13, 14] (fun ov i _ _ _ _ _ wr => ∃ (k : Nat) (O : List Ct), i = .int .i64 k ∧ k ≤ LR.length ∧ O.length ≤ k ∧ Hid (cutS (cutK l LR k) = O) ∧ Hid (wr.ownsRow W1.heap.size 67 3 ov O.length (rowV ctE O)) ∧ Hid (Below W1.heap.size W1 wr)) (fun _ i _ _ _ _ _ _ => LR.length - (intOf i).toNat)
  case atStart => exact ⟨0, [], rfl, Nat.zero_le _, Nat.le_refl _, rfl, World.ownsRow_nil _ _ _ _, Below.refl _ _⟩
  case round =>
    obtain ⟨k, O, rfl, hk, hOk, HO, HOW, HB⟩ := hrel
    obtain ⟨Ao, qo, hov⟩ := owns_form HOW.out
    subst hov
    have HBr := hide (Below.to HB2.out HB.out (Nat.le_refl _))
    have HLr := hide (HL2.out.to HB.out)
    by_cases hkl : k < LR.length
    case neg =>
      have hk1 : ¬ (k : Int) < (LR.length : Int) := by omega
      have hRO : O = R := by rw [← HRR.out, ← HO.out, show k = LR.length by omega]
      subst hRO
      clear hkl
      go_wp2_with fail
      go_ret2
      exact ⟨_, rfl, Cts.of_own HOW.out, HBr.out⟩
    case pos =>
    have hk1 : (k : Int) < (LR.length : Int) := by omega
    have ik0 : (0 : Int) ≤ (k : Int) := by omega
    obtain ⟨b1, o1, i, HI, hA, hb1, hq1, ei0⟩ := HV2.out.at8 hkl
    subst hA
    have ei := (HB.out.cell (p := ⟨b1, o1 + k, none⟩) hb1).trans ei0
    have HEI := hide ei0
    have lb1 : b1 < wr.heap.size := Nat.lt_of_lt_of_le hb1 HB.out.size
    have iq : (LR.length : Int) ≤ (qL : Int) := by omega
    have hi : i < l.ws.length := by rw [← HI.out]; exact HLT.out k hkl
    have hst := cutK_succ (l := l) hkl HI.out
    have hrou : rouE l (i : Int) = 0 := by
      unfold rouE havE
      rw [if_neg (by rw [HE0.out]; simp), show btw (i : Int) 0 ((l.ws.length : Int) - 1) = true from btw_iff.2 ⟨by omega, by omega⟩]
      rfl
    have hlen : lenN l (i : Int) = lenW l i := by unfold lenN; rw [if_pos hrou]; rfl
    obtain ⟨n, hn⟩ : ∃ z, lenW l i = z := ⟨_, rfl⟩
    have HN := hide hn
    have hbd := pcI_bd OK.out hi
    unfold pcI at hbd hst
    rw [hn] at hst hlen
    simp only [hn] at hbd
    have HLN := hide hlen
    have HRO := hide hrou
    have HLOA : Hid (LoA wr wr.heap.size A0 A1 A2 A3 A4 A5 q0 q1 q2 q3 q4 q5 l) := H.out.up HBr.out
    have c0 := cellOf HLr.out 0; have c1 := cellOf HLr.out 1; have c2 := cellOf HLr.out 2; have c3 := cellOf HLr.out 3; have c4 := cellOf HLr.out 4; have c5 := cellOf HLr.out 5
    have hlb := box_lt HLr.out
    clear ei0 hq1 hrou hlen hn
    go_upto_region 9 with (fail)
    refine wp_region_held_drew (S := (fun w' => Below wr.heap.size wr w')) (by kernel_rfl) ?_ (fun hHeld => ?_)
    · try dsimp only
      exact (by repeat (first | exact Below.refl _ _ | assumption | refine Below.drew ?_ | refine Below.drewN ?_ _ | refine Below.allocT ?_ (Nat.le_refl _) _ | refine Below.setCell ?_ (by simp <;> omega) _ | refine Below.to ?_ (by assumption) (Nat.le_refl _)))
    refine zT 0 rfl ?_
    refine zT 1 rfl ?_
    refine zT 2 rfl ?_
    refine zT 3 rfl ?_
    refine zT 4 rfl ?_
    refine wpAnyH_ready (rs := [5]) (by kernel_rfl) (by simp) ?_
    refine AllReadyH.cons rfl (fun K hK => ?_) AllReadyH.nil
    go_simp
    ((go_at_call 99; refine (rLength_any (i : Int) A0 A1 A2 A3 A4 A5 q0 q1 q2 q3 q4 q5 l _ HS.out (HLOA.out.up (by repeat (first | exact Below.refl _ _ | assumption | refine Below.drew ?_ | refine Below.drewN ?_ _ | refine Below.allocT ?_ (Nat.le_refl _) _ | refine Below.setCell ?_ (by simp <;> omega) _ | refine Below.to ?_ (by assumption) (Nat.le_refl _))))).mono ?_; rw [HLN.out, HRO.out]; rintro e w5 ⟨rfl, hB5⟩))
    (try dsimp only)
    refine hK.out _ _ ?_ (fun hNext => ?_)
    · try dsimp only
      exact (by repeat (first | exact Below.refl _ _ | assumption | refine Below.drew ?_ | refine Below.drewN ?_ _ | refine Below.allocT ?_ (Nat.le_refl _) _ | refine Below.setCell ?_ (by simp <;> omega) _ | refine Below.to ?_ (by assumption) (Nat.le_refl _)))
    clear hK K hHeld
    have hHeld := hNext
    clear hNext
    (try dsimp only at hHeld)
    try simp only [zX]
    refine zT 6 rfl ?_
    refine zT 7 rfl ?_
    refine zT 8 rfl ?_
    refine zT 9 rfl ?_
    refine zT 10 rfl ?_
    refine wpAnyH_done (by kernel_rfl) ?_ _
    have HB5 := hide (Below.to HB.out hHeld (Nat.le_refl _))
    have HO5 := hide (owns_below HOW.out hHeld)
    have HL5 := hide (HLr.out.to hHeld)
    have HBr5 := hide (Below.to HB2.out HB5.out (Nat.le_refl _))
    clear hHeld HLOA c0 c1 c2 c3 c4 c5 hlb ei lb1
    by_cases hn0 : n = 0
    · subst hn0
      rw [if_neg (by omega)] at hst
      have HST : Hid (cutS (cutK l LR (k + 1)) = O) := by show _ = _; rw [hst]; exact HO.out
      have z0z : ((0 : Int) == 0) = true := by decide
      clear hst
      go_wp2_with fail
      go_roundw
      case rel => exact ⟨k + 1, O, by go_num, by omega, by omega, HST, HO5, HB5⟩
      case measure => simp [intOf]; omega
    · have hn1 : (n == 0) = false := by simpa using hn0
      rw [if_pos (by omega)] at hst
      have hi' := hi
      obtain ⟨bw, ow, dw, Af, qf, HX7, hA5, hbw, hq5, HF, e0, e1, e2, e3, e4, e5, e6⟩ := H.out.wi hi
      subst hA5
      rw [HX7.out] at hst hbd
      obtain ⟨s, hs⟩ : ∃ z, dw.size = z := ⟨_, rfl⟩
      rw [hs] at hst hbd
      have g5 := (HBr5.out.cell (p := ⟨bw, ow + i * 7 + 5, none⟩) hbw).trans e5
      rw [hs] at g5
      have lbw : bw < w5.heap.size := Nat.lt_of_lt_of_le hbw HBr5.out.size
      have iq5 : (l.ws.length : Int) ≤ (q5 : Int) := by omega
      have ii0 : (0 : Int) ≤ (i : Int) := by omega
      have ii1 : (i : Int) < (l.ws.length : Int) := by omega
      obtain ⟨X, hX⟩ : ∃ X : Ct, X = ⟨s, n, 1⟩ := ⟨_, rfl⟩
      have hins : cutS (cutK l LR (k + 1)) = insC X O := by
        rw [hst, cutS_snoc, HO.out, hX]
      have HINS := hide hins
      have HXX := hide hX
      have HLEN : Hid ((insC X O).length ≤ k + 1) := by
        have h1 := cutS_len (cutK l LR k) (s, n)
        rw [← hst, HO.out, hins] at h1
        show _ ≤ _
        omega
      have ei5 := (HB5.out.cell (p := ⟨b1, o1 + k, none⟩) hb1).trans HEI.out
      have lb15 : b1 < w5.heap.size := Nat.lt_of_lt_of_le hb1 HB5.out.size
      have z0 := cellOf HL5.out 0; have z1 := cellOf HL5.out 1; have z2 := cellOf HL5.out 2; have z3 := cellOf HL5.out 3; have z4 := cellOf HL5.out 4; have z5 := cellOf HL5.out 5
      have lz := box_lt HL5.out
      clear e0 e1 e2 e3 e4 e5 e6 hq5 hs hst hins hn0 hX
      go_upto_region 11 with (fail)
      refine wp_region_held_drew (S := (fun w' => Below w5.heap.size w5 w')) (by kernel_rfl) ?_ (fun hHeld => ?_)
      · try dsimp only
        exact (by repeat (first | exact Below.refl _ _ | assumption | refine Below.drew ?_ | refine Below.drewN ?_ _ | refine Below.allocT ?_ (Nat.le_refl _) _ | refine Below.setCell ?_ (by simp <;> omega) _ | refine Below.to ?_ (by assumption) (Nat.le_refl _)))
      refine zT 0 rfl ?_
      refine zT 1 rfl ?_
      refine zT 2 rfl ?_
      refine zT 3 rfl ?_
      refine zT 4 rfl ?_
      refine zT 5 rfl ?_
      refine zT 6 rfl ?_
      refine zT 7 rfl ?_
      refine zT 8 rfl ?_
      refine zT 9 rfl ?_
      refine zT 10 rfl ?_
      refine wpAnyH_ready (rs := [11]) (by kernel_rfl) (by simp) ?_
      refine AllReadyH.cons rfl (fun K hK => ?_) AllReadyH.nil
      go_simp
      refine hK.out _ _ ?_ (fun hNext => ?_)
      · try dsimp only
        exact (by repeat (first | exact Below.refl _ _ | assumption | refine Below.drew ?_ | refine Below.drewN ?_ _ | refine Below.allocT ?_ (Nat.le_refl _) _ | refine Below.setCell ?_ (by simp <;> omega) _ | refine Below.to ?_ (by assumption) (Nat.le_refl _)))
      clear hK K hHeld
      have hHeld := hNext
      clear hNext
      (try dsimp only at hHeld)
      try simp only [zX]
      refine wpAnyH_ready (rs := [12]) (by kernel_rfl) (by simp) ?_
      refine AllReadyH.cons rfl (fun K hK => ?_) AllReadyH.nil
      go_simp
      refine hK.out _ _ ?_ (fun hNext => ?_)
      · try dsimp only
        exact (by repeat (first | exact Below.refl _ _ | assumption | refine Below.drew ?_ | refine Below.drewN ?_ _ | refine Below.allocT ?_ (Nat.le_refl _) _ | refine Below.setCell ?_ (by simp <;> omega) _ | refine Below.to ?_ (by assumption) (Nat.le_refl _)))
      clear hK K hHeld
      have hHeld := hNext
      clear hNext
      (try dsimp only at hHeld)
      try simp only [zX]
      refine wpAnyH_done (by kernel_rfl) ?_ _
      generalize hw6 : World.drew _ = w6 at hHeld ⊢
      have hbx : w6.heap[w5.heap.size]? = some (.cells #[.int .i64 s, .int .i64 n, .int .i64 1] 67 (0, 0)) := by
        subst hw6
        exact heap_alloc_new w5 _
      obtain ⟨xb, hxb⟩ : ∃ z, w5.heap.size = z := ⟨_, rfl⟩
      rw [hxb] at hbx ⊢
      have HX6 := hide hbx
      have HB6 : Hid (Below w5.heap.size w5 w6) := hHeld
      have HO6 := hide (owns_below HO5.out HB6.out)
      clear hw6 hbx hxb hHeld z0 z1 z2 z3 z4 z5 lz ei5 lb15 g5 lbw
      obtain ⟨W6, hW6⟩ : ∃ wo : World, wo = w6 := ⟨_, rfl⟩
      subst hW6
      go_wp2_with fail
      go_loopw [13] (fun av wr => ∃ j : Nat, av = .int .i64 j ∧ j ≤ O.length ∧ Hid (∀ i, i < j → ltK (O.getD i Ct.o) X = true) ∧ Hid (Below W6.heap.size W6 wr)) (fun av _ => O.length - (intOf av).toNat)
      case atStart => exact ⟨0, rfl, Nat.zero_le _, fun i h => absurd h (by omega), Below.refl _ _⟩
      case round =>
        obtain ⟨j, rfl, hj, HLT2, HBW⟩ := hrel
        have HOr := hide (owns_below HO6.out HBW.out)
        have HXr := hide (box_to HX6.out HBW.out)
        have ij0 : (0 : Int) ≤ (j : Int) := by omega
        by_cases hjl : j < O.length
        case neg =>
          have hjd : decide ((j : Int) < (O.length : Int)) = false := by simp; omega
          have x0 := cellOf HXr.out 0
          have x1 := cellOf HXr.out 1
          have lx := box_lt HXr.out
          go_upto_region 13 with (fail)
          refine wp_region_held_drew (S := (fun w' => Below wr.heap.size wr w')) (by kernel_rfl) ?_ (fun hHeld => ?_)
          · try dsimp only
            exact (by repeat (first | exact Below.refl _ _ | assumption | refine Below.drew ?_ | refine Below.drewN ?_ _ | refine Below.allocT ?_ (Nat.le_refl _) _ | refine Below.setCell ?_ (by simp <;> omega) _ | refine Below.to ?_ (by assumption) (Nat.le_refl _)))
          refine zT 0 rfl ?_
          refine zT 1 rfl ?_
          refine zT 2 rfl ?_
          refine zT 3 rfl ?_
          refine zT 4 rfl ?_
          refine zS 5 rfl ?_
          refine zS 6 rfl ?_
          refine zS 7 rfl ?_
          refine zS 8 rfl ?_
          refine zS 9 rfl ?_
          refine zS 10 rfl ?_
          refine zS 11 rfl ?_
          refine zS 12 rfl ?_
          refine zS 13 rfl ?_
          refine zS 14 rfl ?_
          refine zS 15 rfl ?_
          refine zS 16 rfl ?_
          refine zS 17 rfl ?_
          refine zS 18 rfl ?_
          refine zS 19 rfl ?_
          refine zS 20 rfl ?_
          refine zS 21 rfl ?_
          refine zS 22 rfl ?_
          refine zS 23 rfl ?_
          refine zS 24 rfl ?_
          refine zS 25 rfl ?_
          refine zS 26 rfl ?_
          refine zS 27 rfl ?_
          refine zS 28 rfl ?_
          refine zS 29 rfl ?_
          refine zS 30 rfl ?_
          refine zS 31 rfl ?_
          refine zS 32 rfl ?_
          refine zT 33 rfl ?_
          refine wpAnyH_done (by kernel_rfl) ?_ _
          generalize hw7 : World.drew _ = w7 at hHeld ⊢
          have HB7 := hide (Below.to HBW.out hHeld (Nat.le_refl _))
          have HO7 := hide (owns_below HOr.out hHeld)
          have HX7b := hide (box_to HXr.out hHeld)
          clear hw7 hHeld x0 x1 lx 
          go_upto_region 15 with (fail)
          have x0 := cellOf HX7b.out 0
          have x1 := cellOf HX7b.out 1
          have lx := box_lt HX7b.out
          refine wp_region_held_drew (S := (fun w' => Below w7.heap.size w7 w')) (by kernel_rfl) ?_ (fun hHeld => ?_)
          · try dsimp only
            exact (by repeat (first | exact Below.refl _ _ | assumption | refine Below.drew ?_ | refine Below.drewN ?_ _ | refine Below.allocT ?_ (Nat.le_refl _) _ | refine Below.setCell ?_ (by simp <;> omega) _ | refine Below.to ?_ (by assumption) (Nat.le_refl _)))
          refine zT 0 rfl ?_
          refine zT 1 rfl ?_
          refine zT 2 rfl ?_
          refine zT 3 rfl ?_
          refine zT 4 rfl ?_
          refine zS 5 rfl ?_
          refine zS 6 rfl ?_
          refine zS 7 rfl ?_
          refine zS 8 rfl ?_
          refine zS 9 rfl ?_
          refine zS 10 rfl ?_
          refine zS 11 rfl ?_
          refine zS 12 rfl ?_
          refine zT 13 rfl ?_
          refine zT 14 rfl ?_
          refine zS 15 rfl ?_
          refine zS 16 rfl ?_
          refine zS 17 rfl ?_
          refine zS 18 rfl ?_
          refine zS 19 rfl ?_
          refine zS 20 rfl ?_
          refine zS 21 rfl ?_
          refine zS 22 rfl ?_
          refine zT 23 rfl ?_
          refine wpAnyH_done (by kernel_rfl) ?_ _
          generalize hw8 : World.drew _ = w8 at hHeld ⊢
          have HB8 := hide (Below.to HB7.out hHeld (Nat.le_refl _))
          have HO8 := hide (owns_below HO7.out hHeld)
          have HX8b := hide (box_to HX7b.out hHeld)
          clear hw8 hHeld x0 x1 lx
          have HBX := hide (Below.trans (Below.to HB5.out HB6.out (Nat.le_refl _)) (HB8.out.mono (Nat.le_trans HB5.out.size HB6.out.size)))
          have hif : insC X O = dwn O X j := by
            rw [insC_pos (by rw [HXX.out]) hj HLT2.out (fun h => absurd h hjl), if_neg (fun h => hjl h.1)]
            rfl
          have HIF := hide hif
          have hBsz : W1.heap.size ≤ w8.heap.size := Nat.le_trans HB5.out.size (Nat.le_trans HB6.out.size HB8.out.size)
          have z0 := cellOf HX8b.out 0
          have z1 := cellOf HX8b.out 1
          have z2 := cellOf HX8b.out 2
          have lz2 := box_lt HX8b.out
          have hO60 : O.length ≤ 60 := by omega
          clear hif
          go_upto_region 18 with (at_builtin; go_must (refine wpList_append_own_at _ rfl (.tmp 120) (.tmp 122) _ rfl (W1.heap.size) 67 i0 _ 3 24 Tryz.underlying63 hi0 iz0 iz1 iz2 rfl (by omega) _ _ _ rfl ((HO8.out).alloc _) ⟨w8.heap.size, 0, none⟩ 1 1 [.int .i64 s, .int .i64 n, .int .i64 1] rfl rfl (World.news_of_block (heap_alloc_new w8 _)) (by simp [Value.oneCell']) (by have h1 := hO60; unfold maxLen; omega) (by have h1 := hO60; omega) (by have h1 := hBsz; simp; omega) ?_); intro v1 w3 hown1 hg1 _ hat1; obtain ⟨A9, q9, e9⟩ := owns_form hown1; subst e9; have HO9 := hide hown1; have HB9 := hide (Below.grown (Below.allocT HBX.out (by omega) _) hg1 (by have := HBX.out.size; simp; omega) (fun q hq => (HO8.out.lt q hq).1)); clear hown1 hg1 hat1 z0 z1 z2 lz2)
          have wl1 : IntKind.i64.wrap (((O.length + 1 : Nat) : Int) - 1) = (O.length : Int) := by rw [IntWalk.i64_in _ (by omega)]; omega
          have wl2 : IntKind.i64.wrap ((O.length : Int) + 1 - 1) = (O.length : Int) := by rw [IntWalk.i64_in _ (by omega)]; omega
          go_wp2_with fail
          clear wl1 wl2
          have HO9b : Hid (w3.ownsRow W1.heap.size 67 3 (.slice A9 (O.length + 1) q9) (O.length + 1) (rowV ctE (dwn O X O.length))) := by
            show World.ownsRow _ _ _ _ _ _ _
            rw [dwn_end, rowV_snoc, HXX.out]
            exact HO9.out
          go_loopw [14] (fun kv wr => ∃ m : Nat, kv = .int .i64 m ∧ j ≤ m ∧ m ≤ O.length ∧ Hid (wr.ownsRow W1.heap.size 67 3 (.slice A9 (O.length + 1) q9) (O.length + 1) (rowV ctE (dwn O X m))) ∧ Hid (Below W1.heap.size W1 wr)) (fun kv _ => (intOf kv).toNat)
          case atStart => exact ⟨O.length, rfl, hj, Nat.le_refl _, HO9b.out, HB9.out⟩
          case round =>
            obtain ⟨m, rfl, hjm, hmO, HOL, HBL⟩ := hrel
            by_cases hm : j < m
            case neg =>
              have hm1 : ¬ (j : Int) < (m : Int) := by omega
              have hmj : m = j := by omega
              have HFIN : Hid (wr.ownsRow W1.heap.size 67 3 (.slice A9 (O.length + 1) q9) (insC X O).length (rowV ctE (insC X O))) := by
                show World.ownsRow _ _ _ _ _ _ _
                rw [HIF.out, dwn_len hj, ← hmj]
                exact HOL.out
              clear hmj hm
              go_wp2_with fail
              go_roundw
              case rel => exact ⟨k + 1, insC X O, by go_num, by omega, HLEN.out, HINS.out, HFIN.out, HBL.out⟩
              case measure => simp [intOf]; omega
            case pos =>
              exact absurd hm (by omega)
        case pos =>
          have ij1 : (j : Int) < (O.length : Int) := by omega
          have hjd : decide ((j : Int) < (O.length : Int)) = true := by simp; omega
          obtain ⟨g, a, HA, hAo, hBg, lg, _, hq, y0, y1, y2, hfz⟩ := own_ct HOr.out hjl
          subst hAo
          have iqo : (O.length : Int) ≤ (qo : Int) := by omega
          have x0 := cellOf HXr.out 0
          have x1 := cellOf HXr.out 1
          have lx := box_lt HXr.out
          clear hq
          have HAr := hide HA.out
          by_cases hs0 : a.s < s
          · have hsd : decide (a.s < s) = true := by simpa using hs0
            have HLT3 : Hid (∀ i, i < j + 1 → ltK (O.getD i Ct.o) X = true) := fun i hi => by
              rcases Nat.lt_or_ge i j with h1 | h1
              · exact HLT2.out i h1
              · rw [show i = j by omega, HA.out, ltK_iff, HXX.out]
                exact .inl hs0
            clear hs0
            go_upto_region 13 with (fail)
            refine wp_region_held_drew (S := (fun w' => Below wr.heap.size wr w')) (by kernel_rfl) ?_ (fun hHeld => ?_)
            · try dsimp only
              exact (by repeat (first | exact Below.refl _ _ | assumption | refine Below.drew ?_ | refine Below.drewN ?_ _ | refine Below.allocT ?_ (Nat.le_refl _) _ | refine Below.setCell ?_ (by simp <;> omega) _ | refine Below.to ?_ (by assumption) (Nat.le_refl _)))
            refine zT 0 rfl ?_
            refine zT 1 rfl ?_
            refine zT 2 rfl ?_
            refine zT 3 rfl ?_
            refine zT 4 rfl ?_
            refine zT 5 rfl ?_
            refine zT 6 rfl ?_
            refine zT 7 rfl ?_
            refine zT 8 rfl ?_
            refine zT 9 rfl ?_
            refine zT 10 rfl ?_
            refine zT 11 rfl ?_
            refine zT 12 rfl ?_
            refine zT 13 rfl ?_
            refine zS 14 rfl ?_
            refine zS 15 rfl ?_
            refine zS 16 rfl ?_
            refine zS 17 rfl ?_
            refine zS 18 rfl ?_
            refine zS 19 rfl ?_
            refine zS 20 rfl ?_
            refine zS 21 rfl ?_
            refine zS 22 rfl ?_
            refine zS 23 rfl ?_
            refine zS 24 rfl ?_
            refine zS 25 rfl ?_
            refine zS 26 rfl ?_
            refine zS 27 rfl ?_
            refine zS 28 rfl ?_
            refine zS 29 rfl ?_
            refine zS 30 rfl ?_
            refine zS 31 rfl ?_
            refine zT 32 rfl ?_
            refine zT 33 rfl ?_
            refine wpAnyH_done (by kernel_rfl) ?_ _
            have HBN := hide (Below.to HBW.out hHeld (Nat.le_refl _))
            clear hHeld x0 x1 lx y0 y1 y2 lg
            go_wp2_with fail
            go_roundw
            case rel => exact ⟨j + 1, by go_num, by omega, HLT3, HBN⟩
            case measure => simp [intOf]; omega
          · have hsd : decide (a.s < s) = false := by simpa using hs0
            by_cases hs1 : a.s = s
            · have hse : (a.s == s) = true := by simpa using hs1
              by_cases hn1' : a.n < n
              · have hnd : decide (a.n < n) = true := by simpa using hn1'
                have HLT3 : Hid (∀ i, i < j + 1 → ltK (O.getD i Ct.o) X = true) := fun i hi => by
                  rcases Nat.lt_or_ge i j with h1 | h1
                  · exact HLT2.out i h1
                  · rw [show i = j by omega, HA.out, ltK_iff, HXX.out]
                    exact .inr ⟨hs1, hn1'⟩
                have HS1 := hide hs1
                clear hs0 hs1 hn1'
                go_upto_region 13 with (fail)
                refine wp_region_held_drew (S := (fun w' => Below wr.heap.size wr w')) (by kernel_rfl) ?_ (fun hHeld => ?_)
                · try dsimp only
                  exact (by repeat (first | exact Below.refl _ _ | assumption | refine Below.drew ?_ | refine Below.drewN ?_ _ | refine Below.allocT ?_ (Nat.le_refl _) _ | refine Below.setCell ?_ (by simp <;> omega) _ | refine Below.to ?_ (by assumption) (Nat.le_refl _)))
                refine zT 0 rfl ?_
                refine zT 1 rfl ?_
                refine zT 2 rfl ?_
                refine zT 3 rfl ?_
                refine zT 4 rfl ?_
                refine zT 5 rfl ?_
                refine zT 6 rfl ?_
                refine zT 7 rfl ?_
                refine zT 8 rfl ?_
                refine zT 9 rfl ?_
                refine zT 10 rfl ?_
                refine zT 11 rfl ?_
                refine zT 12 rfl ?_
                refine zT 13 rfl ?_
                refine zT 14 rfl ?_
                refine zT 15 rfl ?_
                refine zT 16 rfl ?_
                refine zT 17 rfl ?_
                refine zT 18 rfl ?_
                refine zT 19 rfl ?_
                refine zT 20 rfl ?_
                refine zT 21 rfl ?_
                refine zT 22 rfl ?_
                refine zT 23 rfl ?_
                refine zT 24 rfl ?_
                refine zT 25 rfl ?_
                refine zT 26 rfl ?_
                refine zT 27 rfl ?_
                refine zT 28 rfl ?_
                refine zT 29 rfl ?_
                refine zT 30 rfl ?_
                refine zT 31 rfl ?_
                refine zT 32 rfl ?_
                refine zT 33 rfl ?_
                refine wpAnyH_done (by kernel_rfl) ?_ _
                have HBN := hide (Below.to HBW.out hHeld (Nat.le_refl _))
                clear hHeld x0 x1 lx y0 y1 y2 lg
                go_wp2_with fail
                go_roundw
                case rel => exact ⟨j + 1, by go_num, by omega, HLT3, HBN⟩
                case measure => simp [intOf]; omega
              · have hnd : decide (a.n < n) = false := by simpa using hn1'
                have hnlt : ltK a X = false := by
                  cases hc : ltK a X with
                  | false => rfl
                  | true => rw [ltK_iff, HXX.out] at hc; simp only at hc; omega
                have HNLT := hide hnlt
                have HS1 := hide hs1
                by_cases hn2 : a.n = n
                · have hne : (a.n == n) = true := by simpa using hn2
                  have HN2 := hide hn2
                  clear hs0 hs1 hn1' hnlt hn2
                  go_upto_region 13 with (fail)
                  refine wp_region_held_drew (S := (fun w' => Below wr.heap.size wr w')) (by kernel_rfl) ?_ (fun hHeld => ?_)
                  · try dsimp only
                    exact (by repeat (first | exact Below.refl _ _ | assumption | refine Below.drew ?_ | refine Below.drewN ?_ _ | refine Below.allocT ?_ (Nat.le_refl _) _ | refine Below.setCell ?_ (by simp <;> omega) _ | refine Below.to ?_ (by assumption) (Nat.le_refl _)))
                  refine zT 0 rfl ?_
                  refine zT 1 rfl ?_
                  refine zT 2 rfl ?_
                  refine zT 3 rfl ?_
                  refine zT 4 rfl ?_
                  refine zT 5 rfl ?_
                  refine zT 6 rfl ?_
                  refine zT 7 rfl ?_
                  refine zT 8 rfl ?_
                  refine zT 9 rfl ?_
                  refine zT 10 rfl ?_
                  refine zT 11 rfl ?_
                  refine zT 12 rfl ?_
                  refine zT 13 rfl ?_
                  refine zT 14 rfl ?_
                  refine zT 15 rfl ?_
                  refine zT 16 rfl ?_
                  refine zT 17 rfl ?_
                  refine zT 18 rfl ?_
                  refine zT 19 rfl ?_
                  refine zT 20 rfl ?_
                  refine zT 21 rfl ?_
                  refine zT 22 rfl ?_
                  refine zT 23 rfl ?_
                  refine zT 24 rfl ?_
                  refine zT 25 rfl ?_
                  refine zT 26 rfl ?_
                  refine zT 27 rfl ?_
                  refine zT 28 rfl ?_
                  refine zT 29 rfl ?_
                  refine zT 30 rfl ?_
                  refine zT 31 rfl ?_
                  refine zT 32 rfl ?_
                  refine zT 33 rfl ?_
                  refine wpAnyH_done (by kernel_rfl) ?_ _
                  generalize hw7 : World.drew _ = w7 at hHeld ⊢
                  have HB7 := hide (Below.to HBW.out hHeld (Nat.le_refl _))
                  have HO7 := hide (owns_below HOr.out hHeld)
                  have HX7b := hide (box_to HXr.out hHeld)
                  clear hw7 hHeld x0 x1 lx y0 y1 y2 lg hfz
                  go_upto_region 15 with (fail)
                  obtain ⟨g7, a7, HA7, hA7, _, lg7, _, _, y0, y1, y2, hfz⟩ := own_ct HO7.out hjl
                  have ha7 : a7 = a := HA7.out.symm.trans HAr.out
                  subst ha7
                  injection hA7 with hA7
                  injection hA7 with hA7 _ _
                  subst hA7
                  have x0 := cellOf HX7b.out 0
                  have x1 := cellOf HX7b.out 1
                  have lx := box_lt HX7b.out
                  refine wp_region_held_drew (S := (fun w' => Below w7.heap.size w7 w')) (by kernel_rfl) ?_ (fun hHeld => ?_)
                  · try dsimp only
                    exact (by repeat (first | exact Below.refl _ _ | assumption | refine Below.drew ?_ | refine Below.drewN ?_ _ | refine Below.allocT ?_ (Nat.le_refl _) _ | refine Below.setCell ?_ (by simp <;> omega) _ | refine Below.to ?_ (by assumption) (Nat.le_refl _)))
                  refine zT 0 rfl ?_
                  refine zT 1 rfl ?_
                  refine zT 2 rfl ?_
                  refine zT 3 rfl ?_
                  refine zT 4 rfl ?_
                  refine zT 5 rfl ?_
                  refine zT 6 rfl ?_
                  refine zT 7 rfl ?_
                  refine zT 8 rfl ?_
                  refine zT 9 rfl ?_
                  refine zT 10 rfl ?_
                  refine zT 11 rfl ?_
                  refine zT 12 rfl ?_
                  refine zT 13 rfl ?_
                  refine zT 14 rfl ?_
                  refine zT 15 rfl ?_
                  refine zT 16 rfl ?_
                  refine zT 17 rfl ?_
                  refine zT 18 rfl ?_
                  refine zT 19 rfl ?_
                  refine zT 20 rfl ?_
                  refine zT 21 rfl ?_
                  refine zT 22 rfl ?_
                  refine zT 23 rfl ?_
                  refine wpAnyH_done (by kernel_rfl) ?_ _
                  generalize hw8 : World.drew _ = w8 at hHeld ⊢
                  have HB8 := hide (Below.to HB7.out hHeld (Nat.le_refl _))
                  have HO8 := hide (owns_below HO7.out hHeld)
                  have HX8b := hide (box_to HX7b.out hHeld)
                  clear hw8 hHeld x0 x1 lx y0 y1 y2 lg7 hfz
                  have HBX := hide (Below.trans (Below.to HB5.out HB6.out (Nat.le_refl _)) (HB8.out.mono (Nat.le_trans HB5.out.size HB6.out.size)))
                  obtain ⟨g8, a8, HA8, hA8, hBg8, lg8, _, _, y0, y1, y2, hfz⟩ := own_ct HO8.out hjl
                  have ha8 : a8 = a7 := HA8.out.symm.trans HAr.out
                  subst ha8
                  injection hA8 with hA8
                  injection hA8 with hA8 _ _
                  subst hA8
                  have hif : insC X O = O.set j ⟨a8.s, a8.n, a8.c + 1⟩ := by
                    rw [insC_pos (by rw [HXX.out]) hj HLT2.out (fun _ => by rw [HAr.out]; exact HNLT.out), if_pos ⟨hjl, by rw [HAr.out, sameK_iff, HXX.out]; exact ⟨HS1.out, HN2.out⟩⟩, HAr.out]
                  have hac : 0 ≤ a8.c ∧ a8.c ≤ 60 := by
                    have h1 := (cutS_is (cutK l LR k)).c a8 (by rw [HO.out, ← HAr.out]; exact getD_mem7 hjl)
                    have h2 := cntC_le (cutK l LR k) a8.s a8.n
                    have h3 := cutK_len l LR k
                    omega
                  have wc : IntKind.i64.wrap (a8.c + 1) = a8.c + 1 := by rw [IntWalk.i64_in _ (by omega)]
                  have hst8 := HO8.out.stored (j * 3 + 1 + 1) (.int .i64 (a8.c + 1))
                  have hrow := ct_set hjl (a8.c + 1)
                  rw [HAr.out] at hrow
                  have f2 := hfz (j * 3 + 1 + 1)
                  clear hac
                  go_wp2_with fail
                  obtain ⟨k1, k2⟩ := hst8
                  rw [hrow, ← hif] at k1
                  generalize hwv : World.setCell _ _ _ = w9 at k1 k2 ⊢
                  have HO9 : Hid (w9.ownsRow W1.heap.size 67 3 (.slice (some ⟨g, 0, none⟩) O.length qo) (insC X O).length (rowV ctE (insC X O))) := by
                    show World.ownsRow _ _ _ _ _ _ _
                    have h1 : (insC X O).length = O.length := by rw [hif, List.length_set]
                    rw [h1]
                    exact k1
                  have HB9 : Hid (Below W1.heap.size W1 w9) := Below.grown HBX.out k2 HBX.out.size (fun q hq => by injection hq with hq; omega)
                  clear hwv k1 k2 hif hrow f2 wc y0 y1 y2 lg8
                  go_roundw
                  case rel => exact ⟨k + 1, insC X O, by go_num, by omega, HLEN.out, HINS.out, HO9.out, HB9.out⟩
                  case measure => simp [intOf]; omega
                · have hne : (a.n == n) = false := by simpa using hn2
                  have HN2 := hide hn2
                  clear hs0 hs1 hn1' hnlt hn2
                  go_upto_region 13 with (fail)
                  refine wp_region_held_drew (S := (fun w' => Below wr.heap.size wr w')) (by kernel_rfl) ?_ (fun hHeld => ?_)
                  · try dsimp only
                    exact (by repeat (first | exact Below.refl _ _ | assumption | refine Below.drew ?_ | refine Below.drewN ?_ _ | refine Below.allocT ?_ (Nat.le_refl _) _ | refine Below.setCell ?_ (by simp <;> omega) _ | refine Below.to ?_ (by assumption) (Nat.le_refl _)))
                  refine zT 0 rfl ?_
                  refine zT 1 rfl ?_
                  refine zT 2 rfl ?_
                  refine zT 3 rfl ?_
                  refine zT 4 rfl ?_
                  refine zT 5 rfl ?_
                  refine zT 6 rfl ?_
                  refine zT 7 rfl ?_
                  refine zT 8 rfl ?_
                  refine zT 9 rfl ?_
                  refine zT 10 rfl ?_
                  refine zT 11 rfl ?_
                  refine zT 12 rfl ?_
                  refine zT 13 rfl ?_
                  refine zT 14 rfl ?_
                  refine zT 15 rfl ?_
                  refine zT 16 rfl ?_
                  refine zT 17 rfl ?_
                  refine zT 18 rfl ?_
                  refine zT 19 rfl ?_
                  refine zT 20 rfl ?_
                  refine zT 21 rfl ?_
                  refine zT 22 rfl ?_
                  refine zT 23 rfl ?_
                  refine zT 24 rfl ?_
                  refine zT 25 rfl ?_
                  refine zT 26 rfl ?_
                  refine zT 27 rfl ?_
                  refine zT 28 rfl ?_
                  refine zT 29 rfl ?_
                  refine zT 30 rfl ?_
                  refine zT 31 rfl ?_
                  refine zT 32 rfl ?_
                  refine zT 33 rfl ?_
                  refine wpAnyH_done (by kernel_rfl) ?_ _
                  generalize hw7 : World.drew _ = w7 at hHeld ⊢
                  have HB7 := hide (Below.to HBW.out hHeld (Nat.le_refl _))
                  have HO7 := hide (owns_below HOr.out hHeld)
                  have HX7b := hide (box_to HXr.out hHeld)
                  clear hw7 hHeld x0 x1 lx y0 y1 y2 lg hfz
                  go_upto_region 15 with (fail)
                  obtain ⟨g7, a7, HA7, hA7, _, lg7, _, _, y0, y1, y2, hfz⟩ := own_ct HO7.out hjl
                  have ha7 : a7 = a := HA7.out.symm.trans HAr.out
                  subst ha7
                  injection hA7 with hA7
                  injection hA7 with hA7 _ _
                  subst hA7
                  have x0 := cellOf HX7b.out 0
                  have x1 := cellOf HX7b.out 1
                  have lx := box_lt HX7b.out
                  refine wp_region_held_drew (S := (fun w' => Below w7.heap.size w7 w')) (by kernel_rfl) ?_ (fun hHeld => ?_)
                  · try dsimp only
                    exact (by repeat (first | exact Below.refl _ _ | assumption | refine Below.drew ?_ | refine Below.drewN ?_ _ | refine Below.allocT ?_ (Nat.le_refl _) _ | refine Below.setCell ?_ (by simp <;> omega) _ | refine Below.to ?_ (by assumption) (Nat.le_refl _)))
                  refine zT 0 rfl ?_
                  refine zT 1 rfl ?_
                  refine zT 2 rfl ?_
                  refine zT 3 rfl ?_
                  refine zT 4 rfl ?_
                  refine zT 5 rfl ?_
                  refine zT 6 rfl ?_
                  refine zT 7 rfl ?_
                  refine zT 8 rfl ?_
                  refine zT 9 rfl ?_
                  refine zT 10 rfl ?_
                  refine zT 11 rfl ?_
                  refine zT 12 rfl ?_
                  refine zT 13 rfl ?_
                  refine zT 14 rfl ?_
                  refine zT 15 rfl ?_
                  refine zT 16 rfl ?_
                  refine zT 17 rfl ?_
                  refine zT 18 rfl ?_
                  refine zT 19 rfl ?_
                  refine zT 20 rfl ?_
                  refine zT 21 rfl ?_
                  refine zT 22 rfl ?_
                  refine zT 23 rfl ?_
                  refine wpAnyH_done (by kernel_rfl) ?_ _
                  generalize hw8 : World.drew _ = w8 at hHeld ⊢
                  have HB8 := hide (Below.to HB7.out hHeld (Nat.le_refl _))
                  have HO8 := hide (owns_below HO7.out hHeld)
                  have HX8b := hide (box_to HX7b.out hHeld)
                  clear hw8 hHeld x0 x1 lx y0 y1 y2 lg7 hfz
                  have HBX := hide (Below.trans (Below.to HB5.out HB6.out (Nat.le_refl _)) (HB8.out.mono (Nat.le_trans HB5.out.size HB6.out.size)))
                  have hif : insC X O = dwn O X j := by
                    rw [insC_pos (by rw [HXX.out]) hj HLT2.out (fun _ => by rw [HAr.out]; exact HNLT.out), if_neg (fun h => by have h1 := h.2; rw [HAr.out, sameK_iff, HXX.out] at h1; exact HN2.out h1.2)]
                    rfl
                  have HIF := hide hif
                  have hBsz : W1.heap.size ≤ w8.heap.size := Nat.le_trans HB5.out.size (Nat.le_trans HB6.out.size HB8.out.size)
                  have z0 := cellOf HX8b.out 0
                  have z1 := cellOf HX8b.out 1
                  have z2 := cellOf HX8b.out 2
                  have lz2 := box_lt HX8b.out
                  have hO60 : O.length ≤ 60 := by omega
                  clear hif
                  go_upto_region 18 with (at_builtin; go_must (refine wpList_append_own_at _ rfl (.tmp 120) (.tmp 122) _ rfl (W1.heap.size) 67 i0 _ 3 24 Tryz.underlying63 hi0 iz0 iz1 iz2 rfl (by omega) _ _ _ rfl ((HO8.out).alloc _) ⟨w8.heap.size, 0, none⟩ 1 1 [.int .i64 s, .int .i64 n, .int .i64 1] rfl rfl (World.news_of_block (heap_alloc_new w8 _)) (by simp [Value.oneCell']) (by have h1 := hO60; unfold maxLen; omega) (by have h1 := hO60; omega) (by have h1 := hBsz; simp; omega) ?_); intro v1 w3 hown1 hg1 _ hat1; obtain ⟨A9, q9, e9⟩ := owns_form hown1; subst e9; have HO9 := hide hown1; have HB9 := hide (Below.grown (Below.allocT HBX.out (by omega) _) hg1 (by have := HBX.out.size; simp; omega) (fun q hq => (HO8.out.lt q hq).1)); clear hown1 hg1 hat1 z0 z1 z2 lz2)
                  have wl1 : IntKind.i64.wrap (((O.length + 1 : Nat) : Int) - 1) = (O.length : Int) := by rw [IntWalk.i64_in _ (by omega)]; omega
                  have wl2 : IntKind.i64.wrap ((O.length : Int) + 1 - 1) = (O.length : Int) := by rw [IntWalk.i64_in _ (by omega)]; omega
                  go_wp2_with fail
                  clear wl1 wl2
                  have HO9b : Hid (w3.ownsRow W1.heap.size 67 3 (.slice A9 (O.length + 1) q9) (O.length + 1) (rowV ctE (dwn O X O.length))) := by
                    show World.ownsRow _ _ _ _ _ _ _
                    rw [dwn_end, rowV_snoc, HXX.out]
                    exact HO9.out
                  go_loopw [14] (fun kv wr => ∃ m : Nat, kv = .int .i64 m ∧ j ≤ m ∧ m ≤ O.length ∧ Hid (wr.ownsRow W1.heap.size 67 3 (.slice A9 (O.length + 1) q9) (O.length + 1) (rowV ctE (dwn O X m))) ∧ Hid (Below W1.heap.size W1 wr)) (fun kv _ => (intOf kv).toNat)
                  case atStart => exact ⟨O.length, rfl, hj, Nat.le_refl _, HO9b.out, HB9.out⟩
                  case round =>
                    obtain ⟨m, rfl, hjm, hmO, HOL, HBL⟩ := hrel
                    by_cases hm : j < m
                    case neg =>
                      have hm1 : ¬ (j : Int) < (m : Int) := by omega
                      have hmj : m = j := by omega
                      have HFIN : Hid (wr.ownsRow W1.heap.size 67 3 (.slice A9 (O.length + 1) q9) (insC X O).length (rowV ctE (insC X O))) := by
                        show World.ownsRow _ _ _ _ _ _ _
                        rw [HIF.out, dwn_len hj, ← hmj]
                        exact HOL.out
                      clear hmj hm
                      go_wp2_with fail
                      go_roundw
                      case rel => exact ⟨k + 1, insC X O, by go_num, by omega, HLEN.out, HINS.out, HFIN.out, HBL.out⟩
                      case measure => simp [intOf]; omega
                    case pos =>
                      have hm1 : (j : Int) < (m : Int) := by omega
                      have hown : wr.ownsRow W1.heap.size 67 3 (.slice A9 (O.length + 1) q9) (dwn O X m).length (rowV ctE (dwn O X m)) := by rw [dwn_len hmO]; exact HOL.out
                      have hl := dwn_len (X := X) hmO
                      obtain ⟨p, hp⟩ : ∃ p, m = p + 1 := ⟨m - 1, by omega⟩
                      subst hp
                      obtain ⟨g2, a2, HA2, hA2, hB2, lg2, hz1, hq2, u0, u1, u2, hf2⟩ := own_ct hown (k := p + 1) (by omega)
                      obtain ⟨g3, a3, HA3, hA3, hz2, hz3, hz4, hz5, v0, v1, v2, hz6⟩ := own_ct hown (k := p) (by omega)
                      subst hA2
                      injection hA3 with hA3
                      injection hA3 with hA3 _ _
                      subst hA3
                      have ha2 : a2 = X := HA2.out.symm.trans (dwn_at hmO)
                      have hnew : ((dwn O X (p + 1)).set (p + 1) a3).set p X = dwn O X p := by
                        have h1 := dwn_step (X := X) (k := p + 1) (by omega) hmO
                        rw [Nat.add_sub_cancel, HA3.out] at h1
                        exact h1
                      have hown2 := hown
                      rw [hl] at hown2
                      obtain ⟨k1, k2⟩ := own_set3 hown2 ((p + 1) * 3) (.int .i64 a3.s) (.int .i64 a3.n) (.int .i64 a3.c)
                      obtain ⟨k3, k4⟩ := own_set3 k1 (p * 3) (.int .i64 s) (.int .i64 n) (.int .i64 1)
                      have hset : setAll (setAll (rowV ctE (dwn O X (p + 1))) ((p + 1) * 3) [.int .i64 a3.s, .int .i64 a3.n, .int .i64 a3.c]) (p * 3) [.int .i64 s, .int .i64 n, .int .i64 1] = rowV ctE (dwn O X p) := by
                        have h1 := rowV_set ctE_len (L := dwn O X (p + 1)) (i := p + 1) (by omega) a3
                        have h2 := rowV_set ctE_len (L := (dwn O X (p + 1)).set (p + 1) a3) (i := p) (by rw [List.length_set]; omega) X
                        rw [hnew, ← h1, HXX.out] at h2
                        rw [← HXX.out] at h2
                        have h3 : ctE X = [.int .i64 s, .int .i64 n, .int .i64 1] := by rw [HXX.out]; rfl
                        rw [h3] at h2
                        exact h2
                      rw [hset] at k3
                      have HK3 := hide k3
                      have HK4 := hide (only_trans k2 k4)
                      rw [ha2, HXX.out] at u0 u1 u2
                      simp only at u0 u1 u2
                      have wm : IntKind.i64.wrap (((p + 1 : Nat) : Int) - 1) = (p : Int) := by rw [IntWalk.i64_in _ (by omega)]; omega
                      have wm2 : IntKind.i64.wrap ((p : Int) + 1 - 1) = (p : Int) := by rw [IntWalk.i64_in _ (by omega)]; omega
                      have wm3 : IntKind.i64.wrap (p : Int) = (p : Int) := by rw [IntWalk.i64_in _ (by omega)]
                      have f0 := hf2 ((p + 1) * 3)
                      have f1 := hf2 ((p + 1) * 3 + 1)
                      have f2 := hf2 ((p + 1) * 3 + 1 + 1)
                      have f3 := hf2 (p * 3)
                      have f4 := hf2 (p * 3 + 1)
                      have f5 := hf2 (p * 3 + 1 + 1)
                      have im0 : (0 : Int) ≤ ((p + 1 : Nat) : Int) := by omega
                      have im1 : ((p + 1 : Nat) : Int) < ((O.length + 1 : Nat) : Int) := by omega
                      have ip0 : (0 : Int) ≤ (p : Int) := by omega
                      have ip1 : (p : Int) < ((O.length + 1 : Nat) : Int) := by omega
                      have ip2 : p < O.length + 1 := by omega
                      have ip3 : p < O.length := by omega
                      have ip4 : p ≤ O.length := by omega
                      have ip5 : (p : Int) < (O.length : Int) + 1 := by omega
                      have ip6 : (p : Int) + 1 < (O.length : Int) + 1 := by omega
                      have ip7 : 0 ≤ (p : Int) + 1 := by omega
                      have iq9 : ((O.length + 1 : Nat) : Int) ≤ (q9 : Int) := by omega
                      have hKeep : Hid (wr.grownBy wr.drew (some g2)) := only_drew (only_refl _ _)
                      clear hown hown2 hl hset k1 k2 k3 k4 ha2 hnew hq2 hz1 hz2 hz3 hz4 hz5 hz6
                      go_upto_region 21 with (fail)
                      refine wp_region_held_drew (S := (fun w' => wr.grownBy w' (some g2))) (by kernel_rfl) ?_ (fun hHeld => ?_)
                      · try dsimp only
                        (first | ((repeat (first | (with_reducible assumption) | (with_reducible exact only_refl _ _) | (with_reducible exact hKeep.out) | (with_reducible refine only_drew ?_) | (with_reducible refine only_setCell ?_ (.inl rfl) _))); done) | exact only_refl _ _ | assumption | exact only_drew (only_refl _ _) | exact hKeep.out | exact only_drew (by assumption) | (refine only_setCell (only_drew (only_refl _ _)) ?_ _; exact .inl rfl) | (refine only_setCell (only_refl _ _) ?_ _; exact .inl rfl) | (repeat (first | (with_reducible exact only_refl _ _) | (with_reducible refine only_drew ?_) | (with_reducible refine only_setCell ?_ (.inl rfl) _))))
                      refine zG 0 rfl ?_
                      refine zG 1 rfl ?_
                      refine zG 2 rfl ?_
                      refine zG 3 rfl ?_
                      refine zG 4 rfl ?_
                      refine zG 5 rfl ?_
                      refine zG 6 rfl ?_
                      refine zG 7 rfl ?_
                      refine zG 8 rfl ?_
                      refine zG 10 rfl ?_
                      refine zG 11 rfl ?_
                      refine zG 12 rfl ?_
                      refine wpAnyH_ready (rs := [9, 13]) (by kernel_rfl) (by simp) ?_
                      refine (AllReadyH.cons rfl (fun K hK => ?o1_13_9) (AllReadyH.cons rfl (fun K hK => ?o1_13_13) AllReadyH.nil))
                      case' o1_13_9 =>
                        go_simp
                        refine hK.out _ _ ?_ (fun hNext => ?_)
                        · try dsimp only
                          (first | ((repeat (first | (with_reducible assumption) | (with_reducible exact only_refl _ _) | (with_reducible exact hKeep.out) | (with_reducible refine only_drew ?_) | (with_reducible refine only_setCell ?_ (.inl rfl) _))); done) | exact only_refl _ _ | assumption | exact only_drew (only_refl _ _) | exact hKeep.out | exact only_drew (by assumption) | (refine only_setCell (only_drew (only_refl _ _)) ?_ _; exact .inl rfl) | (refine only_setCell (only_refl _ _) ?_ _; exact .inl rfl) | (repeat (first | (with_reducible exact only_refl _ _) | (with_reducible refine only_drew ?_) | (with_reducible refine only_setCell ?_ (.inl rfl) _))))
                        clear hK K hHeld
                        have hHeld := hNext
                        clear hNext
                        (try dsimp only at hHeld)
                        try simp only [zX]
                        refine wpAnyH_ready (rs := [13]) (by kernel_rfl) (by simp) ?_
                        refine (AllReadyH.cons rfl (fun K hK => ?_) AllReadyH.nil)
                        go_simp
                        refine hK.out _ _ ?_ (fun hNext => ?_)
                        · try dsimp only
                          (first | ((repeat (first | (with_reducible assumption) | (with_reducible exact only_refl _ _) | (with_reducible exact hKeep.out) | (with_reducible refine only_drew ?_) | (with_reducible refine only_setCell ?_ (.inl rfl) _))); done) | exact only_refl _ _ | assumption | exact only_drew (only_refl _ _) | exact hKeep.out | exact only_drew (by assumption) | (refine only_setCell (only_drew (only_refl _ _)) ?_ _; exact .inl rfl) | (refine only_setCell (only_refl _ _) ?_ _; exact .inl rfl) | (repeat (first | (with_reducible exact only_refl _ _) | (with_reducible refine only_drew ?_) | (with_reducible refine only_setCell ?_ (.inl rfl) _))))
                        clear hK K hHeld
                        have hHeld := hNext
                        clear hNext
                        (try dsimp only at hHeld)
                        try simp only [zX]
                        refine zG 14 rfl ?_
                        refine wpAnyH_ready (rs := [15]) (by kernel_rfl) (by simp) ?_
                        refine (AllReadyH.cons rfl (fun K hK => ?_) AllReadyH.nil)
                        go_simp
                        refine hK.out _ _ ?_ (fun hNext => ?_)
                        · try dsimp only
                          (first | ((repeat (first | (with_reducible assumption) | (with_reducible exact only_refl _ _) | (with_reducible exact hKeep.out) | (with_reducible refine only_drew ?_) | (with_reducible refine only_setCell ?_ (.inl rfl) _))); done) | exact only_refl _ _ | assumption | exact only_drew (only_refl _ _) | exact hKeep.out | exact only_drew (by assumption) | (refine only_setCell (only_drew (only_refl _ _)) ?_ _; exact .inl rfl) | (refine only_setCell (only_refl _ _) ?_ _; exact .inl rfl) | (repeat (first | (with_reducible exact only_refl _ _) | (with_reducible refine only_drew ?_) | (with_reducible refine only_setCell ?_ (.inl rfl) _))))
                        clear hK K hHeld
                        have hHeld := hNext
                        clear hNext
                        (try dsimp only at hHeld)
                        try simp only [zX]
                        refine zG 16 rfl ?_
                        refine wpAnyH_ready (rs := [17]) (by kernel_rfl) (by simp) ?_
                        refine (AllReadyH.cons rfl (fun K hK => ?_) AllReadyH.nil)
                        go_simp
                        refine hK.out _ _ ?_ (fun hNext => ?_)
                        · try dsimp only
                          (first | ((repeat (first | (with_reducible assumption) | (with_reducible exact only_refl _ _) | (with_reducible exact hKeep.out) | (with_reducible refine only_drew ?_) | (with_reducible refine only_setCell ?_ (.inl rfl) _))); done) | exact only_refl _ _ | assumption | exact only_drew (only_refl _ _) | exact hKeep.out | exact only_drew (by assumption) | (refine only_setCell (only_drew (only_refl _ _)) ?_ _; exact .inl rfl) | (refine only_setCell (only_refl _ _) ?_ _; exact .inl rfl) | (repeat (first | (with_reducible exact only_refl _ _) | (with_reducible refine only_drew ?_) | (with_reducible refine only_setCell ?_ (.inl rfl) _))))
                        clear hK K hHeld
                        have hHeld := hNext
                        clear hNext
                        (try dsimp only at hHeld)
                        try simp only [zX]
                        refine wpAnyH_done (by kernel_rfl) ?_ _
                      case' o1_13_13 =>
                        go_simp
                        refine hK.out _ _ ?_ (fun hNext => ?_)
                        · try dsimp only
                          (first | ((repeat (first | (with_reducible assumption) | (with_reducible exact only_refl _ _) | (with_reducible exact hKeep.out) | (with_reducible refine only_drew ?_) | (with_reducible refine only_setCell ?_ (.inl rfl) _))); done) | exact only_refl _ _ | assumption | exact only_drew (only_refl _ _) | exact hKeep.out | exact only_drew (by assumption) | (refine only_setCell (only_drew (only_refl _ _)) ?_ _; exact .inl rfl) | (refine only_setCell (only_refl _ _) ?_ _; exact .inl rfl) | (repeat (first | (with_reducible exact only_refl _ _) | (with_reducible refine only_drew ?_) | (with_reducible refine only_setCell ?_ (.inl rfl) _))))
                        clear hK K hHeld
                        have hHeld := hNext
                        clear hNext
                        (try dsimp only at hHeld)
                        try simp only [zX]
                        refine wpAnyH_ready (rs := [9]) (by kernel_rfl) (by simp) ?_
                        refine (AllReadyH.cons rfl (fun K hK => ?_) AllReadyH.nil)
                        go_simp
                        refine hK.out _ _ ?_ (fun hNext => ?_)
                        · try dsimp only
                          (first | ((repeat (first | (with_reducible assumption) | (with_reducible exact only_refl _ _) | (with_reducible exact hKeep.out) | (with_reducible refine only_drew ?_) | (with_reducible refine only_setCell ?_ (.inl rfl) _))); done) | exact only_refl _ _ | assumption | exact only_drew (only_refl _ _) | exact hKeep.out | exact only_drew (by assumption) | (refine only_setCell (only_drew (only_refl _ _)) ?_ _; exact .inl rfl) | (refine only_setCell (only_refl _ _) ?_ _; exact .inl rfl) | (repeat (first | (with_reducible exact only_refl _ _) | (with_reducible refine only_drew ?_) | (with_reducible refine only_setCell ?_ (.inl rfl) _))))
                        clear hK K hHeld
                        have hHeld := hNext
                        clear hNext
                        (try dsimp only at hHeld)
                        try simp only [zX]
                        refine zG 14 rfl ?_
                        refine wpAnyH_ready (rs := [15]) (by kernel_rfl) (by simp) ?_
                        refine (AllReadyH.cons rfl (fun K hK => ?_) AllReadyH.nil)
                        go_simp
                        refine hK.out _ _ ?_ (fun hNext => ?_)
                        · try dsimp only
                          (first | ((repeat (first | (with_reducible assumption) | (with_reducible exact only_refl _ _) | (with_reducible exact hKeep.out) | (with_reducible refine only_drew ?_) | (with_reducible refine only_setCell ?_ (.inl rfl) _))); done) | exact only_refl _ _ | assumption | exact only_drew (only_refl _ _) | exact hKeep.out | exact only_drew (by assumption) | (refine only_setCell (only_drew (only_refl _ _)) ?_ _; exact .inl rfl) | (refine only_setCell (only_refl _ _) ?_ _; exact .inl rfl) | (repeat (first | (with_reducible exact only_refl _ _) | (with_reducible refine only_drew ?_) | (with_reducible refine only_setCell ?_ (.inl rfl) _))))
                        clear hK K hHeld
                        have hHeld := hNext
                        clear hNext
                        (try dsimp only at hHeld)
                        try simp only [zX]
                        refine zG 16 rfl ?_
                        refine wpAnyH_ready (rs := [17]) (by kernel_rfl) (by simp) ?_
                        refine (AllReadyH.cons rfl (fun K hK => ?_) AllReadyH.nil)
                        go_simp
                        refine hK.out _ _ ?_ (fun hNext => ?_)
                        · try dsimp only
                          (first | ((repeat (first | (with_reducible assumption) | (with_reducible exact only_refl _ _) | (with_reducible exact hKeep.out) | (with_reducible refine only_drew ?_) | (with_reducible refine only_setCell ?_ (.inl rfl) _))); done) | exact only_refl _ _ | assumption | exact only_drew (only_refl _ _) | exact hKeep.out | exact only_drew (by assumption) | (refine only_setCell (only_drew (only_refl _ _)) ?_ _; exact .inl rfl) | (refine only_setCell (only_refl _ _) ?_ _; exact .inl rfl) | (repeat (first | (with_reducible exact only_refl _ _) | (with_reducible refine only_drew ?_) | (with_reducible refine only_setCell ?_ (.inl rfl) _))))
                        clear hK K hHeld
                        have hHeld := hNext
                        clear hNext
                        (try dsimp only at hHeld)
                        try simp only [zX]
                        refine wpAnyH_done (by kernel_rfl) ?_ _
                      all_goals
                        have hk3 := HK3.out
                        have hk4 := HK4.out
                        generalize hwv : World.setCell (World.setCell (World.setCell (World.setCell (World.setCell (World.setCell wr _ _) _ _) _ _) _ _) _ _) _ _ = w9 at hk3 hk4 ⊢
                        have HK5 : Hid (w9.drew.ownsRow W1.heap.size 67 3 (.slice (some ⟨g2, 0, none⟩) (O.length + 1) q9) (O.length + 1) (rowV ctE (dwn O X p))) := hk3
                        have HB9' : Hid (Below W1.heap.size W1 w9.drew) := Below.grown HBL.out (only_drew hk4) HBL.out.size (fun q hq => by injection hq with hq; omega)
                        clear hwv hk3 hk4 hHeld hKeep u0 u1 u2 v0 v1 v2 f0 f1 f2 f3 f4 f5
                        generalize hwd : World.drew w9 = w9d at HK5 HB9' ⊢
                        clear hwd
                        go_wp2_with fail
                        go_roundw
                        case rel => exact ⟨p, by first | rfl | go_num, by omega, by omega, HK5, HB9'⟩
                        case measure => simp [intOf] <;> omega
            · have hse : (a.s == s) = false := by simpa using hs1
              have hnlt : ltK a X = false := by
                cases hc : ltK a X with
                | false => rfl
                | true => rw [ltK_iff, HXX.out] at hc; simp only at hc; omega
              have HNLT := hide hnlt
              have HS1 := hide hs1
              clear hs0 hs1 hnlt
              go_upto_region 13 with (fail)
              refine wp_region_held_drew (S := (fun w' => Below wr.heap.size wr w')) (by kernel_rfl) ?_ (fun hHeld => ?_)
              · try dsimp only
                exact (by repeat (first | exact Below.refl _ _ | assumption | refine Below.drew ?_ | refine Below.drewN ?_ _ | refine Below.allocT ?_ (Nat.le_refl _) _ | refine Below.setCell ?_ (by simp <;> omega) _ | refine Below.to ?_ (by assumption) (Nat.le_refl _)))
              refine zT 0 rfl ?_
              refine zT 1 rfl ?_
              refine zT 2 rfl ?_
              refine zT 3 rfl ?_
              refine zT 4 rfl ?_
              refine zT 5 rfl ?_
              refine zT 6 rfl ?_
              refine zT 7 rfl ?_
              refine zT 8 rfl ?_
              refine zT 9 rfl ?_
              refine zT 10 rfl ?_
              refine zT 11 rfl ?_
              refine zT 12 rfl ?_
              refine zT 13 rfl ?_
              refine zT 14 rfl ?_
              refine zT 15 rfl ?_
              refine zT 16 rfl ?_
              refine zT 17 rfl ?_
              refine zT 18 rfl ?_
              refine zT 19 rfl ?_
              refine zT 20 rfl ?_
              refine zT 21 rfl ?_
              refine zT 22 rfl ?_
              refine zS 23 rfl ?_
              refine zS 24 rfl ?_
              refine zS 25 rfl ?_
              refine zS 26 rfl ?_
              refine zS 27 rfl ?_
              refine zS 28 rfl ?_
              refine zS 29 rfl ?_
              refine zS 30 rfl ?_
              refine zT 31 rfl ?_
              refine zT 32 rfl ?_
              refine zT 33 rfl ?_
              refine wpAnyH_done (by kernel_rfl) ?_ _
              generalize hw7 : World.drew _ = w7 at hHeld ⊢
              have HB7 := hide (Below.to HBW.out hHeld (Nat.le_refl _))
              have HO7 := hide (owns_below HOr.out hHeld)
              have HX7b := hide (box_to HXr.out hHeld)
              clear hw7 hHeld x0 x1 lx y0 y1 y2 lg hfz
              go_upto_region 15 with (fail)
              obtain ⟨g7, a7, HA7, hA7, _, lg7, _, _, y0, y1, y2, hfz⟩ := own_ct HO7.out hjl
              have ha7 : a7 = a := HA7.out.symm.trans HAr.out
              subst ha7
              injection hA7 with hA7
              injection hA7 with hA7 _ _
              subst hA7
              have x0 := cellOf HX7b.out 0
              have x1 := cellOf HX7b.out 1
              have lx := box_lt HX7b.out
              refine wp_region_held_drew (S := (fun w' => Below w7.heap.size w7 w')) (by kernel_rfl) ?_ (fun hHeld => ?_)
              · try dsimp only
                exact (by repeat (first | exact Below.refl _ _ | assumption | refine Below.drew ?_ | refine Below.drewN ?_ _ | refine Below.allocT ?_ (Nat.le_refl _) _ | refine Below.setCell ?_ (by simp <;> omega) _ | refine Below.to ?_ (by assumption) (Nat.le_refl _)))
              refine zT 0 rfl ?_
              refine zT 1 rfl ?_
              refine zT 2 rfl ?_
              refine zT 3 rfl ?_
              refine zT 4 rfl ?_
              refine zT 5 rfl ?_
              refine zT 6 rfl ?_
              refine zT 7 rfl ?_
              refine zT 8 rfl ?_
              refine zT 9 rfl ?_
              refine zT 10 rfl ?_
              refine zT 11 rfl ?_
              refine zT 12 rfl ?_
              refine zT 13 rfl ?_
              refine zT 14 rfl ?_
              refine zS 15 rfl ?_
              refine zS 16 rfl ?_
              refine zS 17 rfl ?_
              refine zS 18 rfl ?_
              refine zS 19 rfl ?_
              refine zS 20 rfl ?_
              refine zS 21 rfl ?_
              refine zS 22 rfl ?_
              refine zT 23 rfl ?_
              refine wpAnyH_done (by kernel_rfl) ?_ _
              generalize hw8 : World.drew _ = w8 at hHeld ⊢
              have HB8 := hide (Below.to HB7.out hHeld (Nat.le_refl _))
              have HO8 := hide (owns_below HO7.out hHeld)
              have HX8b := hide (box_to HX7b.out hHeld)
              clear hw8 hHeld x0 x1 lx y0 y1 y2 lg7 hfz
              have HBX := hide (Below.trans (Below.to HB5.out HB6.out (Nat.le_refl _)) (HB8.out.mono (Nat.le_trans HB5.out.size HB6.out.size)))
              have hif : insC X O = dwn O X j := by
                rw [insC_pos (by rw [HXX.out]) hj HLT2.out (fun _ => by rw [HAr.out]; exact HNLT.out), if_neg (fun h => by have h1 := h.2; rw [HAr.out, sameK_iff, HXX.out] at h1; exact HS1.out h1.1)]
                rfl
              have HIF := hide hif
              have hBsz : W1.heap.size ≤ w8.heap.size := Nat.le_trans HB5.out.size (Nat.le_trans HB6.out.size HB8.out.size)
              have z0 := cellOf HX8b.out 0
              have z1 := cellOf HX8b.out 1
              have z2 := cellOf HX8b.out 2
              have lz2 := box_lt HX8b.out
              have hO60 : O.length ≤ 60 := by omega
              clear hif
              go_upto_region 18 with (at_builtin; go_must (refine wpList_append_own_at _ rfl (.tmp 120) (.tmp 122) _ rfl (W1.heap.size) 67 i0 _ 3 24 Tryz.underlying63 hi0 iz0 iz1 iz2 rfl (by omega) _ _ _ rfl ((HO8.out).alloc _) ⟨w8.heap.size, 0, none⟩ 1 1 [.int .i64 s, .int .i64 n, .int .i64 1] rfl rfl (World.news_of_block (heap_alloc_new w8 _)) (by simp [Value.oneCell']) (by have h1 := hO60; unfold maxLen; omega) (by have h1 := hO60; omega) (by have h1 := hBsz; simp; omega) ?_); intro v1 w3 hown1 hg1 _ hat1; obtain ⟨A9, q9, e9⟩ := owns_form hown1; subst e9; have HO9 := hide hown1; have HB9 := hide (Below.grown (Below.allocT HBX.out (by omega) _) hg1 (by have := HBX.out.size; simp; omega) (fun q hq => (HO8.out.lt q hq).1)); clear hown1 hg1 hat1 z0 z1 z2 lz2)
              have wl1 : IntKind.i64.wrap (((O.length + 1 : Nat) : Int) - 1) = (O.length : Int) := by rw [IntWalk.i64_in _ (by omega)]; omega
              have wl2 : IntKind.i64.wrap ((O.length : Int) + 1 - 1) = (O.length : Int) := by rw [IntWalk.i64_in _ (by omega)]; omega
              go_wp2_with fail
              clear wl1 wl2
              have HO9b : Hid (w3.ownsRow W1.heap.size 67 3 (.slice A9 (O.length + 1) q9) (O.length + 1) (rowV ctE (dwn O X O.length))) := by
                show World.ownsRow _ _ _ _ _ _ _
                rw [dwn_end, rowV_snoc, HXX.out]
                exact HO9.out
              go_loopw [14] (fun kv wr => ∃ m : Nat, kv = .int .i64 m ∧ j ≤ m ∧ m ≤ O.length ∧ Hid (wr.ownsRow W1.heap.size 67 3 (.slice A9 (O.length + 1) q9) (O.length + 1) (rowV ctE (dwn O X m))) ∧ Hid (Below W1.heap.size W1 wr)) (fun kv _ => (intOf kv).toNat)
              case atStart => exact ⟨O.length, rfl, hj, Nat.le_refl _, HO9b.out, HB9.out⟩
              case round =>
                obtain ⟨m, rfl, hjm, hmO, HOL, HBL⟩ := hrel
                by_cases hm : j < m
                case neg =>
                  have hm1 : ¬ (j : Int) < (m : Int) := by omega
                  have hmj : m = j := by omega
                  have HFIN : Hid (wr.ownsRow W1.heap.size 67 3 (.slice A9 (O.length + 1) q9) (insC X O).length (rowV ctE (insC X O))) := by
                    show World.ownsRow _ _ _ _ _ _ _
                    rw [HIF.out, dwn_len hj, ← hmj]
                    exact HOL.out
                  clear hmj hm
                  go_wp2_with fail
                  go_roundw
                  case rel => exact ⟨k + 1, insC X O, by go_num, by omega, HLEN.out, HINS.out, HFIN.out, HBL.out⟩
                  case measure => simp [intOf]; omega
                case pos =>
                  have hm1 : (j : Int) < (m : Int) := by omega
                  have hown : wr.ownsRow W1.heap.size 67 3 (.slice A9 (O.length + 1) q9) (dwn O X m).length (rowV ctE (dwn O X m)) := by rw [dwn_len hmO]; exact HOL.out
                  have hl := dwn_len (X := X) hmO
                  obtain ⟨p, hp⟩ : ∃ p, m = p + 1 := ⟨m - 1, by omega⟩
                  subst hp
                  obtain ⟨g2, a2, HA2, hA2, hB2, lg2, hz1, hq2, u0, u1, u2, hf2⟩ := own_ct hown (k := p + 1) (by omega)
                  obtain ⟨g3, a3, HA3, hA3, hz2, hz3, hz4, hz5, v0, v1, v2, hz6⟩ := own_ct hown (k := p) (by omega)
                  subst hA2
                  injection hA3 with hA3
                  injection hA3 with hA3 _ _
                  subst hA3
                  have ha2 : a2 = X := HA2.out.symm.trans (dwn_at hmO)
                  have hnew : ((dwn O X (p + 1)).set (p + 1) a3).set p X = dwn O X p := by
                    have h1 := dwn_step (X := X) (k := p + 1) (by omega) hmO
                    rw [Nat.add_sub_cancel, HA3.out] at h1
                    exact h1
                  have hown2 := hown
                  rw [hl] at hown2
                  obtain ⟨k1, k2⟩ := own_set3 hown2 ((p + 1) * 3) (.int .i64 a3.s) (.int .i64 a3.n) (.int .i64 a3.c)
                  obtain ⟨k3, k4⟩ := own_set3 k1 (p * 3) (.int .i64 s) (.int .i64 n) (.int .i64 1)
                  have hset : setAll (setAll (rowV ctE (dwn O X (p + 1))) ((p + 1) * 3) [.int .i64 a3.s, .int .i64 a3.n, .int .i64 a3.c]) (p * 3) [.int .i64 s, .int .i64 n, .int .i64 1] = rowV ctE (dwn O X p) := by
                    have h1 := rowV_set ctE_len (L := dwn O X (p + 1)) (i := p + 1) (by omega) a3
                    have h2 := rowV_set ctE_len (L := (dwn O X (p + 1)).set (p + 1) a3) (i := p) (by rw [List.length_set]; omega) X
                    rw [hnew, ← h1, HXX.out] at h2
                    rw [← HXX.out] at h2
                    have h3 : ctE X = [.int .i64 s, .int .i64 n, .int .i64 1] := by rw [HXX.out]; rfl
                    rw [h3] at h2
                    exact h2
                  rw [hset] at k3
                  have HK3 := hide k3
                  have HK4 := hide (only_trans k2 k4)
                  rw [ha2, HXX.out] at u0 u1 u2
                  simp only at u0 u1 u2
                  have wm : IntKind.i64.wrap (((p + 1 : Nat) : Int) - 1) = (p : Int) := by rw [IntWalk.i64_in _ (by omega)]; omega
                  have wm2 : IntKind.i64.wrap ((p : Int) + 1 - 1) = (p : Int) := by rw [IntWalk.i64_in _ (by omega)]; omega
                  have wm3 : IntKind.i64.wrap (p : Int) = (p : Int) := by rw [IntWalk.i64_in _ (by omega)]
                  have f0 := hf2 ((p + 1) * 3)
                  have f1 := hf2 ((p + 1) * 3 + 1)
                  have f2 := hf2 ((p + 1) * 3 + 1 + 1)
                  have f3 := hf2 (p * 3)
                  have f4 := hf2 (p * 3 + 1)
                  have f5 := hf2 (p * 3 + 1 + 1)
                  have im0 : (0 : Int) ≤ ((p + 1 : Nat) : Int) := by omega
                  have im1 : ((p + 1 : Nat) : Int) < ((O.length + 1 : Nat) : Int) := by omega
                  have ip0 : (0 : Int) ≤ (p : Int) := by omega
                  have ip1 : (p : Int) < ((O.length + 1 : Nat) : Int) := by omega
                  have ip2 : p < O.length + 1 := by omega
                  have ip3 : p < O.length := by omega
                  have ip4 : p ≤ O.length := by omega
                  have ip5 : (p : Int) < (O.length : Int) + 1 := by omega
                  have ip6 : (p : Int) + 1 < (O.length : Int) + 1 := by omega
                  have ip7 : 0 ≤ (p : Int) + 1 := by omega
                  have iq9 : ((O.length + 1 : Nat) : Int) ≤ (q9 : Int) := by omega
                  have hKeep : Hid (wr.grownBy wr.drew (some g2)) := only_drew (only_refl _ _)
                  clear hown hown2 hl hset k1 k2 k3 k4 ha2 hnew hq2 hz1 hz2 hz3 hz4 hz5 hz6
                  go_upto_region 21 with (fail)
                  refine wp_region_held_drew (S := (fun w' => wr.grownBy w' (some g2))) (by kernel_rfl) ?_ (fun hHeld => ?_)
                  · try dsimp only
                    (first | ((repeat (first | (with_reducible assumption) | (with_reducible exact only_refl _ _) | (with_reducible exact hKeep.out) | (with_reducible refine only_drew ?_) | (with_reducible refine only_setCell ?_ (.inl rfl) _))); done) | exact only_refl _ _ | assumption | exact only_drew (only_refl _ _) | exact hKeep.out | exact only_drew (by assumption) | (refine only_setCell (only_drew (only_refl _ _)) ?_ _; exact .inl rfl) | (refine only_setCell (only_refl _ _) ?_ _; exact .inl rfl) | (repeat (first | (with_reducible exact only_refl _ _) | (with_reducible refine only_drew ?_) | (with_reducible refine only_setCell ?_ (.inl rfl) _))))
                  refine zG 0 rfl ?_
                  refine zG 1 rfl ?_
                  refine zG 2 rfl ?_
                  refine zG 3 rfl ?_
                  refine zG 4 rfl ?_
                  refine zG 5 rfl ?_
                  refine zG 6 rfl ?_
                  refine zG 7 rfl ?_
                  refine zG 8 rfl ?_
                  refine zG 10 rfl ?_
                  refine zG 11 rfl ?_
                  refine zG 12 rfl ?_
                  refine wpAnyH_ready (rs := [9, 13]) (by kernel_rfl) (by simp) ?_
                  refine (AllReadyH.cons rfl (fun K hK => ?o2_13_9) (AllReadyH.cons rfl (fun K hK => ?o2_13_13) AllReadyH.nil))
                  case' o2_13_9 =>
                    go_simp
                    refine hK.out _ _ ?_ (fun hNext => ?_)
                    · try dsimp only
                      (first | ((repeat (first | (with_reducible assumption) | (with_reducible exact only_refl _ _) | (with_reducible exact hKeep.out) | (with_reducible refine only_drew ?_) | (with_reducible refine only_setCell ?_ (.inl rfl) _))); done) | exact only_refl _ _ | assumption | exact only_drew (only_refl _ _) | exact hKeep.out | exact only_drew (by assumption) | (refine only_setCell (only_drew (only_refl _ _)) ?_ _; exact .inl rfl) | (refine only_setCell (only_refl _ _) ?_ _; exact .inl rfl) | (repeat (first | (with_reducible exact only_refl _ _) | (with_reducible refine only_drew ?_) | (with_reducible refine only_setCell ?_ (.inl rfl) _))))
                    clear hK K hHeld
                    have hHeld := hNext
                    clear hNext
                    (try dsimp only at hHeld)
                    try simp only [zX]
                    refine wpAnyH_ready (rs := [13]) (by kernel_rfl) (by simp) ?_
                    refine (AllReadyH.cons rfl (fun K hK => ?_) AllReadyH.nil)
                    go_simp
                    refine hK.out _ _ ?_ (fun hNext => ?_)
                    · try dsimp only
                      (first | ((repeat (first | (with_reducible assumption) | (with_reducible exact only_refl _ _) | (with_reducible exact hKeep.out) | (with_reducible refine only_drew ?_) | (with_reducible refine only_setCell ?_ (.inl rfl) _))); done) | exact only_refl _ _ | assumption | exact only_drew (only_refl _ _) | exact hKeep.out | exact only_drew (by assumption) | (refine only_setCell (only_drew (only_refl _ _)) ?_ _; exact .inl rfl) | (refine only_setCell (only_refl _ _) ?_ _; exact .inl rfl) | (repeat (first | (with_reducible exact only_refl _ _) | (with_reducible refine only_drew ?_) | (with_reducible refine only_setCell ?_ (.inl rfl) _))))
                    clear hK K hHeld
                    have hHeld := hNext
                    clear hNext
                    (try dsimp only at hHeld)
                    try simp only [zX]
                    refine zG 14 rfl ?_
                    refine wpAnyH_ready (rs := [15]) (by kernel_rfl) (by simp) ?_
                    refine (AllReadyH.cons rfl (fun K hK => ?_) AllReadyH.nil)
                    go_simp
                    refine hK.out _ _ ?_ (fun hNext => ?_)
                    · try dsimp only
                      (first | ((repeat (first | (with_reducible assumption) | (with_reducible exact only_refl _ _) | (with_reducible exact hKeep.out) | (with_reducible refine only_drew ?_) | (with_reducible refine only_setCell ?_ (.inl rfl) _))); done) | exact only_refl _ _ | assumption | exact only_drew (only_refl _ _) | exact hKeep.out | exact only_drew (by assumption) | (refine only_setCell (only_drew (only_refl _ _)) ?_ _; exact .inl rfl) | (refine only_setCell (only_refl _ _) ?_ _; exact .inl rfl) | (repeat (first | (with_reducible exact only_refl _ _) | (with_reducible refine only_drew ?_) | (with_reducible refine only_setCell ?_ (.inl rfl) _))))
                    clear hK K hHeld
                    have hHeld := hNext
                    clear hNext
                    (try dsimp only at hHeld)
                    try simp only [zX]
                    refine zG 16 rfl ?_
                    refine wpAnyH_ready (rs := [17]) (by kernel_rfl) (by simp) ?_
                    refine (AllReadyH.cons rfl (fun K hK => ?_) AllReadyH.nil)
                    go_simp
                    refine hK.out _ _ ?_ (fun hNext => ?_)
                    · try dsimp only
                      (first | ((repeat (first | (with_reducible assumption) | (with_reducible exact only_refl _ _) | (with_reducible exact hKeep.out) | (with_reducible refine only_drew ?_) | (with_reducible refine only_setCell ?_ (.inl rfl) _))); done) | exact only_refl _ _ | assumption | exact only_drew (only_refl _ _) | exact hKeep.out | exact only_drew (by assumption) | (refine only_setCell (only_drew (only_refl _ _)) ?_ _; exact .inl rfl) | (refine only_setCell (only_refl _ _) ?_ _; exact .inl rfl) | (repeat (first | (with_reducible exact only_refl _ _) | (with_reducible refine only_drew ?_) | (with_reducible refine only_setCell ?_ (.inl rfl) _))))
                    clear hK K hHeld
                    have hHeld := hNext
                    clear hNext
                    (try dsimp only at hHeld)
                    try simp only [zX]
                    refine wpAnyH_done (by kernel_rfl) ?_ _
                  case' o2_13_13 =>
                    go_simp
                    refine hK.out _ _ ?_ (fun hNext => ?_)
                    · try dsimp only
                      (first | ((repeat (first | (with_reducible assumption) | (with_reducible exact only_refl _ _) | (with_reducible exact hKeep.out) | (with_reducible refine only_drew ?_) | (with_reducible refine only_setCell ?_ (.inl rfl) _))); done) | exact only_refl _ _ | assumption | exact only_drew (only_refl _ _) | exact hKeep.out | exact only_drew (by assumption) | (refine only_setCell (only_drew (only_refl _ _)) ?_ _; exact .inl rfl) | (refine only_setCell (only_refl _ _) ?_ _; exact .inl rfl) | (repeat (first | (with_reducible exact only_refl _ _) | (with_reducible refine only_drew ?_) | (with_reducible refine only_setCell ?_ (.inl rfl) _))))
                    clear hK K hHeld
                    have hHeld := hNext
                    clear hNext
                    (try dsimp only at hHeld)
                    try simp only [zX]
                    refine wpAnyH_ready (rs := [9]) (by kernel_rfl) (by simp) ?_
                    refine (AllReadyH.cons rfl (fun K hK => ?_) AllReadyH.nil)
                    go_simp
                    refine hK.out _ _ ?_ (fun hNext => ?_)
                    · try dsimp only
                      (first | ((repeat (first | (with_reducible assumption) | (with_reducible exact only_refl _ _) | (with_reducible exact hKeep.out) | (with_reducible refine only_drew ?_) | (with_reducible refine only_setCell ?_ (.inl rfl) _))); done) | exact only_refl _ _ | assumption | exact only_drew (only_refl _ _) | exact hKeep.out | exact only_drew (by assumption) | (refine only_setCell (only_drew (only_refl _ _)) ?_ _; exact .inl rfl) | (refine only_setCell (only_refl _ _) ?_ _; exact .inl rfl) | (repeat (first | (with_reducible exact only_refl _ _) | (with_reducible refine only_drew ?_) | (with_reducible refine only_setCell ?_ (.inl rfl) _))))
                    clear hK K hHeld
                    have hHeld := hNext
                    clear hNext
                    (try dsimp only at hHeld)
                    try simp only [zX]
                    refine zG 14 rfl ?_
                    refine wpAnyH_ready (rs := [15]) (by kernel_rfl) (by simp) ?_
                    refine (AllReadyH.cons rfl (fun K hK => ?_) AllReadyH.nil)
                    go_simp
                    refine hK.out _ _ ?_ (fun hNext => ?_)
                    · try dsimp only
                      (first | ((repeat (first | (with_reducible assumption) | (with_reducible exact only_refl _ _) | (with_reducible exact hKeep.out) | (with_reducible refine only_drew ?_) | (with_reducible refine only_setCell ?_ (.inl rfl) _))); done) | exact only_refl _ _ | assumption | exact only_drew (only_refl _ _) | exact hKeep.out | exact only_drew (by assumption) | (refine only_setCell (only_drew (only_refl _ _)) ?_ _; exact .inl rfl) | (refine only_setCell (only_refl _ _) ?_ _; exact .inl rfl) | (repeat (first | (with_reducible exact only_refl _ _) | (with_reducible refine only_drew ?_) | (with_reducible refine only_setCell ?_ (.inl rfl) _))))
                    clear hK K hHeld
                    have hHeld := hNext
                    clear hNext
                    (try dsimp only at hHeld)
                    try simp only [zX]
                    refine zG 16 rfl ?_
                    refine wpAnyH_ready (rs := [17]) (by kernel_rfl) (by simp) ?_
                    refine (AllReadyH.cons rfl (fun K hK => ?_) AllReadyH.nil)
                    go_simp
                    refine hK.out _ _ ?_ (fun hNext => ?_)
                    · try dsimp only
                      (first | ((repeat (first | (with_reducible assumption) | (with_reducible exact only_refl _ _) | (with_reducible exact hKeep.out) | (with_reducible refine only_drew ?_) | (with_reducible refine only_setCell ?_ (.inl rfl) _))); done) | exact only_refl _ _ | assumption | exact only_drew (only_refl _ _) | exact hKeep.out | exact only_drew (by assumption) | (refine only_setCell (only_drew (only_refl _ _)) ?_ _; exact .inl rfl) | (refine only_setCell (only_refl _ _) ?_ _; exact .inl rfl) | (repeat (first | (with_reducible exact only_refl _ _) | (with_reducible refine only_drew ?_) | (with_reducible refine only_setCell ?_ (.inl rfl) _))))
                    clear hK K hHeld
                    have hHeld := hNext
                    clear hNext
                    (try dsimp only at hHeld)
                    try simp only [zX]
                    refine wpAnyH_done (by kernel_rfl) ?_ _
                  all_goals
                    have hk3 := HK3.out
                    have hk4 := HK4.out
                    generalize hwv : World.setCell (World.setCell (World.setCell (World.setCell (World.setCell (World.setCell wr _ _) _ _) _ _) _ _) _ _) _ _ = w9 at hk3 hk4 ⊢
                    have HK5 : Hid (w9.drew.ownsRow W1.heap.size 67 3 (.slice (some ⟨g2, 0, none⟩) (O.length + 1) q9) (O.length + 1) (rowV ctE (dwn O X p))) := hk3
                    have HB9' : Hid (Below W1.heap.size W1 w9.drew) := Below.grown HBL.out (only_drew hk4) HBL.out.size (fun q hq => by injection hq with hq; omega)
                    clear hwv hk3 hk4 hHeld hKeep u0 u1 u2 v0 v1 v2 f0 f1 f2 f3 f4 f5
                    generalize hwd : World.drew w9 = w9d at HK5 HB9' ⊢
                    clear hwd
                    go_wp2_with fail
                    go_roundw
                    case rel => exact ⟨p, by first | rfl | go_num, by omega, by omega, HK5, HB9'⟩
                    case measure => simp [intOf] <;> omega
end Go.Proofs.YtehadoecnmfeoaaGreat

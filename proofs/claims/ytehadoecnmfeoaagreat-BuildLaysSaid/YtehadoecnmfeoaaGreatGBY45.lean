/- Part 45 of this claim's texts: walks and plain laws. -/
import Derived.Test.YtehadoecnmfeoaaGreatRows
import Derived.Test.YtehadoecnmfeoaaGreatGBY44
import Derived.Laws.EntriesVeiled
import Derived.Deep.DeepMust
import Derived.Deep.RegionHeld3
import Derived.Deep.DrawnRows
import Derived.Test.YtehadoecnmfeoaaGreatGBY3
/- The search for boards: walk of its closure. -/
namespace Go.Proofs.YtehadoecnmfeoaaGreat
open Go.RowKit
set_option linter.unusedVariables false
set_option linter.unusedSimpArgs false
theorem index4 (S : Nat → Nat) (W : World) (k : Nat) (hk : k < 4) : (Instr.index 118 (.agg #[.int .i64 (S 0 : Nat), .int .i64 (S 1 : Nat), .int .i64 (S 2 : Nat), .int .i64 (S 3 : Nat)]) (.int .i64 (k : Nat))).run Tryz.prog W = .ok (.int .i64 (S k : Nat)) W := by
  obtain ⟨i0, hi0, iz0, iz1, iz2⟩ := info_parts infoInt
  have hu : Tryz.prog.underlying 118 = some (.array 4 3) := Tryz.underlying118
  obtain rfl | rfl | rfl | rfl : k = 0 ∨ k = 1 ∨ k = 2 ∨ k = 3 := by omega
  all_goals simp [Instr.index, run_underlying hu, asIntOf, sizeOf, typeInfo, hi0, iz1, part, go_sem]
theorem own_ge {w : World} {B e n q : Nat} {A : Option Addr} {xs : List Value} (h : w.ownsRow B e 1 (.slice A n q) n xs) (hn : 0 < n) : ∃ g, A = some ⟨g, 0, none⟩ ∧ n ≤ q ∧ g < w.heap.size := by
  obtain ⟨g, h1, _, h3, cur, h4⟩ := own_at7 h hn
  exact ⟨g, h1, h3, box_lt h4⟩
set_option maxRecDepth 100000 in
set_option maxHeartbeats 8000000 in
theorem layN_any (m : Mo) (ms : List Md) (Am : Option Addr) (qm n : Nat) (hn4 : n ≤ 4) (h8 : ms.length ≤ 8) (LD : List Nat) (hLD : LD.length = 2 ^ ms.length) (hld : ∀ s, s < 2 ^ ms.length → LD.getD s 0 = ldS m ms s) (w0 : World) (n0 mb lb eb bb nb xb : Nat) (Al : Option Addr) (ql : Nat) :
    ∀ (k : Nat) (L : List Nat) (S : Nat → Nat) (bv : Value) (le : Int) (ov : Value) (BO : List Nat) (w : World), LyAt w0 w n0 mb lb eb bb nb xb (.slice Am ms.length qm) (.slice Al LD.length ql) n LD le ov BO → L.length + k = ms.length → SetP L S → w.ownsRow n0 3 1 bv L.length (nvL L) → (∀ g, bv.ownBlock = some g → ov.ownBlock ≠ some g) →
    Calls Tryz.prog 78 #[bv, .agg #[.int .i64 (S 0 : Nat), .int .i64 (S 1 : Nat), .int .i64 (S 2 : Nat), .int .i64 (S 3 : Nat)], .pointer (some ⟨mb, 0, none⟩), .pointer (some ⟨lb, 0, none⟩), .pointer (some ⟨eb, 0, none⟩), .pointer (some ⟨bb, 0, none⟩), .pointer (some ⟨nb, 0, none⟩), .pointer (some ⟨xb, 0, none⟩)] w
      (LyP w0 w n0 mb lb eb bb nb xb (.slice Am ms.length qm) (.slice Al LD.length ql) n LD ov bv L (layR (lstN m ms) n k L (BO, le))) := by
  obtain ⟨i0, hi0, iz0, iz1, iz2⟩ := info_parts infoInt
  have HLD := hide hLD
  have HLV := hide hld
  have h256 : LD.length ≤ 256 := by
    rw [hLD]
    exact Nat.le_trans (Nat.pow_le_pow_right (by omega) h8) (by decide)
  have hld0 : 0 < LD.length := by rw [hLD]; exact Nat.two_pow_pos _
  clear hLD hld
  intro k
  induction k with
  | zero =>
    intro L S bv le ov BO w h hL hSP hbv hdis
    obtain ⟨Ab, qb, rfl⟩ := owns_form hbv
    obtain ⟨res, hres⟩ : ∃ z, layR (lstN m ms) n 0 L (BO, le) = z := ⟨_, rfl⟩
    rw [hres]
    have hst : stL (lstN m ms) (BO, le) L = res := hres
    have HST := hide hst
    have HSP := hide hSP
    have HLM : Hid (L.length = ms.length) := by show _ = _; omega
    have hL8 : L.length ≤ 8 := by omega
    have hs1 : ((L.length : Int) == (ms.length : Int)) = true := by simp; omega
    have W := hide h
    have HBV := hide hbv
    clear h hL hSP hbv hdis hres hst
    go_enter Tryz.func78, Tryz.ntmps78
    go_upto_region 1 with (fail)
    generalize hw1 : World.alloc _ _ = w1
    obtain ⟨hb1, hB1, hs1z⟩ := alloc1 hw1
    have HA1 : Hid (Arr4 w1 w.heap.size S) := hb1
    have W1 := hide (W.out.to hB1)
    have HV1 := hide (owns_below HBV.out hB1)
    have HB1 := hide hB1
    clear hw1 hb1 hB1 hs1z
    have m0 := cellOf W1.out.mc 0
    have lm := box_lt W1.out.mc
    have z0 := HA1.out.cell (j := 0) (by omega)
    have z1 := HA1.out.cell (j := 1) (by omega)
    have z2 := HA1.out.cell (j := 2) (by omega)
    have z3 := HA1.out.cell (j := 3) (by omega)
    have lz := box_lt HA1.out
    go_wp2_with fail
    clear m0 lm z0 z1 z2 z3 lz
    go_loop [11, 13, 23] (fun mv _ i => ∃ (j a : Nat), i = .int .i64 j ∧ mv = .int .i64 a ∧ j ≤ 4 ∧ Hid (grL (rngL j fun b => lodN m ms (intL L) b) = a)) (fun _ _ i => 4 - (intOf i).toNat)
    case atStart => exact ⟨0, 0, rfl, rfl, Nat.zero_le _, rfl⟩
    case round =>
      obtain ⟨j, a, rfl, rfl, hj, HA⟩ := hrel
      by_cases hj4 : j < 4
      case pos =>
        have hj1 : (j : Int) < 4 := by omega
        have ij0 : (0 : Int) ≤ (j : Int) := by omega
        have hix := fun W => index4 S W j hj4
        obtain ⟨s, hs⟩ : ∃ s, S j = s := ⟨_, rfl⟩
        have hslt : s < LD.length := by
          rw [← hs, HLD.out, ← HLM.out]
          exact HSP.out.lt j
        obtain ⟨x, hx⟩ : ∃ x, LD.getD s 0 = x := ⟨_, rfl⟩
        have hxl : x = lodN m ms (intL L) j := by
          rw [← hx, HLV.out s (by rw [← HLD.out]; exact hslt), ← hs]
          exact ldS_set HSP.out HLM.out j
        rw [hs] at hix
        have y0 := cellOf W1.out.lc 0
        have ly := box_lt W1.out.lc
        obtain ⟨gl, hgl, hql, lgl⟩ := own_ge W1.out.ld hld0
        subst hgl
        have el0 := W1.out.ld.cellAt s (by omega)
        rw [show (nvL LD)[s]? = some (.int .i64 (x : Nat)) from by rw [← hx]; unfold nvL; simp [hslt]] at el0
        have el : w1.cell? ⟨gl, s, none⟩ = some (.int .i64 (x : Nat)) := el0
        have is0 : (0 : Int) ≤ (s : Int) := by omega
        have is1 : (s : Int) < (LD.length : Int) := by omega
        have iq : (LD.length : Int) ≤ (ql : Int) := by omega
        have HAN : Hid (grL (rngL (j + 1) fun b => lodN m ms (intL L) b) = max a x) := by
          show _ = _
          rw [rngL_snoc, grL_snoc, HA.out, ← hxl]
        clear hs hx hxl el0 HA
        go_wp2_with fail
        go_round
        case rel => exact ⟨j + 1, max a x, by go_num, by congr 1; omega, by omega, HAN⟩
        case measure => simp [intOf]; omega
      case neg =>
        have hj1 : ¬ (j : Int) < 4 := by omega
        have ha : lstN m ms L = a := by
          unfold lstN
          rw [← HA.out, show j = 4 by omega]
        have hst := HST.out
        unfold stL at hst
        rw [ha] at hst
        have y0 := cellOf W1.out.ec 0
        have ly := box_lt W1.out.ec
        have hcl := cloneIn9_any Ab L.length qb (nvL L) w1 (Reads.of_own HV1.out) (one_nvL L) (by omega)
        have HCL := hide hcl
        clear hcl hj4 HA ha
        by_cases hc : le < 0 ∨ (a : Int) < le
        case neg =>
          have hc1 : ¬ le < 0 := fun h => hc (.inl h)
          have hc2 : ¬ (a : Int) < le := fun h => hc (.inr h)
          rw [if_neg hc] at hst
          clear hc
          go_wp2_with fail
          go_end0
          subst hst
          exact ⟨_, rfl, W1.out, HV1.out, .inl rfl, Keeps.of_below (Below.to (Below.refl _ _) HB1.out (Nat.le_refl _))⟩
        case pos =>
          rw [if_pos hc] at hst
          have HST2 := hide hst
          clear hst
          have fin : ∀ W2 v2, W2.ownsRow w1.heap.size 3 1 v2 L.length (nvL L) → Below w1.heap.size w1 W2 → LyP w0 w n0 mb lb eb bb nb xb (.slice Am ms.length qm) (.slice Al LD.length ql) n LD ov (.slice Ab L.length qb) L res (.returned (.tuple #[])) ((W2.setCell ⟨bb, 0, none⟩ v2).setCell ⟨eb, 0, none⟩ (.int .i64 (a : Nat))) := fun W2 v2 hv hB => by
            have h1 := (W1.out.to hB).put (owns_base hv W1.out.sz) (le' := (a : Int))
            obtain ⟨h3, h4⟩ : n0 ≤ w1.heap.size ∧ w.heap.size ≤ w1.heap.size := ⟨W1.out.sz, HB1.out.size⟩
            have hh := W1.out.hi
            refine ⟨v2, rfl, by rw [← HST2.out]; exact h1, ownsRow_same7 (owns_below HV1.out hB) fun j hj => ?_, .inr fun g hg => Nat.le_trans h4 (hv.lt g hg).1, ?_⟩
            · have h5 := (HV1.out.lt j hj).1
              exact (Below.heap_setCell _ _ _ _ (by show j ≠ eb; omega)).trans (Below.heap_setCell _ _ _ _ (by show j ≠ bb; omega))
            · refine Keeps.setCell (Keeps.setCell (Keeps.of_below (Below.to HB1.out hB (Nat.le_refl _))) (.inl (.inr (.inl rfl))) _) (.inl (.inl rfl)) _
          have FIN := hide fin
          have e1 : ¬ eb = bb := W1.out.ne.2.2
          have e2 : ¬ bb = eb := fun h => e1 h.symm
          have x0 := cellOf W1.out.bc 0
          have lx := box_lt W1.out.bc
          clear fin
          by_cases hc1 : le < 0
          case pos =>
            clear hc
            go_wp2_with (go_at_call 79; refine HCL.out.mono ?_; rintro e w2 ⟨v2, rfl, hv2, hB2⟩; obtain ⟨A2, q2, e2⟩ := owns_form hv2; subst e2; have HV2 := hide hv2; have HB2 := hide hB2; have W2 := hide (W1.out.to hB2); clear hv2 hB2 y0 ly x0 lx; have y0 := cellOf W2.out.ec 0; have y1 := unfrozenOf W2.out.ec 0; have ly := box_lt W2.out.ec; have x0 := cellOf W2.out.bc 0; have x1 := unfrozenOf W2.out.bc 0; have lx := box_lt W2.out.bc)
            refine bodyPost_ret (results_none rfl _ _ _) rfl ?_
            exact FIN.out _ _ HV2.out HB2.out
          case neg =>
            have hc2 : (a : Int) < le := by omega
            clear hc
            go_wp2_with (go_at_call 79; refine HCL.out.mono ?_; rintro e w2 ⟨v2, rfl, hv2, hB2⟩; obtain ⟨A2, q2, e2⟩ := owns_form hv2; subst e2; have HV2 := hide hv2; have HB2 := hide hB2; have W2 := hide (W1.out.to hB2); clear hv2 hB2 y0 ly x0 lx; have y0 := cellOf W2.out.ec 0; have y1 := unfrozenOf W2.out.ec 0; have ly := box_lt W2.out.ec; have x0 := cellOf W2.out.bc 0; have x1 := unfrozenOf W2.out.bc 0; have lx := box_lt W2.out.bc)
            refine bodyPost_ret (results_none rfl _ _ _) rfl ?_
            exact FIN.out _ _ HV2.out HB2.out
  | succ k ih =>
    intro L S bv le ov BO w h hL hSP hbv hdis
    obtain ⟨Ab, qb, rfl⟩ := owns_form hbv
    obtain ⟨res, hres⟩ : ∃ z, layR (lstN m ms) n (k + 1) L (BO, le) = z := ⟨_, rfl⟩
    rw [hres]
    have HRS : Hid ((List.range n).foldl (fun s b => layR (lstN m ms) n k (L ++ [b]) s) (BO, le) = res) := hres
    have HSP := hide hSP
    have HIH := hide ih
    have HDI := hide hdis
    have hLl : L.length < ms.length := by omega
    have hL8 : L.length ≤ 8 := by omega
    have HLK : Hid (L.length + 1 + k = ms.length) := by show _ = _; omega
    have hs1 : ((L.length : Int) == (ms.length : Int)) = false := by simp; omega
    have W := hide h
    have HBV := hide hbv
    clear h hL hSP hbv hdis hres ih
    go_enter Tryz.func78, Tryz.ntmps78
    go_upto_region 1 with (fail)
    generalize hw1 : World.alloc _ _ = w1
    obtain ⟨hb1, hB1, hs1z⟩ := alloc1 hw1
    obtain ⟨gx, hgx⟩ : ∃ z, w.heap.size = z := ⟨_, rfl⟩
    have HGX := hide hgx
    have hA1 : Arr4 w1 w.heap.size S := hb1
    rw [hgx] at hA1 ⊢
    have HA1 := hide hA1
    have W1 := hide (W.out.to hB1)
    have HV1 := hide (owns_below HBV.out hB1)
    have HB1 := hide hB1
    clear hw1 hb1 hB1 hs1z hA1 hgx
    have m0 := cellOf W1.out.mc 0
    have lm := box_lt W1.out.mc
    have n1 := cellOf W1.out.nc 0
    have ln := box_lt W1.out.nc
    go_wp2_with fail
    clear m0 lm n1 ln
    obtain ⟨wo, hwo⟩ : ∃ wo : World, wo = w1 := ⟨_, rfl⟩
    subst hwo
    go_loopw [14, 15, 44] (fun _ _ i wr => ∃ (b : Nat) (le2 : Int) (ov2 : Value) (BO2 : List Nat), i = .int .i64 b ∧ b ≤ n ∧ Hid ((List.range b).foldl (fun s b => layR (lstN m ms) n k (L ++ [b]) s) (BO, le) = (BO2, le2)) ∧ Hid (LyAt w0 wr n0 mb lb eb bb nb xb (.slice Am ms.length qm) (.slice Al LD.length ql) n LD le2 ov2 BO2) ∧ Hid (wr.ownsRow n0 3 1 (.slice Ab L.length qb) L.length (nvL L)) ∧ Hid (NewB ov ov2 w.heap.size) ∧ Hid (Keeps (lyS eb bb (.slice Ab L.length qb)) wo wr)) (fun _ _ i _ => n - (intOf i).toNat)
    case atStart => exact ⟨0, le, ov, BO, rfl, Nat.zero_le _, rfl, W1.out, HV1.out, .inl rfl, Keeps.refl _ _⟩
    case round =>
      obtain ⟨b, le2, ov2, BO2, rfl, hb, HFD, WR, HVR, HNB, HKR⟩ := hrel
      by_cases hbn : b < n
      case neg =>
        have hb1 : ¬ (b : Int) < (n : Int) := by omega
        have hrs : res = (BO2, le2) := by rw [← HRS.out, ← HFD.out, show b = n by omega]
        subst hrs
        have hkw : Keeps (lyS eb bb (.slice Ab L.length qb)) w wr := Keeps.trans (Keeps.of_below HB1.out) HKR.out (fun _ _ h => h)
        have HKW := hide hkw
        clear hbn hkw
        go_wp2_with fail
        go_end0
        exact ⟨_, rfl, WR.out, HVR.out, HNB.out, HKW.out⟩
      case pos =>
      have hb1 : (b : Int) < (n : Int) := by omega
      have hb4 : b < 4 := by omega
      have ib0 : (0 : Int) ≤ (b : Int) := by omega
      have ib4 : (b : Int) < 4 := by omega
      have hown := HVR.out
      have hgxw : gx < wo.heap.size := box_lt HA1.out
      have hgxn : ¬ lyS eb bb (.slice Ab L.length qb) gx := by
        have h1 := HGX.out
        have h2 := W.out.hi
        have h3 := W.out.sz
        rintro (h | h | h)
        · omega
        · omega
        · have h4 := (HBV.out.lt gx h).2
          omega
      have hAr := HA1.out.of (HKR.out.block gx hgxw hgxn)
      have z0 := hAr.cell (j := 0) (by omega)
      have z1 := hAr.cell (j := 1) (by omega)
      have z2 := hAr.cell (j := 2) (by omega)
      have z3 := hAr.cell (j := 3) (by omega)
      have lz := box_lt hAr
      clear hAr hown
      go_upto_region 15 with (fail)
      generalize hw2 : World.alloc _ _ = w2
      obtain ⟨hb2, hB2, hs2⟩ := alloc1 hw2
      obtain ⟨g1, hg1⟩ : ∃ z, wr.heap.size = z := ⟨_, rfl⟩
      have HG1 := hide hg1
      have hA2 : Arr4 w2 wr.heap.size S := hb2
      rw [hg1] at hA2 ⊢
      have HA2 := hide hA2
      have WR2 := hide (WR.out.to hB2)
      have HVR2 := hide (owns_below HVR.out hB2)
      have HKR2 : Hid (Keeps (lyS eb bb (.slice Ab L.length qb)) wo w2) := Keeps.trans HKR.out (Keeps.of_below hB2) (fun _ _ h => h)
      have HS2 : Hid (w2.heap.size = wr.heap.size + 1) := hs2
      clear hw2 hb2 hB2 hs2 hA2 hg1 z0 z1 z2 z3 lz
      obtain ⟨sb, hsb⟩ : ∃ z, S b = z := ⟨_, rfl⟩
      have hsblt : sb < 2 ^ L.length := by rw [← hsb]; exact HSP.out.lt b
      have c1 := HA2.out.cell hb4
      rw [hsb] at c1
      have f1 := unfrozenOf HA2.out b
      have lg := box_lt HA2.out
      have hp256 : 2 ^ L.length ≤ 2 ^ 8 := Nat.pow_le_pow_right (by omega) hL8
      have hval : bits .or .i64 (sb : Int) (IntKind.i64.wrap (2 ^ L.length)) = ((sb + 2 ^ L.length : Nat) : Int) := by
        have h1 : ((2 : Int) ^ L.length) = ((2 ^ L.length : Nat) : Int) := by push_cast; rfl
        rw [h1, IntWalk.i64_in _ (by omega)]
        exact bits_add hsblt (by omega)
      have HVAL := hide hval
      have il0 : (0 : Int) ≤ (L.length : Int) := by omega
      have il64 : (L.length : Int) ≤ 64 := by omega
      have HSB := hide hsb
      have hKeep : Hid (w2.grownBy w2.drew (some g1)) := only_drew (only_refl _ _)
      clear hsblt hp256 hsb hval
      refine wp_region_held_drew (S := (fun w' => w2.grownBy w' (some g1))) (by kernel_rfl) ?_ (fun hHeld => ?_)
      · try dsimp only
        (first | exact only_refl _ _ | assumption | exact only_drew (only_refl _ _) | exact hKeep.out | exact only_drew (by assumption) | (refine only_trans hKeep.out ?_; refine only_setCell (only_setCell (only_setCell (only_setCell (only_refl _ _) ?_ _) ?_ _) ?_ _) ?_ _ <;> exact .inl rfl) | (refine only_trans hKeep.out ?_; refine only_setCell (only_refl _ _) ?_ _; exact .inl rfl))
      refine wpAnyH_take (i := 0) (v := ?v2_0) rfl (by kernel_rfl) (by kernel_rfl) (by kernel_rfl) (fun _ _ _ h => h) (Or.inl ⟨by rfl, ?y2_0⟩) (by assumption) ?r2_0
      case' y2_0 => (intro w hSw; (try dsimp only at hSw); have hcS := gcell hSw; clear hSw; go_simp; try with_reducible rfl)
      try simp only [zX]
      refine wpAnyH_take (i := 1) (v := ?v2_1) rfl (by kernel_rfl) (by kernel_rfl) (by kernel_rfl) (fun _ _ _ h => h) (Or.inl ⟨by rfl, ?y2_1⟩) (by assumption) ?r2_1
      case' y2_1 => (intro w hSw; (try dsimp only at hSw); have hcS := gcell hSw; clear hSw; go_simp; try with_reducible rfl)
      try simp only [zX]
      refine wpAnyH_take (i := 3) (v := ?v2_3) rfl (by kernel_rfl) (by kernel_rfl) (by kernel_rfl) (fun _ _ _ h => h) (Or.inl ⟨by rfl, ?y2_3⟩) (by assumption) ?r2_3
      case' y2_3 => (intro w hSw; (try dsimp only at hSw); have hcS := gcell hSw; clear hSw; go_simp; try with_reducible rfl)
      try simp only [zX]
      refine wpAnyH_take (i := 4) (v := ?v2_4) rfl (by kernel_rfl) (by kernel_rfl) (by kernel_rfl) (fun _ _ _ h => h) (Or.inl ⟨by rfl, ?y2_4⟩) (by assumption) ?r2_4
      case' y2_4 => (intro w hSw; (try dsimp only at hSw); have hcS := gcell hSw; clear hSw; go_simp; try with_reducible rfl)
      try simp only [zX]
      refine wpAnyH_ready (rs := [2]) (by kernel_rfl) (by simp) ?_
      refine AllReadyH.cons rfl (fun K hK => ?_) AllReadyH.nil
      go_simp
      refine hK.out _ _ ?_ (fun hNext => ?_)
      · try dsimp only
        (first | exact only_refl _ _ | assumption | exact only_drew (only_refl _ _) | exact hKeep.out | exact only_drew (by assumption) | (refine only_trans hKeep.out ?_; refine only_setCell (only_setCell (only_setCell (only_setCell (only_refl _ _) ?_ _) ?_ _) ?_ _) ?_ _ <;> exact .inl rfl) | (refine only_trans hKeep.out ?_; refine only_setCell (only_refl _ _) ?_ _; exact .inl rfl))
      clear hK K hHeld
      have hHeld := hNext
      clear hNext
      (try dsimp only at hHeld)
      try simp only [zX]
      refine wpAnyH_take (i := 5) (v := ?v2_5) rfl (by kernel_rfl) (by kernel_rfl) (by kernel_rfl) (fun _ _ _ h => h) (Or.inl ⟨by rfl, ?y2_5⟩) (by assumption) ?r2_5
      case' y2_5 => (intro w hSw; (try dsimp only at hSw); have hcS := gcell hSw; clear hSw; go_simp; try with_reducible rfl)
      try simp only [zX]
      refine wpAnyH_take (i := 6) (v := ?v2_6) rfl (by kernel_rfl) (by kernel_rfl) (by kernel_rfl) (fun _ _ _ h => h) (Or.inl ⟨by rfl, ?y2_6⟩) (by assumption) ?r2_6
      case' y2_6 => (intro w hSw; (try dsimp only at hSw); have hcS := gcell hSw; clear hSw; go_simp; try with_reducible rfl)
      try simp only [zX]
      refine wpAnyH_ready (rs := [7]) (by kernel_rfl) (by simp) ?_
      refine AllReadyH.cons rfl (fun K hK => ?_) AllReadyH.nil
      go_simp
      refine hK.out _ _ ?_ (fun hNext => ?_)
      · try dsimp only
        (first | exact only_refl _ _ | assumption | exact only_drew (only_refl _ _) | exact hKeep.out | exact only_drew (by assumption) | (refine only_trans hKeep.out ?_; refine only_setCell (only_setCell (only_setCell (only_setCell (only_refl _ _) ?_ _) ?_ _) ?_ _) ?_ _ <;> exact .inl rfl) | (refine only_trans hKeep.out ?_; refine only_setCell (only_refl _ _) ?_ _; exact .inl rfl))
      clear hK K hHeld
      have hHeld := hNext
      clear hNext
      (try dsimp only at hHeld)
      try simp only [zX]
      refine wpAnyH_done (by kernel_rfl) ?_ _
      rw [HVAL.out]
      have hA3 := HA2.out.set hb4 (2 ^ L.length)
      rw [HSB.out] at hA3
      have hG3 : w2.grownBy (w2.setCell ⟨g1, b, none⟩ (.int .i64 ((sb + 2 ^ L.length : Nat) : Int))).drew (some g1) := only_drew (only_setCell (only_refl _ _) (.inl rfl) _)
      have hA3 : Arr4 (w2.setCell ⟨g1, b, none⟩ (.int .i64 ((sb + 2 ^ L.length : Nat) : Int))).drew g1 (addS S b (2 ^ L.length)) := hA3
      generalize hw3 : World.drew (World.setCell _ _ _) = w3 at hA3 hG3 ⊢
      have hg1n : n0 ≤ g1 := by have h1 := HG1.out; have h2 := WR.out.sz; omega
      have HA3 := hide hA3
      have WR3 := hide (WR2.out.kept (T := fun j => j = g1) (Keeps.of_grown hG3 (fun j hj => by injection hj with hj; exact hj.symm)) (fun j hj => ⟨by rw [hj]; exact hg1n, fun e => by
        have h1 := (WR.out.own.lt j e).2
        have h2 := HG1.out
        omega⟩))
      have HVR3 : Hid (w3.ownsRow n0 3 1 (.slice Ab L.length qb) L.length (nvL L)) := ownsRow_same7 HVR2.out fun j hj => hG3.block j (HVR2.out.lt j hj).2 fun e => by
        injection e with e
        have h1 := (HVR.out.lt j hj).2
        have h2 := HG1.out
        omega
      have HKR3 : Hid (Keeps (lyS eb bb (.slice Ab L.length qb)) wo w3) := ⟨hG3.os.trans HKR2.out.os, hG3.tape.trans HKR2.out.tape, hG3.output.trans HKR2.out.output, Nat.le_trans HKR2.out.size hG3.size, fun j hj hn => (hG3.block j (Nat.lt_of_lt_of_le hj HKR2.out.size) (fun e => by
        injection e with e
        have h1 := HKR.out.size
        have h2 := HG1.out
        omega)).trans (HKR2.out.block j hj hn)⟩
      have HS3 : Hid (wr.heap.size + 1 ≤ w3.heap.size) := by show _ ≤ _; rw [← HS2.out]; exact hG3.size
      clear hw3 hA3 hG3 c1 f1 lg hHeld hKeep il0 il64
      have x0 := cellOf WR3.out.xc 0
      have lx := box_lt WR3.out.xc
      have z0 := HA3.out.cell (j := 0) (by omega)
      have z1 := HA3.out.cell (j := 1) (by omega)
      have z2 := HA3.out.cell (j := 2) (by omega)
      have z3 := HA3.out.cell (j := 3) (by omega)
      have lz := box_lt HA3.out
      have s1 : ¬ lyS eb bb (.slice Ab L.length qb) xb := by
        obtain ⟨⟨_, _, _, a4⟩, ⟨_, _, _, b4⟩, _⟩ := WR.out.ne
        rintro (h | h | h)
        · exact a4 h
        · exact b4 h
        · have h1 := (HVR.out.lt xb h).1
          have h2 := WR.out.hi
          omega
      have s2 : ¬ lyS eb bb (.slice Ab L.length qb) g1 := by
        have h2 := WR.out.hi
        rintro (h | h | h)
        · omega
        · omega
        · have h1 := (HVR.out.lt g1 h).2
          have h2 := HG1.out
          omega
      have HN0 : Hid (n0 ≤ wr.heap.size) := WR.out.sz
      have HOVD : Hid (∀ g, (Value.slice Ab L.length qb).ownBlock = some g → ov2.ownBlock ≠ some g) := fun g hg => by
        rcases HNB.out with h1 | h1
        · rw [h1]; exact HDI.out g hg
        · intro h2
          have h3 := h1 g h2
          have h4 := (HBV.out.lt g hg).2
          omega
      go_upto_region 16 with (fail)
      refine wp_region_held_drew (S := (fun w' => Keeps (lyS eb bb (.slice Ab L.length qb)) w3 w')) (by kernel_rfl) ?_ (fun hHeld => ?_)
      · try dsimp only
        (repeat (first | (with_reducible exact Keeps.refl _ _) | exact hKeep.out | exact hKeepS.out _ | assumption | (with_reducible refine Keeps.drew ?_) | (with_reducible refine Keeps.drewN ?_ _) | (with_reducible refine Keeps.alloc ?_ _) | (with_reducible refine Keeps.setCell ?_ (.inl (by first | exact .inl rfl | exact .inr rfl)) _)))
      refine zU 0 rfl ?_
      try simp only [zX]
      refine zU 1 rfl ?_
      try simp only [zX]
      refine zU 2 rfl ?_
      try simp only [zX]
      refine zU 5 rfl ?_
      try simp only [zX]
      refine wpAnyH_ready (rs := [3]) (by kernel_rfl) (by simp) ?_
      refine (AllReadyH.cons rfl (fun K hK => ?_) AllReadyH.nil)
      go_simp
      refine hK.out _ _ ?_ (fun hNext => ?_)
      · try dsimp only
        (repeat (first | (with_reducible exact Keeps.refl _ _) | exact hKeep.out | exact hKeepS.out _ | assumption | (with_reducible refine Keeps.drew ?_) | (with_reducible refine Keeps.drewN ?_ _) | (with_reducible refine Keeps.alloc ?_ _) | (with_reducible refine Keeps.setCell ?_ (.inl (by first | exact .inl rfl | exact .inr rfl)) _)))
      clear hK K hHeld
      have hHeld := hNext
      clear hNext
      (try dsimp only at hHeld)
      try simp only [zX]
      refine wpAnyH_ready (rs := [4]) (by kernel_rfl) (by simp) ?_
      refine (AllReadyH.cons rfl (fun K hK => ?_) AllReadyH.nil)
      (refine step_append_sib (by rfl) (.tmp 56) (.tmp 58) _ (by rfl) n0 3 i0 _ 1 8 Tryz.underlying45 hi0 iz0 iz1 iz2 (by rfl) (by omega) (.slice Ab L.length qb) L.length (nvL L) (by rfl) (HVR3.out.alloc _) ⟨w3.heap.size, 0, none⟩ 1 1 [.int .i64 (b : Nat)] (by rfl) (by rfl) (World.news_of_block (heap_alloc_new w3 _)) (by simp [Value.oneCell']) (by unfold maxLen; omega) (by omega) (by have h1 := HN0.out; have h2 := HS3.out; simp; omega) (by omega) ?_; intro v5 w5 hown5 hg5 hsib5; have hk5 : Keeps (lyS eb bb (.slice Ab L.length qb)) w3 w5 := Keeps.trans (Keeps.drew (Keeps.alloc (Keeps.refl _ w3) _)) (Keeps.of_grown hg5 (fun k hk => .inr (.inr hk))) (fun _ _ h => h); have HK5 := hide hk5; have hkT : Keeps (fun j => (Value.slice Ab L.length qb).ownBlock = some j) w3 w5 := Keeps.trans (Keeps.drew (Keeps.alloc (Keeps.refl _ w3) _)) (Keeps.of_grown hg5 (fun k hk => hk)) (fun _ _ h => h); have WR5 := hide (WR3.out.kept hkT (fun j hj => ⟨(HVR3.out.lt j hj).1, HOVD.out j hj⟩)); have HSIB := hide hsib5; have HOV5 : Hid (∀ g, v5.ownBlock = some g → ov2.ownBlock ≠ some g) := (fun g hg => by
        rcases hsib5 with ⟨g2, cap, h1, h2⟩ | ⟨h1, h2⟩
        · refine HOVD.out g ?_
          rw [h1]
          rw [h2] at hg
          exact hg
        · intro h3
          rw [h1] at hg
          injection hg with hg
          have h4 := (WR3.out.own.lt g h3).2
          simp at hg
          omega); have HLS : Hid (∀ i, i < w3.heap.size → lyS eb bb v5 i → lyS eb bb (.slice Ab L.length qb) i) := (fun i hi h => by
        rcases h with h | h | h
        · exact .inl h
        · exact .inr (.inl h)
        · refine .inr (.inr ?_)
          rcases hsib5 with ⟨g2, cap, h1, h2⟩ | ⟨h1, h2⟩
          · rw [h1]
            rw [h2] at h
            exact h
          · rw [h1] at h
            injection h with h
            simp at h
            omega); have hown5 : w5.ownsRow n0 3 1 v5 (L ++ [b]).length (nvL (L ++ [b])) := (by rw [List.length_append, List.length_singleton, nvL_snoc]; exact hown5); have HWA : Hid (∀ j, j < w3.heap.size → (w3.alloc (.cells #[.int .i64 (b : Nat)] 3)).drew.heap[j]? = w3.heap[j]?) := (fun j hj => Below.heap_alloc _ _ _ hj); have HWZ : Hid (w3.heap.size ≤ (w3.alloc (.cells #[.int .i64 (b : Nat)] 3)).drew.heap.size) := (by show _ ≤ _; simp); have HSZ5 : Hid (w.heap.size ≤ w5.heap.size) := Nat.le_trans (Nat.le_trans (by have h1 := HB1.out.size; have h2 := HKR.out.size; omega : w.heap.size ≤ wr.heap.size + 1) HS3.out) hk5.size; have HCL5 := hide (HIH.out (L ++ [b]) (addS S b (2 ^ L.length)) v5 le2 ov2 BO2 w5 WR5.out (by have h1 := HLK.out; rw [List.length_append, List.length_singleton]; exact h1) (HSP.out.snoc b) hown5 HOV5.out); clear hown5 hg5 hsib5 hkT)
      (try dsimp only)
      refine hK.out _ _ ?_ (fun hNext => ?_)
      · try dsimp only
        (repeat (first | (with_reducible exact Keeps.refl _ _) | exact hKeep.out | exact hKeepS.out _ | assumption | (with_reducible refine Keeps.drew ?_) | (with_reducible refine Keeps.drewN ?_ _) | (with_reducible refine Keeps.alloc ?_ _) | (with_reducible refine Keeps.setCell ?_ (.inl (by first | exact .inl rfl | exact .inr rfl)) _)))
      clear hK K hHeld
      have hHeld := hNext
      clear hNext
      (try dsimp only at hHeld)
      try simp only [zX]
      refine wpAnyH_ready (rs := [6]) (by kernel_rfl) (by simp) ?_
      refine (AllReadyH.cons rfl (fun K hK => ?_) AllReadyH.nil)
      go_simp
      ((go_at_call 78; refine HCL5.out.mono ?_; rintro e w7 ⟨ov7, rfl, hw7, hv7, hn7, hk7⟩; have hk7w : Keeps (lyS eb bb (.slice Ab L.length qb)) w3 w7 := HK5.out.trans hk7 (fun i hi h => (HLS.out i hi h)); have WR7 := hide hw7; have HV7 := hide (own_back HVR3.out HSIB.out HWA.out HWZ.out hv7 hk7 WR7.out.hi.2.2.1 WR7.out.hi.2.2.2.1); have HN7 := hide (NewB.trans HNB.out hn7 HSZ5.out); have HK7 := hide (Keeps.trans HKR3.out hk7w (fun _ _ h => h)); clear hw7 hv7 hn7 hk7))
      (try dsimp only)
      refine hK.out _ _ ?_ (fun hNext => ?_)
      · try dsimp only
        (repeat (first | (with_reducible exact Keeps.refl _ _) | exact hKeep.out | exact hKeepS.out _ | assumption | (with_reducible refine Keeps.drew ?_) | (with_reducible refine Keeps.drewN ?_ _) | (with_reducible refine Keeps.alloc ?_ _) | (with_reducible refine Keeps.setCell ?_ (.inl (by first | exact .inl rfl | exact .inr rfl)) _)))
      clear hK K hHeld
      have hHeld := hNext
      clear hNext
      (try dsimp only at hHeld)
      try simp only [zX]
      refine wpAnyH_done (by kernel_rfl) ?_ _
      have HFD2 : Hid ((List.range (b + 1)).foldl (fun s b => layR (lstN m ms) n k (L ++ [b]) s) (BO, le) = layR (lstN m ms) n k (L ++ [b]) (BO2, le2)) := by
        show _ = _
        rw [layR_step, HFD.out]
      clear hHeld hk7w x0 lx z0 z1 z2 z3 lz s1 s2
      go_wp2_with fail
      go_roundw
      case rel => exact ⟨b + 1, _, ov7, _, by go_num, by omega, HFD2, WR7, HV7, HN7, HK7⟩
      case measure => simp [intOf]; omega
end Go.Proofs.YtehadoecnmfeoaaGreat

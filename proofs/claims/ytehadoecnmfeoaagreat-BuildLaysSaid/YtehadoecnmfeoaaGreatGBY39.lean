/- Part 39 of this claim's texts: walks and plain laws. -/
import Derived.Test.YtehadoecnmfeoaaGreatRows
import Derived.Test.YtehadoecnmfeoaaGreatGBY16
import Derived.Test.YtehadoecnmfeoaaGreatGBY38
import Derived.Test.YtehadoecnmfeoaaGreatGBY30
import Derived.Deep.DeepMust
import Derived.Deep.RegionHeld3
import Derived.Deep.DrawnRows
import Derived.Test.YtehadoecnmfeoaaGreatGBY3
/- The greatest loads by all variants (the elder): walk. -/
namespace Go.Proofs.YtehadoecnmfeoaaGreat
open Go.RowKit
set_option linter.unusedVariables false
set_option linter.unusedSimpArgs false
set_option maxRecDepth 100000 in
set_option maxHeartbeats 4000000 in
theorem rpickO_any (ms : List Md) (x : List Bool) (N : Nat) (Am : Option Addr) (qm : Nat) (vv : Value) (w : World) (h60 : ms.length ≤ 60) (hm : Mods w w.heap.size (.slice Am ms.length qm) ms) (hx : Bols w w.heap.size vv x) (hN : x.length = N) (hv : ∀ d ∈ ms, validF N d.f = true) :
    Calls Tryz.prog 87 #[.slice Am ms.length qm, vv] w fun e w' => ∃ v, e = .returned v ∧ w'.ownsRow w.heap.size 3 1 v (pckL ms x).length ((pckL ms x).map fun (n : Nat) => Value.int .i64 n) ∧ Below w.heap.size w w' := by
  obtain ⟨i0, hi0, iz0, iz1, iz2⟩ := info_parts infoInt
  obtain ⟨Ax, qx, hvv⟩ := Sl.form hx
  have HM := hide hm
  have HX := hide hx
  have HN := hide hN
  have HV := hide hv
  obtain ⟨LR, hLR⟩ : ∃ z, pckL ms x = z := ⟨_, rfl⟩
  rw [hLR]
  have HLR := hide hLR
  subst hvv
  clear hm hx hN hv hLR
  go_enter Tryz.func87, Tryz.ntmps87
  go_wp2_with fail
  go_loopw [5, 6] (fun sv i wr => ∃ (k : Nat) (L : List Nat), i = .int .i64 k ∧ k ≤ ms.length ∧ L.length ≤ k ∧ Hid (pckK ms x k = L) ∧ Hid (wr.ownsRow w.heap.size 3 1 sv L.length (L.map fun (n : Nat) => Value.int .i64 n)) ∧ Hid (Below w.heap.size w wr)) (fun _ i _ => ms.length - (intOf i).toNat)
  case atStart => exact ⟨0, [], rfl, Nat.zero_le _, Nat.le_refl _, rfl, World.ownsRow_nil _ _ _ _, Below.refl _ _⟩
  case round =>
    obtain ⟨k, L, rfl, hk, hLk, HL, HO, HB⟩ := hrel
    obtain ⟨A1, q1, hv1⟩ := owns_form HO.out
    subst hv1
    by_cases hkl : k < ms.length
    case neg =>
      have hkl1 : ¬ (k : Int) < (ms.length : Int) := by omega
      have hLL : LR = L := by rw [← HL.out, ← HLR.out]; unfold pckL; rw [show ms.length = k by omega]
      subst hLL
      clear hkl
      go_wp2_with fail
      go_ret
      exact ⟨_, rfl, HO.out, HB.out⟩
    case pos =>
    have hkl1 : (k : Int) < (ms.length : Int) := by omega
    have ik0 : (0 : Int) ≤ (k : Int) := by omega
    obtain ⟨b, off, d, Af, qf, Aw, qw, HD, hA, hb, hq, HF, HWS, e0, e1⟩ := HM.out.at hkl
    subst hA
    have z0 := (HB.out.cell (p := ⟨b, off + k * 2, none⟩) hb).trans e0
    have z1 := (HB.out.cell (p := ⟨b, off + k * 2 + 1, none⟩) hb).trans e1
    have lb : b < wr.heap.size := Nat.lt_of_lt_of_le hb HB.out.size
    have iq : (ms.length : Int) ≤ (qm : Int) := by omega
    have htr := True_any d.f N x (.slice Af d.f.length qf) (.slice Ax x.length qx) w.heap.size wr (HF.out.below HB.out) (Sl.below HX.out HB.out) HN.out (HV.out d (by rw [← HD.out]; exact getD_mem7 hkl))
    have hps := pckK_succ ms x k
    rw [HL.out, HD.out] at hps
    unfold pckB at hps
    have hLl : L.length ≤ 60 := by omega
    cases hc : evF1 (vf x) d.f with
    | true =>
      rw [hc] at htr hps
      rw [if_pos rfl] at hps
      have HT := hide htr
      have HPS := hide hps
      clear e0 e1 hq htr hps hc
      go_wp2_with (first | (go_at_call 61; refine HT.out.mono ?_; rintro e w2 ⟨rfl, rfl⟩) | (at_builtin; go_must (refine wpList_append_own_at _ rfl (.tmp 20) (.tmp 22) _ rfl (w.heap.size) 3 i0 _ 1 8 Tryz.underlying45 hi0 iz0 iz1 iz2 rfl (by omega) _ _ _ rfl ((HO.out).alloc _) ⟨wr.heap.size, 0, none⟩ 1 1 [.int .i64 (k : Nat)] rfl rfl (World.news_of_block (heap_alloc_new wr _)) (by simp [Value.oneCell']) (by have h1 := hLl; unfold maxLen; omega) (by have h1 := hLl; omega) (by have h1 := HB.out.size; simp; omega) ?_); intro v1 w3 hown1 hg1 _ hat1; have HO1 := hide hown1; have HB1 := hide (Below.grown (Below.allocT HB.out (Nat.le_refl _) _) hg1 (by have := HB.out.size; simp; omega) (fun j hj => (HO.out.lt j hj).1)); clear hown1 hg1 hat1))
      go_roundw
      case rel => exact ⟨k + 1, L ++ [k], by go_num, by omega, by simp; omega, HPS, by
          have := HO1.out
          rw [List.map_append, List.length_append, List.length_singleton]
          exact this, HB1⟩
      case measure => simp [intOf]; omega
    | false =>
      rw [hc] at htr hps
      rw [if_neg (by simp)] at hps
      have HT := hide htr
      have HPS := hide hps
      clear e0 e1 hq htr hps hc
      go_wp2_with (go_at_call 61; refine HT.out.mono ?_; rintro e w2 ⟨rfl, rfl⟩)
      go_roundw
      case rel => exact ⟨k + 1, L, by go_num, by omega, by omega, HPS, HO, HB⟩
      case measure => simp [intOf]; omega
/-- A row of numbers in a box of its own. -/
def RowB (w : World) (g : Nat) (L : List Nat) : Prop := w.heap[g]? = some (.cells ((L.map fun (n : Nat) => Value.int .i64 n).toArray) 3 (0, 0))
theorem RowB.cell {w : World} {g k : Nat} {L : List Nat} (h : RowB w g L) (hk : k < L.length) : w.cell? ⟨g, k, none⟩ = some (.int .i64 ((L.getD k 0 : Nat) : Int)) := by
  rw [cellOf h k]
  simp [hk]
theorem RowB.set {w : World} {g k n : Nat} {L : List Nat} (h : RowB w g L) : RowB (w.setCell ⟨g, k, none⟩ (.int .i64 (n : Nat))) g (L.set k n) := by
  have h1 := setCellOf (i := k) h (.int .i64 (n : Nat))
  unfold RowB
  rw [h1]
  simp [List.map_set]
theorem RowB.to {w w' : World} {g : Nat} {L : List Nat} (h : RowB w g L) (hb : Below w.heap.size w w') : RowB w' g L := box_to h hb
theorem RowB.kept {w w' : World} {g g2 : Nat} {L : List Nat} (h : RowB w g L) (hb : w.grownBy w' (some g2)) (hne : g ≠ g2) : RowB w' g L := (hb.block g (box_lt h) (fun e => by injection e with e; exact hne e)).trans h
theorem RowB.drew {w : World} {g : Nat} {L : List Nat} (h : RowB w g L) : RowB w.drew g L := h
theorem RowB.nods {w : World} {g : Nat} {L : List Nat} (h : RowB w g L) : Nods w w.heap.size (.slice (some ⟨g, 0, none⟩) L.length L.length) L :=
  sl_box h (box_lt h) fun i hi => by simp [hi]
theorem rowB_made {w : World} {g n : Nat} (h : w.heap[g]? = some (.cells (madeCells #[.int .i64 0] n) 3 (0, 0))) : RowB w g (List.replicate n 0) := by
  unfold RowB
  rw [h, made_ints]
  simp
/-- A list over the first numbers. -/
def rngL (n : Nat) (f : Nat → Nat) : List Nat := (List.range n).map f
theorem rngL_len (n : Nat) (f : Nat → Nat) : (rngL n f).length = n := by simp [rngL]
theorem rngL_at {n : Nat} {f : Nat → Nat} {i : Nat} (h : i < n) : (rngL n f).getD i 0 = f i := by
  simp [rngL, h]
theorem rngL_set {n : Nat} {f g : Nat → Nat} {i : Nat} (h : ∀ b, b < n → g b = if b = i then g i else f b) : (rngL n f).set i (g i) = rngL n g := by
  apply List.ext_getElem
  · simp [rngL]
  · intro k h1 h2
    have hk : k < n := by simpa [rngL] using h1
    rw [List.getElem_set]
    by_cases e : i = k
    · subst e
      simp [rngL]
    · rw [if_neg e]
      have := h k hk
      rw [if_neg (fun q => e q.symm)] at this
      simp [rngL, this]
theorem rngL_congr {n : Nat} {f g : Nat → Nat} (h : ∀ b, b < n → f b = g b) : rngL n f = rngL n g := by
  unfold rngL
  refine List.map_congr_left fun b hb => h b (by simpa using hb)
theorem rngL_zero (n : Nat) : List.replicate n 0 = rngL n fun _ => 0 := by
  unfold rngL
  rw [List.map_const', List.length_range]
theorem ldK_step {ms : List Md} {bs : List Int} {L : List Nat} {k j : Nat} (h : k < L.length) (hj : L.getD k 0 = j) (b : Nat) : ldK ms bs b (L.take (k + 1)) = ldK ms bs b (L.take k) + if onB bs b j then sz9 ms j else 0 := by
  have h1 : L[k] = j := by
    rw [← hj, List.getD_eq_getElem?_getD, List.getElem?_eq_getElem h]
    rfl
  unfold ldK
  rw [List.take_add_one, List.getElem?_eq_getElem h, h1, List.filter_append, List.map_append, List.sum_append]
  congr 1
  show ((List.filter (onB bs b) [j]).map (sz9 ms)).sum = _
  rw [List.filter_cons]
  cases onB bs b j with
  | true => rw [if_pos rfl, if_pos rfl]; simp
  | false => rw [if_neg (by simp), if_neg (by simp)]; rfl
theorem ldK_le {ms : List Md} {bs : List Int} {b : Nat} (hs : ∀ i, sz9 ms i ≤ 60) : ∀ (L : List Nat), ldK ms bs b L ≤ L.length * 60
  | [] => Nat.le_refl _
  | j :: L => by
    have ih := ldK_le (bs := bs) (b := b) hs L
    have h1 := hs j
    unfold ldK at ih ⊢
    rw [List.filter_cons, List.length_cons]
    split
    · rw [List.map_cons, List.sum_cons]
      omega
    · omega
set_option maxRecDepth 100000 in
set_option maxHeartbeats 8000000 in
theorem rloads_any (V : List (List Bool)) (N n : Nat) (bs : List Int) (ms : List Md) (A9 : Option Addr) (q9 : Nat) (Am : Option Addr) (qm : Nat) (Ab : Option Addr) (qb : Nat) (w : World) (hV : Vars w w.heap.size (.slice A9 V.length q9) V) (hVn : V.length ≤ 5000) (hVN : ∀ x ∈ V, x.length = N) (hd : SizedD ms) (h60 : ms.length ≤ 60) (hm : Mods w w.heap.size (.slice Am ms.length qm) ms) (hv : ∀ d ∈ ms, validF N d.f = true) (hsz : ∀ i, sz9 ms i ≤ 60) (hbl : bs.length = ms.length) (hb : Ints w w.heap.size (.slice Ab bs.length qb) bs) (hbn : ∀ i, i < bs.length → 0 ≤ bs.getD i 0 ∧ bs.getD i 0 < (n : Int)) (hn : n ≤ 10) :
    Calls Tryz.prog 76 #[.slice A9 V.length q9, .slice Am ms.length qm, .slice Ab bs.length qb, .int .i64 (n : Nat)] w fun e w' => ∃ v, e = .returned v ∧ Nods w' w'.heap.size v (rngL n fun b => maxF (fun x => ldN ms bs x b) V) ∧ Below w.heap.size w w' := by
  obtain ⟨i0, hi0, iz0, iz1, iz2⟩ := info_parts infoInt
  have HV := hide hV
  have HVN := hide hVN
  have HD := hide hd
  have HM := hide hm
  have HVAL := hide hv
  have HSZ := hide hsz
  have HBL := hide hbl
  have HBS := hide hb
  have HBN := hide hbn
  have hb60 : bs.length ≤ 60 := by omega
  have hmk : ∀ W : World, (Instr.makeSlice 45 (.int .i64 n) (.int .i64 n)).run Tryz.prog W = .ok (.slice (some ⟨W.heap.size, 0, none⟩) n n) (W.alloc (.cells (madeCells #[.int .i64 0] (n * 1)) 3)) := fun W => by
    have h1 := run_make (P := Tryz.prog) W 45 3 i0 (.int .i64 0) Tryz.underlying45 hi0 iz0 .i64 .i64 n n (by omega) (Int.le_refl _) (by rw [iz2]; omega) (by omega)
    rw [iz1] at h1
    simpa [Value.cells] using h1
  obtain ⟨RS, hRS⟩ : ∃ z, (rngL n fun b => maxF (fun x => ldN ms bs x b) V) = z := ⟨_, rfl⟩
  rw [hRS]
  have HRS := hide hRS
  clear hV hVN hd hm hv hsz hbl hb hbn hRS
  go_enter Tryz.func76, Tryz.ntmps76
  go_upto_region 2 with (fail)
  generalize hw1 : World.alloc _ _ = w1
  obtain ⟨hb1, hB1, hs1⟩ := alloc1 hw1
  obtain ⟨g0, hg0⟩ : ∃ z, w.heap.size = z := ⟨_, rfl⟩
  have HG0 := hide hg0
  have hr0 := rowB_made (n := n) hb1
  rw [rngL_zero] at hr0
  rw [hg0] at hr0 ⊢
  have HR1 := hide hr0
  have HB1 : Hid (Below w.heap.size w w1) := hB1
  clear hw1 hb1 hB1 hs1 hr0 hg0
  go_wp2_with fail
  go_loopw [10, 11, 12, 13, 14] (fun i _ _ _ _ wr => ∃ k : Nat, i = .int .i64 k ∧ k ≤ V.length ∧ Hid (RowB wr g0 (rngL n fun b => maxF (fun x => ldN ms bs x b) (V.take k))) ∧ Hid (Below w.heap.size w wr)) (fun i _ _ _ _ _ => V.length - (intOf i).toNat)
  case atStart => exact ⟨0, rfl, Nat.zero_le _, HR1.out, HB1.out⟩
  case round =>
    obtain ⟨k, rfl, hk, HO, HB⟩ := hrel
    by_cases hkl : k < V.length
    case neg =>
      have hkl1 : ¬ (k : Int) < (V.length : Int) := by omega
      have hNO := HO.out.nods
      rw [show V.take k = V from List.take_of_length_le (by omega), HRS.out] at hNO
      have hRl : RS.length = n := by rw [← HRS.out, rngL_len]
      rw [hRl] at hNO
      have HNO := hide hNO
      clear hkl hNO hRl hmk
      go_wp2_with fail
      go_ret
      exact ⟨_, rfl, HNO.out, HB.out⟩
    case pos =>
    have hkl1 : (k : Int) < (V.length : Int) := by omega
    have ik0 : (0 : Int) ≤ (k : Int) := by omega
    go_upto_region 6 with (fail)
    generalize hw5 : World.alloc _ _ = w5
    obtain ⟨hb5, hB5, hs5⟩ := alloc1 hw5
    obtain ⟨g1, hg1⟩ : ∃ z, wr.heap.size = z := ⟨_, rfl⟩
    have hg01 : g0 < g1 := by rw [← hg1]; exact box_lt HO.out
    have hr5 := rowB_made (n := n) hb5
    rw [rngL_zero] at hr5
    rw [hg1] at hr5 ⊢
    have hg1w : g1 < w5.heap.size := box_lt hr5
    have HN5 := hide hr5
    have HO5 := hide (HO.out.to hB5)
    have HB5 := hide (Below.to HB.out hB5 (Nat.le_refl _))
    have hgw : w.heap.size ≤ g1 := by rw [← hg1]; exact HB.out.size
    obtain ⟨bv, ov, x, Ax, qx, HX, hA9, hbv, hq9, HXB, ev0⟩ := Vars.at8 HV.out hkl
    subst hA9
    have ev : w5.cell? ⟨bv, ov + k, none⟩ = some (.slice Ax x.length qx) := (HB5.out.cell (p := ⟨bv, ov + k, none⟩) hbv).trans ev0
    have lbv : bv < w5.heap.size := Nat.lt_of_lt_of_le hbv HB5.out.size
    have iq9 : (V.length : Int) ≤ (q9 : Int) := by omega
    have hxn := HVN.out x (by rw [← HX.out, List.getD_eq_getElem?_getD, List.getElem?_eq_getElem hkl]; exact List.getElem_mem hkl)
    have hpk := rpickO_any ms x N Am qm (.slice Ax x.length qx) w5 h60 (HM.out.up HB5.out) ((Sl.below HXB.out HB5.out).more HB5.out.size) hxn HVAL.out
    obtain ⟨L, hL⟩ : ∃ z, pckL ms x = z := ⟨_, rfl⟩
    rw [hL] at hpk
    have HPK := hide hpk
    have HL := hide hL
    have hLl : L.length ≤ 60 := by rw [← hL]; exact Nat.le_trans (pckK_le ms x _) h60
    have HIN : Hid (∀ i, i < L.length → L.getD i 0 < ms.length) := fun i hi => by
      refine (pckL_lt (x := x) ?_).1
      rw [hL, List.getD_eq_getElem?_getD, List.getElem?_eq_getElem hi]
      exact List.getElem_mem hi
    clear hw5 hb5 hB5 hs5 hg1 hr5 ev0 hq9 hxn hpk hL
    go_upto_region 7 with (go_at_call 87; refine HPK.out.mono ?_; rintro e w6 ⟨v6, rfl, hv6, hB6⟩; obtain ⟨A8, q8, e8⟩ := owns_form hv6; subst e8; have HP6 := hide hv6; have HN6 := hide (HN5.out.to hB6); have HO6 := hide (HO5.out.to hB6); have HB6 := hide (Below.to HB5.out hB6 (Nat.le_refl _)); have hg1w6 : g1 < w6.heap.size := Nat.lt_of_lt_of_le hg1w hB6.size; clear hv6 hB6 ev lbv)
    obtain ⟨W6, hW6⟩ : ∃ wo : World, wo = w6 := ⟨_, rfl⟩
    subst hW6
    go_wp2_with fail
    go_loopw [13] (fun i wr => ∃ k2 : Nat, i = .int .i64 k2 ∧ k2 ≤ L.length ∧ Hid (RowB wr g1 (rngL n fun b => ldK ms bs b (L.take k2))) ∧ Hid (W6.grownBy wr (some g1))) (fun i _ => L.length - (intOf i).toNat)
    case atStart => exact ⟨0, rfl, Nat.zero_le _, HN6.out, only_refl _ _⟩
    case round =>
      obtain ⟨k2, rfl, hk2, HN, HG⟩ := hrel
      have HBr : Hid (Below w.heap.size w wr) := below_only HB6.out HG.out hgw
      by_cases hk2l : k2 < L.length
      case pos =>
        have hk21 : (k2 : Int) < (L.length : Int) := by omega
        have ik20 : (0 : Int) ≤ (k2 : Int) := by omega
        obtain ⟨b1, hb1e, hb1B, hq8, cur1, hc1⟩ := own_at7 HP6.out (by omega)
        subst hb1e
        have hb1w : b1 < W6.heap.size := box_lt hc1
        have hb1g : ¬ b1 = g1 := by omega
        obtain ⟨j, hj⟩ : ∃ j, L.getD k2 0 = j := ⟨_, rfl⟩
        have hjm : j < ms.length := by rw [← hj]; exact HIN.out k2 hk2l
        have el0 := HP6.out.cellAt k2 (by omega)
        have hxl : (L.map fun (n : Nat) => Value.int .i64 n)[k2]? = some (.int .i64 (j : Nat)) := by
          rw [← hj]
          simp [hk2l]
        rw [hxl] at el0
        have el : wr.cell? ⟨b1, k2, none⟩ = some (.int .i64 (j : Nat)) := (World.cell?_of_block (a := ⟨b1, k2, none⟩) (HG.out.block b1 hb1w (fun e => by injection e with e; exact hb1g e))).trans el0
        have lb1 : b1 < wr.heap.size := Nat.lt_of_lt_of_le hb1w HG.out.size
        obtain ⟨bm, off, d, Af, qf, Aw, qw, HDD, hA, hbm, hq, HFO, HWS, e0, e1⟩ := HM.out.at hjm
        subst hA
        have z1 := (HBr.out.cell (p := ⟨bm, off + j * 2 + 1, none⟩) hbm).trans e1
        have lbm : bm < wr.heap.size := Nat.lt_of_lt_of_le hbm HBr.out.size
        have hbmg : ¬ bm = g1 := by omega
        obtain ⟨b2, o2, y, HY, hA2, hb2, hq2, ey0⟩ := HBS.out.at7 (show j < bs.length by have := HBL.out; omega)
        subst hA2
        have hyn := HBN.out j (by have := HBL.out; omega)
        rw [HY.out] at hyn
        obtain ⟨c, hc⟩ : ∃ c : Nat, y = (c : Int) := ⟨y.toNat, by omega⟩
        subst hc
        have hcn : c < n := by omega
        have ey := (HBr.out.cell (p := ⟨b2, o2 + j, none⟩) hb2).trans ey0
        have lb2 : b2 < wr.heap.size := Nat.lt_of_lt_of_le hb2 HBr.out.size
        have hb2g : ¬ b2 = g1 := by omega
        have iq : (ms.length : Int) ≤ (qm : Int) := by omega
        have iq2 : (bs.length : Int) ≤ (qb : Int) := by omega
        have iq8 : (L.length : Int) ≤ (q8 : Int) := by omega
        have ij0 : (0 : Int) ≤ (j : Int) := by omega
        have ij1 : (j : Int) < (ms.length : Int) := by omega
        have ij2 : (j : Int) < (bs.length : Int) := by have := HBL.out; omega
        have ic0 : (0 : Int) ≤ (c : Int) := by omega
        have ic1 : (c : Int) < (n : Int) := by omega
        have inn : (n : Int) ≤ (n : Int) := Int.le_refl _
        have hszj := HSZ.out j
        have hdj : d.ws.length = sz9 ms j := by unfold sz9; rw [HDD.out]
        have ha := ldK_le (ms := ms) (bs := bs) (b := c) HSZ.out (L.take k2)
        have htl := List.length_take_le k2 L
        obtain ⟨a, hae⟩ : ∃ a, ldK ms bs c (L.take k2) = a := ⟨_, rfl⟩
        have c1 := HN.out.cell (k := c) (by rw [rngL_len]; exact hcn)
        rw [rngL_at hcn, hae] at c1
        have f1 := unfrozenOf HN.out c
        have lg : g1 < wr.heap.size := box_lt HN.out
        have wr1 : IntKind.i64.wrap ((a : Int) + (d.ws.length : Int)) = ((a + sz9 ms j : Nat) : Int) := by rw [hdj, IntWalk.i64_in _ (by omega)]; push_cast; rfl
        have hon : ∀ b, onB bs b j = decide (b = c) := fun b => by
          unfold onB
          rw [HY.out]
          by_cases e : b = c
          · subst e; simp
          · rw [decide_eq_false e]; simp; omega
        have hset : (rngL n fun b => ldK ms bs b (L.take k2)).set c (a + sz9 ms j) = rngL n fun b => ldK ms bs b (L.take (k2 + 1)) := by
          have h1 := rngL_set (n := n) (f := fun b => ldK ms bs b (L.take k2)) (g := fun b => ldK ms bs b (L.take (k2 + 1))) (i := c) (fun b hb => by
            show ldK ms bs b (L.take (k2 + 1)) = if b = c then ldK ms bs c (L.take (k2 + 1)) else ldK ms bs b (L.take k2)
            by_cases e : b = c
            · rw [if_pos e, e]
            · rw [if_neg e, ldK_step hk2l hj b, hon b, decide_eq_false e]; simp)
          rw [← h1, ldK_step hk2l hj c, hon c, hae]
          simp
        have hnx := HN.out.set (k := c) (n := a + sz9 ms j)
        rw [hset] at hnx
        have hnx : RowB (wr.setCell ⟨g1, c, none⟩ (.int .i64 ((a : Int) + (sz9 ms j : Int)))).drew g1 (rngL n fun b => ldK ms bs b (L.take (k2 + 1))) := hnx
        have hgx : W6.grownBy (wr.setCell ⟨g1, c, none⟩ (.int .i64 ((a : Int) + (sz9 ms j : Int)))).drew (some g1) := only_drew (only_setCell HG.out (.inl rfl) _)
        have hKeep : Hid (wr.grownBy wr.drew (some g1)) := only_drew (only_refl _ _)
        clear ey0 e0 e1 hq hq2 hq8 el0 hxl hset hon ha htl hdj hyn hc1
        go_upto_region 10 with (fail)
        refine wp_region_held_drew (S := (fun w' => wr.grownBy w' (some g1))) (by kernel_rfl) ?_ (fun hHeld => ?_)
        · try dsimp only
          (first | exact only_refl _ _ | assumption | exact only_drew (only_refl _ _) | exact hKeep.out | exact only_drew (by assumption) | (refine only_trans hKeep.out ?_; refine only_setCell (only_setCell (only_setCell (only_setCell (only_refl _ _) ?_ _) ?_ _) ?_ _) ?_ _ <;> exact .inl rfl) | (refine only_trans hKeep.out ?_; refine only_setCell (only_refl _ _) ?_ _; exact .inl rfl))
        refine wpAnyH_take (i := 0) (v := ?v1_0) rfl (by kernel_rfl) (by kernel_rfl) (by kernel_rfl) (fun _ _ _ h => h) (Or.inl ⟨by rfl, ?y1_0⟩) (by assumption) ?r1_0
        case' y1_0 => (intro w hSw; (try dsimp only at hSw); have hcS := gcell hSw; clear hSw; go_simp; try with_reducible rfl)
        try simp only [zX]
        refine wpAnyH_take (i := 1) (v := ?v1_1) rfl (by kernel_rfl) (by kernel_rfl) (by kernel_rfl) (fun _ _ _ h => h) (Or.inl ⟨by rfl, ?y1_1⟩) (by assumption) ?r1_1
        case' y1_1 => (intro w hSw; (try dsimp only at hSw); have hcS := gcell hSw; clear hSw; go_simp; try with_reducible rfl)
        try simp only [zX]
        refine wpAnyH_take (i := 2) (v := ?v1_2) rfl (by kernel_rfl) (by kernel_rfl) (by kernel_rfl) (fun _ _ _ h => h) (Or.inl ⟨by rfl, ?y1_2⟩) (by assumption) ?r1_2
        case' y1_2 => (intro w hSw; (try dsimp only at hSw); have hcS := gcell hSw; clear hSw; go_simp; try with_reducible rfl)
        try simp only [zX]
        refine wpAnyH_take (i := 3) (v := ?v1_3) rfl (by kernel_rfl) (by kernel_rfl) (by kernel_rfl) (fun _ _ _ h => h) (Or.inl ⟨by rfl, ?y1_3⟩) (by assumption) ?r1_3
        case' y1_3 => (intro w hSw; (try dsimp only at hSw); have hcS := gcell hSw; clear hSw; go_simp; try with_reducible rfl)
        try simp only [zX]
        refine wpAnyH_take (i := 4) (v := ?v1_4) rfl (by kernel_rfl) (by kernel_rfl) (by kernel_rfl) (fun _ _ _ h => h) (Or.inl ⟨by rfl, ?y1_4⟩) (by assumption) ?r1_4
        case' y1_4 => (intro w hSw; (try dsimp only at hSw); have hcS := gcell hSw; clear hSw; go_simp; try with_reducible rfl)
        try simp only [zX]
        refine wpAnyH_take (i := 5) (v := ?v1_5) rfl (by kernel_rfl) (by kernel_rfl) (by kernel_rfl) (fun _ _ _ h => h) (Or.inl ⟨by rfl, ?y1_5⟩) (by assumption) ?r1_5
        case' y1_5 => (intro w hSw; (try dsimp only at hSw); have hcS := gcell hSw; clear hSw; go_simp; try with_reducible rfl)
        try simp only [zX]
        refine wpAnyH_take (i := 6) (v := ?v1_6) rfl (by kernel_rfl) (by kernel_rfl) (by kernel_rfl) (fun _ _ _ h => h) (Or.inl ⟨by rfl, ?y1_6⟩) (by assumption) ?r1_6
        case' y1_6 => (intro w hSw; (try dsimp only at hSw); have hcS := gcell hSw; clear hSw; go_simp; try with_reducible rfl)
        try simp only [zX]
        refine wpAnyH_take (i := 7) (v := ?v1_7) rfl (by kernel_rfl) (by kernel_rfl) (by kernel_rfl) (fun _ _ _ h => h) (Or.inl ⟨by rfl, ?y1_7⟩) (by assumption) ?r1_7
        case' y1_7 => (intro w hSw; (try dsimp only at hSw); have hcS := gcell hSw; clear hSw; go_simp; try with_reducible rfl)
        try simp only [zX]
        refine wpAnyH_take (i := 8) (v := ?v1_8) rfl (by kernel_rfl) (by kernel_rfl) (by kernel_rfl) (fun _ _ _ h => h) (Or.inl ⟨by rfl, ?y1_8⟩) (by assumption) ?r1_8
        case' y1_8 => (intro w hSw; (try dsimp only at hSw); have hcS := gcell hSw; clear hSw; go_simp; try with_reducible rfl)
        try simp only [zX]
        refine wpAnyH_take (i := 10) (v := ?v1_10) rfl (by kernel_rfl) (by kernel_rfl) (by kernel_rfl) (fun _ _ _ h => h) (Or.inl ⟨by rfl, ?y1_10⟩) (by assumption) ?r1_10
        case' y1_10 => (intro w hSw; (try dsimp only at hSw); have hcS := gcell hSw; clear hSw; go_simp; try with_reducible rfl)
        try simp only [zX]
        refine wpAnyH_take (i := 11) (v := ?v1_11) rfl (by kernel_rfl) (by kernel_rfl) (by kernel_rfl) (fun _ _ _ h => h) (Or.inl ⟨by rfl, ?y1_11⟩) (by assumption) ?r1_11
        case' y1_11 => (intro w hSw; (try dsimp only at hSw); have hcS := gcell hSw; clear hSw; go_simp; try with_reducible rfl)
        try simp only [zX]
        refine wpAnyH_take (i := 12) (v := ?v1_12) rfl (by kernel_rfl) (by kernel_rfl) (by kernel_rfl) (fun _ _ _ h => h) (Or.inl ⟨by rfl, ?y1_12⟩) (by assumption) ?r1_12
        case' y1_12 => (intro w hSw; (try dsimp only at hSw); have hcS := gcell hSw; clear hSw; go_simp; try with_reducible rfl)
        try simp only [zX]
        refine wpAnyH_take (i := 13) (v := ?v1_13) rfl (by kernel_rfl) (by kernel_rfl) (by kernel_rfl) (fun _ _ _ h => h) (Or.inl ⟨by rfl, ?y1_13⟩) (by assumption) ?r1_13
        case' y1_13 => (intro w hSw; (try dsimp only at hSw); have hcS := gcell hSw; clear hSw; go_simp; try with_reducible rfl)
        try simp only [zX]
        refine wpAnyH_take (i := 14) (v := ?v1_14) rfl (by kernel_rfl) (by kernel_rfl) (by kernel_rfl) (fun _ _ _ h => h) (Or.inl ⟨by rfl, ?y1_14⟩) (by assumption) ?r1_14
        case' y1_14 => (intro w hSw; (try dsimp only at hSw); have hcS := gcell hSw; clear hSw; go_simp; try with_reducible rfl)
        try simp only [zX]
        refine wpAnyH_take (i := 15) (v := ?v1_15) rfl (by kernel_rfl) (by kernel_rfl) (by kernel_rfl) (fun _ _ _ h => h) (Or.inl ⟨by rfl, ?y1_15⟩) (by assumption) ?r1_15
        case' y1_15 => (intro w hSw; (try dsimp only at hSw); have hcS := gcell hSw; clear hSw; go_simp; try with_reducible rfl)
        try simp only [zX]
        refine wpAnyH_take (i := 16) (v := ?v1_16) rfl (by kernel_rfl) (by kernel_rfl) (by kernel_rfl) (fun _ _ _ h => h) (Or.inl ⟨by rfl, ?y1_16⟩) (by assumption) ?r1_16
        case' y1_16 => (intro w hSw; (try dsimp only at hSw); have hcS := gcell hSw; clear hSw; go_simp; try with_reducible rfl)
        try simp only [zX]
        refine wpAnyH_take (i := 17) (v := ?v1_17) rfl (by kernel_rfl) (by kernel_rfl) (by kernel_rfl) (fun _ _ _ h => h) (Or.inl ⟨by rfl, ?y1_17⟩) (by assumption) ?r1_17
        case' y1_17 => (intro w hSw; (try dsimp only at hSw); have hcS := gcell hSw; clear hSw; go_simp; try with_reducible rfl)
        try simp only [zX]
        refine wpAnyH_take (i := 18) (v := ?v1_18) rfl (by kernel_rfl) (by kernel_rfl) (by kernel_rfl) (fun _ _ _ h => h) (Or.inl ⟨by rfl, ?y1_18⟩) (by assumption) ?r1_18
        case' y1_18 => (intro w hSw; (try dsimp only at hSw); have hcS := gcell hSw; clear hSw; go_simp; try with_reducible rfl)
        try simp only [zX]
        refine wpAnyH_ready (rs := [9]) (by kernel_rfl) (by simp) ?_
        refine AllReadyH.cons rfl (fun K hK => ?_) AllReadyH.nil
        go_simp
        refine hK.out _ _ ?_ (fun hNext => ?_)
        · try dsimp only
          (first | exact only_refl _ _ | assumption | exact only_drew (only_refl _ _) | exact hKeep.out | exact only_drew (by assumption) | (refine only_trans hKeep.out ?_; refine only_setCell (only_setCell (only_setCell (only_setCell (only_refl _ _) ?_ _) ?_ _) ?_ _) ?_ _ <;> exact .inl rfl) | (refine only_trans hKeep.out ?_; refine only_setCell (only_refl _ _) ?_ _; exact .inl rfl))
        clear hK K hHeld
        have hHeld := hNext
        clear hNext
        (try dsimp only at hHeld)
        try simp only [zX]
        refine wpAnyH_take (i := 19) (v := ?v1_19) rfl (by kernel_rfl) (by kernel_rfl) (by kernel_rfl) (fun _ _ _ h => h) (Or.inl ⟨by rfl, ?y1_19⟩) (by assumption) ?r1_19
        case' y1_19 => (intro w hSw; (try dsimp only at hSw); have hcS := gcell hSw; clear hSw; go_simp; try with_reducible rfl)
        try simp only [zX]
        refine wpAnyH_take (i := 20) (v := ?v1_20) rfl (by kernel_rfl) (by kernel_rfl) (by kernel_rfl) (fun _ _ _ h => h) (Or.inl ⟨by rfl, ?y1_20⟩) (by assumption) ?r1_20
        case' y1_20 => (intro w hSw; (try dsimp only at hSw); have hcS := gcell hSw; clear hSw; go_simp; try with_reducible rfl)
        try simp only [zX]
        refine wpAnyH_ready (rs := [21]) (by kernel_rfl) (by simp) ?_
        refine AllReadyH.cons rfl (fun K hK => ?_) AllReadyH.nil
        go_simp
        refine hK.out _ _ ?_ (fun hNext => ?_)
        · try dsimp only
          (first | exact only_refl _ _ | assumption | exact only_drew (only_refl _ _) | exact hKeep.out | exact only_drew (by assumption) | (refine only_trans hKeep.out ?_; refine only_setCell (only_setCell (only_setCell (only_setCell (only_refl _ _) ?_ _) ?_ _) ?_ _) ?_ _ <;> exact .inl rfl) | (refine only_trans hKeep.out ?_; refine only_setCell (only_refl _ _) ?_ _; exact .inl rfl))
        clear hK K hHeld
        have hHeld := hNext
        clear hNext
        (try dsimp only at hHeld)
        try simp only [zX]
        refine wpAnyH_done (by kernel_rfl) ?_ _
        generalize hw2 : World.drew (World.setCell _ _ _) = w2 at hnx hgx ⊢
        have HNX := hide hnx
        have HGX := hide hgx
        clear hw2 hnx hgx c1 f1 lg hHeld hKeep el ey z1 lb1 lb2 lbm
        go_wp2_with fail
        go_roundw
        case rel => exact ⟨k2 + 1, by go_num, by omega, HNX, HGX⟩
        case measure => simp [intOf]; omega
      case neg =>
        have hk21 : ¬ (k2 : Int) < (L.length : Int) := by omega
        have HNf : Hid (RowB wr g1 (rngL n fun b => ldN ms bs x b)) := by
          have h1 := HN.out
          rw [List.take_of_length_le (by omega), ← HL.out] at h1
          exact h1
        have HOr : Hid (RowB wr g0 (rngL n fun b => maxF (fun x => ldN ms bs x b) (V.take k))) := HO6.out.kept HG.out (by omega)
        have hgr1 : g1 < wr.heap.size := Nat.lt_of_lt_of_le hg1w6 HG.out.size
        clear hk2l HN
        obtain ⟨W7, hW7⟩ : ∃ wo : World, wo = wr := ⟨_, rfl⟩
        subst hW7
        have HO0 : Hid (RowB W7 g0 (rngL n fun b => if b < 0 then max (maxF (fun x => ldN ms bs x b) (V.take k)) (ldN ms bs x b) else maxF (fun x => ldN ms bs x b) (V.take k))) := by
          show RowB _ _ _
          rw [rngL_congr (g := fun b => maxF (fun x => ldN ms bs x b) (V.take k)) (fun b _ => by simp)]
          exact HOr.out
        go_wp2_with fail
        go_loopw [14] (fun i wr => ∃ b3 : Nat, i = .int .i64 b3 ∧ b3 ≤ n ∧ Hid (RowB wr g0 (rngL n fun b => if b < b3 then max (maxF (fun x => ldN ms bs x b) (V.take k)) (ldN ms bs x b) else maxF (fun x => ldN ms bs x b) (V.take k))) ∧ Hid (W7.grownBy wr (some g0))) (fun i _ => n - (intOf i).toNat)
        case atStart => exact ⟨0, rfl, Nat.zero_le _, HO0, only_refl _ _⟩
        case round =>
          obtain ⟨b3, rfl, hb3, HOb, HG7⟩ := hrel
          by_cases hb3n : b3 < n
          case neg =>
            have hb31 : ¬ (b3 : Int) < (n : Int) := by omega
            have HOn : Hid (RowB wr g0 (rngL n fun b => maxF (fun x => ldN ms bs x b) (V.take (k + 1)))) := by
              have h1 := HOb.out
              rw [rngL_congr (g := fun b => maxF (fun x => ldN ms bs x b) (V.take (k + 1))) (fun b hb => by
                show (if b < b3 then _ else _) = _
                rw [if_pos (by omega), maxF_step hkl, HX.out])] at h1
              exact h1
            have HBn : Hid (Below w.heap.size w wr) := below_only HBr.out HG7.out (by have := HG0.out; omega)
            clear hb3n
            go_wp2_with fail
            go_roundw
            case rel => exact ⟨k + 1, by go_num, by omega, HOn, HBn⟩
            case measure => simp [intOf]; omega
          case pos =>
          have hb31 : (b3 : Int) < (n : Int) := by omega
          have ib0 : (0 : Int) ≤ (b3 : Int) := by omega
          have inn : (n : Int) ≤ (n : Int) := Int.le_refl _
          obtain ⟨m0, hm0⟩ : ∃ z, maxF (fun x => ldN ms bs x b3) (V.take k) = z := ⟨_, rfl⟩
          obtain ⟨d0, hd0⟩ : ∃ z, ldN ms bs x b3 = z := ⟨_, rfl⟩
          have c1 := HOb.out.cell (k := b3) (by rw [rngL_len]; exact hb3n)
          rw [rngL_at hb3n, if_neg (by omega), hm0] at c1
          have f1 := unfrozenOf HOb.out b3
          have lg0 : g0 < wr.heap.size := box_lt HOb.out
          have HNb := HNf.out.kept HG7.out (by omega)
          have d1 := HNb.cell (k := b3) (by rw [rngL_len]; exact hb3n)
          rw [rngL_at hb3n, hd0] at d1
          have lg1 : g1 < wr.heap.size := box_lt HNb
          have hlg : ¬ g1 = g0 := by omega
          have hset : (rngL n fun b => if b < b3 then max (maxF (fun x => ldN ms bs x b) (V.take k)) (ldN ms bs x b) else maxF (fun x => ldN ms bs x b) (V.take k)).set b3 (max m0 d0) = rngL n fun b => if b < b3 + 1 then max (maxF (fun x => ldN ms bs x b) (V.take k)) (ldN ms bs x b) else maxF (fun x => ldN ms bs x b) (V.take k) := by
            have h1 := rngL_set (n := n) (f := fun b => if b < b3 then max (maxF (fun x => ldN ms bs x b) (V.take k)) (ldN ms bs x b) else maxF (fun x => ldN ms bs x b) (V.take k)) (g := fun b => if b < b3 + 1 then max (maxF (fun x => ldN ms bs x b) (V.take k)) (ldN ms bs x b) else maxF (fun x => ldN ms bs x b) (V.take k)) (i := b3) (fun b hb => by
              by_cases e : b = b3
              · subst e
                rw [if_pos rfl]
              · rw [if_neg e]
                by_cases e2 : b < b3
                · simp only [if_pos e2, if_pos (show b < b3 + 1 by omega)]
                · simp only [if_neg e2, if_neg (show ¬ b < b3 + 1 by omega)])
            rw [← h1]
            simp only [if_pos (show b3 < b3 + 1 by omega), hm0, hd0]
          have hmx : ((max m0 d0 : Nat) : Int) = max (m0 : Int) (d0 : Int) := by omega
          have hmy : (if (m0 : Int) < (d0 : Int) then (d0 : Int) else (m0 : Int)) = max (m0 : Int) (d0 : Int) := by split <;> omega
          have hmz : (if m0 < d0 then (d0 : Int) else (m0 : Int)) = max (m0 : Int) (d0 : Int) := by split <;> omega
          have hnx := (HOb.out.set (k := b3) (n := max m0 d0)).drew
          rw [hset, hmx] at hnx
          have hgx : W7.grownBy (wr.setCell ⟨g0, b3, none⟩ (.int .i64 (max (m0 : Int) (d0 : Int)))).drew (some g0) := only_drew (only_setCell HG7.out (.inl rfl) _)
          have hKeep : Hid (wr.grownBy wr.drew (some g0)) := only_drew (only_refl _ _)
          clear hset hmx HNb hm0 hd0
          go_upto_region 14 with (fail)
          refine wp_region_held_drew (S := (fun w' => wr.grownBy w' (some g0))) (by kernel_rfl) ?_ (fun hHeld => ?_)
          · try dsimp only
            (first | exact only_refl _ _ | assumption | exact only_drew (only_refl _ _) | exact hKeep.out | exact only_drew (by assumption) | (refine only_trans hKeep.out ?_; refine only_setCell (only_setCell (only_setCell (only_setCell (only_refl _ _) ?_ _) ?_ _) ?_ _) ?_ _ <;> exact .inl rfl) | (refine only_trans hKeep.out ?_; refine only_setCell (only_refl _ _) ?_ _; exact .inl rfl))
          refine wpAnyH_take (i := 0) (v := ?v2_0) rfl (by kernel_rfl) (by kernel_rfl) (by kernel_rfl) (fun _ _ _ h => h) (Or.inl ⟨by rfl, ?y2_0⟩) (by assumption) ?r2_0
          case' y2_0 => (intro w hSw; (try dsimp only at hSw); have hcS := gcell hSw; clear hSw; go_simp; try with_reducible rfl)
          try simp only [zX]
          refine wpAnyH_take (i := 1) (v := ?v2_1) rfl (by kernel_rfl) (by kernel_rfl) (by kernel_rfl) (fun _ _ _ h => h) (Or.inl ⟨by rfl, ?y2_1⟩) (by assumption) ?r2_1
          case' y2_1 => (intro w hSw; (try dsimp only at hSw); have hcS := gcell hSw; clear hSw; go_simp; try with_reducible rfl)
          try simp only [zX]
          refine wpAnyH_take (i := 2) (v := ?v2_2) rfl (by kernel_rfl) (by kernel_rfl) (by kernel_rfl) (fun _ _ _ h => h) (Or.inl ⟨by rfl, ?y2_2⟩) (by assumption) ?r2_2
          case' y2_2 => (intro w hSw; (try dsimp only at hSw); have hcS := gcell hSw; clear hSw; go_simp; try with_reducible rfl)
          try simp only [zX]
          refine wpAnyH_take (i := 3) (v := ?v2_3) rfl (by kernel_rfl) (by kernel_rfl) (by kernel_rfl) (fun _ _ _ h => h) (Or.inl ⟨by rfl, ?y2_3⟩) (by assumption) ?r2_3
          case' y2_3 => (intro w hSw; (try dsimp only at hSw); have hcS := gcell hSw; clear hSw; go_simp; try with_reducible rfl)
          try simp only [zX]
          refine wpAnyH_take (i := 4) (v := ?v2_4) rfl (by kernel_rfl) (by kernel_rfl) (by kernel_rfl) (fun _ _ _ h => h) (Or.inl ⟨by rfl, ?y2_4⟩) (by assumption) ?r2_4
          case' y2_4 => (intro w hSw; (try dsimp only at hSw); have hcS := gcell hSw; clear hSw; go_simp; try with_reducible rfl)
          try simp only [zX]
          refine wpAnyH_take (i := 6) (v := ?v2_6) rfl (by kernel_rfl) (by kernel_rfl) (by kernel_rfl) (fun _ _ _ h => h) (Or.inl ⟨by rfl, ?y2_6⟩) (by assumption) ?r2_6
          case' y2_6 => (intro w hSw; (try dsimp only at hSw); have hcS := gcell hSw; clear hSw; go_simp; try with_reducible rfl)
          try simp only [zX]
          refine wpAnyH_take (i := 7) (v := ?v2_7) rfl (by kernel_rfl) (by kernel_rfl) (by kernel_rfl) (fun _ _ _ h => h) (Or.inl ⟨by rfl, ?y2_7⟩) (by assumption) ?r2_7
          case' y2_7 => (intro w hSw; (try dsimp only at hSw); have hcS := gcell hSw; clear hSw; go_simp; try with_reducible rfl)
          try simp only [zX]
          refine wpAnyH_take (i := 8) (v := ?v2_8) rfl (by kernel_rfl) (by kernel_rfl) (by kernel_rfl) (fun _ _ _ h => h) (Or.inl ⟨by rfl, ?y2_8⟩) (by assumption) ?r2_8
          case' y2_8 => (intro w hSw; (try dsimp only at hSw); have hcS := gcell hSw; clear hSw; go_simp; try with_reducible rfl)
          try simp only [zX]
          refine wpAnyH_take (i := 9) (v := ?v2_9) rfl (by kernel_rfl) (by kernel_rfl) (by kernel_rfl) (fun _ _ _ h => h) (Or.inl ⟨by rfl, ?y2_9⟩) (by assumption) ?r2_9
          case' y2_9 => (intro w hSw; (try dsimp only at hSw); have hcS := gcell hSw; clear hSw; go_simp; try with_reducible rfl)
          try simp only [zX]
          refine wpAnyH_ready (rs := [5]) (by kernel_rfl) (by simp) ?_
          refine AllReadyH.cons rfl (fun K hK => ?_) AllReadyH.nil
          go_simp
          refine hK.out _ _ ?_ (fun hNext => ?_)
          · try dsimp only
            (first | exact only_refl _ _ | assumption | exact only_drew (only_refl _ _) | exact hKeep.out | exact only_drew (by assumption) | (refine only_trans hKeep.out ?_; refine only_setCell (only_setCell (only_setCell (only_setCell (only_refl _ _) ?_ _) ?_ _) ?_ _) ?_ _ <;> exact .inl rfl) | (refine only_trans hKeep.out ?_; refine only_setCell (only_refl _ _) ?_ _; exact .inl rfl))
          clear hK K hHeld
          have hHeld := hNext
          clear hNext
          (try dsimp only at hHeld)
          try simp only [zX]
          refine wpAnyH_take (i := 10) (v := ?v2_10) rfl (by kernel_rfl) (by kernel_rfl) (by kernel_rfl) (fun _ _ _ h => h) (Or.inl ⟨by rfl, ?y2_10⟩) (by assumption) ?r2_10
          case' y2_10 => (intro w hSw; (try dsimp only at hSw); have hcS := gcell hSw; clear hSw; go_simp; try with_reducible rfl)
          try simp only [zX]
          refine wpAnyH_take (i := 11) (v := ?v2_11) rfl (by kernel_rfl) (by kernel_rfl) (by kernel_rfl) (fun _ _ _ h => h) (Or.inl ⟨by rfl, ?y2_11⟩) (by assumption) ?r2_11
          case' y2_11 => (intro w hSw; (try dsimp only at hSw); have hcS := gcell hSw; clear hSw; go_simp; try with_reducible rfl)
          try simp only [zX]
          refine wpAnyH_ready (rs := [12]) (by kernel_rfl) (by simp) ?_
          refine AllReadyH.cons rfl (fun K hK => ?_) AllReadyH.nil
          go_simp
          refine hK.out _ _ ?_ (fun hNext => ?_)
          · try dsimp only
            (first | exact only_refl _ _ | assumption | exact only_drew (only_refl _ _) | exact hKeep.out | exact only_drew (by assumption) | (refine only_trans hKeep.out ?_; refine only_setCell (only_setCell (only_setCell (only_setCell (only_refl _ _) ?_ _) ?_ _) ?_ _) ?_ _ <;> exact .inl rfl) | (refine only_trans hKeep.out ?_; refine only_setCell (only_refl _ _) ?_ _; exact .inl rfl))
          clear hK K hHeld
          have hHeld := hNext
          clear hNext
          (try dsimp only at hHeld)
          try simp only [zX]
          refine wpAnyH_done (by kernel_rfl) ?_ _
          generalize hw2 : World.drew (World.setCell _ _ _) = w2 at hnx hgx ⊢
          have HNX := hide hnx
          have HGX := hide hgx
          clear hw2 hnx hgx c1 f1 lg0 lg1 d1 hHeld hKeep
          go_wp2_with fail
          go_roundw
          case rel => exact ⟨b3 + 1, by go_num, by omega, HNX, HGX⟩
          case measure => simp [intOf]; omega
end Go.Proofs.YtehadoecnmfeoaaGreat

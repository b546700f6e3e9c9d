/- Part 38 of this claim's texts: walks and plain laws. -/
import Derived.Test.YtehadoecnmfeoaaGreatRows
import Derived.Test.YtehadoecnmfeoaaGreatGBM37
import Derived.Test.YtehadoecnmfeoaaGreatGBM36
import Derived.Test.YtehadoecnmfeoaaGreatGBM29
import Derived.Deep.DeepMust
import Derived.Deep.RegionHeld3
import Derived.Deep.DrawnRows
import Derived.Test.YtehadoecnmfeoaaGreatGBM19
import Derived.Test.YtehadoecnmfeoaaGreatGBM13
import Derived.Test.YtehadoecnmfeoaaGreatGBM28
/- What is made, on both sides: walks. -/
namespace Go.Proofs.YtehadoecnmfeoaaGreat
open Go.RowKit
set_option linter.unusedVariables false
set_option linter.unusedSimpArgs false
theorem wires_up {n : Nat} {ws : List Int} (h : wiresB n ws = true) : ∀ k, k < ws.length → (k : Int) ≤ ws.getD k 0
  | 0, hk => (wires_at h hk).1
  | k + 1, hk => by
    have h1 := wires_up h k (by omega)
    have h2 := (wires_at h hk).2.2 (by omega)
    rw [Nat.add_sub_cancel] at h2
    omega
theorem wires_len {n : Nat} {ws : List Int} (h : wiresB n ws = true) : ws.length ≤ n := by
  rcases Nat.eq_zero_or_pos ws.length with h0 | h0
  · omega
  · have h1 := wires_up h (ws.length - 1) (by omega)
    have h2 := (wires_at h (show ws.length - 1 < ws.length by omega)).2.1
    omega
def madL (l : Lo) (ms : List Md) (x : List Bool) : List Nat := if pikE l ms x = 0 then madeN l.ws.length ms x else []
theorem pik_zero {l : Lo} {ms : List Md} {x : List Bool} (h : pikE l ms x = 0) : bldE l ms = 0 ∧ x.length = l.m.opts.length := by
  have hb : bldE l ms = 0 := by
    by_cases hb : bldE l ms = 0
    · exact hb
    · rw [(pik_err hb).1] at h
      exact absurd h hb
  refine ⟨hb, ?_⟩
  by_cases hxl : x.length = l.m.opts.length
  · exact hxl
  · rw [(pik_arg hb hxl).1] at h
    omega
theorem wsI_end {ms : List Md} {L : List Nat} {k : Nat} (h : L.length ≤ k) : wsI ms (L.take k) = wsI ms L := by rw [List.take_of_length_le h]
theorem wsI_step {ms : List Md} {L : List Nat} {k : Nat} (h : k < L.length) : wsI ms (L.take (k + 1)) = wsI ms (L.take k) ++ (ms.getD (L.getD k 0) Md.o).ws := by
  have h1 : L.getD k 0 = L[k] := by
    rw [List.getD_eq_getElem?_getD, List.getElem?_eq_getElem h]
    rfl
  unfold wsI
  rw [List.take_add_one, List.getElem?_eq_getElem h, List.flatMap_append, h1]
  simp
theorem sorted_nods {w : World} {base : Nat} {v : Value} {l : List Int} {S : List Nat} (h : w.ownsRow base 3 1 v l.length ((l.mergeSort fun x y => decide (x ≤ y)).map (Value.int .i64))) (hs : (l.mergeSort fun x y => decide (x ≤ y)) = S.map fun (n : Nat) => (n : Int)) : Nods w w.heap.size v S := by
  have hl : l.length = S.length := by
    have h2 := congrArg List.length hs
    rw [List.length_mergeSort, List.length_map] at h2
    exact h2
  rw [hs, hl, List.map_map] at h
  exact Nods.of_own h
theorem one_ints9 {f : List Int} : ∀ u ∈ (f : List Int).map (Value.int .i64), u.oneCell' = true := fun u hu => by
  obtain ⟨x, _, rfl⟩ := List.mem_map.1 hu
  simp [Value.oneCell']
set_option maxRecDepth 100000 in
set_option maxHeartbeats 8000000 in
theorem Made_any (ms : List Md) (x : List Bool) (Am : Option Addr) (qm : Nat) (Ax : Option Addr) (qx : Nat) (A0 A1 A2 A3 A4 A5 : Option Addr) (q0 q1 q2 q3 q4 q5 : Nat) (l : Lo) (w : World) (hs : SizedL l) (hd : SizedD ms) (h : LoA w w.heap.size A0 A1 A2 A3 A4 A5 q0 q1 q2 q3 q4 q5 l) (hm : Mods w w.heap.size (.slice Am ms.length qm) ms) (hx : Bols w w.heap.size (.slice Ax x.length qx) x) :
    Calls Tryz.prog 30 #[.agg #[.slice A0 l.m.opts.length q0, .slice A1 l.m.rules.length q1, .slice A2 l.ss.length q2, .slice A3 l.us.length q3, .slice A4 l.ps.length q4, .slice A5 l.ws.length q5], .slice Am ms.length qm, .slice Ax x.length qx] w (PicP (madL l ms x) (pikE l ms x) w) := by
  obtain ⟨i0, hi0, iz0, iz1, iz2⟩ := info_parts infoInt
  have H := hide h
  have HS := hide hs
  have HM := hide hm
  have HD := hide hd
  have HX := hide hx
  obtain ⟨er, her⟩ : ∃ z, pikE l ms x = z := ⟨_, rfl⟩
  obtain ⟨P, hP⟩ : ∃ z, pikL l ms x = z := ⟨_, rfl⟩
  have HER := hide her
  have HP := hide hP
  clear h hs hm hd hx
  by_cases h0 : er = 0
  case neg =>
    have hL : madL l ms x = [] := by unfold madL; rw [her, if_neg h0]
    rw [hL, her]
    have hz1 : (er != 0) = true := by simpa using h0
    clear her h0 hL hP
    go_enter Tryz.func30, Tryz.ntmps30
    go_upto_region 1 with (fail)
    generalize hw0 : World.alloc _ _ = w0
    obtain ⟨hb0, hB0, hs0⟩ := alloc1 hw0
    have HB0 := hide hB0
    have c0 := cellOf hb0 0; have c1 := cellOf hb0 1; have c2 := cellOf hb0 2; have c3 := cellOf hb0 3; have c4 := cellOf hb0 4; have c5 := cellOf hb0 5
    have hlb := box_lt hb0
    clear hw0 hb0 hB0 hs0
    go_wp2_with (go_at_call 28; refine (Pick_any ms x Am qm Ax qx A0 A1 A2 A3 A4 A5 q0 q1 q2 q3 q4 q5 l _ HS.out HD.out (H.out.up HB0.out) (HM.out.up HB0.out) (Sl.up HX.out HB0.out)).mono ?_; rw [HER.out]; rintro e w1 ⟨v1, rfl, hv1, hB1⟩; have HB1 := hide (Below.to HB0.out hB1 (Nat.le_refl _)); clear hv1 hB1 c0 c1 c2 c3 c4 c5 hlb)
    go_ret2
    exact ⟨_, rfl, Sl.nil _ _ _ _, HB1.out⟩
  case pos =>
  subst h0
  obtain ⟨hb, hxl⟩ := pik_zero her
  have hL : madL l ms x = madeN l.ws.length ms x := by unfold madL; rw [if_pos her]
  have hPP : pckL ms x = P := by rw [← hP]; exact (pik_ok hb hxl).2.symm
  have hin : ∀ i, i < P.length → P.getD i 0 < ms.length := fun i hi => by
    refine (pckL_lt (x := x) ?_).1
    rw [hPP, List.getD_eq_getElem?_getD, List.getElem?_eq_getElem hi]
    exact List.getElem_mem hi
  have hms60 := (bldE_ok hb).n
  have hws60 := (bldE_ok hb).lo.w60
  have hPl : P.length ≤ 60 := by rw [← hPP]; exact Nat.le_trans (pckK_le ms x _) hms60
  have HIN := hide hin
  have HPP := hide hPP
  have HWR := hide (ms_wires hb)
  have HSORT := hide (made_sort (ms_wires hb) x)
  rw [hL, her]
  clear her hL hb hxl hP hPP hin
  go_enter Tryz.func30, Tryz.ntmps30
  go_upto_region 1 with (fail)
  generalize hw0 : World.alloc _ _ = w0
  obtain ⟨hb0, hB0, hs0⟩ := alloc1 hw0
  have HB0 := hide hB0
  have c0 := cellOf hb0 0; have c1 := cellOf hb0 1; have c2 := cellOf hb0 2; have c3 := cellOf hb0 3; have c4 := cellOf hb0 4; have c5 := cellOf hb0 5
  have hlb := box_lt hb0
  clear hw0 hb0 hB0 hs0
  go_upto_region 4 with (go_at_call 28; refine (Pick_any ms x Am qm Ax qx A0 A1 A2 A3 A4 A5 q0 q1 q2 q3 q4 q5 l _ HS.out HD.out (H.out.up HB0.out) (HM.out.up HB0.out) (Sl.up HX.out HB0.out)).mono ?_; rw [HER.out, HP.out]; rintro e w1 ⟨v1, rfl, hv1, hB1⟩; obtain ⟨A9, q9, e9⟩ := Sl.form hv1; subst e9; have HV1 := hide hv1; have HB1 := hide (Below.to HB0.out hB1 (Nat.le_refl _)); clear hv1 hB1 c0 c1 c2 c3 c4 c5 hlb)
  obtain ⟨W1, hW1⟩ : ∃ wo : World, wo = w1 := ⟨_, rfl⟩
  subst hW1
  go_wp2_with fail
  go_loopw [6, 10, 23] (fun sv _ i wr => ∃ (k : Nat) (L : List Int), i = .int .i64 k ∧ k ≤ P.length ∧ L.length ≤ k * 60 ∧ Hid (wsI ms (P.take k) = L) ∧ Hid (wr.ownsRow W1.heap.size 3 1 sv L.length (L.map (Value.int .i64))) ∧ Hid (Below W1.heap.size W1 wr)) (fun _ _ i _ => P.length - (intOf i).toNat)
  case atStart => exact ⟨0, [], rfl, Nat.zero_le _, Nat.zero_le _, rfl, World.ownsRow_nil _ _ _ _, Below.refl _ _⟩
  case round =>
    obtain ⟨k, L, rfl, hk, hLk, HL, HO, HB⟩ := hrel
    obtain ⟨A8, q8, hv8⟩ := owns_form HO.out
    subst hv8
    have HBr := hide (Below.to HB1.out HB.out (Nat.le_refl _))
    by_cases hkl : k < P.length
    case neg =>
      have hkl1 : ¬ (k : Int) < (P.length : Int) := by omega
      have hLL : wsP ms x = L := by rw [← HL.out, wsI_end (by omega)]; unfold wsP; rw [HPP.out]
      have hso := HSORT.out
      rw [hLL] at hso
      have HSO := hide hso
      have hLb : L.length ≤ 100000 := by omega
      clear hLL hkl hso
      go_wp2_with (go_at_call 88; refine (sort_own15 L W1.heap.size _ _ hLb HO.out).mono ?_; rintro e w7 ⟨rfl, hS7, hB7⟩; have HN7 := hide (sorted_nods hS7 HSO.out); have HB7 := hide (Below.to HB1.out (Below.trans HB.out (hB7 HB.out.size)) (Nat.le_refl _)); clear hS7 hB7)
      go_ret2
      exact ⟨_, rfl, HN7.out, HB7.out⟩
    case pos =>
    have hkl1 : (k : Int) < (P.length : Int) := by omega
    have ik0 : (0 : Int) ≤ (k : Int) := by omega
    obtain ⟨b1, o1, j, HJ, hA1, hb1, hq1, ej0⟩ := Nods.at8 HV1.out hkl
    have hjm : j < ms.length := by rw [← HJ.out]; exact HIN.out k hkl
    have ej := (HB.out.cell (p := ⟨b1, o1 + k, none⟩) hb1).trans ej0
    have lb1 : b1 < wr.heap.size := Nat.lt_of_lt_of_le hb1 HB.out.size
    obtain ⟨b, off, d, Af, qf, Aw, qw, HDD, hA, hb, hq, HF, HWS, e0, e1⟩ := HM.out.at hjm
    subst hA hA1
    have z1 := (HBr.out.cell (p := ⟨b, off + j * 2 + 1, none⟩) hb).trans e1
    have lb : b < wr.heap.size := Nat.lt_of_lt_of_le hb HBr.out.size
    have iq : (ms.length : Int) ≤ (qm : Int) := by omega
    have iq1 : (P.length : Int) ≤ (q9 : Int) := by omega
    have ij0 : (0 : Int) ≤ (j : Int) := by omega
    have ij1 : (j : Int) < (ms.length : Int) := by omega
    have hdl := wires_len (HWR.out d (by rw [← HDD.out]; exact getD_mem7 hjm))
    have hst := wsI_step (ms := ms) hkl
    rw [HL.out, HJ.out, HDD.out] at hst
    have HST := hide hst
    have HWr := hide (HWS.out.up HBr.out)
    have hsum : L.length + d.ws.length ≤ 4000 := by omega
    clear hq hq1 e0 e1 ej0 hst
    go_wp2_with (at_builtin; refine wpList_append_any _ rfl (.tmp 27) (.tmp 32) _ rfl W1.heap.size 3 i0 _ 1 8 Tryz.underlying45 hi0 iz0 iz1 iz2 rfl (by decide) _ _ _ rfl HO.out wr.heap.size Aw d.ws.length qw (d.ws.map (Value.int .i64)) rfl (Ints.flat7 HWr.out) one_ints9 (by unfold maxLen; omega) (by omega) HB.out.size ?_; intro v1 w3 hown1 hg1 hat1; have HO3 := hide hown1; have HB3 := hide (Below.grown HB.out hg1 HB.out.size (fun j hj => (HO.out.lt j hj).1)); clear hown1 hg1 hat1)
    go_roundw
    case rel => exact ⟨k + 1, L ++ d.ws, by go_num, by omega, by rw [List.length_append]; omega, HST, by
        have := HO3.out
        rw [List.map_append, List.length_append]
        exact this, HB3⟩
    case measure => simp [intOf]; omega
end Go.Proofs.YtehadoecnmfeoaaGreat
/- What is made (the elder): walk. -/
namespace Go.Proofs.YtehadoecnmfeoaaGreat
open Go.RowKit
set_option linter.unusedVariables false
set_option linter.unusedSimpArgs false
set_option maxRecDepth 100000 in
set_option maxHeartbeats 4000000 in
theorem rMade_any (ms : List Md) (x : List Bool) (Am : Option Addr) (qm : Nat) (Ax : Option Addr) (qx : Nat) (A0 A1 A2 A3 A4 A5 : Option Addr) (q0 q1 q2 q3 q4 q5 : Nat) (l : Lo) (w : World) (hs : SizedL l) (hd : SizedD ms) (h : LoA w w.heap.size A0 A1 A2 A3 A4 A5 q0 q1 q2 q3 q4 q5 l) (hm : Mods w w.heap.size (.slice Am ms.length qm) ms) (hx : Bols w w.heap.size (.slice Ax x.length qx) x) :
    Calls Tryz.prog 31 #[.agg #[.slice A0 l.m.opts.length q0, .slice A1 l.m.rules.length q1, .slice A2 l.ss.length q2, .slice A3 l.us.length q3, .slice A4 l.ps.length q4, .slice A5 l.ws.length q5], .slice Am ms.length qm, .slice Ax x.length qx] w (PicP (madL l ms x) (pikE l ms x) w) := by
  obtain ⟨i0, hi0, iz0, iz1, iz2⟩ := info_parts infoInt
  have H := hide h
  have HS := hide hs
  have HM := hide hm
  have HD := hide hd
  have HX := hide hx
  obtain ⟨er, her⟩ : ∃ z, pikE l ms x = z := ⟨_, rfl⟩
  have HER := hide her
  clear h hs hm hd hx
  by_cases h0 : er = 0
  case neg =>
    have hL : madL l ms x = [] := by unfold madL; rw [her, if_neg h0]
    rw [hL, her]
    have hz1 : (er != 0) = true := by simpa using h0
    clear her h0 hL
    go_enter Tryz.func31, Tryz.ntmps31
    go_upto_region 1 with (fail)
    generalize hw0 : World.alloc _ _ = w0
    obtain ⟨hb0, hB0, hs0⟩ := alloc1 hw0
    have HB0 := hide hB0
    have c0 := cellOf hb0 0; have c1 := cellOf hb0 1; have c2 := cellOf hb0 2; have c3 := cellOf hb0 3; have c4 := cellOf hb0 4; have c5 := cellOf hb0 5
    have hlb := box_lt hb0
    clear hw0 hb0 hB0 hs0
    go_wp2_with (go_at_call 86; refine (rcheckVariant_any ms x Am qm Ax qx A0 A1 A2 A3 A4 A5 q0 q1 q2 q3 q4 q5 l _ HS.out HD.out (H.out.up HB0.out) (HM.out.up HB0.out)).mono ?_; rw [HER.out]; rintro e w1 ⟨rfl, hB1⟩; have HB1 := hide (Below.to HB0.out hB1 (Nat.le_refl _)); clear hB1 c0 c1 c2 c3 c4 c5 hlb)
    go_ret2
    exact ⟨_, rfl, Sl.nil _ _ _ _, HB1.out⟩
  case pos =>
  subst h0
  obtain ⟨hb, hxl⟩ := pik_zero her
  obtain ⟨R, hR⟩ : ∃ z, madeN l.ws.length ms x = z := ⟨_, rfl⟩
  have hL : madL l ms x = R := by unfold madL; rw [if_pos her]; exact hR
  have hms60 := (bldE_ok hb).n
  have hws60 := (bldE_ok hb).lo.w60
  have HWR := hide (ms_wires hb)
  have HVAL := hide (ms_valid hb)
  have HXL := hide hxl
  have HR := hide hR
  rw [hL, her]
  clear her hL hb hxl hR
  go_enter Tryz.func31, Tryz.ntmps31
  go_upto_region 1 with (fail)
  generalize hw0 : World.alloc _ _ = w0
  obtain ⟨hb0, hB0, hs0⟩ := alloc1 hw0
  have HB0 := hide hB0
  have HL0 : Hid (LoBox w0 w.heap.size A0 A1 A2 A3 A4 A5 q0 q1 q2 q3 q4 q5 l) := hb0
  have c0 := cellOf hb0 0; have c1 := cellOf hb0 1; have c2 := cellOf hb0 2; have c3 := cellOf hb0 3; have c4 := cellOf hb0 4; have c5 := cellOf hb0 5
  have hlb := box_lt hb0
  clear hw0 hb0 hB0 hs0
  go_upto_region 4 with (go_at_call 86; refine (rcheckVariant_any ms x Am qm Ax qx A0 A1 A2 A3 A4 A5 q0 q1 q2 q3 q4 q5 l _ HS.out HD.out (H.out.up HB0.out) (HM.out.up HB0.out)).mono ?_; rw [HER.out]; rintro e w1 ⟨rfl, hB1⟩; have HL1 := hide (HL0.out.to hB1); have HB1 := hide (Below.to HB0.out hB1 (Nat.le_refl _)); clear hB1 c0 c1 c2 c3 c4 c5 hlb)
  obtain ⟨W1, hW1⟩ : ∃ wo : World, wo = w1 := ⟨_, rfl⟩
  subst hW1
  go_wp2_with fail
  go_loopw [9, 10, 11] (fun sv i _ wr => ∃ (k : Nat) (L : List Nat), i = .int .i64 k ∧ k ≤ l.ws.length ∧ L.length ≤ k * 60 ∧ Hid (madeN k ms x = L) ∧ Hid (wr.ownsRow W1.heap.size 3 1 sv L.length (L.map fun (n : Nat) => Value.int .i64 n)) ∧ Hid (Below W1.heap.size W1 wr)) (fun _ i _ _ => l.ws.length - (intOf i).toNat)
  case atStart => exact ⟨0, [], rfl, Nat.zero_le _, Nat.zero_le _, rfl, World.ownsRow_nil _ _ _ _, Below.refl _ _⟩
  case round =>
    obtain ⟨k, L, rfl, hk, hLk, HL, HO, HB⟩ := hrel
    obtain ⟨A8, q8, hv8⟩ := owns_form HO.out
    subst hv8
    have HBr := hide (Below.to HB1.out HB.out (Nat.le_refl _))
    have HLr := hide (HL1.out.to HB.out)
    have c0 := cellOf HLr.out 0; have c1 := cellOf HLr.out 1; have c2 := cellOf HLr.out 2; have c3 := cellOf HLr.out 3; have c4 := cellOf HLr.out 4; have c5 := cellOf HLr.out 5
    have hlb := box_lt HLr.out
    by_cases hkl : k < l.ws.length
    case neg =>
      have hkl1 : ¬ (k : Int) < (l.ws.length : Int) := by omega
      have hLL : R = L := by rw [← HL.out, ← HR.out, show l.ws.length = k by omega]
      subst hLL
      clear hkl
      go_wp2_with fail
      go_ret2
      exact ⟨_, rfl, Nods.of_own HO.out, HBr.out⟩
    case pos =>
    have hkl1 : (k : Int) < (l.ws.length : Int) := by omega
    have ik0 : (0 : Int) ≤ (k : Int) := by omega
    obtain ⟨n, hn⟩ : ∃ n, manyN ms x k = n := ⟨_, rfl⟩
    have hn60 : n ≤ 60 := by
      rw [← hn]
      exact Nat.le_trans (many_le ms x k _ HWR.out) hms60
    have hmany := rmany_any ms x l.m.opts.length k Am qm (.slice Ax x.length qx) wr HD.out hms60 (HM.out.up HBr.out) (Sl.up HX.out HBr.out) HXL.out HVAL.out (by omega)
    rw [hn] at hmany
    have hnx := madeN_succ k ms x
    rw [HL.out, hn] at hnx
    have HMY := hide hmany
    have HNX := hide hnx
    clear hmany hnx hn
    go_upto_region 9 with (go_at_call 60; refine HMY.out.mono ?_; rintro e w4 ⟨rfl, hB4⟩; have HO4 := hide (owns_below HO.out hB4); have HB4 := hide (Below.to HB.out hB4 (Nat.le_refl _)); clear hB4 c0 c1 c2 c3 c4 c5 hlb)
    go_loopw [9, 11] (fun sv c wr => ∃ (a : Nat) (L2 : List Nat), c = .int .i64 a ∧ a ≤ n ∧ L2.length + a = L.length + n ∧ Hid (L ++ List.replicate (n - a) k = L2) ∧ Hid (wr.ownsRow W1.heap.size 3 1 sv L2.length (L2.map fun (n : Nat) => Value.int .i64 n)) ∧ Hid (Below W1.heap.size W1 wr)) (fun _ c _ => (intOf c).toNat)
    case atStart => exact ⟨n, L, rfl, Nat.le_refl _, rfl, by show _ = _; simp, HO4.out, HB4.out⟩
    case round =>
      obtain ⟨a, L2, rfl, ha, hL2, HR2, HO2, HB2⟩ := hrel
      obtain ⟨A7, q7, hv7⟩ := owns_form HO2.out
      subst hv7
      have HL2 := hide hL2
      by_cases ha0 : 0 < a
      case neg =>
        have ha1 : ¬ (0 : Int) < (a : Int) := by omega
        have ha2 : ¬ 0 < a := ha0
        have hr2 := HR2.out
        rw [show n - a = n by omega] at hr2
        have HNX2 : Hid (madeN (k + 1) ms x = L2) := HNX.out.trans hr2
        have hlen : L2.length ≤ (k + 1) * 60 := by have := HL2.out; omega
        clear ha0 hr2 hL2
        go_wp2_with fail
        go_roundw
        case rel => exact ⟨k + 1, L2, by go_num, by omega, hlen, HNX2, HO2, HB2⟩
        case measure => simp [intOf]; omega
      case pos =>
      have ha1 : (0 : Int) < (a : Int) := by omega
      obtain ⟨a1, he⟩ : ∃ b, a - 1 = b := ⟨_, rfl⟩
      have e1 : (a : Int) - 1 = (a1 : Int) := by omega
      have hr3 : L ++ List.replicate (n - a1) k = L2 ++ [k] := by
        rw [← HR2.out, List.append_assoc, show n - a1 = (n - a) + 1 by omega, List.replicate_succ']
      have HR3 := hide hr3
      have hLb : L2.length ≤ 5000 := by omega
      have HE := hide he
      clear hr3 he hL2
      go_wp2_with (at_builtin; go_must (refine wpList_append_own_at _ rfl (.tmp 34) (.tmp 36) _ rfl (W1.heap.size) 3 i0 _ 1 8 Tryz.underlying45 hi0 iz0 iz1 iz2 rfl (by omega) _ _ _ rfl ((HO2.out).alloc _) ⟨wr.heap.size, 0, none⟩ 1 1 [.int .i64 (k : Nat)] rfl rfl (World.news_of_block (heap_alloc_new wr _)) (by simp [Value.oneCell']) (by have h1 := hLb; unfold maxLen; omega) (by have h1 := hLb; omega) (by have h1 := HB2.out.size; simp; omega) ?_); intro v1 w3 hown1 hg1 _ hat1; have HO5 := hide hown1; have HB5 := hide (Below.grown (Below.allocT HB2.out (Nat.le_refl _) _) hg1 (by have := HB2.out.size; simp; omega) (fun j hj => (HO2.out.lt j hj).1)); clear hown1 hg1 hat1)
      go_roundw
      case rel => exact ⟨a1, L2 ++ [k], by first | rfl | (congr 1; omega), by have := HE.out; omega, by have h1 := HL2.out; have h2 := HE.out; rw [List.length_append, List.length_singleton]; omega, HR3, by
          have := HO5.out
          rw [List.map_append, List.length_append, List.length_singleton]
          exact this, HB5⟩
      case measure => have := HE.out; simp [intOf]; omega
theorem madL_len (l : Lo) (ms : List Md) (x : List Bool) : (madL l ms x).length ≤ 3600 := by
  unfold madL
  split
  · rename_i h
    obtain ⟨hb, _⟩ := pik_zero h
    have hw := (bldE_ok hb).lo.w60
    have hm := (bldE_ok hb).n
    have key : ∀ n, (madeN n ms x).length ≤ n * 60 := by
      intro n
      induction n with
      | zero => exact Nat.le_refl _
      | succ n ih =>
        rw [madeN_succ, List.length_append, List.length_replicate]
        have := many_le ms x n _ (ms_wires hb)
        omega
    have := key l.ws.length
    omega
  · simp
end Go.Proofs.YtehadoecnmfeoaaGreat
/- How large a loom and modules are: walk. -/
namespace Go.Proofs.YtehadoecnmfeoaaGreat
open Go.RowKit
set_option linter.unusedVariables false
set_option linter.unusedSimpArgs false
def lrgB (l : Lo) (ms : List Md) : Bool := largeB l.m || (decide (12 < l.ws.length) && decide (l.ws.length ≤ 60)) || (decide (8 < ms.length) && decide (ms.length ≤ 60))
set_option maxRecDepth 100000 in
set_option maxHeartbeats 4000000 in
theorem large12_any (ms : List Md) (Am : Option Addr) (qm : Nat) (A0 A1 A2 A3 A4 A5 : Option Addr) (q0 q1 q2 q3 q4 q5 : Nat) (l : Lo) (w : World) (h : LoA w w.heap.size A0 A1 A2 A3 A4 A5 q0 q1 q2 q3 q4 q5 l) :
    Calls Tryz.prog 14 #[.agg #[.slice A0 l.m.opts.length q0, .slice A1 l.m.rules.length q1, .slice A2 l.ss.length q2, .slice A3 l.us.length q3, .slice A4 l.ps.length q4, .slice A5 l.ws.length q5], .slice Am ms.length qm] w fun e w' => e = .returned (.bool (lrgB l ms)) ∧ Below w.heap.size w w' := by
  have H := hide h
  clear h
  cases hlg : largeB l.m with
  | true =>
    have HLG := hide hlg
    have HLB := hide hlg
    clear hlg
    have hr : lrgB l ms = true := by unfold lrgB; rw [HLG.out]; rfl
    have HR := hide hr
    clear hr HLB
    go_enter Tryz.func14, Tryz.ntmps14
    go_upto_region 1 with (fail)
    generalize hw0 : World.alloc _ _ = w0
    obtain ⟨hb0, hB0, hs0⟩ := alloc1 hw0
    have HB0 := hide hB0
    have HL0 : Hid (LoBox w0 w.heap.size A0 A1 A2 A3 A4 A5 q0 q1 q2 q3 q4 q5 l) := hb0
    have c0 := cellOf hb0 0; have c1 := cellOf hb0 1; have c2 := cellOf hb0 2; have c3 := cellOf hb0 3; have c4 := cellOf hb0 4; have c5 := cellOf hb0 5
    have hlb := box_lt hb0
    clear hw0 hb0 hB0 hs0
    go_wp2_with (go_at_call 51; refine (Large_any l.m _ _ _ (H.out.up HB0.out).m).mono ?_; rw [HLG.out]; rintro e w1 ⟨rfl, hB1⟩; have HL1 := hide (HL0.out.to hB1); have HB1 := hide (Below.to HB0.out hB1 (Nat.le_refl _)); clear hB1 c0 c1 c2 c3 c4 c5 hlb; have c0 := cellOf HL1.out 0; have c1 := cellOf HL1.out 1; have c2 := cellOf HL1.out 2; have c3 := cellOf HL1.out 3; have c4 := cellOf HL1.out 4; have c5 := cellOf HL1.out 5; have hlb := box_lt HL1.out)
    go_ret
    exact ⟨ret_bool HR.out.symm, HB1.out⟩
  | false =>
    have HLG := hide hlg
    have HLB := hide hlg
    clear hlg
    by_cases c1 : (12 : Int) < (l.ws.length : Int)
    · by_cases c2 : (l.ws.length : Int) ≤ 60
      · skip
        have hr : lrgB l ms = true := by unfold lrgB; rw [HLG.out, decide_eq_true (show 12 < l.ws.length by omega), decide_eq_true (show l.ws.length ≤ 60 by omega)]; rfl
        have d1 : decide ((12 : Int) < (l.ws.length : Int)) = true := decide_eq_true c1
        have d2 : decide ((l.ws.length : Int) ≤ 60) = true := decide_eq_true c2
        have HR := hide hr
        clear hr HLB
        go_enter Tryz.func14, Tryz.ntmps14
        go_upto_region 1 with (fail)
        generalize hw0 : World.alloc _ _ = w0
        obtain ⟨hb0, hB0, hs0⟩ := alloc1 hw0
        have HB0 := hide hB0
        have HL0 : Hid (LoBox w0 w.heap.size A0 A1 A2 A3 A4 A5 q0 q1 q2 q3 q4 q5 l) := hb0
        have c0 := cellOf hb0 0; have c1 := cellOf hb0 1; have c2 := cellOf hb0 2; have c3 := cellOf hb0 3; have c4 := cellOf hb0 4; have c5 := cellOf hb0 5
        have hlb := box_lt hb0
        clear hw0 hb0 hB0 hs0
        go_wp2_with (go_at_call 51; refine (Large_any l.m _ _ _ (H.out.up HB0.out).m).mono ?_; rw [HLG.out]; rintro e w1 ⟨rfl, hB1⟩; have HL1 := hide (HL0.out.to hB1); have HB1 := hide (Below.to HB0.out hB1 (Nat.le_refl _)); clear hB1 c0 c1 c2 c3 c4 c5 hlb; have c0 := cellOf HL1.out 0; have c1 := cellOf HL1.out 1; have c2 := cellOf HL1.out 2; have c3 := cellOf HL1.out 3; have c4 := cellOf HL1.out 4; have c5 := cellOf HL1.out 5; have hlb := box_lt HL1.out)
        go_ret
        exact ⟨ret_bool HR.out.symm, HB1.out⟩
      · skip
        by_cases c3 : (8 : Int) < (ms.length : Int)
        · skip
          have hr : lrgB l ms = decide ((ms.length : Int) ≤ 60) := by unfold lrgB; rw [HLG.out, decide_eq_false (show ¬ l.ws.length ≤ 60 by omega), Bool.and_false, decide_eq_true (show 8 < ms.length by omega), Bool.false_or, Bool.true_and]; exact decide_eq_decide.2 (by omega)
          have d1 : decide ((12 : Int) < (l.ws.length : Int)) = true := decide_eq_true c1
          have d2 : decide ((l.ws.length : Int) ≤ 60) = false := decide_eq_false c2
          have d3 : decide ((8 : Int) < (ms.length : Int)) = true := decide_eq_true c3
          have HR := hide hr
          clear hr HLB
          go_enter Tryz.func14, Tryz.ntmps14
          go_upto_region 1 with (fail)
          generalize hw0 : World.alloc _ _ = w0
          obtain ⟨hb0, hB0, hs0⟩ := alloc1 hw0
          have HB0 := hide hB0
          have HL0 : Hid (LoBox w0 w.heap.size A0 A1 A2 A3 A4 A5 q0 q1 q2 q3 q4 q5 l) := hb0
          have c0 := cellOf hb0 0; have c1 := cellOf hb0 1; have c2 := cellOf hb0 2; have c3 := cellOf hb0 3; have c4 := cellOf hb0 4; have c5 := cellOf hb0 5
          have hlb := box_lt hb0
          clear hw0 hb0 hB0 hs0
          go_wp2_with (go_at_call 51; refine (Large_any l.m _ _ _ (H.out.up HB0.out).m).mono ?_; rw [HLG.out]; rintro e w1 ⟨rfl, hB1⟩; have HL1 := hide (HL0.out.to hB1); have HB1 := hide (Below.to HB0.out hB1 (Nat.le_refl _)); clear hB1 c0 c1 c2 c3 c4 c5 hlb; have c0 := cellOf HL1.out 0; have c1 := cellOf HL1.out 1; have c2 := cellOf HL1.out 2; have c3 := cellOf HL1.out 3; have c4 := cellOf HL1.out 4; have c5 := cellOf HL1.out 5; have hlb := box_lt HL1.out)
          go_ret
          exact ⟨ret_bool HR.out.symm, HB1.out⟩
        · skip
          have hr : lrgB l ms = false := by unfold lrgB; rw [HLG.out, decide_eq_false (show ¬ l.ws.length ≤ 60 by omega), Bool.and_false, decide_eq_false (show ¬ 8 < ms.length by omega)]; simp
          have d1 : decide ((12 : Int) < (l.ws.length : Int)) = true := decide_eq_true c1
          have d2 : decide ((l.ws.length : Int) ≤ 60) = false := decide_eq_false c2
          have d3 : decide ((8 : Int) < (ms.length : Int)) = false := decide_eq_false c3
          have HR := hide hr
          clear hr HLB
          go_enter Tryz.func14, Tryz.ntmps14
          go_upto_region 1 with (fail)
          generalize hw0 : World.alloc _ _ = w0
          obtain ⟨hb0, hB0, hs0⟩ := alloc1 hw0
          have HB0 := hide hB0
          have HL0 : Hid (LoBox w0 w.heap.size A0 A1 A2 A3 A4 A5 q0 q1 q2 q3 q4 q5 l) := hb0
          have c0 := cellOf hb0 0; have c1 := cellOf hb0 1; have c2 := cellOf hb0 2; have c3 := cellOf hb0 3; have c4 := cellOf hb0 4; have c5 := cellOf hb0 5
          have hlb := box_lt hb0
          clear hw0 hb0 hB0 hs0
          go_wp2_with (go_at_call 51; refine (Large_any l.m _ _ _ (H.out.up HB0.out).m).mono ?_; rw [HLG.out]; rintro e w1 ⟨rfl, hB1⟩; have HL1 := hide (HL0.out.to hB1); have HB1 := hide (Below.to HB0.out hB1 (Nat.le_refl _)); clear hB1 c0 c1 c2 c3 c4 c5 hlb; have c0 := cellOf HL1.out 0; have c1 := cellOf HL1.out 1; have c2 := cellOf HL1.out 2; have c3 := cellOf HL1.out 3; have c4 := cellOf HL1.out 4; have c5 := cellOf HL1.out 5; have hlb := box_lt HL1.out)
          go_ret
          exact ⟨ret_bool HR.out.symm, HB1.out⟩
    · skip
      by_cases c3 : (8 : Int) < (ms.length : Int)
      · skip
        have hr : lrgB l ms = decide ((ms.length : Int) ≤ 60) := by unfold lrgB; rw [HLG.out, decide_eq_false (show ¬ 12 < l.ws.length by omega), Bool.false_and, decide_eq_true (show 8 < ms.length by omega), Bool.false_or, Bool.true_and]; exact decide_eq_decide.2 (by omega)
        have d1 : decide ((12 : Int) < (l.ws.length : Int)) = false := decide_eq_false c1
        have d3 : decide ((8 : Int) < (ms.length : Int)) = true := decide_eq_true c3
        have HR := hide hr
        clear hr HLB
        go_enter Tryz.func14, Tryz.ntmps14
        go_upto_region 1 with (fail)
        generalize hw0 : World.alloc _ _ = w0
        obtain ⟨hb0, hB0, hs0⟩ := alloc1 hw0
        have HB0 := hide hB0
        have HL0 : Hid (LoBox w0 w.heap.size A0 A1 A2 A3 A4 A5 q0 q1 q2 q3 q4 q5 l) := hb0
        have c0 := cellOf hb0 0; have c1 := cellOf hb0 1; have c2 := cellOf hb0 2; have c3 := cellOf hb0 3; have c4 := cellOf hb0 4; have c5 := cellOf hb0 5
        have hlb := box_lt hb0
        clear hw0 hb0 hB0 hs0
        go_wp2_with (go_at_call 51; refine (Large_any l.m _ _ _ (H.out.up HB0.out).m).mono ?_; rw [HLG.out]; rintro e w1 ⟨rfl, hB1⟩; have HL1 := hide (HL0.out.to hB1); have HB1 := hide (Below.to HB0.out hB1 (Nat.le_refl _)); clear hB1 c0 c1 c2 c3 c4 c5 hlb; have c0 := cellOf HL1.out 0; have c1 := cellOf HL1.out 1; have c2 := cellOf HL1.out 2; have c3 := cellOf HL1.out 3; have c4 := cellOf HL1.out 4; have c5 := cellOf HL1.out 5; have hlb := box_lt HL1.out)
        go_ret
        exact ⟨ret_bool HR.out.symm, HB1.out⟩
      · skip
        have hr : lrgB l ms = false := by unfold lrgB; rw [HLG.out, decide_eq_false (show ¬ 12 < l.ws.length by omega), Bool.false_and, decide_eq_false (show ¬ 8 < ms.length by omega)]; simp
        have d1 : decide ((12 : Int) < (l.ws.length : Int)) = false := decide_eq_false c1
        have d3 : decide ((8 : Int) < (ms.length : Int)) = false := decide_eq_false c3
        have HR := hide hr
        clear hr HLB
        go_enter Tryz.func14, Tryz.ntmps14
        go_upto_region 1 with (fail)
        generalize hw0 : World.alloc _ _ = w0
        obtain ⟨hb0, hB0, hs0⟩ := alloc1 hw0
        have HB0 := hide hB0
        have HL0 : Hid (LoBox w0 w.heap.size A0 A1 A2 A3 A4 A5 q0 q1 q2 q3 q4 q5 l) := hb0
        have c0 := cellOf hb0 0; have c1 := cellOf hb0 1; have c2 := cellOf hb0 2; have c3 := cellOf hb0 3; have c4 := cellOf hb0 4; have c5 := cellOf hb0 5
        have hlb := box_lt hb0
        clear hw0 hb0 hB0 hs0
        go_wp2_with (go_at_call 51; refine (Large_any l.m _ _ _ (H.out.up HB0.out).m).mono ?_; rw [HLG.out]; rintro e w1 ⟨rfl, hB1⟩; have HL1 := hide (HL0.out.to hB1); have HB1 := hide (Below.to HB0.out hB1 (Nat.le_refl _)); clear hB1 c0 c1 c2 c3 c4 c5 hlb; have c0 := cellOf HL1.out 0; have c1 := cellOf HL1.out 1; have c2 := cellOf HL1.out 2; have c3 := cellOf HL1.out 3; have c4 := cellOf HL1.out 4; have c5 := cellOf HL1.out 5; have hlb := box_lt HL1.out)
        go_ret
        exact ⟨ret_bool HR.out.symm, HB1.out⟩
end Go.Proofs.YtehadoecnmfeoaaGreat

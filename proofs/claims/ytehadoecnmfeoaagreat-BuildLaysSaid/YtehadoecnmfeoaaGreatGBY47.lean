/- Part 47 of this claim's texts: walks and plain laws. -/
import Derived.Test.YtehadoecnmfeoaaGreatRows
import Derived.Test.YtehadoecnmfeoaaGreatGBY40
import Derived.Test.YtehadoecnmfeoaaGreatGBY43
import Derived.Test.YtehadoecnmfeoaaGreatGBY46
import Derived.Deep.DeepMust
import Derived.Deep.RegionHeld3
import Derived.Deep.DrawnRows
/- Boards: what is laid is best. Plain laws. -/
namespace Go.Proofs.YtehadoecnmfeoaaGreat
set_option linter.unusedVariables false
set_option linter.unusedSimpArgs false
/-- Boards as numbers. -/
def natL (bs : List Int) : List Nat := bs.map Int.toNat
theorem Nods.asInts {w : World} {B : Nat} {v : Value} {L : List Nat} (h : Nods w B v L) : Ints w B v (intL L) := by
  have e : (intL L).length = L.length := intL_len L
  unfold Ints
  rw [e]
  obtain ⟨A, b, off, cap, rfl, hn, hA, hc⟩ := h
  refine ⟨A, b, off, cap, rfl, hn, hA, fun i j hi hj => ?_⟩
  show w.cell? ⟨b, off + (i * 1 + j), none⟩ = some (Value.int .i64 ((intL L).getD i 0))
  rw [intL_at hi]
  exact hc i j hi hj
end Go.Proofs.YtehadoecnmfeoaaGreat
/- Boards for modules (the elder): walk. -/
namespace Go.Proofs.YtehadoecnmfeoaaGreat
open Go.RowKit
set_option linter.unusedVariables false
set_option linter.unusedSimpArgs false
set_option maxRecDepth 100000 in
set_option maxHeartbeats 1000000 in
theorem rgreatest_any (L : List Nat) (A : Option Addr) (q : Nat) (w : World) (h : Nods w w.heap.size (.slice A L.length q) L) (hL : L.length ≤ 60) :
    Calls Tryz.prog 80 #[.slice A L.length q] w fun e w' => e = .returned (.int .i64 (grL L : Nat)) ∧ Below w.heap.size w w' := by
  obtain ⟨R, hR⟩ : ∃ z, grL L = z := ⟨_, rfl⟩
  rw [hR]
  have HR := hide hR
  have H := hide h
  clear h hR
  go_enter Tryz.func80, Tryz.ntmps80
  go_wp2_with fail
  go_loop [3, 4] (fun nv i => ∃ (k a : Nat), nv = .int .i64 a ∧ i = .int .i64 k ∧ k ≤ L.length ∧ Hid (grL (L.take k) = a)) (fun _ i => L.length - (intOf i).toNat)
  case atStart => exact ⟨0, 0, rfl, rfl, Nat.zero_le _, rfl⟩
  case round =>
    obtain ⟨k, a, rfl, rfl, hk, HA⟩ := hrel
    by_cases hkl : k < L.length
    case pos =>
      have hkl1 : (k : Int) < (L.length : Int) := by omega
      have ik0 : (0 : Int) ≤ (k : Int) := by omega
      obtain ⟨b, o, x, HX, hA, hb, hq, ex⟩ := H.out.at8 hkl
      subst hA
      have iq : (L.length : Int) ≤ (q : Int) := by omega
      have HA2 : Hid (grL (L.take (k + 1)) = max a x) := by
        show _ = _
        rw [grL_take hkl, HA.out, HX.out]
      clear hq
      go_wp2_with fail
      go_round
      case rel => exact ⟨k + 1, max a x, by congr 1 <;> omega, by go_num, by omega, HA2⟩
      case measure => simp [intOf]; omega
    case neg =>
      have hkl1 : ¬ (k : Int) < (L.length : Int) := by omega
      have ha := HA.out
      rw [List.take_of_length_le (by omega), HR.out] at ha
      subst ha
      go_wp2_with fail
      go_ret
      exact ⟨rfl, Below.refl _ _⟩
/-- The last c digits of a number. -/
def digP (n len k c : Nat) : List Nat := (List.range len).map fun j => if len ≤ j + c then k / n ^ (len - 1 - j) % n else 0
theorem digP_zero (n len k : Nat) : digP n len k 0 = List.replicate len 0 := by
  refine List.ext_getElem (by simp [digP]) fun i h1 h2 => ?_
  have hi : i < len := by simpa [digP] using h1
  simp [digP]
  omega
theorem digP_len (n len k c : Nat) : (digP n len k c).length = len := by simp [digP]
theorem digP_all (n len k : Nat) : digP n len k len = digL n len k := by
  unfold digP digL
  refine List.map_congr_left fun j _ => ?_
  rw [if_pos (by omega)]
theorem digP_step {n len k c : Nat} (hc : c < len) : (digP n len k c).set (len - 1 - c) (k / n ^ c % n) = digP n len k (c + 1) := by
  refine List.ext_getElem (by simp [digP]) fun i h1 h2 => ?_
  have hi : i < len := by simpa [digP] using h2
  rw [List.getElem_set]
  simp only [digP, List.getElem_map, List.getElem_range]
  by_cases h : len - 1 - c = i
  · rw [if_pos h, if_pos (by omega), show len - 1 - i = c by omega]
  · rw [if_neg h]
    by_cases h3 : len ≤ i + c
    · rw [if_pos h3, if_pos (by omega)]
    · rw [if_neg h3, if_neg (by omega)]
set_option maxRecDepth 100000 in
set_option maxHeartbeats 8000000 in
theorem rLay_any (n : Int) (ms : List Md) (Am : Option Addr) (qm : Nat) (A0 A1 A2 A3 A4 A5 : Option Addr) (q0 q1 q2 q3 q4 q5 : Nat) (l : Lo) (w : World) (hs : SizedL l) (hd : SizedD ms) (h : LoA w w.heap.size A0 A1 A2 A3 A4 A5 q0 q1 q2 q3 q4 q5 l) (hm : Mods w w.heap.size (.slice Am ms.length qm) ms) (hN : l.m.err = 0 → l.m.opts.length ≤ 12) :
    Calls Tryz.prog 25 #[.agg #[.slice A0 l.m.opts.length q0, .slice A1 l.m.rules.length q1, .slice A2 l.ss.length q2, .slice A3 l.us.length q3, .slice A4 l.ps.length q4, .slice A5 l.ws.length q5], .slice Am ms.length qm, .int .i64 n] w (LayP (layS l ms n) (layE l ms n) w) := by
  obtain ⟨i0, hi0, iz0, iz1, iz2⟩ := info_parts infoInt
  have H := hide h
  have HS := hide hs
  have HM := hide hm
  have HD := hide hd
  have HNN := hide hN
  obtain ⟨er, her⟩ : ∃ z, bldE l ms = z := ⟨_, rfl⟩
  have HER := hide her
  obtain ⟨S, hS⟩ : ∃ z, layS l ms n = z := ⟨_, rfl⟩
  obtain ⟨re, hre⟩ : ∃ z, layE l ms n = z := ⟨_, rfl⟩
  rw [hS, hre]
  have HSS := hide hS
  have HRE := hide hre
  clear h hs hm hd hN hS hre
  by_cases h0 : er = 0
  case neg =>
    have hp := layE_err (l := l) (ms := ms) (n := n) (by rw [her]; exact h0)
    obtain rfl : S = ([], 0) := HSS.out.symm.trans hp.2
    obtain rfl : re = er := HRE.out.symm.trans (hp.1.trans her)
    have hz1 : (re != 0) = true := by simpa using h0
    clear her h0 hp
    go_enter Tryz.func25, Tryz.ntmps25
    go_upto_region 1 with (fail)
    generalize hw0 : World.alloc _ _ = w0
    obtain ⟨hb0, hB0, hs0⟩ := alloc1 hw0
    have HB0 := hide hB0
    have HL0 : Hid (LoBox w0 w.heap.size A0 A1 A2 A3 A4 A5 q0 q1 q2 q3 q4 q5 l) := hb0
    have c0 := cellOf hb0 0; have c1 := cellOf hb0 1; have c2 := cellOf hb0 2; have c3 := cellOf hb0 3; have c4 := cellOf hb0 4; have c5 := cellOf hb0 5
    have hlb := box_lt hb0
    clear hw0 hb0 hB0 hs0
    go_wp2_with (go_at_call 27; refine (rbCheck_any ms Am qm A0 A1 A2 A3 A4 A5 q0 q1 q2 q3 q4 q5 l _ HS.out HD.out (H.out.up HB0.out) (HM.out.up HB0.out)).mono ?_; rw [HER.out]; rintro e w1 ⟨rfl, hB1⟩; have HL1 := hide (HL0.out.to hB1); have HB1 := hide (Below.to HB0.out hB1 (Nat.le_refl _)); clear hB1 c0 c1 c2 c3 c4 c5 hlb)
    go_ret3
    exact ⟨_, rfl, Sl.nil _ _ _ _, HB1.out⟩
  case pos =>
  subst h0
  have okm := bldE_ok her
  have hms60 := okm.n
  have hws60 := okm.lo.w60
  have HMO := hide okm.lo.m
  have hN := HNN.out okm.lo.m
  have n0 : ((0 : Int) != 0) = false := by decide
  clear okm
  obtain ⟨z, hz⟩ : ∃ z, btw n 1 4 = z := ⟨_, rfl⟩
  have HZZ := hide hz
  by_cases hbd : z = false ∨ 8 < ms.length
  case pos =>
    have hp := layE_brd (l := l) (ms := ms) (n := n) her (by rw [hz]; exact hbd)
    obtain rfl : S = ([], 0) := HSS.out.symm.trans hp.2
    obtain rfl : re = 122 := HRE.out.symm.trans hp.1
    clear hz hp her
    cases z with
    | false =>
      clear hbd
      go_enter Tryz.func25, Tryz.ntmps25
      go_upto_region 1 with (fail)
      generalize hw0 : World.alloc _ _ = w0
      obtain ⟨hb0, hB0, hs0⟩ := alloc1 hw0
      have HB0 := hide hB0
      have HL0 : Hid (LoBox w0 w.heap.size A0 A1 A2 A3 A4 A5 q0 q1 q2 q3 q4 q5 l) := hb0
      have c0 := cellOf hb0 0; have c1 := cellOf hb0 1; have c2 := cellOf hb0 2; have c3 := cellOf hb0 3; have c4 := cellOf hb0 4; have c5 := cellOf hb0 5
      have hlb := box_lt hb0
      clear hw0 hb0 hB0 hs0
      go_wp2_with (first
        | (go_at_call 27; refine (rbCheck_any ms Am qm A0 A1 A2 A3 A4 A5 q0 q1 q2 q3 q4 q5 l _ HS.out HD.out (H.out.up HB0.out) (HM.out.up HB0.out)).mono ?_; rw [HER.out]; rintro e w1 ⟨rfl, hB1⟩; have HL1 := hide (HL0.out.to hB1); have HB1 := hide (Below.to HB0.out hB1 (Nat.le_refl _)); clear hB1 c0 c1 c2 c3 c4 c5 hlb)
        | (go_at_call 75; refine (rwithin12_any _ _ _ _ _ HZZ.out).mono ?_; rintro e w2 ⟨rfl, rfl⟩))
      go_ret3
      exact ⟨_, rfl, Sl.nil _ _ _ _, HB1.out⟩
    | true =>
      have h8 : (8 : Int) < (ms.length : Int) := by rcases hbd with h | h; cases h; omega
      clear hbd
      go_enter Tryz.func25, Tryz.ntmps25
      go_upto_region 1 with (fail)
      generalize hw0 : World.alloc _ _ = w0
      obtain ⟨hb0, hB0, hs0⟩ := alloc1 hw0
      have HB0 := hide hB0
      have HL0 : Hid (LoBox w0 w.heap.size A0 A1 A2 A3 A4 A5 q0 q1 q2 q3 q4 q5 l) := hb0
      have c0 := cellOf hb0 0; have c1 := cellOf hb0 1; have c2 := cellOf hb0 2; have c3 := cellOf hb0 3; have c4 := cellOf hb0 4; have c5 := cellOf hb0 5
      have hlb := box_lt hb0
      clear hw0 hb0 hB0 hs0
      go_wp2_with (first
        | (go_at_call 27; refine (rbCheck_any ms Am qm A0 A1 A2 A3 A4 A5 q0 q1 q2 q3 q4 q5 l _ HS.out HD.out (H.out.up HB0.out) (HM.out.up HB0.out)).mono ?_; rw [HER.out]; rintro e w1 ⟨rfl, hB1⟩; have HL1 := hide (HL0.out.to hB1); have HB1 := hide (Below.to HB0.out hB1 (Nat.le_refl _)); clear hB1 c0 c1 c2 c3 c4 c5 hlb)
        | (go_at_call 75; refine (rwithin12_any _ _ _ _ _ HZZ.out).mono ?_; rintro e w2 ⟨rfl, rfl⟩))
      go_ret3
      exact ⟨_, rfl, Sl.nil _ _ _ _, HB1.out⟩
  case neg =>
  have hzt : z = true := by cases z; exact absurd (.inl rfl) hbd; rfl
  subst hzt
  have h8 : ms.length ≤ 8 := by omega
  have h8n : ¬ (8 : Int) < (ms.length : Int) := by omega
  have hn14 := btw_iff.1 hz
  obtain ⟨nn, hnn⟩ : ∃ nn : Nat, n = (nn : Int) := ⟨n.toNat, by omega⟩
  subst hnn
  have hn4 : nn ≤ 4 := by omega
  have hn0 : 0 < nn := by omega
  have HVAL := hide (ms_valid her)
  have HSZ : Hid (∀ i, sz9 ms i ≤ 60) := fun i => by
    unfold sz9
    rcases Nat.lt_or_ge i ms.length with h1 | h1
    · have := wires_len (ms_wires her _ (getD_mem7 (z := Md.o) h1))
      omega
    · rw [List.getD_eq_getElem?_getD, List.getElem?_eq_none h1]
      exact Nat.zero_le _
  have HNOM : Hid (allM l.m = [] → S = ([], 0) ∧ re = 12) := fun h2 => by
    have hp := layE_none (l := l) (ms := ms) (n := nn) her hz h8 h2
    exact ⟨HSS.out.symm.trans hp.2, HRE.out.symm.trans hp.1⟩
  have HYES : Hid (allM l.m ≠ [] → (List.range (nn ^ ms.length)).foldl (fun s i => stL (lstN l.m ms) s (digL nn ms.length i)) ([], -1) = S ∧ re = 0) := fun h2 => by
    have hp := layE_ok (l := l) (ms := ms) (n := nn) her hz h8 h2
    refine ⟨?_, HRE.out.symm.trans hp.1⟩
    have h3 := HSS.out.symm.trans hp.2
    rw [Int.toNat_natCast, layR_all] at h3
    simp only [List.nil_append] at h3
    exact h3.symm
  clear hbd hz hn14 her
  have hmk : ∀ W : World, (Instr.makeSlice 45 (.int .i64 ms.length) (.int .i64 ms.length)).run Tryz.prog W = .ok (.slice (some ⟨W.heap.size, 0, none⟩) ms.length ms.length) (W.alloc (.cells (madeCells #[.int .i64 0] (ms.length * 1)) 3)) := fun W => by
    have h1 := run_make (P := Tryz.prog) W 45 3 i0 (.int .i64 0) Tryz.underlying45 hi0 iz0 .i64 .i64 ms.length ms.length (by omega) (Int.le_refl _) (by rw [iz2]; omega) (by omega)
    rw [iz1] at h1
    simpa [Value.cells] using h1
  go_enter Tryz.func25, Tryz.ntmps25
  go_upto_region 1 with (fail)
  generalize hw0 : World.alloc _ _ = w0
  obtain ⟨hb0, hB0, hs0⟩ := alloc1 hw0
  have HB0 := hide hB0
  have HL0 : Hid (LoBox w0 w.heap.size A0 A1 A2 A3 A4 A5 q0 q1 q2 q3 q4 q5 l) := hb0
  have c0 := cellOf hb0 0; have c1 := cellOf hb0 1; have c2 := cellOf hb0 2; have c3 := cellOf hb0 3; have c4 := cellOf hb0 4; have c5 := cellOf hb0 5
  have hlb := box_lt hb0
  clear hw0 hb0 hB0 hs0
  obtain ⟨V, hV⟩ : ∃ V, allM l.m = V := ⟨_, rfl⟩
  have HVV := hide hV
  have HVL : Hid (∀ x ∈ V, x.length = l.m.opts.length) := fun x hx => allM_len (by rw [hV]; exact hx)
  have hVn : V.length ≤ 4096 := by
    have h1 := varsN_le l.m (2 ^ l.m.opts.length)
    rw [varsN_all, hV] at h1
    have : 2 ^ l.m.opts.length ≤ 2 ^ 12 := Nat.pow_le_pow_right (by omega) hN
    omega
  clear hV
  go_upto_region 6 with (first
    | (go_at_call 27; refine (rbCheck_any ms Am qm A0 A1 A2 A3 A4 A5 q0 q1 q2 q3 q4 q5 l _ HS.out HD.out (H.out.up HB0.out) (HM.out.up HB0.out)).mono ?_; rw [HER.out]; rintro e w1 ⟨rfl, hB1⟩; have HL1 := hide (HL0.out.to hB1); have HB1 := hide (Below.to HB0.out hB1 (Nat.le_refl _)); clear hB1 c0 c1 c2 c3 c4 c5 hlb)
    | (go_at_call 75; refine (rwithin12_any _ _ _ _ _ HZZ.out).mono ?_; rintro e w2 ⟨rfl, rfl⟩))
  have d0 := cellOf HL1.out 0; have d1 := cellOf HL1.out 1; have d2 := cellOf HL1.out 2; have d3 := cellOf HL1.out 3; have d4 := cellOf HL1.out 4; have d5 := cellOf HL1.out 5
  have hld := box_lt HL1.out
  go_upto_region 7 with (go_at_call 59; refine (Variants_any l.m _ _ w1 (H.out.up HB1.out).m HMO.out hN).mono ?_; rw [HVV.out]; rintro e w3 ⟨v3, rfl, hv3, hB3⟩; obtain ⟨A9, q9, e9⟩ := GRows.form (GStk.rows hv3); subst e9; have HVS := hide (GStk.rows hv3); have HB3 := hide (Below.to HB1.out hB3 (Nat.le_refl _)); clear hv3 hB3 d0 d1 d2 d3 d4 d5 hld)
  by_cases hne : V = []
  case pos =>
    obtain ⟨hr1, hr2⟩ := HNOM.out (HVV.out.trans hne)
    subst hr1 hr2
    have e0 : ((V.length : Int) == 0) = true := by rw [hne]; rfl
    clear hne
    go_wp2_with fail
    go_ret3
    exact ⟨_, rfl, Sl.nil _ _ _ _, HB3.out⟩
  case neg =>
  obtain ⟨hr1, hr2⟩ := HYES.out (by rw [HVV.out]; exact hne)
  have e0 : ((V.length : Int) == 0) = false := by
    have : V.length ≠ 0 := fun h => hne (List.length_eq_zero_iff.1 h)
    simp; omega
  subst hr2
  have HR1 := hide hr1
  clear hr1 hne HNOM HYES
  have HPW : Hid (∀ k, k ≤ ms.length → nn ^ k ≤ 65536) := fun k hk => by
    refine Nat.le_trans (Nat.pow_le_pow_left hn4 k) (Nat.le_trans (Nat.pow_le_pow_right (by omega) (show k ≤ 8 by omega)) ?_)
    decide
  go_wp2_with fail
  go_loop [11, 12] (fun tv i => ∃ k : Nat, tv = .int .i64 ((nn ^ k : Nat) : Int) ∧ i = .int .i64 k ∧ k ≤ ms.length) (fun _ i => ms.length - (intOf i).toNat)
  case atStart => exact ⟨0, rfl, rfl, Nat.zero_le _⟩
  case round =>
    obtain ⟨k, rfl, rfl, hk⟩ := hrel
    by_cases hkl : k < ms.length
    case pos =>
      have hkl1 : (k : Int) < (ms.length : Int) := by omega
      have hp1 := HPW.out (k + 1) (by omega)
      have hst : nn ^ (k + 1) = nn ^ k * nn := Nat.pow_succ _ _
      have HST : Hid (((nn ^ k : Nat) : Int) * (nn : Int) = ((nn ^ (k + 1) : Nat) : Int)) := by
        show _ = _
        rw [hst]
        push_cast
        rfl
      obtain ⟨p, hp⟩ : ∃ z, nn ^ k = z := ⟨_, rfl⟩
      obtain ⟨p1, hp2⟩ : ∃ z, nn ^ (k + 1) = z := ⟨_, rfl⟩
      have hmul : (p : Int) * (nn : Int) = (p1 : Int) := by rw [← hp, ← hp2]; exact HST.out
      have hpp := hp2
      rw [hp2] at hp1
      rw [hp]
      have HP2 := hide hp2
      clear hp hp2 hst HST hpp
      go_wp2_with fail
      go_round
      case rel => exact ⟨k + 1, by rw [HP2.out], by go_num, by omega⟩
      case measure => simp [intOf]; omega
    case neg =>
    have hkl1 : ¬ (k : Int) < (ms.length : Int) := by omega
    obtain rfl : k = ms.length := by omega
    obtain ⟨T, hT⟩ : ∃ z, nn ^ ms.length = z := ⟨_, rfl⟩
    have hT6 : T ≤ 65536 := by rw [← hT]; exact HPW.out _ (Nat.le_refl _)
    have hR2 := HR1.out
    rw [hT] at hR2 ⊢
    have HR2 := hide hR2
    clear hT hR2 hk hkl
    go_wp2_with fail
    go_loopw [13, 14, 15, 16, 17, 18, 19] (fun bv lv i _ _ _ _ wr => ∃ (k : Nat) (BO : List Nat) (le : Int), i = .int .i64 k ∧ lv = .int .i64 le ∧ k ≤ T ∧ Hid ((List.range k).foldl (fun s i => stL (lstN l.m ms) s (digL nn ms.length i)) ([], -1) = (BO, le)) ∧ Hid (Nods wr wr.heap.size bv BO) ∧ Hid (Below w3.heap.size w3 wr)) (fun _ _ i _ _ _ _ _ => T - (intOf i).toNat)
    case atStart => exact ⟨0, [], -1, rfl, rfl, Nat.zero_le _, rfl, Sl.nil _ _ _ _, Below.refl _ _⟩
    case round =>
      obtain ⟨k, BO, le, rfl, rfl, hk, HFD, HBO, HBR⟩ := hrel
      have HB := hide (Below.to HB3.out HBR.out (Nat.le_refl _))
      obtain ⟨Ab, qb, hbv⟩ := Sl.form HBO.out
      subst hbv
      by_cases hkT : k < T
      case neg =>
        have hkT1 : ¬ (k : Int) < (T : Int) := by omega
        obtain rfl : k = T := by omega
        have hfin := HFD.out.symm.trans HR2.out
        subst hfin
        clear hkT hk
        go_wp2_with fail
        go_ret3
        exact ⟨_, rfl, HBO.out, HB.out⟩
      case pos =>
      have hkT1 : (k : Int) < (T : Int) := by omega
      go_upto_region 20 with (fail)
      generalize hw5 : World.alloc _ _ = w5
      obtain ⟨hb5, hB5, hs5⟩ := alloc1 hw5
      obtain ⟨g1, hg1⟩ : ∃ z, wr.heap.size = z := ⟨_, rfl⟩
      have hr5 := rowB_made (n := ms.length) hb5
      have HG1 : Hid (w3.heap.size ≤ g1) := by show _ ≤ _; rw [← hg1]; exact HBR.out.size
      have HB35 := hide (Below.to HBR.out hB5 (Nat.le_refl _))
      obtain ⟨W4, hW4⟩ : ∃ wo : World, wo = wr := ⟨_, rfl⟩
      have HB55 : Hid (Below W4.heap.size W4 w5) := by rw [hW4]; exact hB5
      have HGW : Hid (W4.heap.size ≤ g1) := by show _ ≤ _; rw [hW4, ← hg1]; exact Nat.le_refl _
      have HBO4 : Hid (Nods W4 W4.heap.size (.slice Ab BO.length qb) BO) := by rw [hW4]; exact HBO.out
      have HBO5 : Hid (Nods w5 g1 (.slice Ab BO.length qb) BO) := by
        rw [← hg1]
        exact Sl.below HBO.out hB5
      have HB5 := hide (Below.to HB.out hB5 (Nat.le_refl _))
      rw [hg1] at hr5 ⊢
      rw [← digP_zero nn _ k] at hr5
      have HR5 := hide hr5
      clear hw5 hb5 hB5 hs5 hg1 hr5 hW4
      have hml : IntKind.i64.wrap ((ms.length : Int) - 1) = (ms.length : Int) - 1 := by rw [IntWalk.i64_in _ (by omega)]
      go_wp2_with fail
      clear hml
      obtain ⟨W5, hW5⟩ : ∃ wo : World, wo = w5 := ⟨_, rfl⟩
      subst hW5
      go_loopw [17, 18] (fun rv i wr => ∃ c : Nat, rv = .int .i64 ((k / nn ^ c : Nat) : Int) ∧ i = .int .i64 ((ms.length : Int) - 1 - (c : Int)) ∧ c ≤ ms.length ∧ Hid (RowB wr g1 (digP nn ms.length k c)) ∧ Hid (Below g1 W5 wr)) (fun _ i _ => (intOf i + 1).toNat)
      case atStart => exact ⟨0, by rw [Nat.pow_zero, Nat.div_one], by congr 1 <;> omega, Nat.zero_le _, HR5.out, Below.refl _ _⟩
      case round =>
        obtain ⟨c, rfl, rfl, hc, HRC, HBQ⟩ := hrel
        obtain ⟨r, hr⟩ : ∃ z, k / nn ^ c = z := ⟨_, rfl⟩
        have hrk : r ≤ 65536 := by rw [← hr]; exact Nat.le_trans (Nat.div_le_self _ _) (by omega)
        have HRR := hide hr
        rw [hr]
        clear hr
        by_cases hcl : c < ms.length
        case pos =>
          obtain ⟨p, hp⟩ : ∃ p : Nat, ms.length - 1 - c = p := ⟨_, rfl⟩
          have hpc : (ms.length : Int) - 1 - (c : Int) = (p : Int) := by omega
          have hpl : p < ms.length := by omega
          have HPP := hide hp
          rw [hpc]
          have hp0 : (0 : Int) ≤ (p : Int) := by omega
          have hp1 : (p : Int) < (ms.length : Int) := by omega
          obtain ⟨d, hd⟩ : ∃ z, r % nn = z := ⟨_, rfl⟩
          obtain ⟨r1, hr1⟩ : ∃ z, r / nn = z := ⟨_, rfl⟩
          have htm : Int.tmod (r : Int) (nn : Int) = (d : Int) := by rw [← hd, Int.tmod_eq_emod_of_nonneg (by omega)]; rfl
          have htd : Int.tdiv (r : Int) (nn : Int) = (r1 : Int) := by rw [← hr1, Int.tdiv_eq_ediv_of_nonneg (by omega)]; rfl
          have hd6 : d ≤ 65536 := by rw [← hd]; exact Nat.le_trans (Nat.mod_le _ _) hrk
          have hr6 : r1 ≤ 65536 := by rw [← hr1]; exact Nat.le_trans (Nat.div_le_self _ _) hrk
          have hnn0 : ¬ (nn : Int) = 0 := by omega
          have hnn1 : ¬ nn = 0 := by omega
          have HR1c : Hid (k / nn ^ (c + 1) = r1) := by
            show _ = _
            rw [Nat.pow_succ, ← Nat.div_div_eq_div_mul, HRR.out, hr1]
          have HSTP : Hid ((digP nn ms.length k c).set p d = digP nn ms.length k (c + 1)) := by
            show _ = _
            rw [← digP_step hcl, HPP.out, HRR.out, hd]
          have lg := box_lt HRC.out
          have y1 := unfrozenOf HRC.out p
          have y0 := HRC.out.cell (k := p) (by rw [digP_len]; exact hpl)
          clear hp hpc hd hr1
          go_wp2_with fail
          have hset := HRC.out.set (k := p) (n := d)
          rw [HSTP.out] at hset
          have hbs := Below.setCell HBQ.out (Nat.le_refl g1) (p := ⟨g1, p, none⟩) (.int .i64 (d : Nat))
          generalize hwq : World.setCell _ _ _ = wq2 at hset hbs ⊢
          have HR7 := hide hset
          have HB7 := hide hbs
          clear hwq hset hbs y0 y1 lg
          go_roundw
          case rel => exact ⟨c + 1, by rw [HR1c.out], by have := HPP.out; congr 1 <;> omega, by omega, HR7, HB7⟩
          case measure => simp [intOf] <;> omega
        case neg =>
        obtain rfl : c = ms.length := by omega
        have hpc : (ms.length : Int) - 1 - (ms.length : Int) = -1 := by omega
        rw [hpc]
        have HRL := HRC.out
        rw [digP_all] at HRL
        obtain ⟨D, hD⟩ : ∃ z, digL nn ms.length k = z := ⟨_, rfl⟩
        have hDl : D.length = ms.length := by rw [← hD, digL_len]
        have hDn : ∀ i, i < D.length → D.getD i 0 < nn := fun i hi => by
          rw [← hD]
          exact digL_lt hn0 (by omega)
        rw [hD] at HRL
        have hnd := HRL.nods
        rw [hDl] at hnd
        have HND : Hid (Nods wr wr.heap.size (.slice (some ⟨g1, 0, none⟩) ms.length ms.length) D) := hnd
        have HBQ3 := hide (Below.trans HB35.out (HBQ.out.mono HG1.out))
        have HBQ2 := hide (Below.to HB3.out HBQ3.out (Nat.le_refl _))
        have hlo := rloads_any V l.m.opts.length nn (intL D) ms A9 q9 Am qm (some ⟨g1, 0, none⟩) ms.length wr (GRows.up HVS.out HBQ3.out) (by omega) HVL.out HD.out hms60 (HM.out.up HBQ2.out) HVAL.out HSZ.out (by rw [intL_len]; exact hDl) (by rw [intL_len, hDl]; exact hnd.asInts) (fun i hi => by rw [intL_len] at hi; rw [intL_at hi]; have := hDn i hi; omega) (by omega)
        obtain ⟨G, hG⟩ : ∃ z, (rngL nn fun b => maxF (fun x => ldN ms (intL D) x b) V) = z := ⟨_, rfl⟩
        have hGl : G.length ≤ 60 := by rw [← hG, rngL_len]; omega
        rw [hG, show (intL D).length = ms.length from (intL_len D).trans hDl] at hlo
        obtain ⟨gv, hgv⟩ : ∃ z, grL G = z := ⟨_, rfl⟩
        have hls : lstN l.m ms D = gv := by
          rw [lstN_upto hDl hn4 hDn, ← hgv, ← hG]
          congr 1
          refine rngL_congr fun b _ => ?_
          unfold lodN
          rw [HVV.out]
        have hfd : (List.range (k + 1)).foldl (fun s i => stL (lstN l.m ms) s (digL nn ms.length i)) ([], -1) = if le < 0 ∨ (gv : Int) < le then (D, (gv : Int)) else (BO, le) := by
          rw [List.range_succ, List.foldl_append, HFD.out]
          show stL (lstN l.m ms) (BO, le) (digL nn ms.length k) = _
          unfold stL
          rw [hD, hls]
        have HLO := hide hlo
        have HGV := hide hgv
        clear hlo hG hgv hls hnd HRL hD hDl hDn hpc HRC
        by_cases hc : le < 0 ∨ (gv : Int) < le
        case pos =>
          rw [if_pos hc] at hfd
          have HFD2 := hide hfd
          clear hfd
          by_cases hc1 : le < 0
          case' pos => clear hc
          case' neg => have hc2 : (gv : Int) < le := by omega
          case' neg => clear hc
          all_goals
            go_wp2_with (first
              | (go_at_call 76; refine HLO.out.mono ?_; rintro e w6 ⟨v6, rfl, hv6, hB6⟩; obtain ⟨A6', q6', e6⟩ := Sl.form hv6; subst e6; have HV6 : Hid (Nods w6 w6.heap.size (.slice A6' G.length q6') G) := hv6; have HND6 := hide (Sl.up HND.out hB6); have HB6 := hide (Below.to HBQ3.out hB6 (Nat.le_refl _)); clear hv6 hB6)
              | (go_at_call 80; refine (rgreatest_any G A6' q6' w6 HV6.out hGl).mono ?_; rw [HGV.out]; rintro e w7 ⟨rfl, hB7⟩; have HND7 : Hid (Nods w7 w7.heap.size (.slice (some ⟨g1, 0, none⟩) ms.length ms.length) D) := Sl.up HND6.out hB7; have HB7 := hide (Below.to HB6.out hB7 (Nat.le_refl _)); clear hB7))
            go_roundw
            case rel => exact ⟨k + 1, D, (gv : Int), by go_num, rfl, by omega, HFD2, HND7, HB7⟩
            case measure => simp [intOf]; omega
        case neg =>
          rw [if_neg hc] at hfd
          have HFD2 := hide hfd
          have hc1 : ¬ le < 0 := fun h => hc (.inl h)
          have hc2 : ¬ (gv : Int) < le := fun h => hc (.inr h)
          have HBO5 := hide (Sl.up HBO4.out (Below.trans (HB55.out) (HBQ.out.mono HGW.out)))
          clear hfd hc
          go_wp2_with (first
            | (go_at_call 76; refine HLO.out.mono ?_; rintro e w6 ⟨v6, rfl, hv6, hB6⟩; obtain ⟨A6', q6', e6⟩ := Sl.form hv6; subst e6; have HV6 : Hid (Nods w6 w6.heap.size (.slice A6' G.length q6') G) := hv6; have HBO6 := hide (Sl.up HBO5.out hB6); have HB6 := hide (Below.to HBQ3.out hB6 (Nat.le_refl _)); clear hv6 hB6)
            | (go_at_call 80; refine (rgreatest_any G A6' q6' w6 HV6.out hGl).mono ?_; rw [HGV.out]; rintro e w7 ⟨rfl, hB7⟩; have HBO7 : Hid (Nods w7 w7.heap.size (.slice Ab BO.length qb) BO) := Sl.up HBO6.out hB7; have HB7 := hide (Below.to HB6.out hB7 (Nat.le_refl _)); clear hB7))
          go_roundw
          case rel => exact ⟨k + 1, BO, le, by go_num, rfl, by omega, HFD2, HBO7, HB7⟩
          case measure => simp [intOf]; omega
end Go.Proofs.YtehadoecnmfeoaaGreat

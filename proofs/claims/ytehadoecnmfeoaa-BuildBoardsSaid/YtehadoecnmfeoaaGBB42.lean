/- Part 42 of this claim's texts: walks and plain laws. -/
import Derived.Test.YtehadoecnmfeoaaRows
import Derived.Test.YtehadoecnmfeoaaGBB38
import Derived.Test.YtehadoecnmfeoaaGBB39
import Derived.Test.YtehadoecnmfeoaaGBB41
import Derived.Test.YtehadoecnmfeoaaGBB14
import Derived.Test.YtehadoecnmfeoaaGBB15
import Derived.Deep.DeepMust
import Derived.Deep.RegionHeld3
import Derived.Deep.DrawnRows
import Derived.Test.YtehadoecnmfeoaaGBB3
/- What Loads and Lay say of the boards: walk of BuildBoards. -/
namespace Go.Proofs.Ytehadoecnmfeoaa
open Go.Joins Go.ChangeShapes Go.WideShapes Go.ChangeAt Go.RowKit Go.Deep
set_option linter.unusedVariables false
set_option linter.unusedSimpArgs false
theorem brd_inv {m : Mo} {vs : List Bool} (he : buiE m vs = 0) (hb : buiB m vs = true) : vs ∈ allM m := by
  have h0 := he
  unfold buiE at h0
  split at h0
  · rename_i h1; exact absurd h0 h1
  · rename_i h1
    split at h0
    · omega
    · rename_i h2
      have h5 : m.err = 0 := by omega
      have h6 : vs.length = m.opts.length := by omega
      unfold allM
      rw [List.mem_filter]
      refine ⟨exts_all _ _ h6, ?_⟩
      cases h7 : allF (vf vs) m.rules with
      | true => rfl
      | false =>
        have h8 := fst_pos h7
        obtain ⟨_, _, h9⟩ := bui_ok h5 h6
        rw [hb] at h9
        have h10 := of_decide_eq_true h9.symm
        omega
theorem lod_len4 (l : Lo) (ms : List Md) (bs : List Int) : (lodL l ms bs).length ≤ 4 := by
  unfold lodL
  split
  · rename_i h
    rw [List.length_map, List.length_range]
    refine nbK_le fun y hy => ?_
    have hok : brdOk bs = true := by
      cases hc : brdOk bs with
      | true => rfl
      | false =>
        unfold lodE at h
        by_cases h1 : bldE l ms = 0
        · rw [if_neg (by simp [h1]), if_pos (.inr hc)] at h
          omega
        · rw [if_pos h1] at h
          exact absurd h h1
    have := brd_at hok hy
    omega
  · simp
theorem lodE_inv {l : Lo} {ms : List Md} {bs : List Int} (h : lodE l ms bs = 0) : bldE l ms = 0 ∧ bs.length = ms.length ∧ brdOk bs = true ∧ allM l.m ≠ [] := by
  by_cases h1 : bldE l ms = 0
  · refine ⟨h1, ?_⟩
    by_cases h2 : bs.length ≠ ms.length ∨ brdOk bs = false
    · rw [(lodE_brd h1 h2).1] at h
      cases h
    · have h3 : bs.length = ms.length := Decidable.not_not.1 fun h => h2 (.inl h)
      have h4 : brdOk bs = true := by
        cases hc : brdOk bs with
        | true => rfl
        | false => exact absurd (.inr hc) h2
      refine ⟨h3, h4, fun h5 => ?_⟩
      rw [(lodE_none h1 h3 h4 h5).1] at h
      cases h
  · rw [(lodE_err h1).1] at h
    exact absurd h h1
set_option maxRecDepth 100000 in
set_option maxHeartbeats 8000000 in
theorem buildBoards_walk (bs : List Int) (x : List Bool) (Ab : Option Addr) (qb : Nat) (Ax : Option Addr) (qx : Nat) (ms : List Md) (Am : Option Addr) (qm : Nat) (A0 A1 A2 A3 A4 A5 : Option Addr) (q0 q1 q2 q3 q4 q5 : Nat) (l : Lo) (w : World) (hs : SizedL l) (hd : SizedD ms) (hbl : bs.length ≤ maxLen) (h : LoA w w.heap.size A0 A1 A2 A3 A4 A5 q0 q1 q2 q3 q4 q5 l) (hm : Mods w w.heap.size (.slice Am ms.length qm) ms) (hb : Ints w w.heap.size (.slice Ab bs.length qb) bs) (hx : Bols w w.heap.size (.slice Ax x.length qx) x) :
    Calls Try.prog 6 #[.agg #[.slice A0 l.m.opts.length q0, .slice A1 l.m.rules.length q1, .slice A2 l.ss.length q2, .slice A3 l.us.length q3, .slice A4 l.ps.length q4, .slice A5 l.ws.length q5], .slice Am ms.length qm, .agg #[.slice Ab bs.length qb, .slice Ax x.length qx]] w fun e w' => e = .returned (.bool true) ∧ Below w.heap.size w w' := by
  obtain ⟨i0, hi0, iz0, iz1, iz2⟩ := info_parts infoInt
  have H := hide h
  have HS := hide hs
  have HM := hide hm
  have HD := hide hd
  have HBS := hide hb
  have HBL := hide hbl
  have HX := hide hx
  have hml : ms.length ≤ 9223372036854775807 := by have := hd.n; unfold maxLen at this; exact this
  clear h hs hm hd hb hbl hx
  obtain ⟨lg, hlg⟩ : ∃ z, lrgB l ms = z := ⟨_, rfl⟩
  have HLG := hide hlg
  cases lg with
  | true =>
    clear hlg
    go_enter Try.func6, Try.ntmps6
    go_upto_region 1 with (fail)
    generalize hw0 : World.alloc _ _ = w0
    obtain ⟨hb0, hb1, hB0, hs0⟩ := alloc2 hw0
    obtain ⟨pb, hpb⟩ : ∃ z, w.heap.size + 1 = z := ⟨_, rfl⟩
    rw [hpb] at hb1 ⊢
    have HB0 := hide hB0
    have HL0 : Hid (LoBox w0 w.heap.size A0 A1 A2 A3 A4 A5 q0 q1 q2 q3 q4 q5 l) := hb0
    have HX0 := hide hb1
    have c0 := cellOf hb0 0; have c1 := cellOf hb0 1; have c2 := cellOf hb0 2; have c3 := cellOf hb0 3; have c4 := cellOf hb0 4; have c5 := cellOf hb0 5
    have hlb := box_lt hb0
    clear hw0 hb0 hb1 hB0 hs0 hpb
    go_wp2_with (first
      | (go_at_call 12; refine (large12_any ms Am qm A0 A1 A2 A3 A4 A5 q0 q1 q2 q3 q4 q5 l _ (H.out.up HB0.out)).mono ?_; rw [HLG.out]; rintro e w1 ⟨rfl, hB1⟩; have HL1 := hide (HL0.out.to hB1); have HX1 := hide (box_to HX0.out hB1); have HB1 := hide (Below.to HB0.out hB1 (Nat.le_refl _)); clear hB1 c0 c1 c2 c3 c4 c5 hlb; have d0 := cellOf HL1.out 0; have d1 := cellOf HL1.out 1; have d2 := cellOf HL1.out 2; have d3 := cellOf HL1.out 3; have d4 := cellOf HL1.out 4; have d5 := cellOf HL1.out 5; have hld := box_lt HL1.out; have p0 := cellOf HX1.out 0; have p1 := cellOf HX1.out 1; have lp := box_lt HX1.out)
      | (go_at_call 7; refine (works_build _).mono ?_; rintro e w2 ⟨rfl, hB2⟩))
    go_ret
    exact ⟨rfl, Below.to HB1.out hB2 (Nat.le_refl _)⟩
  | false =>
  by_cases hm5 : 5 < ms.length
  case pos =>
    have hm1 : (5 : Int) < (ms.length : Int) := by omega
    clear hlg hm5
    go_enter Try.func6, Try.ntmps6
    go_upto_region 1 with (fail)
    generalize hw0 : World.alloc _ _ = w0
    obtain ⟨hb0, hb1, hB0, hs0⟩ := alloc2 hw0
    obtain ⟨pb, hpb⟩ : ∃ z, w.heap.size + 1 = z := ⟨_, rfl⟩
    rw [hpb] at hb1 ⊢
    have HB0 := hide hB0
    have HL0 : Hid (LoBox w0 w.heap.size A0 A1 A2 A3 A4 A5 q0 q1 q2 q3 q4 q5 l) := hb0
    have HX0 := hide hb1
    have c0 := cellOf hb0 0; have c1 := cellOf hb0 1; have c2 := cellOf hb0 2; have c3 := cellOf hb0 3; have c4 := cellOf hb0 4; have c5 := cellOf hb0 5
    have hlb := box_lt hb0
    clear hw0 hb0 hb1 hB0 hs0 hpb
    go_wp2_with (first
      | (go_at_call 12; refine (large12_any ms Am qm A0 A1 A2 A3 A4 A5 q0 q1 q2 q3 q4 q5 l _ (H.out.up HB0.out)).mono ?_; rw [HLG.out]; rintro e w1 ⟨rfl, hB1⟩; have HL1 := hide (HL0.out.to hB1); have HX1 := hide (box_to HX0.out hB1); have HB1 := hide (Below.to HB0.out hB1 (Nat.le_refl _)); clear hB1 c0 c1 c2 c3 c4 c5 hlb; have d0 := cellOf HL1.out 0; have d1 := cellOf HL1.out 1; have d2 := cellOf HL1.out 2; have d3 := cellOf HL1.out 3; have d4 := cellOf HL1.out 4; have d5 := cellOf HL1.out 5; have hld := box_lt HL1.out; have p0 := cellOf HX1.out 0; have p1 := cellOf HX1.out 1; have lp := box_lt HX1.out)
      | (go_at_call 7; refine (works_build _).mono ?_; rintro e w2 ⟨rfl, hB2⟩))
    go_ret
    exact ⟨rfl, Below.to HB1.out hB2 (Nat.le_refl _)⟩
  case neg =>
  have hm1 : ¬ (5 : Int) < (ms.length : Int) := by omega
  by_cases ho7 : 7 < l.m.opts.length
  case pos =>
    have ho1 : (7 : Int) < (l.m.opts.length : Int) := by omega
    clear hlg ho7 hm5
    go_enter Try.func6, Try.ntmps6
    go_upto_region 1 with (fail)
    generalize hw0 : World.alloc _ _ = w0
    obtain ⟨hb0, hb1, hB0, hs0⟩ := alloc2 hw0
    obtain ⟨pb, hpb⟩ : ∃ z, w.heap.size + 1 = z := ⟨_, rfl⟩
    rw [hpb] at hb1 ⊢
    have HB0 := hide hB0
    have HL0 : Hid (LoBox w0 w.heap.size A0 A1 A2 A3 A4 A5 q0 q1 q2 q3 q4 q5 l) := hb0
    have HX0 := hide hb1
    have c0 := cellOf hb0 0; have c1 := cellOf hb0 1; have c2 := cellOf hb0 2; have c3 := cellOf hb0 3; have c4 := cellOf hb0 4; have c5 := cellOf hb0 5
    have hlb := box_lt hb0
    clear hw0 hb0 hb1 hB0 hs0 hpb
    go_wp2_with (first
      | (go_at_call 12; refine (large12_any ms Am qm A0 A1 A2 A3 A4 A5 q0 q1 q2 q3 q4 q5 l _ (H.out.up HB0.out)).mono ?_; rw [HLG.out]; rintro e w1 ⟨rfl, hB1⟩; have HL1 := hide (HL0.out.to hB1); have HX1 := hide (box_to HX0.out hB1); have HB1 := hide (Below.to HB0.out hB1 (Nat.le_refl _)); clear hB1 c0 c1 c2 c3 c4 c5 hlb; have d0 := cellOf HL1.out 0; have d1 := cellOf HL1.out 1; have d2 := cellOf HL1.out 2; have d3 := cellOf HL1.out 3; have d4 := cellOf HL1.out 4; have d5 := cellOf HL1.out 5; have hld := box_lt HL1.out; have p0 := cellOf HX1.out 0; have p1 := cellOf HX1.out 1; have lp := box_lt HX1.out)
      | (go_at_call 7; refine (works_build _).mono ?_; rintro e w2 ⟨rfl, hB2⟩))
    go_ret
    exact ⟨rfl, Below.to HB1.out hB2 (Nat.le_refl _)⟩
  case neg =>
  have HNN : Hid (l.m.err = 0 → l.m.opts.length ≤ 12) := fun he => by have := lrg_small hlg he; omega
  have ho1 : ¬ (7 : Int) < (l.m.opts.length : Int) := by omega
  clear hlg ho7
  obtain ⟨er, her⟩ : ∃ z, lodE l ms bs = z := ⟨_, rfl⟩
  obtain ⟨R, hR⟩ : ∃ z, lodL l ms bs = z := ⟨_, rfl⟩
  have hR4 : R.length ≤ 4 := by rw [← hR]; exact lod_len4 l ms bs
  have HER := hide her
  have HRR := hide hR
  by_cases h0 : er = 0
  case neg =>
    have hz1 : (er != 0) = true := by simpa using h0
    clear her hR h0
    go_enter Try.func6, Try.ntmps6
    go_upto_region 1 with (fail)
    generalize hw0 : World.alloc _ _ = w0
    obtain ⟨hb0, hb1, hB0, hs0⟩ := alloc2 hw0
    obtain ⟨pb, hpb⟩ : ∃ z, w.heap.size + 1 = z := ⟨_, rfl⟩
    rw [hpb] at hb1 ⊢
    have HB0 := hide hB0
    have HL0 : Hid (LoBox w0 w.heap.size A0 A1 A2 A3 A4 A5 q0 q1 q2 q3 q4 q5 l) := hb0
    have HX0 := hide hb1
    have c0 := cellOf hb0 0; have c1 := cellOf hb0 1; have c2 := cellOf hb0 2; have c3 := cellOf hb0 3; have c4 := cellOf hb0 4; have c5 := cellOf hb0 5
    have hlb := box_lt hb0
    clear hw0 hb0 hb1 hB0 hs0 hpb
    go_wp2_with (first
      | (go_at_call 12; refine (large12_any ms Am qm A0 A1 A2 A3 A4 A5 q0 q1 q2 q3 q4 q5 l _ (H.out.up HB0.out)).mono ?_; rw [HLG.out]; rintro e w1 ⟨rfl, hB1⟩; have HL1 := hide (HL0.out.to hB1); have HX1 := hide (box_to HX0.out hB1); have HB1 := hide (Below.to HB0.out hB1 (Nat.le_refl _)); clear hB1 c0 c1 c2 c3 c4 c5 hlb; have d0 := cellOf HL1.out 0; have d1 := cellOf HL1.out 1; have d2 := cellOf HL1.out 2; have d3 := cellOf HL1.out 3; have d4 := cellOf HL1.out 4; have d5 := cellOf HL1.out 5; have hld := box_lt HL1.out; have p0 := cellOf HX1.out 0; have p1 := cellOf HX1.out 1; have lp := box_lt HX1.out)
      | (go_at_call 17; refine (Loads_any bs Ab qb ms Am qm A0 A1 A2 A3 A4 A5 q0 q1 q2 q3 q4 q5 l w1 HS.out HD.out HBL.out (H.out.up HB1.out) (HM.out.up HB1.out) (Ints.up HBS.out HB1.out) HNN.out).mono ?_; rw [HER.out, HRR.out]; rintro e w2 ⟨v2, rfl, hv2, hB2⟩; obtain ⟨AR, qR, e2⟩ := Sl.form hv2; subst e2; have HV2 := hide hv2; have HL2 := hide (HL1.out.to hB2); have HX2 := hide (box_to HX1.out hB2); have HB2 := hide (Below.to HB1.out hB2 (Nat.le_refl _)); clear hv2 hB2 d0 d1 d2 d3 d4 d5 hld p0 p1 lp; have c0 := cellOf HL2.out 0; have c1 := cellOf HL2.out 1; have c2 := cellOf HL2.out 2; have c3 := cellOf HL2.out 3; have c4 := cellOf HL2.out 4; have c5 := cellOf HL2.out 5; have hlb := box_lt HL2.out; have p0 := cellOf HX2.out 0; have p1 := cellOf HX2.out 1; have lp := box_lt HX2.out)
      | (go_at_call 7; refine (works_build _).mono ?_; rintro e w5 ⟨rfl, hB5⟩))
    go_ret
    exact ⟨rfl, Below.to HB2.out hB5 (Nat.le_refl _)⟩
  case pos =>
  subst h0
  have n0 : ((0 : Int) != 0) = false := by decide
  obtain ⟨hbld, hlen, hbrd, hne⟩ := lodE_inv her
  have okm := bldE_ok hbld
  have hms60 := okm.n
  have hws60 := okm.lo.w60
  have hRL := (lodE_ok hbld hlen hbrd hne).2
  rw [hR] at hRL
  have hRl : R.length = nbK bs := by rw [hRL, List.length_map, List.length_range]
  obtain ⟨nn, hnn⟩ : ∃ z, max 1 R.length = z := ⟨_, rfl⟩
  obtain ⟨L, k1, k2, k3, k4, k5, k6, k7, k8⟩ := lay_law (l := l) (ms := ms) (bs := bs) her (by omega) (n := nn) (by rw [← hnn, hRl])
  rw [hR] at k8
  obtain ⟨gl, hgl⟩ : ∃ z, lstN l.m ms L = z := ⟨_, rfl⟩
  rw [hgl] at k2 k7 k8
  have HLE := hide k1
  have HLS := hide k2
  have HL3 := hide k3
  have HLE2 := hide k4
  obtain ⟨R2, hR2⟩ : ∃ z, lodL l ms (intL L) = z := ⟨_, rfl⟩
  have hR24 : R2.length ≤ 4 := by rw [← hR2]; exact lod_len4 l ms _
  have hR2n : R2.length ≤ nn := by rw [← hR2, k5, List.length_map, List.length_range]; exact k6
  rw [hR2] at k7
  have HRR2 := hide hR2
  have HG7 := hide k7
  have HG8 := hide k8
  have HRLL := hide hRL
  have hLl : L.length = ms.length := k3
  have hnn4 : nn ≤ 4 := by omega
  have hnnI : (if (1 : Int) < (R.length : Int) then (R.length : Int) else 1) = (nn : Int) := by split <;> omega
  have HSZ : Hid (∀ i, sz9 ms i ≤ 60) := fun i => by
    unfold sz9
    rcases Nat.lt_or_ge i ms.length with h1 | h1
    · have := wires_len (ms_wires hbld _ (getD_mem7 (z := Md.o) h1))
      omega
    · rw [List.getD_eq_getElem?_getD, List.getElem?_eq_none h1]
      exact Nat.zero_le _
  have HBLD := hide hbld
  have HLEN := hide hlen
  have HBRD := hide hbrd
  have HNB := hide hRl
  have hmk : ∀ W : World, (Instr.makeSlice 22 (.int .i64 R.length) (.int .i64 R.length)).run Try.prog W = .ok (.slice (some ⟨W.heap.size, 0, none⟩) R.length R.length) (W.alloc (.cells (madeCells #[.int .i64 0] (R.length * 1)) 3)) := fun W => by
    have h1 := run_make (P := Try.prog) W 22 3 i0 (.int .i64 0) Try.underlying22 hi0 iz0 .i64 .i64 R.length R.length (by omega) (Int.le_refl _) (by rw [iz2]; omega) (by omega)
    rw [iz1] at h1
    simpa [Value.cells] using h1
  have hLI : (intL L).length = L.length := intL_len L
  have HLI : Hid ((intL L).length ≤ maxLen) := by show _ ≤ _; rw [hLI]; unfold maxLen; omega
  have hbsl : bs.length ≤ 5 := by omega
  clear her hR okm hbrd hne hRL k1 k2 k3 k4 k5 k6 k7 k8 hR2 hgl hbld hm5 hRl hnn hlen hLI hLl
  obtain ⟨br, hbr⟩ : ∃ z, buiR l.m x = z := ⟨_, rfl⟩
  obtain ⟨bb, hbb⟩ : ∃ z, buiB l.m x = z := ⟨_, rfl⟩
  obtain ⟨be, hbe⟩ : ∃ z, buiE l.m x = z := ⟨_, rfl⟩
  have HBR := hide hbr
  have HBB := hide hbb
  have HBE := hide hbe
  have HIN : Hid (be = 0 → bb = true → x ∈ allM l.m ∧ x.length = l.m.opts.length) := fun h1 h2 => by
    have h3 := brd_inv (hbe.trans h1) (hbb.trans h2)
    exact ⟨h3, allM_len h3⟩
  clear hbr hbb hbe
  go_enter Try.func6, Try.ntmps6
  go_upto_region 1 with (fail)
  generalize hw0 : World.alloc _ _ = w0
  obtain ⟨hb0, hb1, hB0, hs0⟩ := alloc2 hw0
  obtain ⟨pb, hpb⟩ : ∃ z, w.heap.size + 1 = z := ⟨_, rfl⟩
  rw [hpb] at hb1 ⊢
  have HB0 := hide hB0
  have HL0 : Hid (LoBox w0 w.heap.size A0 A1 A2 A3 A4 A5 q0 q1 q2 q3 q4 q5 l) := hb0
  have HX0 := hide hb1
  have c0 := cellOf hb0 0; have c1 := cellOf hb0 1; have c2 := cellOf hb0 2; have c3 := cellOf hb0 3; have c4 := cellOf hb0 4; have c5 := cellOf hb0 5
  have hlb := box_lt hb0
  clear hw0 hb0 hb1 hB0 hs0 hpb
  go_upto_region 6 with (first
    | (go_at_call 12; refine (large12_any ms Am qm A0 A1 A2 A3 A4 A5 q0 q1 q2 q3 q4 q5 l _ (H.out.up HB0.out)).mono ?_; rw [HLG.out]; rintro e w1 ⟨rfl, hB1⟩; have HL1 := hide (HL0.out.to hB1); have HX1 := hide (box_to HX0.out hB1); have HB1 := hide (Below.to HB0.out hB1 (Nat.le_refl _)); clear hB1 c0 c1 c2 c3 c4 c5 hlb; have d0 := cellOf HL1.out 0; have d1 := cellOf HL1.out 1; have d2 := cellOf HL1.out 2; have d3 := cellOf HL1.out 3; have d4 := cellOf HL1.out 4; have d5 := cellOf HL1.out 5; have hld := box_lt HL1.out; have p0 := cellOf HX1.out 0; have p1 := cellOf HX1.out 1; have lp := box_lt HX1.out)
    | (go_at_call 17; refine (Loads_any bs Ab qb ms Am qm A0 A1 A2 A3 A4 A5 q0 q1 q2 q3 q4 q5 l w1 HS.out HD.out HBL.out (H.out.up HB1.out) (HM.out.up HB1.out) (Ints.up HBS.out HB1.out) HNN.out).mono ?_; rw [HER.out, HRR.out]; rintro e w2 ⟨v2, rfl, hv2, hB2⟩; obtain ⟨AR, qR, e2⟩ := Sl.form hv2; subst e2; have HV2 := hide hv2; have HL2 := hide (HL1.out.to hB2); have HX2 := hide (box_to HX1.out hB2); have HB2 := hide (Below.to HB1.out hB2 (Nat.le_refl _)); clear hv2 hB2 d0 d1 d2 d3 d4 d5 hld p0 p1 lp; have c0 := cellOf HL2.out 0; have c1 := cellOf HL2.out 1; have c2 := cellOf HL2.out 2; have c3 := cellOf HL2.out 3; have c4 := cellOf HL2.out 4; have c5 := cellOf HL2.out 5; have hlb := box_lt HL2.out; have p0 := cellOf HX2.out 0; have p1 := cellOf HX2.out 1; have lp := box_lt HX2.out))
  go_upto_region 7 with (go_at_call 18; refine (Buildable_any l.m x _ _ _ w2 HS.out.m (H.out.up HB2.out).m (Sl.up HX.out HB2.out)).mono ?_; rw [HBR.out, HBB.out, HBE.out]; rintro e w3 ⟨rfl, hB3⟩; have HL3b := hide (HL2.out.to hB3); have HX3 := hide (box_to HX2.out hB3); have HV3 := hide (Sl.up HV2.out hB3); have HB3 := hide (Below.to HB2.out hB3 (Nat.le_refl _)); clear hB3 c0 c1 c2 c3 c4 c5 hlb p0 p1 lp)
  obtain ⟨cc, hcc⟩ : ∃ z, (be == 0 && bb) = z := ⟨_, rfl⟩
  have HCC := hide hcc
  clear hcc
  go_cut [65] from 61 to 64 (fun t wc => t = .bool cc ∧ Hid (w3 = wc))
  case first =>
    by_cases hbe0 : be = 0
    · subst hbe0
      have z0z : ((0 : Int) == 0) = true := by decide
      cases bb with
      | true =>
        go_wp2_with fail
        go_meet
        case rel => exact ⟨by rw [← HCC.out]; rfl, rfl⟩
      | false =>
        go_wp2_with fail
        go_meet
        case rel => exact ⟨by rw [← HCC.out]; rfl, rfl⟩
    · have z0z : (be == 0) = false := by simpa using hbe0
      have hc2 : cc = false := by rw [← HCC.out, z0z]; rfl
      subst hc2
      clear hbe0
      go_wp2_with fail
      go_meet
      case rel => exact ⟨rfl, rfl⟩
  case rest =>
  obtain ⟨rfl, hw3⟩ := hcut
  have hw3' := hw3.out
  subst hw3'
  clear hw3
  go_upto_if 65 with (fail)
  go_cut [11, 12, 13, 14, 15, 16] from 66 to 137 (fun _ _ _ _ _ _ wc => Hid (Below w3.heap.size w3 wc))
  case first =>
    cases cc with
    | false =>
      go_wp2_with fail
      go_meet
      case rel => exact Below.refl _ _
    | true =>
    have hcond : be = 0 ∧ bb = true := by
      have h1 := HCC.out
      rw [Bool.and_eq_true] at h1
      exact ⟨by simpa using h1.1, h1.2⟩
    obtain ⟨hbe0, hbt⟩ := hcond
    obtain ⟨hxin, hxl⟩ := HIN.out hbe0 hbt
    subst hbe0 hbt
    have hpk := pik_ok HBLD.out hxl
    obtain ⟨P, hP⟩ : ∃ z, pckL ms x = z := ⟨_, rfl⟩
    rw [hP] at hpk
    have hPl : P.length ≤ 60 := by rw [← hP]; exact Nat.le_trans (pckK_le ms x _) hms60
    have HPI : Hid (∀ i, i < P.length → P.getD i 0 < ms.length) := fun i hi => by
      refine (pckL_lt (x := x) ?_).1
      rw [hP]
      exact getD_mem7 hi
    have HP := hide hP
    have HPE := hide hpk.1
    have HPL := hide hpk.2
    have HXIN := hide hxin
    clear hxin hxl hpk hP
    have c0 := cellOf HL3b.out 0; have c1 := cellOf HL3b.out 1; have c2 := cellOf HL3b.out 2; have c3 := cellOf HL3b.out 3; have c4 := cellOf HL3b.out 4; have c5 := cellOf HL3b.out 5
    have hlb := box_lt HL3b.out
    have p0 := cellOf HX3.out 0
    have p1 := cellOf HX3.out 1
    have lp := box_lt HX3.out
    go_upto_region 12 with (go_at_call 19; refine (Pick_any ms x Am qm Ax qx A0 A1 A2 A3 A4 A5 q0 q1 q2 q3 q4 q5 l w3 HS.out HD.out (H.out.up HB3.out) (HM.out.up HB3.out) (Sl.up HX.out HB3.out)).mono ?_; rw [HPE.out, HPL.out]; rintro e w4 ⟨v4, rfl, hv4, hB4⟩; obtain ⟨AP, qP, e4⟩ := Sl.form hv4; subst e4; have HP4 := hide hv4; have HX4 := hide (box_to HX3.out hB4); have HW4 := hide hB4; clear hv4 hB4 c0 c1 c2 c3 c4 c5 hlb p0 p1 lp)
    generalize hw5 : World.alloc _ _ = w5
    obtain ⟨hb5, hB5, hs5⟩ := alloc1 hw5
    obtain ⟨g1, hg1⟩ : ∃ z, w4.heap.size = z := ⟨_, rfl⟩
    have hr5 := rowB_made (n := R.length) hb5
    rw [rngL_zero] at hr5
    rw [hg1] at hr5 ⊢
    have hg1w : w3.heap.size ≤ g1 := by rw [← hg1]; exact HW4.out.size
    have hg1v : w.heap.size ≤ g1 := Nat.le_trans HB3.out.size hg1w
    have HX5 := hide (box_to HX4.out hB5)
    have HW5 := hide (Below.to HW4.out hB5 (Nat.le_refl _))
    have HP5 : Hid (Nods w5 g1 (.slice AP P.length qP) P) := by rw [← hg1]; exact Sl.below HP4.out hB5
    have HR5 := hide hr5
    have hpg : pb < g1 := by rw [← hg1]; exact box_lt HX4.out
    have HV5 := hide (Sl.up HV3.out HW5.out)
    clear hw5 hb5 hB5 hs5 hg1 hr5
    obtain ⟨W5, hW5⟩ : ∃ wo : World, wo = w5 := ⟨_, rfl⟩
    subst hW5
    go_wp2_with fail
    go_loopw [14, 15] (fun i _ wr => ∃ k : Nat, i = .int .i64 k ∧ k ≤ P.length ∧ Hid (RowB wr g1 (rngL R.length fun b => ldK ms bs b (P.take k))) ∧ Hid (W5.grownBy wr (some g1))) (fun i _ _ => P.length - (intOf i).toNat)
    case atStart => exact ⟨0, rfl, Nat.zero_le _, HR5.out, only_refl _ _⟩
    case round =>
      obtain ⟨k, rfl, hk, HN, HG⟩ := hrel
      have HBr : Hid (Below w.heap.size w wr) := below_only (Below.to HB3.out HW5.out (Nat.le_refl _)) HG.out hg1v
      by_cases hkl : k < P.length
      case pos =>
        have hk1 : (k : Int) < (P.length : Int) := by omega
        have ik0 : (0 : Int) ≤ (k : Int) := by omega
        obtain ⟨b1, o1, j, HJ, hA, hb1, hq1, el0⟩ := HP5.out.at8 hkl
        subst hA
        have hj : P.getD k 0 = j := HJ.out
        have hjm : j < ms.length := by rw [← hj]; exact HPI.out k hkl
        have hb1g : ¬ b1 = g1 := by omega
        have hb1w : b1 < W5.heap.size := Nat.lt_trans hb1 (box_lt HR5.out)
        have el : wr.cell? ⟨b1, o1 + k, none⟩ = some (.int .i64 (j : Nat)) := (World.cell?_of_block (a := ⟨b1, o1 + k, none⟩) (HG.out.block b1 hb1w (fun e => by injection e with e; exact hb1g e))).trans el0
        have lb1 : b1 < wr.heap.size := Nat.lt_of_lt_of_le hb1w HG.out.size
        obtain ⟨bm, off, d, Af, qf, Aw, qw, HDD, hA, hbm, hq, HFO, HWS, e0, e1⟩ := HM.out.at hjm
        subst hA
        have z1 := (HBr.out.cell (p := ⟨bm, off + j * 2 + 1, none⟩) hbm).trans e1
        have lbm : bm < wr.heap.size := Nat.lt_of_lt_of_le hbm HBr.out.size
        have hbmg : ¬ bm = g1 := by omega
        obtain ⟨b2, o2, y, HY, hA2, hb2, hq2, ey0⟩ := HBS.out.at7 (show j < bs.length by have := HLEN.out; omega)
        subst hA2
        have hmem : y ∈ bs := by rw [← HY.out]; exact getD_mem7 (by have := HLEN.out; omega)
        have hy3 := brd_at HBRD.out hmem
        have hyn := nbK_lt hmem
        rw [← HNB.out] at hyn
        obtain ⟨c, hc⟩ : ∃ c : Nat, y = (c : Int) := ⟨y.toNat, by omega⟩
        subst hc
        rw [Int.toNat_natCast] at hyn
        have hcn : c < R.length := hyn
        have ey := (HBr.out.cell (p := ⟨b2, o2 + j, none⟩) hb2).trans ey0
        have lb2 : b2 < wr.heap.size := Nat.lt_of_lt_of_le hb2 HBr.out.size
        have hb2g : ¬ b2 = g1 := by omega
        have HXr := hide ((HG.out.block pb (box_lt HX5.out) (fun e => by injection e with e; omega)).trans HX5.out)
        have p0 := cellOf HXr.out 0
        have lp := box_lt HXr.out
        have hpg1 : ¬ pb = g1 := by omega
        have iq : (ms.length : Int) ≤ (qm : Int) := by omega
        have iq2 : (bs.length : Int) ≤ (qb : Int) := by omega
        have iq8 : (P.length : Int) ≤ (qP : Int) := by omega
        have ij0 : (0 : Int) ≤ (j : Int) := by omega
        have ij1 : (j : Int) < (ms.length : Int) := by omega
        have ij2 : (j : Int) < (bs.length : Int) := by have := HLEN.out; omega
        have ijn : ¬ (j : Int) < 0 := by omega
        have ijg : ¬ (ms.length : Int) ≤ (j : Int) := by omega
        have ic0 : (0 : Int) ≤ (c : Int) := by omega
        have ic1 : (c : Int) < (R.length : Int) := by omega
        have icg : ¬ (R.length : Int) ≤ (c : Int) := by omega
        have inn : (R.length : Int) ≤ (R.length : Int) := Int.le_refl _
        have hszj := HSZ.out j
        have hdj : d.ws.length = sz9 ms j := by unfold sz9; rw [HDD.out]
        have ha := ldK_le (ms := ms) (bs := bs) (b := c) HSZ.out (P.take k)
        have htl := List.length_take_le k P
        obtain ⟨a, hae⟩ : ∃ a, ldK ms bs c (P.take k) = a := ⟨_, rfl⟩
        have c1 := HN.out.cell (k := c) (by rw [rngL_len]; exact hcn)
        rw [rngL_at hcn, hae] at c1
        have f1 := unfrozenOf HN.out c
        have lg : g1 < wr.heap.size := box_lt HN.out
        have wr1 : IntKind.i64.wrap ((a : Int) + (d.ws.length : Int)) = ((a + sz9 ms j : Nat) : Int) := by rw [hdj, IntWalk.i64_in _ (by omega)]; push_cast; rfl
        have hon : ∀ b, onB bs b j = decide (b = c) := fun b => by
          unfold onB
          rw [HY.out]
          by_cases e : b = c
          · subst e; simp
          · rw [decide_eq_false e]; simp; omega
        have hset : (rngL R.length fun b => ldK ms bs b (P.take k)).set c (a + sz9 ms j) = rngL R.length fun b => ldK ms bs b (P.take (k + 1)) := by
          have h1 := rngL_set (n := R.length) (f := fun b => ldK ms bs b (P.take k)) (g := fun b => ldK ms bs b (P.take (k + 1))) (i := c) (fun b hb => by
            show ldK ms bs b (P.take (k + 1)) = if b = c then ldK ms bs c (P.take (k + 1)) else ldK ms bs b (P.take k)
            by_cases e : b = c
            · rw [if_pos e, e]
            · rw [if_neg e, ldK_step hkl hj b, hon b, decide_eq_false e]; simp)
          rw [← h1, ldK_step hkl hj c, hon c, hae]
          simp
        have hnx := HN.out.set (k := c) (n := a + sz9 ms j)
        rw [hset] at hnx
        have hnx : RowB (wr.setCell ⟨g1, c, none⟩ (.int .i64 ((a : Int) + (sz9 ms j : Int)))).drew g1 (rngL R.length fun b => ldK ms bs b (P.take (k + 1))) := hnx
        have hgx : W5.grownBy (wr.setCell ⟨g1, c, none⟩ (.int .i64 ((a : Int) + (sz9 ms j : Int)))).drew (some g1) := only_drew (only_setCell HG.out (.inl rfl) _)
        have hKeep : Hid (wr.grownBy wr.drew (some g1)) := only_drew (only_refl _ _)
        clear ey0 e0 e1 hq hq2 hq1 el0 hset hon ha htl hdj hyn hmem hy3 hj hae
        go_upto_region 18 with (fail)
        refine wp_region_held_drew (S := (fun w' => wr.grownBy w' (some g1))) (by kernel_rfl) ?_ (fun hHeld => ?_)
        · try dsimp only
          (first | exact only_refl _ _ | assumption | exact only_drew (only_refl _ _) | exact hKeep.out | exact only_drew (by assumption) | (refine only_trans hKeep.out ?_; refine only_setCell (only_setCell (only_setCell (only_setCell (only_refl _ _) ?_ _) ?_ _) ?_ _) ?_ _ <;> exact .inl rfl) | (refine only_trans hKeep.out ?_; refine only_setCell (only_refl _ _) ?_ _; exact .inl rfl))
        refine wpAnyH_take (i := 0) (v := ?v1_0) rfl (by kernel_rfl) (by kernel_rfl) (by kernel_rfl) (fun _ _ _ h => h) (Or.inl ⟨by rfl, ?y1_0⟩) (by assumption) ?r1_0
        case' y1_0 => (intro w hSw; (try dsimp only at hSw); have hcS := gcell hSw; clear hSw; go_simp; try with_reducible rfl)
        try simp only [zX]
        refine wpAnyH_take (i := 1) (v := ?v1_1) rfl (by kernel_rfl) (by kernel_rfl) (by kernel_rfl) (fun _ _ _ h => h) (Or.inl ⟨by rfl, ?y1_1⟩) (by assumption) ?r1_1
        case' y1_1 => (intro w hSw; (try dsimp only at hSw); have hcS := gcell hSw; clear hSw; go_simp; try with_reducible rfl)
        try simp only [zX]
        refine wpAnyH_take (i := 2) (v := ?v1_2) rfl (by kernel_rfl) (by kernel_rfl) (by kernel_rfl) (fun _ _ _ h => h) (Or.inl ⟨by rfl, ?y1_2⟩) (by assumption) ?r1_2
        case' y1_2 => (intro w hSw; (try dsimp only at hSw); have hcS := gcell hSw; clear hSw; go_simp; try with_reducible rfl)
        try simp only [zX]
        refine wpAnyH_take (i := 3) (v := ?v1_3) rfl (by kernel_rfl) (by kernel_rfl) (by kernel_rfl) (fun _ _ _ h => h) (Or.inl ⟨by rfl, ?y1_3⟩) (by assumption) ?r1_3
        case' y1_3 => (intro w hSw; (try dsimp only at hSw); have hcS := gcell hSw; clear hSw; go_simp; try with_reducible rfl)
        try simp only [zX]
        refine wpAnyH_take (i := 4) (v := ?v1_4) rfl (by kernel_rfl) (by kernel_rfl) (by kernel_rfl) (fun _ _ _ h => h) (Or.inl ⟨by rfl, ?y1_4⟩) (by assumption) ?r1_4
        case' y1_4 => (intro w hSw; (try dsimp only at hSw); have hcS := gcell hSw; clear hSw; go_simp; try with_reducible rfl)
        try simp only [zX]
        refine wpAnyH_take (i := 5) (v := ?v1_5) rfl (by kernel_rfl) (by kernel_rfl) (by kernel_rfl) (fun _ _ _ h => h) (Or.inl ⟨by rfl, ?y1_5⟩) (by assumption) ?r1_5
        case' y1_5 => (intro w hSw; (try dsimp only at hSw); have hcS := gcell hSw; clear hSw; go_simp; try with_reducible rfl)
        try simp only [zX]
        refine wpAnyH_take (i := 6) (v := ?v1_6) rfl (by kernel_rfl) (by kernel_rfl) (by kernel_rfl) (fun _ _ _ h => h) (Or.inl ⟨by rfl, ?y1_6⟩) (by assumption) ?r1_6
        case' y1_6 => (intro w hSw; (try dsimp only at hSw); have hcS := gcell hSw; clear hSw; go_simp; try with_reducible rfl)
        try simp only [zX]
        refine wpAnyH_take (i := 8) (v := ?v1_8) rfl (by kernel_rfl) (by kernel_rfl) (by kernel_rfl) (fun _ _ _ h => h) (Or.inl ⟨by rfl, ?y1_8⟩) (by assumption) ?r1_8
        case' y1_8 => (intro w hSw; (try dsimp only at hSw); have hcS := gcell hSw; clear hSw; go_simp; try with_reducible rfl)
        try simp only [zX]
        refine wpAnyH_take (i := 9) (v := ?v1_9) rfl (by kernel_rfl) (by kernel_rfl) (by kernel_rfl) (fun _ _ _ h => h) (Or.inl ⟨by rfl, ?y1_9⟩) (by assumption) ?r1_9
        case' y1_9 => (intro w hSw; (try dsimp only at hSw); have hcS := gcell hSw; clear hSw; go_simp; try with_reducible rfl)
        try simp only [zX]
        refine wpAnyH_take (i := 10) (v := ?v1_10) rfl (by kernel_rfl) (by kernel_rfl) (by kernel_rfl) (fun _ _ _ h => h) (Or.inl ⟨by rfl, ?y1_10⟩) (by assumption) ?r1_10
        case' y1_10 => (intro w hSw; (try dsimp only at hSw); have hcS := gcell hSw; clear hSw; go_simp; try with_reducible rfl)
        try simp only [zX]
        refine wpAnyH_take (i := 11) (v := ?v1_11) rfl (by kernel_rfl) (by kernel_rfl) (by kernel_rfl) (fun _ _ _ h => h) (Or.inl ⟨by rfl, ?y1_11⟩) (by assumption) ?r1_11
        case' y1_11 => (intro w hSw; (try dsimp only at hSw); have hcS := gcell hSw; clear hSw; go_simp; try with_reducible rfl)
        try simp only [zX]
        refine wpAnyH_take (i := 12) (v := ?v1_12) rfl (by kernel_rfl) (by kernel_rfl) (by kernel_rfl) (fun _ _ _ h => h) (Or.inl ⟨by rfl, ?y1_12⟩) (by assumption) ?r1_12
        case' y1_12 => (intro w hSw; (try dsimp only at hSw); have hcS := gcell hSw; clear hSw; go_simp; try with_reducible rfl)
        try simp only [zX]
        refine wpAnyH_take (i := 13) (v := ?v1_13) rfl (by kernel_rfl) (by kernel_rfl) (by kernel_rfl) (fun _ _ _ h => h) (Or.inl ⟨by rfl, ?y1_13⟩) (by assumption) ?r1_13
        case' y1_13 => (intro w hSw; (try dsimp only at hSw); have hcS := gcell hSw; clear hSw; go_simp; try with_reducible rfl)
        try simp only [zX]
        refine wpAnyH_ready (rs := [7]) (by kernel_rfl) (by simp) ?_
        refine AllReadyH.cons rfl (fun K hK => ?_) AllReadyH.nil
        go_simp
        refine hK.out _ _ ?_ (fun hNext => ?_)
        · try dsimp only
          (first | exact only_refl _ _ | assumption | exact only_drew (only_refl _ _) | exact hKeep.out | exact only_drew (by assumption) | (refine only_trans hKeep.out ?_; refine only_setCell (only_setCell (only_setCell (only_setCell (only_refl _ _) ?_ _) ?_ _) ?_ _) ?_ _ <;> exact .inl rfl) | (refine only_trans hKeep.out ?_; refine only_setCell (only_refl _ _) ?_ _; exact .inl rfl))
        clear hK K hHeld
        have hHeld := hNext
        clear hNext
        (try dsimp only at hHeld)
        try simp only [zX]
        refine wpAnyH_take (i := 14) (v := ?v1_14) rfl (by kernel_rfl) (by kernel_rfl) (by kernel_rfl) (fun _ _ _ h => h) (Or.inl ⟨by rfl, ?y1_14⟩) (by assumption) ?r1_14
        case' y1_14 => (intro w hSw; (try dsimp only at hSw); have hcS := gcell hSw; clear hSw; go_simp; try with_reducible rfl)
        try simp only [zX]
        refine wpAnyH_take (i := 15) (v := ?v1_15) rfl (by kernel_rfl) (by kernel_rfl) (by kernel_rfl) (fun _ _ _ h => h) (Or.inl ⟨by rfl, ?y1_15⟩) (by assumption) ?r1_15
        case' y1_15 => (intro w hSw; (try dsimp only at hSw); have hcS := gcell hSw; clear hSw; go_simp; try with_reducible rfl)
        try simp only [zX]
        refine wpAnyH_ready (rs := [16]) (by kernel_rfl) (by simp) ?_
        refine AllReadyH.cons rfl (fun K hK => ?_) AllReadyH.nil
        go_simp
        refine hK.out _ _ ?_ (fun hNext => ?_)
        · try dsimp only
          (first | exact only_refl _ _ | assumption | exact only_drew (only_refl _ _) | exact hKeep.out | exact only_drew (by assumption) | (refine only_trans hKeep.out ?_; refine only_setCell (only_setCell (only_setCell (only_setCell (only_refl _ _) ?_ _) ?_ _) ?_ _) ?_ _ <;> exact .inl rfl) | (refine only_trans hKeep.out ?_; refine only_setCell (only_refl _ _) ?_ _; exact .inl rfl))
        clear hK K hHeld
        have hHeld := hNext
        clear hNext
        (try dsimp only at hHeld)
        try simp only [zX]
        refine wpAnyH_done (by kernel_rfl) ?_ _
        generalize hw2 : World.drew (World.setCell _ _ _) = w2b at hnx hgx ⊢
        have HNX := hide hnx
        have HGX := hide hgx
        clear hw2 hnx hgx c1 f1 lg hHeld hKeep el ey z1 lb1 lb2 lbm p0 lp
        go_wp2_with fail
        go_roundw
        case rel => exact ⟨k + 1, by go_num, by omega, HNX, HGX⟩
        case measure => simp [intOf]; omega
      case neg =>
        have hk1 : ¬ (k : Int) < (P.length : Int) := by omega
        have HNf : Hid (RowB wr g1 (rngL R.length fun b => ldN ms bs x b)) := by
          have h1 := HN.out
          rw [List.take_of_length_le (by omega), ← HP.out] at h1
          exact h1
        have HLEQ : Hid (∀ b, b < R.length → ldN ms bs x b ≤ R.getD b 0) := fun b hb => by
          have h1 : R.getD b 0 = lodN l.m ms bs b := by
            have h2 : b < nbK bs := by rw [← HNB.out]; exact hb
            rw [HRLL.out]
            simp [h2]
          rw [h1]
          exact maxF_ge (f := fun x => ldN ms bs x b) HXIN.out
        have HB3r : Hid (Below w3.heap.size w3 wr) := below_only HW5.out HG.out hg1w
        have HVr : Hid (Nods wr wr.heap.size (.slice AR R.length qR) R) := Sl.up HV3.out HB3r.out
        obtain ⟨W6, hW6⟩ : ∃ wo : World, wo = wr := ⟨_, rfl⟩
        subst hW6
        go_wp2_with fail
        go_loopw [16] (fun i wr => ∃ b : Nat, i = .int .i64 b ∧ b ≤ R.length ∧ Hid (Below W6.heap.size W6 wr)) (fun i _ => R.length - (intOf i).toNat)
        case atStart => exact ⟨0, rfl, Nat.zero_le _, Below.refl _ _⟩
        case round =>
          obtain ⟨b, rfl, hb, HBQ⟩ := hrel
          by_cases hbl : b < R.length
          case neg =>
            have hb1 : ¬ (b : Int) < (R.length : Int) := by omega
            go_wp2_with fail
            go_meet
            case rel => exact Below.to HB3r.out HBQ.out (Nat.le_refl _)
          case pos =>
            have hb1 : (b : Int) < (R.length : Int) := by omega
            have ib0 : (0 : Int) ≤ (b : Int) := by omega
            have hle := HLEQ.out b hbl
            have HNq := HNf.out.to HBQ.out
            have c1 := HNq.cell (k := b) (by rw [rngL_len]; exact hbl)
            rw [rngL_at hbl] at c1
            have lg : g1 < wr.heap.size := box_lt HNq
            have HVq : Hid (Nods wr wr.heap.size (.slice AR R.length qR) R) := Sl.up HVr.out HBQ.out
            obtain ⟨b4, o4, y, HY, hA, hb4, hq4, ey⟩ := HVq.out.at8 hbl
            subst hA
            rw [HY.out] at hle
            obtain ⟨a, ha⟩ : ∃ z, ldN ms bs x b = z := ⟨_, rfl⟩
            rw [ha] at c1 hle
            have hnl : ¬ (y : Int) < (a : Int) := by omega
            have inn : (R.length : Int) ≤ (R.length : Int) := Int.le_refl _
            have iqq : (R.length : Int) ≤ (qR : Int) := by omega
            clear ha hle hq4 HNq
            go_upto_region 22 with (fail)
            refine wp_region_held_drew (S := (fun w' => Below wr.heap.size wr w')) (by kernel_rfl) ?_ (fun hHeld => ?_)
            · try dsimp only
              exact (by repeat (first | exact Below.refl _ _ | assumption | refine Below.drew ?_ | refine Below.drewN ?_ _ | refine Below.allocT ?_ (Nat.le_refl _) _ | refine Below.setCell ?_ (by simp <;> omega) _ | refine Below.to ?_ (by assumption) (Nat.le_refl _)))
            refine zT 0 rfl ?_
            try simp only [zX]
            refine zT 1 rfl ?_
            try simp only [zX]
            refine zT 2 rfl ?_
            try simp only [zX]
            refine zT 3 rfl ?_
            try simp only [zX]
            refine zT 4 rfl ?_
            try simp only [zX]
            refine zT 5 rfl ?_
            try simp only [zX]
            refine zT 6 rfl ?_
            try simp only [zX]
            refine zT 7 rfl ?_
            try simp only [zX]
            refine zT 8 rfl ?_
            try simp only [zX]
            refine wpAnyH_done (by kernel_rfl) ?_ _
            have HBQ2 := hide (Below.to HBQ.out hHeld (Nat.le_refl _))
            go_wp2_with fail
            go_roundw
            case rel => exact ⟨b + 1, by go_num, by omega, HBQ2⟩
            case measure => simp [intOf]; omega
  case rest =>
    have HCUT := hcut
    have HBc := hide (Below.to HB3.out HCUT.out (Nat.le_refl _))
    have HVc : Hid (Nods wc wc.heap.size (.slice AR R.length qR) R) := Sl.up HV3.out HCUT.out
    have HLc := hide (HL3b.out.to HCUT.out)
    clear hcut
    go_upto_region 25 with (fail)
    go_wp2_with fail
    go_loop [17, 18] (fun nv i => ∃ (k a : Nat), nv = .int .i64 a ∧ i = .int .i64 k ∧ k ≤ R.length ∧ Hid (grL (R.take k) = a)) (fun _ i => R.length - (intOf i).toNat)
    case atStart => exact ⟨0, 0, rfl, rfl, Nat.zero_le _, rfl⟩
    case round =>
      obtain ⟨k, a, rfl, rfl, hk, HA⟩ := hrel
      by_cases hkl : k < R.length
      case pos =>
        have hkl1 : (k : Int) < (R.length : Int) := by omega
        have ik0 : (0 : Int) ≤ (k : Int) := by omega
        obtain ⟨b, o, y, HY, hA, hb, hq, ex⟩ := HVc.out.at8 hkl
        subst hA
        have iq : (R.length : Int) ≤ (qR : Int) := by omega
        have HA2 : Hid (grL (R.take (k + 1)) = max a y) := by
          show _ = _
          rw [grL_take hkl, HA.out, HY.out]
        clear hq
        go_wp2_with fail
        go_round
        case rel => exact ⟨k + 1, max a y, by congr 1; omega, by go_num, by omega, HA2⟩
        case measure => simp [intOf]; omega
      case neg =>
      have hkl1 : ¬ (k : Int) < (R.length : Int) := by omega
      have ha := HA.out
      rw [List.take_of_length_le (by omega)] at ha
      have hgm : ¬ (a : Int) < (gl : Int) := by have := HG8.out; rw [ha] at this; omega
      have g3 : ((L.length : Int) != (ms.length : Int)) = false := by have := HL3.out; simp; omega
      have d0 := cellOf HLc.out 0; have d1 := cellOf HLc.out 1; have d2 := cellOf HLc.out 2; have d3 := cellOf HLc.out 3; have d4 := cellOf HLc.out 4; have d5 := cellOf HLc.out 5
      have ld := box_lt HLc.out
      clear ha HA
      go_upto_region 33 with (go_at_call 20; refine (Lay_any (nn : Int) ms Am qm A0 A1 A2 A3 A4 A5 q0 q1 q2 q3 q4 q5 l wc HS.out HD.out (H.out.up HBc.out) (HM.out.up HBc.out) HNN.out).mono ?_; rw [HLE.out, HLS.out]; rintro e w7 ⟨v7, he7, hv7, hB7⟩; dsimp only at he7 hv7; subst he7; obtain ⟨A7, q7, e7⟩ := Sl.form hv7; subst e7; have HV7 := hide hv7; have HL7 := hide (HLc.out.to hB7); have HB7 := hide (Below.to HBc.out hB7 (Nat.le_refl _)); clear hv7 hB7 d0 d1 d2 d3 d4 d5 ld)
      have c0 := cellOf HL7.out 0; have c1 := cellOf HL7.out 1; have c2 := cellOf HL7.out 2; have c3 := cellOf HL7.out 3; have c4 := cellOf HL7.out 4; have c5 := cellOf HL7.out 5
      have lc := box_lt HL7.out
      have hLI := intL_len L
      have hcall := Loads_any (intL L) A7 q7 ms Am qm A0 A1 A2 A3 A4 A5 q0 q1 q2 q3 q4 q5 l w7 HS.out HD.out HLI.out (H.out.up HB7.out) (HM.out.up HB7.out) (by rw [hLI]; exact HV7.out.asInts) HNN.out
      rw [hLI, HLE2.out, HRR2.out] at hcall
      have HCALL := hide hcall
      clear hLI hcall
      go_wp2_with (go_at_call 17; refine HCALL.out.mono ?_; rintro e w8 ⟨v8, rfl, hv8, hB8⟩; obtain ⟨A8, q8, e8⟩ := Sl.form hv8; subst e8; have HV8 := hide hv8; have HB8 := hide (Below.to HB7.out hB8 (Nat.le_refl _)); clear hv8 hB8 c0 c1 c2 c3 c4 c5 lc)
      go_loop [23, 24] (fun nv i => ∃ (k a : Nat), nv = .int .i64 a ∧ i = .int .i64 k ∧ k ≤ R2.length ∧ Hid (grL (R2.take k) = a)) (fun _ i => R2.length - (intOf i).toNat)
      case atStart => exact ⟨0, 0, rfl, rfl, Nat.zero_le _, rfl⟩
      case round =>
        obtain ⟨k2, a2, rfl, rfl, hk2, HA2⟩ := hrel
        by_cases hk2l : k2 < R2.length
        case pos =>
          have hkl2 : (k2 : Int) < (R2.length : Int) := by omega
          have ik20 : (0 : Int) ≤ (k2 : Int) := by omega
          obtain ⟨b, o, y, HY, hA, hb, hq, ex⟩ := HV8.out.at8 hk2l
          subst hA
          have iq : (R2.length : Int) ≤ (q8 : Int) := by omega
          have HA3 : Hid (grL (R2.take (k2 + 1)) = max a2 y) := by
            show _ = _
            rw [grL_take hk2l, HA2.out, HY.out]
          clear hq
          go_wp2_with fail
          go_round
          case rel => exact ⟨k2 + 1, max a2 y, by congr 1; omega, by go_num, by omega, HA3⟩
          case measure => simp [intOf]; omega
        case neg =>
        have hkl2 : ¬ (k2 : Int) < (R2.length : Int) := by omega
        have ha2 := HA2.out
        rw [List.take_of_length_le (by omega), HG7.out] at ha2
        subst ha2
        have g4 : ((gl : Int) == (gl : Int)) = true := by simp
        have g5 : (R2.length : Int) ≤ (nn : Int) := by omega
        have z0z : ((0 : Int) == 0) = true := by decide
        go_wp2_with (go_at_call 7; refine (works_build _).mono ?_; rintro e w9 ⟨rfl, hB9⟩)
        go_ret
        exact ⟨rfl, Below.to HB8.out hB9 (Nat.le_refl _)⟩
end Go.Proofs.Ytehadoecnmfeoaa

/- Part 39 of this claim's texts: walks and plain laws. -/
import Derived.Test.YtehadoecnmfeoaaGreatRows
import Derived.Test.YtehadoecnmfeoaaGreatGBA34
import Derived.Test.YtehadoecnmfeoaaGreatGBA35
import Derived.Test.YtehadoecnmfeoaaGreatGBA38
import Derived.Test.YtehadoecnmfeoaaGreatGBA12
import Derived.Deep.DeepMust
import Derived.Deep.RegionHeld3
import Derived.Deep.DrawnRows
import Derived.Test.YtehadoecnmfeoaaGreatGBA3
/- Audit (the elder): walk. -/
namespace Go.Proofs.YtehadoecnmfeoaaGreat
open Go.RowKit
set_option linter.unusedVariables false
set_option linter.unusedSimpArgs false
theorem Vars.at8 {w : World} {B : Nat} {A : Option Addr} {n q : Nat} {L : List (List Bool)} (h : Vars w B (.slice A n q) L) {k : Nat} (hk : k < L.length) : ∃ b off x Ax qx, Hid (L.getD k [] = x) ∧ A = some ⟨b, off, none⟩ ∧ b < B ∧ L.length ≤ q ∧ Hid (Bols w B (.slice Ax x.length qx) x) ∧ w.cell? ⟨b, off + k, none⟩ = some (.slice Ax x.length qx) := by
  obtain ⟨fv, h1, h2⟩ := h
  obtain ⟨h3, h4, b, off, h5, h6, h7⟩ := sl_at h1 hk
  have h8 := h7 0 (by omega)
  rw [Nat.mul_one, Nat.add_zero] at h8
  have h9 := h2 k hk
  obtain ⟨Ax, qx, e⟩ := Sl.form h9
  rw [e] at h8 h9
  exact ⟨b, off, _, Ax, qx, rfl, h5, h6, by omega, h9, h8⟩
theorem find_at8 {P : List Bool → Bool} : ∀ {L : List (List Bool)} {k : Nat}, (∀ j, j < k → P (L.getD j []) = false) → k < L.length → P (L.getD k []) = true → L.find? P = some (L.getD k [])
  | [], _, _, h, _ => by simp at h
  | a :: t, 0, _, _, h => by
    have h2 : P a = true := h
    rw [List.find?_cons, h2]
    rfl
  | a :: t, k + 1, h1, h2, h3 => by
    have h4 : P a = false := h1 0 (by omega)
    rw [List.find?_cons, h4]
    exact find_at8 (L := t) (fun j hj => h1 (j + 1) (by omega)) (by simp at h2; omega) h3
theorem find_no8 {P : List Bool → Bool} : ∀ {L : List (List Bool)}, (∀ j, j < L.length → P (L.getD j []) = false) → L.find? P = none
  | [], _ => rfl
  | a :: t, h => by
    have h4 : P a = false := h 0 (by simp)
    rw [List.find?_cons, h4]
    exact find_no8 fun j hj => h (j + 1) (by simp; omega)
/-- What the elder's Audit returns. -/
def RAuP (res : Option (Nat × Nat × List Bool)) (er : Int) (w : World) (e : Ending) (w' : World) : Prop :=
  match res with
  | some r => ∃ v, e = .returned (.tuple #[.agg #[.int .i64 (r.1 : Nat), .int .i64 (r.2.1 : Nat), v], .bool true, .int .i64 0]) ∧ Bols w' w'.heap.size v r.2.2 ∧ Below w.heap.size w w'
  | none => e = .returned (.tuple #[.agg #[.int .i64 0, .int .i64 0, .slice none 0 0], .bool false, .int .i64 er]) ∧ Below w.heap.size w w'
theorem right_parts {l : Lo} {d : Md} (h : rightB l d = true) : wiresB l.ws.length d.ws = true ∧ validF l.m.opts.length d.f = true := by
  unfold rightB at h
  exact Bool.and_eq_true_iff.1 h
/-- What the elder looks at: variant j is no defect. -/
def badJ (l : Lo) (ms : List Md) (w k j : Nat) : Bool := defB k (evF1 (vf ((allM l.m).getD j [])) (l.ws.getD w Wi.o).form) (manyN ms ((allM l.m).getD j []) w)
theorem bad_frst {l : Lo} {ms : List Md} (hw : ∀ d ∈ ms, wiresB l.ws.length d.ws = true) {w k : Nat} (h : ∀ j, j < (allM l.m).length → badJ l ms w k j = false) : frstV l.m (l.ws.getD w Wi.o).form (withL ms w) k = none := by
  unfold frstV
  refine find_no8 fun j hj => ?_
  have := h j hj
  unfold badJ at this
  rwa [many_cnt hw] at this
theorem bad_this {l : Lo} {ms : List Md} (hw : ∀ d ∈ ms, wiresB l.ws.length d.ws = true) {w k i : Nat} (h : ∀ j, j < i → badJ l ms w k j = false) (hi : i < (allM l.m).length) (h2 : badJ l ms w k i = true) : frstV l.m (l.ws.getD w Wi.o).form (withL ms w) k = some ((allM l.m).getD i []) := by
  unfold frstV
  refine find_at8 (fun j hj => ?_) hi ?_
  · have := h j hj
    unfold badJ at this
    rwa [many_cnt hw] at this
  · unfold badJ at h2
    rwa [many_cnt hw] at h2
/-- The first defect, found at the third loop. -/
theorem aud_this {l : Lo} {ms : List Md} (he : bldE l ms = 0) {w k i : Nat} (hw : w < l.ws.length) (hk : k + 1 ≤ 3) (h1 : audN l ms w = none) (h2 : audK l.m (l.ws.getD w Wi.o).form (withL ms w) k = none) (h3 : frstV l.m (l.ws.getD w Wi.o).form (withL ms w) (k + 1) = some ((allM l.m).getD i [])) : audA l ms = some (w, k + 1, (allM l.m).getD i []) := by
  have h4 := audK_next h2
  rw [h3] at h4
  have h5 := audK_stays h4 hk
  have h6 := audN_next h1
  rw [h5] at h6
  unfold audA
  rw [if_pos he]
  exact audN_stays h6 hw
theorem bols_other {w w' : World} {v : Value} {x : List Bool} {b t : Nat} {a0 a1 a2 : Value} (h : Bols w w.heap.size v x) (hb : w.heap[b]? = some (.cells #[a0, a1, a2] t (0, 0))) (h0 : ∀ z, a0 ≠ .bool z) (h1 : ∀ z, a1 ≠ .bool z) (h2 : ∀ z, a2 ≠ .bool z) (hg : w.grownBy w' (some b)) : Bols w' w'.heap.size v x := by
  obtain ⟨A, b1, off, cap, e1, e2, e3, e4⟩ := h
  refine ⟨A, b1, off, cap, e1, e2, e3.imp (fun q => ⟨q.1, Nat.lt_of_lt_of_le q.2 hg.size⟩) id, fun i j hi hj => ?_⟩
  have h5 := e4 i j hi hj
  have hb1 : b1 < w.heap.size := by
    rcases e3 with h3 | h3
    · exact h3.2
    · omega
  refine (World.cell?_of_block (hg.block b1 hb1 (fun e => ?_))).trans h5
  injection e with e
  subst e
  rw [cellOf hb] at h5
  rcases (by omega : off + (i * 1 + j) = 0 ∨ off + (i * 1 + j) = 1 ∨ off + (i * 1 + j) = 2 ∨ 3 ≤ off + (i * 1 + j)) with h6 | h6 | h6 | h6
  · rw [h6] at h5; injection h5 with h5; exact h0 _ h5
  · rw [h6] at h5; injection h5 with h5; exact h1 _ h5
  · rw [h6] at h5; injection h5 with h5; exact h2 _ h5
  · rw [Array.getElem?_eq_none (by simp; omega)] at h5; cases h5
set_option maxRecDepth 100000 in
set_option maxHeartbeats 8000000 in
theorem rAudit_any (ms : List Md) (Am : Option Addr) (qm : Nat) (A0 A1 A2 A3 A4 A5 : Option Addr) (q0 q1 q2 q3 q4 q5 : Nat) (l : Lo) (w : World) (hs : SizedL l) (hd : SizedD ms) (h : LoA w w.heap.size A0 A1 A2 A3 A4 A5 q0 q1 q2 q3 q4 q5 l) (hm : Mods w w.heap.size (.slice Am ms.length qm) ms) (hN : l.m.err = 0 → l.m.opts.length ≤ 12) :
    Calls Tryz.prog 17 #[.agg #[.slice A0 l.m.opts.length q0, .slice A1 l.m.rules.length q1, .slice A2 l.ss.length q2, .slice A3 l.us.length q3, .slice A4 l.ps.length q4, .slice A5 l.ws.length q5], .slice Am ms.length qm] w (RAuP (audA l ms) (bldE l ms) w) := by
  have H := hide h
  have HS := hide hs
  have HD := hide hd
  have HM := hide hm
  obtain ⟨res, hres⟩ : ∃ r, audA l ms = r := ⟨_, rfl⟩
  obtain ⟨er, her⟩ : ∃ r, bldE l ms = r := ⟨_, rfl⟩
  rw [hres, her]
  have HRES := hide hres
  have HER := hide her
  have HNN := hide hN
  clear h hs hd hm hN hres
  go_enter Tryz.func17, Tryz.ntmps17
  go_upto_region 1 with (fail)
  generalize hw0 : World.alloc _ _ = w0
  obtain ⟨hb0, hb1, hB0, hs0⟩ := alloc2 hw0
  have HL0 : Hid (LoBox w0 w.heap.size A0 A1 A2 A3 A4 A5 q0 q1 q2 q3 q4 q5 l) := hb0
  have HZ0 : Hid (DefZ w0 (w.heap.size + 1)) := hb1
  have HB0 := hide hB0
  have c0 := cellOf hb0 0; have c1 := cellOf hb0 1; have c2 := cellOf hb0 2; have c3 := cellOf hb0 3; have c4 := cellOf hb0 4; have c5 := cellOf hb0 5
  have hlb := box_lt hb0
  clear hw0 hb0 hb1 hB0 hs0
  by_cases her0 : er = 0
  case neg =>
    have hr0 : res = none := by rw [← HRES.out]; unfold audA; rw [if_neg (by rw [her]; exact her0)]
    subst hr0
    have hz1 : (er != 0) = true := by simpa using her0
    clear her her0
    go_wp2_with (go_at_call 27; refine (rbCheck_any ms Am qm A0 A1 A2 A3 A4 A5 q0 q1 q2 q3 q4 q5 l _ HS.out HD.out (H.out.up HB0.out) (HM.out.up HB0.out)).mono ?_; rw [HER.out]; rintro e w1 ⟨rfl, hB1⟩; have hz := HZ0.out.to hB1; have y0 := cellOf hz 0; have v0 := unfrozenOf hz 0; have y1 := cellOf hz 1; have v1 := unfrozenOf hz 1; have y2 := cellOf hz 2; have v2 := unfrozenOf hz 2; have lr := box_lt hz; have HZ1 := hide hz; have HB1 := hide (Below.to HB0.out hB1 (Nat.le_refl _)); clear hB1 hz c0 c1 c2 c3 c4 c5 hlb)
    generalize hwv : World.setCell _ _ _ = wv
    obtain ⟨hv, hgv⟩ := set3 (HZ1.out) hwv
    have hBv : Below w.heap.size w wv := Below.grown (HB1.out) hgv (Below.size (HB1.out)) (fun j hj => by injection hj with hj; omega)
    have HBV := hide hBv
    have t0 := cellOf hv 0
    have t1 := cellOf hv 1
    have t2 := cellOf hv 2
    have lv := box_lt hv
    clear hwv hv hBv y0 y1 y2 v0 v1 v2 lr
    refine bodyPost_ret (v := .tuple #[.agg #[.int .i64 0, .int .i64 0, .slice none 0 0], .bool false, .int .i64 er]) ?_ rfl ⟨rfl, HBV.out⟩
    clear hgv
    rw [results_ctt rfl]
    go_simp
  case pos =>
  subst her0
  have okm := bldE_ok her
  have OKM := hide okm
  have hmo := okm.lo.m
  have hN := HNN.out hmo
  have hms60 := okm.n
  have hws60 := okm.lo.w60
  have HVAL : Hid (∀ d ∈ ms, validF l.m.opts.length d.f = true) := fun d hd => (right_parts (okm.ok d hd)).2
  have HWRS : Hid (∀ d ∈ ms, wiresB l.ws.length d.ws = true) := fun d hd => (right_parts (okm.ok d hd)).1
  obtain ⟨V, hV⟩ : ∃ V, allM l.m = V := ⟨_, rfl⟩
  have HVL : Hid (∀ x ∈ V, x.length = l.m.opts.length) := fun x hx => allM_len (by rw [hV]; exact hx)
  have hVn : V.length ≤ 4096 := by
    have h1 := varsN_le l.m (2 ^ l.m.opts.length)
    rw [varsN_all, hV] at h1
    have : 2 ^ l.m.opts.length ≤ 2 ^ 12 := Nat.pow_le_pow_right (by omega) hN
    omega
  have HV := hide hV
  clear her okm hmo hV
  go_upto_region 5 with (first
    | (go_at_call 27; refine (rbCheck_any ms Am qm A0 A1 A2 A3 A4 A5 q0 q1 q2 q3 q4 q5 l _ HS.out HD.out (H.out.up HB0.out) (HM.out.up HB0.out)).mono ?_; rw [HER.out]; rintro e w1 ⟨rfl, hB1⟩; have HZ1 := hide (HZ0.out.to hB1); have HL1 := hide (HL0.out.to hB1); have d0 := cellOf (HL0.out.to hB1) 0; have d1 := cellOf (HL0.out.to hB1) 1; have d2 := cellOf (HL0.out.to hB1) 2; have d3 := cellOf (HL0.out.to hB1) 3; have d4 := cellOf (HL0.out.to hB1) 4; have d5 := cellOf (HL0.out.to hB1) 5; have ld := box_lt (HL0.out.to hB1); have HB1 := hide (Below.to HB0.out hB1 (Nat.le_refl _)); clear hB1 c0 c1 c2 c3 c4 c5 hlb)
    | (go_at_call 59; refine (Variants_any l.m _ _ w1 (H.out.up HB1.out).m OKM.out.lo.m hN).mono ?_; rw [HV.out]; rintro e w2 ⟨v2, rfl, hv2, hB2⟩; obtain ⟨A9, q9, e9⟩ := GRows.form (GStk.rows hv2); subst e9; have HVS := hide (GStk.rows hv2); have HZ2 := hide (HZ1.out.to hB2); have HL2 := hide (HL1.out.to hB2); have HB2 := hide (Below.to HB1.out hB2 (Nat.le_refl _)); clear hv2 hB2 d0 d1 d2 d3 d4 d5 ld))
  obtain ⟨W2, hW2⟩ : ∃ wo : World, wo = w2 := ⟨_, rfl⟩
  subst hW2
  go_wp2_with fail
  go_loopw [9, 10, 11, 12, 13] (fun a _ _ _ _ wr => ∃ k : Nat, a = .int .i64 k ∧ k ≤ l.ws.length ∧ Hid (audN l ms k = none) ∧ Hid (Below W2.heap.size W2 wr)) (fun a _ _ _ _ _ => l.ws.length - (intOf a).toNat)
  case atStart => exact ⟨0, rfl, Nat.zero_le _, rfl, Below.refl _ _⟩
  case round =>
    obtain ⟨k, rfl, hk, HAN, HW⟩ := hrel
    have HBW := hide (Below.to HB2.out HW.out (Nat.le_refl _))
    have HLW := hide (HL2.out.to HW.out)
    by_cases hkl : k < l.ws.length
    case neg =>
      have hkl1 : ¬ (k : Int) < (l.ws.length : Int) := by omega
      have hr0 : res = none := by rw [← HRES.out]; unfold audA; rw [if_pos HER.out, show l.ws.length = k by omega]; exact HAN.out
      subst hr0
      have hz := HZ2.out.to HW.out
      have y0 := cellOf hz 0; have v0 := unfrozenOf hz 0; have y1 := cellOf hz 1; have v1 := unfrozenOf hz 1; have y2 := cellOf hz 2; have v2 := unfrozenOf hz 2; have lr := box_lt hz
      have HZ3 := hide hz
      have c0 := cellOf HLW.out 0; have c1 := cellOf HLW.out 1; have c2 := cellOf HLW.out 2; have c3 := cellOf HLW.out 3; have c4 := cellOf HLW.out 4; have c5 := cellOf HLW.out 5
      have hlb := box_lt HLW.out
      clear hz hkl
      go_wp2_with fail
      generalize hwv : World.setCell _ _ _ = wv
      obtain ⟨hv, hgv⟩ := set3 (HZ3.out) hwv
      have hBv : Below w.heap.size w wv := Below.grown (HBW.out) hgv (Below.size (HBW.out)) (fun j hj => by injection hj with hj; omega)
      have HBV := hide hBv
      have t0 := cellOf hv 0
      have t1 := cellOf hv 1
      have t2 := cellOf hv 2
      have lv := box_lt hv
      clear hwv hv hBv y0 y1 y2 v0 v1 v2 lr c0 c1 c2 c3 c4 c5 hlb
      refine bodyPost_ret (v := .tuple #[.agg #[.int .i64 0, .int .i64 0, .slice none 0 0], .bool false, .int .i64 0]) ?_ rfl ⟨rfl, HBV.out⟩
      clear hgv
      rw [results_ctt rfl]
      go_simp
    case pos =>
    have hkl1 : (k : Int) < (l.ws.length : Int) := by omega
    have ik0 : (0 : Int) ≤ (k : Int) := by omega
    have c0 := cellOf HLW.out 0; have c1 := cellOf HLW.out 1; have c2 := cellOf HLW.out 2; have c3 := cellOf HLW.out 3; have c4 := cellOf HLW.out 4; have c5 := cellOf HLW.out 5
    have hlb := box_lt HLW.out
    go_upto_region 8 with (fail)
    go_wp2_with fail
    clear c0 c1 c2 c3 c4 c5 hlb
    obtain ⟨W3, hW3⟩ : ∃ wo : World, wo = wr := ⟨_, rfl⟩
    subst hW3
    go_loopw [10, 11, 12, 13] (fun a _ _ _ wr => ∃ kd : Nat, a = .int .i64 kd ∧ 1 ≤ kd ∧ kd ≤ 4 ∧ Hid (audK l.m (l.ws.getD k Wi.o).form (withL ms k) (kd - 1) = none) ∧ Hid (Below W3.heap.size W3 wr)) (fun a _ _ _ _ => 4 - (intOf a).toNat)
    case atStart => exact ⟨1, rfl, Nat.le_refl _, by omega, rfl, Below.refl _ _⟩
    case round =>
      obtain ⟨kd, rfl, hkd1, hkd4, HAK, HW3⟩ := hrel
      by_cases hkd : kd ≤ 3
      case neg =>
        have hkd3 : ¬ (kd : Int) ≤ 3 := by omega
        have HAN2 : Hid (audN l ms (k + 1) = none) := by
          show _ = _
          rw [audN_next HAN.out, show (3 : Nat) = kd - 1 by omega, HAK.out]
          rfl
        clear hkd
        go_wp2_with fail
        go_roundw
        case rel => exact ⟨k + 1, by go_num, by omega, HAN2, Below.to HW.out HW3.out (Nat.le_refl _)⟩
        case measure => simp [intOf]; omega
      case pos =>
      have hkd3 : (kd : Int) ≤ 3 := by omega
      go_wp2_with fail
      obtain ⟨W4, hW4⟩ : ∃ wo : World, wo = wr := ⟨_, rfl⟩
      subst hW4
      have HB4 := hide (Below.to HW.out HW3.out (Nat.le_refl _))
      go_loopw [11, 12, 13] (fun a _ _ wr => ∃ j : Nat, a = .int .i64 j ∧ j ≤ V.length ∧ Hid (∀ q, q < j → badJ l ms k kd q = false) ∧ Hid (Below W4.heap.size W4 wr)) (fun a _ _ _ => V.length - (intOf a).toNat)
      case atStart => exact ⟨0, rfl, Nat.zero_le _, fun q hq => absurd hq (by omega), Below.refl _ _⟩
      case round =>
        obtain ⟨j, rfl, hj, HNO, HW4⟩ := hrel
        have HBr := hide (Below.to HB4.out HW4.out (Nat.le_refl _))
        by_cases hjl : j < V.length
        case neg =>
          have hjl1 : ¬ (j : Int) < (V.length : Int) := by omega
          have HAK2 : Hid (audK l.m (l.ws.getD k Wi.o).form (withL ms k) (kd + 1 - 1) = none) := by
            show _ = _
            have h1 := audK_next HAK.out
            rw [show kd - 1 + 1 = kd by omega, bad_frst HWRS.out (fun q hq => HNO.out q (by rw [HV.out] at hq; omega))] at h1
            rw [Nat.add_sub_cancel]
            exact h1
          clear hjl
          go_wp2_with fail
          go_roundw
          case rel => exact ⟨kd + 1, by go_num, by omega, by omega, HAK2, Below.to HW3.out HW4.out (Nat.le_refl _)⟩
          case measure => simp [intOf]; omega
        case pos =>
        have hjl1 : (j : Int) < (V.length : Int) := by omega
        have ij0 : (0 : Int) ≤ (j : Int) := by omega
        obtain ⟨bv, ov, x, Ax, qx, HX, hA9, hbv, hq9, HXB, ev0⟩ := Vars.at8 HVS.out hjl
        subst hA9
        have ev : wr.cell? ⟨bv, ov + j, none⟩ = some (.slice Ax x.length qx) := (HBr.out.cell (p := ⟨bv, ov + j, none⟩) hbv).trans ev0
        have lbv : bv < wr.heap.size := Nat.lt_of_lt_of_le hbv HBr.out.size
        have iq9 : (V.length : Int) ≤ (q9 : Int) := by omega
        obtain ⟨bw, ow, y, Af, qf, HY, hA5, hbw, hq5, HYF, _, _, _, _, _, _, ef0⟩ := H.out.wi hkl
        subst hA5
        have HBZ := hide (Below.to HB2.out HBr.out (Nat.le_refl _))
        have ef : wr.cell? ⟨bw, ow + k * 7 + 6, none⟩ = some (.slice Af y.form.length qf) := (HBZ.out.cell (p := ⟨bw, ow + k * 7 + 6, none⟩) hbw).trans ef0
        have lbw : bw < wr.heap.size := Nat.lt_of_lt_of_le hbw HBZ.out.size
        have iq5 : (l.ws.length : Int) ≤ (q5 : Int) := by omega
        have HLR := hide (HL2.out.to HBr.out)
        have hxn := HVL.out x (by rw [← HX.out, List.getD_eq_getElem?_getD, List.getElem?_eq_getElem hjl]; exact List.getElem_mem hjl)
        have HXN := hide hxn
        obtain ⟨n, hn⟩ : ∃ n, manyN ms x k = n := ⟨_, rfl⟩
        have hn60 : n ≤ 60 := by
          rw [← hn]
          exact Nat.le_trans (many_le ms x k _ HWRS.out) hms60
        have hmany := rmany_any ms x l.m.opts.length k Am qm (.slice Ax x.length qx) wr HD.out hms60 (HM.out.up HBZ.out) ((Sl.below HXB.out HBr.out).more HBr.out.size) hxn HVAL.out (by omega)
        rw [hn] at hmany
        have HMY := hide hmany
        have hyv := (LoOk.wi OKM.out.lo hkl).2
        rw [HY.out] at hyv
        have htr : ∀ W, Below wr.heap.size wr W → Calls Tryz.prog 61 #[.slice Af y.form.length qf, .slice Ax x.length qx] W fun e w' => e = .returned (.bool (evF1 (vf x) y.form)) ∧ W = w' := fun W hW => True_any y.form l.m.opts.length x _ _ W2.heap.size W ((HYF.out.below (Below.to HBZ.out hW (Nat.le_refl _))).more HB2.out.size) (Sl.below HXB.out (Below.to HBr.out hW (Nat.le_refl _))) HXN.out hyv
        have HT := hide htr
        have HN := hide hn
        have c0 := cellOf HLR.out 0; have c1 := cellOf HLR.out 1; have c2 := cellOf HLR.out 2; have c3 := cellOf HLR.out 3; have c4 := cellOf HLR.out 4; have c5 := cellOf HLR.out 5
        have hlb := box_lt HLR.out
        clear hmany htr hn hyv ev0 ef0 hq9 hq5 hxn
        go_upto_region 15 with (go_at_call 60; refine HMY.out.mono ?_; rintro e w5 ⟨rfl, hB5⟩; have HLR5 := hide (HLR.out.to hB5); have ev5 := (hB5.cell (p := ⟨bv, ov + j, none⟩) lbv).trans ev; have ef5 := (hB5.cell (p := ⟨bw, ow + k * 7 + 6, none⟩) lbw).trans ef; have lbv5 : bv < w5.heap.size := Nat.lt_of_lt_of_le lbv hB5.size; have lbw5 : bw < w5.heap.size := Nat.lt_of_lt_of_le lbw hB5.size; have HB5 := hide hB5; clear hB5 c0 c1 c2 c3 c4 c5 hlb ev ef)
        have c0 := cellOf HLR5.out 0; have c1 := cellOf HLR5.out 1; have c2 := cellOf HLR5.out 2; have c3 := cellOf HLR5.out 3; have c4 := cellOf HLR5.out 4; have c5 := cellOf HLR5.out 5
        have hlb := box_lt HLR5.out
        obtain ⟨is, his⟩ : ∃ z, evF1 (vf x) y.form = z := ⟨_, rfl⟩
        have ht2 := HT.out
        rw [his] at ht2
        have HT2 := hide ht2
        have HIS := hide his
        clear ht2 his HT HMY
        refine wp_region_held_drew (S := (fun w' => Below w5.heap.size w5 w')) (by kernel_rfl) ?_ (fun hHeld => ?_)
        · try dsimp only
          exact (by repeat (first | exact Below.refl _ _ | assumption | refine Below.drew ?_ | refine Below.drewN ?_ _ | refine Below.allocT ?_ (Nat.le_refl _) _ | refine Below.setCell ?_ (by simp <;> omega) _ | refine Below.to ?_ (by assumption) (Nat.le_refl _)))
        refine zT 0 rfl ?_
        try simp only [zX]
        refine zT 1 rfl ?_
        try simp only [zX]
        refine zT 2 rfl ?_
        try simp only [zX]
        refine zT 3 rfl ?_
        try simp only [zX]
        refine zT 4 rfl ?_
        try simp only [zX]
        refine zT 5 rfl ?_
        try simp only [zX]
        refine zT 6 rfl ?_
        try simp only [zX]
        refine zT 7 rfl ?_
        try simp only [zX]
        refine zT 8 rfl ?_
        try simp only [zX]
        refine zT 9 rfl ?_
        try simp only [zX]
        refine wpAnyH_ready (rs := [10]) (by kernel_rfl) (by simp) ?_
        refine AllReadyH.cons rfl (fun K hK => ?_) AllReadyH.nil
        go_simp
        ((go_at_call 61; refine (HT2.out _ (Below.to HB5.out (by repeat (first | exact Below.refl _ _ | assumption | refine Below.drew ?_ | refine Below.drewN ?_ _ | refine Below.allocT ?_ (Nat.le_refl _) _ | refine Below.setCell ?_ (by simp <;> omega) _ | refine Below.to ?_ (by assumption) (Nat.le_refl _))) (Nat.le_refl _))).mono ?_; rintro e w6 ⟨rfl, rfl⟩))
        (try dsimp only)
        refine hK.out _ _ ?_ (fun hNext => ?_)
        · try dsimp only
          exact (by repeat (first | exact Below.refl _ _ | assumption | refine Below.drew ?_ | refine Below.drewN ?_ _ | refine Below.allocT ?_ (Nat.le_refl _) _ | refine Below.setCell ?_ (by simp <;> omega) _ | refine Below.to ?_ (by assumption) (Nat.le_refl _)))
        clear hK K hHeld
        have hHeld := hNext
        clear hNext
        (try dsimp only at hHeld)
        try simp only [zX]
        refine zT 11 rfl ?_
        try simp only [zX]
        refine wpAnyH_done (by kernel_rfl) ?_ _
        generalize hwd : World.drew _ = wd at hHeld ⊢
        have HBd := hide (Below.to HB5.out hHeld (Nat.le_refl _))
        have evd := (hHeld.cell (p := ⟨bv, ov + j, none⟩) lbv5).trans ev5
        have lbvd : bv < wd.heap.size := Nat.lt_of_lt_of_le lbv5 hHeld.size
        have hbj : badJ l ms k kd j = defB kd is n := by unfold badJ; rw [HV.out, HX.out, HY.out, HIS.out, HN.out]
        have HBJ := hide hbj
        clear hwd hHeld c0 c1 c2 c3 c4 c5 hlb ev5 ef5 lbv5 lbw5 hbj
        have hk3 : kd = 1 ∨ kd = 2 ∨ kd = 3 := by omega
        rcases hk3 with hk3 | hk3 | hk3
        · have HKD := hide hk3
          have e1 : ((kd : Int) == 1) = true := by simp; omega
          have e2 : ((kd : Int) == 2) = false := by simp; omega
          have e3 : ((kd : Int) == 3) = false := by simp; omega
          clear hk3
          cases is with
          | true =>
            by_cases hc : n = 0
            · have f1 : ((n : Int) == 0) = true := by simp; omega
              have f2 : decide (n = 0) = true := by simp; omega
              have HN2 : Hid (defB 1 true n = true) := by show _ = _; simp [defB]; omega
              clear hc
              have hfr := bad_this HWRS.out HNO.out (by rw [HV.out]; exact hjl) (by rw [HBJ.out, HKD.out]; exact HN2.out)
              have hre := aud_this HER.out hkl (by omega) HAN.out HAK.out (by rw [show kd - 1 + 1 = kd by omega]; exact hfr)
              rw [HRES.out, show kd - 1 + 1 = kd by omega, HV.out, HX.out] at hre
              subst hre
              have hz := HZ2.out.to (Below.to HBr.out HBd.out (Nat.le_refl _))
              have y0 := cellOf hz 0; have v0 := unfrozenOf hz 0; have y1 := cellOf hz 1; have v1 := unfrozenOf hz 1; have y2 := cellOf hz 2; have v2 := unfrozenOf hz 2; have lr := box_lt hz
              have HZ3 := hide hz
              have HBa := hide (Below.to HBZ.out HBd.out (Nat.le_refl _))
              have HXd := hide ((Sl.below HXB.out (Below.to HBr.out HBd.out (Nat.le_refl _))).more (Below.size (Below.to HBr.out HBd.out (Nat.le_refl _))))
              clear hfr hz
              go_wp2_with fail
              generalize hwv : World.setCell _ _ _ = wv
              obtain ⟨hv, hgv⟩ := set3 (HZ3.out) hwv
              have hBv : Below w.heap.size w wv := Below.grown (HBa.out) hgv (Below.size (HBa.out)) (fun j hj => by injection hj with hj; omega)
              have HBV := hide hBv
              have HXv := hide (bols_other HXd.out HZ3.out (by simp) (by simp) (by simp) hgv)
              have t0 := cellOf hv 0
              have t1 := cellOf hv 1
              have t2 := cellOf hv 2
              have lv := box_lt hv
              clear hwv hv hBv y0 y1 y2 v0 v1 v2 lr evd lbvd
              refine bodyPost_ret (v := .tuple #[.agg #[.int .i64 (k : Nat), .int .i64 (kd : Nat), .slice Ax x.length qx], .bool true, .int .i64 0]) ?_ rfl ⟨_, rfl, HXv.out, HBV.out⟩
              clear hgv
              rw [results_ctt rfl]
              go_simp
            · have f1 : ((n : Int) == 0) = false := by simp; omega
              have f2 : decide (n = 0) = false := by simp; omega
              have HN2 : Hid (defB 1 true n = false) := by show _ = _; simp [defB]; omega
              clear hc
              have HNO2 : Hid (∀ q, q < j + 1 → badJ l ms k kd q = false) := fun q hq => by
                rcases Nat.lt_or_ge q j with h1 | h1
                · exact HNO.out q h1
                · rw [show q = j by omega, HBJ.out, HKD.out]; exact HN2.out
              go_wp2_with fail
              go_roundw
              case rel => exact ⟨j + 1, by go_num, by omega, HNO2, Below.to HW4.out HBd.out (Nat.le_refl _)⟩
              case measure => simp [intOf]; omega
          | false =>
            have HN2 : Hid (defB 1 false n = false) := rfl
            have HNO2 : Hid (∀ q, q < j + 1 → badJ l ms k kd q = false) := fun q hq => by
              rcases Nat.lt_or_ge q j with h1 | h1
              · exact HNO.out q h1
              · rw [show q = j by omega, HBJ.out, HKD.out]; exact HN2.out
            go_wp2_with fail
            go_roundw
            case rel => exact ⟨j + 1, by go_num, by omega, HNO2, Below.to HW4.out HBd.out (Nat.le_refl _)⟩
            case measure => simp [intOf]; omega
        · have HKD := hide hk3
          have e1 : ((kd : Int) == 1) = false := by simp; omega
          have e2 : ((kd : Int) == 2) = true := by simp; omega
          have e3 : ((kd : Int) == 3) = false := by simp; omega
          clear hk3
          cases is with
          | true =>
            have HN2 : Hid (defB 2 true n = false) := rfl
            have HNO2 : Hid (∀ q, q < j + 1 → badJ l ms k kd q = false) := fun q hq => by
              rcases Nat.lt_or_ge q j with h1 | h1
              · exact HNO.out q h1
              · rw [show q = j by omega, HBJ.out, HKD.out]; exact HN2.out
            go_wp2_with fail
            go_roundw
            case rel => exact ⟨j + 1, by go_num, by omega, HNO2, Below.to HW4.out HBd.out (Nat.le_refl _)⟩
            case measure => simp [intOf]; omega
          | false =>
            by_cases hc : 0 < n
            · have f1 : decide ((0 : Int) < (n : Int)) = true := by simp; omega
              have f2 : decide (0 < n) = true := by simp; omega
              have HN2 : Hid (defB 2 false n = true) := by show _ = _; simp [defB]; omega
              clear hc
              have hfr := bad_this HWRS.out HNO.out (by rw [HV.out]; exact hjl) (by rw [HBJ.out, HKD.out]; exact HN2.out)
              have hre := aud_this HER.out hkl (by omega) HAN.out HAK.out (by rw [show kd - 1 + 1 = kd by omega]; exact hfr)
              rw [HRES.out, show kd - 1 + 1 = kd by omega, HV.out, HX.out] at hre
              subst hre
              have hz := HZ2.out.to (Below.to HBr.out HBd.out (Nat.le_refl _))
              have y0 := cellOf hz 0; have v0 := unfrozenOf hz 0; have y1 := cellOf hz 1; have v1 := unfrozenOf hz 1; have y2 := cellOf hz 2; have v2 := unfrozenOf hz 2; have lr := box_lt hz
              have HZ3 := hide hz
              have HBa := hide (Below.to HBZ.out HBd.out (Nat.le_refl _))
              have HXd := hide ((Sl.below HXB.out (Below.to HBr.out HBd.out (Nat.le_refl _))).more (Below.size (Below.to HBr.out HBd.out (Nat.le_refl _))))
              clear hfr hz
              go_wp2_with fail
              generalize hwv : World.setCell _ _ _ = wv
              obtain ⟨hv, hgv⟩ := set3 (HZ3.out) hwv
              have hBv : Below w.heap.size w wv := Below.grown (HBa.out) hgv (Below.size (HBa.out)) (fun j hj => by injection hj with hj; omega)
              have HBV := hide hBv
              have HXv := hide (bols_other HXd.out HZ3.out (by simp) (by simp) (by simp) hgv)
              have t0 := cellOf hv 0
              have t1 := cellOf hv 1
              have t2 := cellOf hv 2
              have lv := box_lt hv
              clear hwv hv hBv y0 y1 y2 v0 v1 v2 lr evd lbvd
              refine bodyPost_ret (v := .tuple #[.agg #[.int .i64 (k : Nat), .int .i64 (kd : Nat), .slice Ax x.length qx], .bool true, .int .i64 0]) ?_ rfl ⟨_, rfl, HXv.out, HBV.out⟩
              clear hgv
              rw [results_ctt rfl]
              go_simp
            · have f1 : decide ((0 : Int) < (n : Int)) = false := by simp; omega
              have f2 : decide (0 < n) = false := by simp; omega
              have HN2 : Hid (defB 2 false n = false) := by show _ = _; simp [defB]; omega
              clear hc
              have HNO2 : Hid (∀ q, q < j + 1 → badJ l ms k kd q = false) := fun q hq => by
                rcases Nat.lt_or_ge q j with h1 | h1
                · exact HNO.out q h1
                · rw [show q = j by omega, HBJ.out, HKD.out]; exact HN2.out
              go_wp2_with fail
              go_roundw
              case rel => exact ⟨j + 1, by go_num, by omega, HNO2, Below.to HW4.out HBd.out (Nat.le_refl _)⟩
              case measure => simp [intOf]; omega
        · have HKD := hide hk3
          have e1 : ((kd : Int) == 1) = false := by simp; omega
          have e2 : ((kd : Int) == 2) = false := by simp; omega
          have e3 : ((kd : Int) == 3) = true := by simp; omega
          clear hk3
          cases is with
          | true =>
            by_cases hc : 1 < n
            · have f1 : decide ((1 : Int) < (n : Int)) = true := by simp; omega
              have f2 : decide (1 < n) = true := by simp; omega
              have HN2 : Hid (defB 3 true n = true) := by show _ = _; simp [defB]; omega
              clear hc
              have hfr := bad_this HWRS.out HNO.out (by rw [HV.out]; exact hjl) (by rw [HBJ.out, HKD.out]; exact HN2.out)
              have hre := aud_this HER.out hkl (by omega) HAN.out HAK.out (by rw [show kd - 1 + 1 = kd by omega]; exact hfr)
              rw [HRES.out, show kd - 1 + 1 = kd by omega, HV.out, HX.out] at hre
              subst hre
              have hz := HZ2.out.to (Below.to HBr.out HBd.out (Nat.le_refl _))
              have y0 := cellOf hz 0; have v0 := unfrozenOf hz 0; have y1 := cellOf hz 1; have v1 := unfrozenOf hz 1; have y2 := cellOf hz 2; have v2 := unfrozenOf hz 2; have lr := box_lt hz
              have HZ3 := hide hz
              have HBa := hide (Below.to HBZ.out HBd.out (Nat.le_refl _))
              have HXd := hide ((Sl.below HXB.out (Below.to HBr.out HBd.out (Nat.le_refl _))).more (Below.size (Below.to HBr.out HBd.out (Nat.le_refl _))))
              clear hfr hz
              go_wp2_with fail
              generalize hwv : World.setCell _ _ _ = wv
              obtain ⟨hv, hgv⟩ := set3 (HZ3.out) hwv
              have hBv : Below w.heap.size w wv := Below.grown (HBa.out) hgv (Below.size (HBa.out)) (fun j hj => by injection hj with hj; omega)
              have HBV := hide hBv
              have HXv := hide (bols_other HXd.out HZ3.out (by simp) (by simp) (by simp) hgv)
              have t0 := cellOf hv 0
              have t1 := cellOf hv 1
              have t2 := cellOf hv 2
              have lv := box_lt hv
              clear hwv hv hBv y0 y1 y2 v0 v1 v2 lr evd lbvd
              refine bodyPost_ret (v := .tuple #[.agg #[.int .i64 (k : Nat), .int .i64 (kd : Nat), .slice Ax x.length qx], .bool true, .int .i64 0]) ?_ rfl ⟨_, rfl, HXv.out, HBV.out⟩
              clear hgv
              rw [results_ctt rfl]
              go_simp
            · have f1 : decide ((1 : Int) < (n : Int)) = false := by simp; omega
              have f2 : decide (1 < n) = false := by simp; omega
              have HN2 : Hid (defB 3 true n = false) := by show _ = _; simp [defB]; omega
              clear hc
              have HNO2 : Hid (∀ q, q < j + 1 → badJ l ms k kd q = false) := fun q hq => by
                rcases Nat.lt_or_ge q j with h1 | h1
                · exact HNO.out q h1
                · rw [show q = j by omega, HBJ.out, HKD.out]; exact HN2.out
              go_wp2_with fail
              go_roundw
              case rel => exact ⟨j + 1, by go_num, by omega, HNO2, Below.to HW4.out HBd.out (Nat.le_refl _)⟩
              case measure => simp [intOf]; omega
          | false =>
            have HN2 : Hid (defB 3 false n = false) := rfl
            have HNO2 : Hid (∀ q, q < j + 1 → badJ l ms k kd q = false) := fun q hq => by
              rcases Nat.lt_or_ge q j with h1 | h1
              · exact HNO.out q h1
              · rw [show q = j by omega, HBJ.out, HKD.out]; exact HN2.out
            go_wp2_with fail
            go_roundw
            case rel => exact ⟨j + 1, by go_num, by omega, HNO2, Below.to HW4.out HBd.out (Nat.le_refl _)⟩
            case measure => simp [intOf]; omega
end Go.Proofs.YtehadoecnmfeoaaGreat

/- Follow: walk. -/
import Derived.Test.YtohofcmikfkilaaRows
import Derived.Test.YtohofcmikfkilaaF27
import Derived.Deep.DeepMust
namespace Go.Proofs.Ytohofcmikfkilaa
open Go.RowKit
set_option linter.unusedVariables false
set_option linter.unusedSimpArgs false
theorem Kts.up {w w' : World} {v : Value} {ks : List Kt} (h : Kts w w.heap.size v ks) (hb : Below w.heap.size w w') : Kts w' w'.heap.size v ks := Sl.up h hb
theorem ret_fol {a b : Bool} {x y : Int} (h1 : a = b) (h2 : x = y) : Ending.returned (.tuple #[.bool a, .int .i64 x]) = .returned (.tuple #[.bool b, .int .i64 y]) := by rw [h1, h2]
set_option maxRecDepth 100000 in
set_option maxHeartbeats 8000000 in
theorem Follow_any (m : Mo) (ks : List Kt) (root : Int) (vs : List Bool) (ov rv kv vv : Value) (w : World) (hs : SizedM m) (hkl : ks.length ≤ 3000) (hvl : vs.length ≤ maxLen) (h : MoAt w w.heap.size ov rv m) (hk : Kts w w.heap.size kv ks) (hv : Bols w w.heap.size vv vs) :
    Calls Try.prog 32 #[.agg #[ov, rv], kv, .int .i64 root, vv] w fun e w' => e = .returned (.tuple #[.bool (folB m ks root vs), .int .i64 (folE m ks root vs)]) ∧ Below w.heap.size w w' := by
  unfold maxLen at hvl
  obtain ⟨A, cap, hov⟩ := Sl.form h.o
  obtain ⟨Ar, capr, hrv⟩ := h.r.form
  have hnl := hs.n
  unfold maxLen at hnl
  have H := hide h
  have HS := hide hs
  have HKS := hide hk
  obtain ⟨Ak, bk, offk, capk, rfl, hnck, hAk, hck⟩ := hk
  obtain ⟨Av, bv, offv, capv, rfl, hncv, hAv, hcv⟩ := hv
  have HAK := hide hAk
  have HCK := hide hck
  have HAV := hide hAv
  have HCV := hide hcv
  subst hov hrv
  clear h hs hAk hck hAv hcv
  by_cases he : m.err = 0
  case neg =>
    obtain ⟨hE, hB⟩ := fol_err (ks := ks) (r := root) (v := vs) he
    obtain ⟨z, hz⟩ : ∃ z, m.err = z := ⟨_, rfl⟩
    rw [hz] at he hE
    have hz1 : (z != 0) = true := by simpa using he
    have HE := hide hE
    have HB := hide hB
    have HZ := hide hz
    clear he hE hB hz
    go_enter Try.func32, Try.ntmps32
    go_upto_region 1 with (fail)
    generalize hw0 : World.alloc _ _ = w0
    obtain ⟨hb0, hB0, hs0⟩ := alloc1 hw0
    clear hw0
    have HB0 := hide hB0
    have c0 := cellOf hb0 0
    have c1 := cellOf hb0 1
    have H0 : Hid (MoAt w0 w0.heap.size (.slice A m.opts.length cap) (.slice Ar m.rules.length capr) m) := H.out.up hB0
    clear hb0 hB0 hs0
    go_wp2_with (go_at_call 24; refine (CheckModel_any m _ _ _ HS.out H0.out).mono ?_; rw [HZ.out]; rintro e w1 ⟨rfl, hB1⟩)
    go_ret2
    exact ⟨ret_fol HB.out.symm HE.out.symm, Below.to HB0.out hB1 (Nat.le_refl _)⟩
  case pos =>
    have HE0 := hide he
    by_cases hbad : 2000 < ks.length ∨ root < -2 ∨ (ks.length : Int) ≤ root ∨ vs.length ≠ m.opts.length
    · obtain ⟨hE, hB⟩ := fol_arg (m := m) (ks := ks) (r := root) (v := vs) he (by omega)
      have HE := hide hE
      have HB := hide hB
      clear hE hB he
      go_enter Try.func32, Try.ntmps32
      go_upto_region 1 with (fail)
      generalize hw0 : World.alloc _ _ = w0
      obtain ⟨hb0, hB0, hs0⟩ := alloc1 hw0
      clear hw0
      have HX0 : Hid (MoBox w0 w.heap.size (.slice A m.opts.length cap) (.slice Ar m.rules.length capr)) := hb0
      have HB0 := hide hB0
      have c0 := cellOf hb0 0
      have c1 := cellOf hb0 1
      have H0 : Hid (MoAt w0 w0.heap.size (.slice A m.opts.length cap) (.slice Ar m.rules.length capr) m) := H.out.up hB0
      clear hb0 hB0 hs0
      go_upto_region 4 with (go_at_call 24; refine (CheckModel_any m _ _ _ HS.out H0.out).mono ?_; rw [HE0.out]; rintro e w1 ⟨rfl, hB1⟩; have hbx := box_to HX0.out hB1; have d0 := cellOf hbx 0; have d1 := cellOf hbx 1; have HB1 : Hid (Below w.heap.size w w1) := Below.to HB0.out hB1 (Nat.le_refl _); clear hbx hB1 c0 c1)
      by_cases b1 : 2000 < ks.length
      · have e1 : decide ((2000 : Int) < (ks.length : Int)) = true := by simp; omega
        clear hbad b1
        go_wp2_with fail
        go_ret2
        exact ⟨ret_fol HB.out.symm HE.out.symm, HB1.out⟩
      have e1 : decide ((2000 : Int) < (ks.length : Int)) = false := by simp; omega
      by_cases b2 : root < -2
      · have e2 : decide (root < -2) = true := by simp; omega
        clear hbad b1 b2
        go_wp2_with fail
        go_ret2
        exact ⟨ret_fol HB.out.symm HE.out.symm, HB1.out⟩
      have e2 : decide (root < -2) = false := by simp; omega
      by_cases b3 : (ks.length : Int) ≤ root
      · have e3 : decide ((ks.length : Int) ≤ root) = true := by simp; omega
        clear hbad b1 b2 b3
        go_wp2_with fail
        go_ret2
        exact ⟨ret_fol HB.out.symm HE.out.symm, HB1.out⟩
      have e3 : decide ((ks.length : Int) ≤ root) = false := by simp; omega
      have e4 : ((vs.length : Int) != (m.opts.length : Int)) = true := by simp; omega
      clear hbad b1 b2 b3
      go_wp2_with fail
      go_ret2
      exact ⟨ret_fol HB.out.symm HE.out.symm, HB1.out⟩
    · have e1 : decide ((2000 : Int) < (ks.length : Int)) = false := by simp; omega
      have e2 : decide (root < -2) = false := by simp; omega
      have e3 : decide ((ks.length : Int) ≤ root) = false := by simp; omega
      have e4 : ((vs.length : Int) != (m.opts.length : Int)) = false := by simp; omega
      have hg1 : ks.length ≤ 2000 := by omega
      have hg2 : -2 ≤ root := by omega
      have hg3 : root < ks.length := by omega
      have hg4 : vs.length = m.opts.length := by omega
      have HG4 := hide hg4
      clear he hbad hg4
      go_enter Try.func32, Try.ntmps32
      go_upto_region 1 with (fail)
      generalize hw0 : World.alloc _ _ = w0
      obtain ⟨hb0, hB0, hs0⟩ := alloc1 hw0
      clear hw0
      have HX0 : Hid (MoBox w0 w.heap.size (.slice A m.opts.length cap) (.slice Ar m.rules.length capr)) := hb0
      have HB0 := hide hB0
      have c0 := cellOf hb0 0
      have c1 := cellOf hb0 1
      have H0 : Hid (MoAt w0 w0.heap.size (.slice A m.opts.length cap) (.slice Ar m.rules.length capr) m) := H.out.up hB0
      clear hb0 hB0 hs0
      go_wp2_with (go_at_call 24; refine (CheckModel_any m _ _ _ HS.out H0.out).mono ?_; rw [HE0.out]; rintro e w1 ⟨rfl, hB1⟩; have hbx := box_to HX0.out hB1; have HX1 : Hid (MoBox w1 w.heap.size (.slice A m.opts.length cap) (.slice Ar m.rules.length capr)) := hbx; have d0 := cellOf hbx 0; have d1 := cellOf hbx 1; have HB1 : Hid (Below w.heap.size w w1) := Below.to HB0.out hB1 (Nat.le_refl _); clear hbx hB1 c0 c1)
      clear e1 e2 e3 e4 d0 d1
      go_loopw [42] (fun i wr => ∃ k : Nat, k ≤ ks.length ∧ i = .int .i64 k ∧ Hid (∀ j, j < k → okB m.opts.length ks j = true) ∧ Hid (Below w1.heap.size w1 wr)) (fun i _ => ks.length - (intOf i).toNat)
      case atStart => exact ⟨0, Nat.zero_le _, rfl, fun j hj => by omega, Below.refl _ _⟩
      case round =>
        obtain ⟨k, hk, rfl, hall, hB⟩ := hrel
        obtain ⟨wo, hwo⟩ : ∃ wo : World, wo = wr := ⟨_, rfl⟩
        subst hwo
        have hbx := box_to HX1.out hB.out
        have HBX : Hid (MoBox wo w.heap.size (.slice A m.opts.length cap) (.slice Ar m.rules.length capr)) := hbx
        have hsl := box_lt hbx
        have HBW : Hid (Below w.heap.size w wo) := Below.to HB1.out hB.out (Nat.le_refl _)
        clear hbx
        by_cases hlt : k < ks.length
        · obtain ⟨rfl, hb, p0, p1, p2⟩ := kAt (k := k) HAK.out HCK.out hlt
          obtain ⟨⟨o, l, h⟩, hkk⟩ : ∃ x, ks.getD k Kt.z = x := ⟨_, rfl⟩
          rw [hkk] at p0 p1 p2
          have q0 := (HBW.out.cell (p := ⟨bk, offk + k * 3, none⟩) hb).trans p0
          have q1 := (HBW.out.cell (p := ⟨bk, offk + k * 3 + 1, none⟩) hb).trans p1
          have q2 := (HBW.out.cell (p := ⟨bk, offk + k * 3 + 2, none⟩) hb).trans p2
          have lb : bk < wo.heap.size := Nat.lt_of_lt_of_le hb HBW.out.size
          have i0 : (0 : Int) ≤ (k : Int) := by omega
          have i1 : (k : Int) < (ks.length : Int) := by omega
          have HKK := hide hkk
          clear p0 p1 p2 hkk
          go_upto_region 9 with (fail)
          generalize hw0 : World.alloc _ _ = w2
          obtain ⟨hb0, hB0, hs0⟩ := alloc1 hw0
          clear hw0
          have HK2 : Hid (w2.heap[wo.heap.size]? = some (.cells #[.int .i64 o, .int .i64 l, .int .i64 h] 114 (0, 0))) := hb0
          have HX2 : Hid (MoBox w2 w.heap.size (.slice A m.opts.length cap) (.slice Ar m.rules.length capr)) := box_to HBX.out hB0
          have HB2 : Hid (Below w.heap.size w w2) := Below.to HBW.out hB0 (Nat.le_refl _)
          have HBo : Hid (Below wo.heap.size wo w2) := hB0
          have s0 := box_lt hb0
          have s1 := box_lt HX2.out
          have x0 := cellOf HX2.out 0
          have x1 := cellOf HX2.out 1
          have z0 := cellOf hb0 0
          have z1 := cellOf hb0 1
          have z2 := cellOf hb0 2
          have hll : ∀ (W : World) (q : Int), Below w.heap.size w W → Calls Try.prog 77 #[.agg #[.slice A m.opts.length cap, .slice Ar m.rules.length capr], .slice (some ⟨bk, offk, none⟩) ks.length capk, .int .i64 k, .int .i64 q] W fun e w' => e = .returned (.bool (goB ks k o q)) ∧ Below W.heap.size W w' := fun W q hW => by
            have := leads_any ks k q A Ar m.opts.length cap m.rules.length capr _ W hlt (HKS.out.up hW)
            rw [HKK.out] at this
            exact this
          have HLL := hide hll
          have hok : okB m.opts.length ks k = (decide (0 ≤ o) && decide (o < m.opts.length) && goB ks k o l && goB ks k o h) := by unfold okB; rw [HKK.out]
          have hno : okB m.opts.length ks k = false → folE m ks root vs = 1 ∧ folB m ks root vs = false := fun hh => fol_arg HE0.out (.inr (.inl (allB_no hlt hh)))
          clear hb0 hB0 hs0 q0 q1 q2 hll
          by_cases ho : o < 0
          · have d1 : decide (o < 0) = true := by simp; omega
            have HN := hide (hno (by rw [hok, decide_eq_false (by omega : ¬ 0 ≤ o)]; simp))
            clear hok hno ho
            go_wp2_with fail
            go_ret2
            exact ⟨ret_fol HN.out.2.symm HN.out.1.symm, HB2.out⟩
          have d1 : decide (o < 0) = false := by simp; omega
          by_cases ho2 : (m.opts.length : Int) ≤ o
          · have d2 : decide ((m.opts.length : Int) ≤ o) = true := by simp; omega
            have HN := hide (hno (by rw [hok, decide_eq_false (by omega : ¬ o < (m.opts.length : Int))]; simp))
            clear hok hno ho ho2
            go_wp2_with fail
            go_ret2
            exact ⟨ret_fol HN.out.2.symm HN.out.1.symm, HB2.out⟩
          have d2 : decide ((m.opts.length : Int) ≤ o) = false := by simp; omega
          rw [decide_eq_true (by omega : 0 ≤ o), decide_eq_true (by omega : o < (m.opts.length : Int)), Bool.true_and, Bool.true_and] at hok
          cases hg1 : goB ks k o l with
          | false =>
            have HN := hide (hno (by rw [hok, hg1]; rfl))
            have HG1 := hide hg1
            clear hok hno ho ho2 hg1
            go_wp2_with (go_at_call 77; refine (HLL.out w2 l HB2.out).mono ?_; rw [HG1.out]; rintro e w3 ⟨rfl, hB3⟩)
            go_ret2
            exact ⟨ret_fol HN.out.2.symm HN.out.1.symm, Below.to HB2.out hB3 (Nat.le_refl _)⟩
          | true =>
            cases hg2 : goB ks k o h with
            | false =>
              have HN := hide (hno (by rw [hok, hg1, hg2]; rfl))
              have HG1 := hide hg1
              have HG2 := hide hg2
              clear hok hno ho ho2 hg1 hg2
              go_wp2_with (go_at_call 77; refine (HLL.out _ _ (by first | exact HB2.out | exact HB3.out)).mono ?_; first | (rw [HG1.out]; rintro e w3 ⟨rfl, hB3⟩; have HB3 : Hid (Below w.heap.size w w3) := Below.to HB2.out hB3 (Nat.le_refl _); have y0 := cellOf (box_to HX2.out hB3) 0; have y1 := cellOf (box_to HX2.out hB3) 1; have v2 := cellOf (box_to HK2.out hB3) 2; clear hB3) | (rw [HG2.out]; rintro e w4 ⟨rfl, hB4⟩))
              go_ret2
              exact ⟨ret_fol HN.out.2.symm HN.out.1.symm, Below.to HB3.out hB4 (Nat.le_refl _)⟩
            | true =>
              have HOK : Hid (okB m.opts.length ks k = true) := by rw [hok, hg1, hg2]; rfl
              have HG1 := hide hg1
              have HG2 := hide hg2
              clear hok hno ho ho2 hg1 hg2
              go_wp2_with (go_at_call 77; refine (HLL.out _ _ (by first | exact HB2.out | exact HB3.out)).mono ?_; first | (rw [HG1.out]; rintro e w3 ⟨rfl, hB3⟩; have HB3 : Hid (Below w.heap.size w w3) := Below.to HB2.out hB3 (Nat.le_refl _); have HB23 := hide hB3; have y0 := cellOf (box_to HX2.out hB3) 0; have y1 := cellOf (box_to HX2.out hB3) 1; have v2 := cellOf (box_to HK2.out hB3) 2; clear hB3) | (rw [HG2.out]; rintro e w4 ⟨rfl, hB4⟩))
              go_roundw
              case rel => exact ⟨k + 1, by omega, by go_num, fun j hj => by
                  rcases Nat.lt_or_ge j k with h | h
                  · exact hall.out j h
                  · rw [show j = k from by omega]; exact HOK.out, Below.to (Below.to (Below.to hB.out HBo.out (Nat.le_refl _)) HB23.out (Nat.le_refl _)) hB4 (Nat.le_refl _)⟩
              case measure => simp [intOf]; omega
        · have hok := fol_ok (r := root) (v := vs) HE0.out hg1 (allB_yes fun i hi => hall.out i (by omega)) hg2 hg3 HG4.out
          have HOK := hide hok
          have hal : ∀ i, i < ks.length → okB m.opts.length ks i = true := fun i hi => hall.out i (by omega)
          have HAL := hide hal
          clear hok hal hB
          go_wp2_with fail
          go_loopw [2] (fun i wr => ∃ (r : Int) (mm : Nat), i = .int .i64 r ∧ -2 ≤ r ∧ r < ks.length ∧ r < mm ∧ Hid (flw ks vs ks.length root = flw ks vs mm r) ∧ Hid (Below wo.heap.size wo wr)) (fun i _ => (intOf i + 3).toNat)
          case atStart => exact ⟨root, ks.length, rfl, hg2, hg3, hg3, rfl, Below.refl _ _⟩
          case round =>
            obtain ⟨r, mm, rfl, hr1, hr2, hr3, hf, hBi⟩ := hrel
            have HBi : Hid (Below w.heap.size w wr) := Below.to HBW.out hBi.out (Nat.le_refl _)
            by_cases hr : 0 ≤ r
            · obtain ⟨k, rfl⟩ := Int.eq_ofNat_of_zero_le hr
              have hkl2 : k < ks.length := by omega
              obtain ⟨mm, rfl⟩ : ∃ m2, mm = m2 + 1 := ⟨mm - 1, by omega⟩
              have hkok := HAL.out k hkl2
              have hnb := nxt_bd (v := vs) hkok
              have hob := okB_bd hkok
              have hf2 := hf.out.trans (flw_go ks vs mm hr)
              have hnx : nxt ks vs k = if vs.getD (ks.getD k Kt.z).o.toNat false then (ks.getD k Kt.z).h else (ks.getD k Kt.z).l := by unfold nxt; rw [Int.toNat_natCast]
              obtain ⟨rfl, hb, p0, p1, p2⟩ := kAt (k := k) HAK.out HCK.out hkl2
              obtain ⟨⟨o, l, h⟩, hkk⟩ : ∃ x, ks.getD k Kt.z = x := ⟨_, rfl⟩
              rw [hkk] at p0 p1 p2 hob hnx
              obtain ⟨t, rfl⟩ : ∃ t : Nat, o = (t : Int) := Int.eq_ofNat_of_zero_le hob.1
              have htv : t < vs.length := by have := HG4.out; have := hob.2; simp only at this; omega
              obtain ⟨rfl, hbv⟩ : Av = some ⟨bv, offv, none⟩ ∧ bv < w.heap.size := by
                rcases HAV.out with h | h
                · exact h
                · omega
              obtain ⟨x, hx⟩ : ∃ x, vs.getD t false = x := ⟨_, rfl⟩
              have cv : w.cell? ⟨bv, offv + t, none⟩ = some (.bool x) := by
                have h1 := HCV.out t 0 htv (by omega)
                rw [Nat.mul_one, Nat.add_zero, hx] at h1
                exact h1
              rw [Int.toNat_natCast, hx] at hnx
              have q0 := (HBi.out.cell (p := ⟨bk, offk + k * 3, none⟩) hb).trans p0
              have q1 := (HBi.out.cell (p := ⟨bk, offk + k * 3 + 1, none⟩) hb).trans p1
              have q2 := (HBi.out.cell (p := ⟨bk, offk + k * 3 + 2, none⟩) hb).trans p2
              have HCV2 := hide cv
              have lb : bk < wr.heap.size := Nat.lt_of_lt_of_le hb HBi.out.size
              have i0 : (0 : Int) ≤ (k : Int) := by omega
              have i1 : (k : Int) < (ks.length : Int) := by omega
              have j0 : (0 : Int) ≤ (t : Int) := by omega
              have j1 : (t : Int) < (vs.length : Int) := by omega
              have HF2 := hide hf2
              have HNX := hide hnx
              have HNB := hide hnb
              clear p0 p1 p2 hkk cv hx hf2 hnx hnb hob hkok hf
              go_upto_region 14 with (fail)
              generalize hw0 : World.alloc _ _ = w2
              obtain ⟨hb0, hB0, hs0⟩ := alloc1 hw0
              clear hw0
              have HB2 : Hid (Below w.heap.size w w2) := Below.to HBi.out hB0 (Nat.le_refl _)
              have HBo : Hid (Below wo.heap.size wo w2) := Below.to hBi.out hB0 (Nat.le_refl _)
              have s0 := box_lt hb0
              have z0 := cellOf hb0 0
              have z1 := cellOf hb0 1
              have z2 := cellOf hb0 2
              have cv2 := (HB2.out.cell (p := ⟨bv, offv + t, none⟩) hbv).trans HCV2.out
              have lv : bv < w2.heap.size := Nat.lt_of_lt_of_le hbv HB2.out.size
              clear hb0 hB0 hs0 q0 q1 q2
              cases x with
              | true =>
                go_wp2_with fail
                go_roundw
                case rel => 
                  have hn : nxt ks vs k = h := by rw [HNX.out]; rfl
                  have h1 := HNB.out
                  rw [hn] at h1
                  exact ⟨h, mm, rfl, h1.1, by omega, by omega, by rw [HF2.out, hn]; rfl, HBo.out⟩
                case measure =>
                  have hn : nxt ks vs k = h := by rw [HNX.out]; rfl
                  have h1 := HNB.out
                  rw [hn] at h1
                  simp [intOf]; omega
              | false =>
                go_wp2_with fail
                go_roundw
                case rel => 
                  have hn : nxt ks vs k = l := by rw [HNX.out]; rfl
                  have h1 := HNB.out
                  rw [hn] at h1
                  exact ⟨l, mm, rfl, h1.1, by omega, by omega, by rw [HF2.out, hn]; rfl, HBo.out⟩
                case measure =>
                  have hn : nxt ks vs k = l := by rw [HNX.out]; rfl
                  have h1 := HNB.out
                  rw [hn] at h1
                  simp [intOf]; omega
            · have hn := flw_neg ks vs mm (by omega : r < 0)
              have hz := HOK.out.2
              rw [hf.out, hn] at hz
              have HZ := hide hz
              clear hn hz hf
              go_wp2_with fail
              go_ret2
              exact ⟨ret_fol HZ.out.symm HOK.out.1.symm, HBi.out⟩
end Go.Proofs.Ytohofcmikfkilaa

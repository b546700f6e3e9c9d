/- Part 12 of this claim's texts: walks and plain laws. -/
import Derived.Test.YtmgfijadjclmpaaRows
import Derived.Test.YtmgfijadjclmpaaGTC11
import Derived.Laws.EntriesVeiled
import Derived.Deep.DeepMust
import Derived.Deep.RegionHeld3
import Derived.Deep.DrawnRows
import Derived.Test.YtmgfijadjclmpaaGTC2
/- response: walk. -/
namespace Go.Proofs.Ytmgfijadjclmpaa
open Go.RowKit
set_option linter.unusedVariables false
set_option linter.unusedSimpArgs false
theorem blkK_yes {l : List Fr} {u : List Bool} {f k : Nat} (h1 : k ≠ f) (h2 : u.getD k false = false) : blkK l u f (k + 1) = max (blkK l u f k) ((l.getD k Fr.o).s - 1) := if_pos ⟨h1, h2⟩
theorem blkK_no {l : List Fr} {u : List Bool} {f k : Nat} (h : k = f ∨ u.getD k false = true) : blkK l u f (k + 1) = blkK l u f k := if_neg fun hc => by
  rcases h with h | h
  · exact hc.1 h
  · rw [h] at hc; cases hc.2
/-- What response answers. -/
def RspP (l : List Fr) (u : List Bool) (f : Nat) (w : World) (e : Ending) (w' : World) : Prop :=
  ∃ (r : Int) (b : Bool), e = .returned (.tuple #[.int .i64 r, .bool b]) ∧ (b = true → r ≤ 3000000 ∧ ∃ bl busy, RespP l u f r bl busy) ∧ Below w.heap.size w w'
set_option maxRecDepth 100000 in
set_option maxHeartbeats 8000000 in
theorem response_any (f : Nat) (A Au : Option Addr) (q qu : Nat) (l : List Fr) (u : List Bool) (w : World) (ok : FrsOk l) (hul : u.length = l.length) (hfl : f < l.length) (h : Frs w w.heap.size (.slice A l.length q) l) (hb : Bos w w.heap.size (.slice Au u.length qu) u) :
    Calls Try.prog 36 #[.slice A l.length q, .int .i64 f, .slice Au u.length qu] w (RspP l u f w) := by
  have H := hide h
  have HU := hide hb
  have OK := hide ok
  have HUL := hide hul
  have hll : l.length ≤ 40 := ok.len
  have ff0 : (0 : Int) ≤ (f : Int) := by omega
  have ff1 : (f : Int) < (l.length : Int) := by omega
  have iq : (l.length : Int) ≤ (q : Int) := by have := h.cap; omega
  clear h hb ok hul
  go_enter Try.func36, Try.ntmps36
  go_upto_region 1 with (fail)
  generalize hw0 : World.alloc _ _ = w0
  obtain ⟨hb0, hb1, hB0, hs0⟩ := alloc2 hw0
  have y0 := cellOf hb0 0
  have ly := box_lt hb0
  obtain ⟨b, off, x, HX, rfl, hbb, hq, e0, e1, e2, e3, e4⟩ := (H.out.up hB0).at hfl
  clear hq hw0
  go_upto_region 3 with (fail)
  generalize hw1 : World.alloc _ _ = w1
  obtain ⟨hb2, hb3, hB1, hs1⟩ := alloc2 hw1
  have HM1 : Hid (RsM w w1 (some ⟨b, off, none⟩) Au q qu l u x 0) := ⟨Below.to hB0 hB1 (Nat.le_refl _), box_to hb0 hB1, box_to hb1 hB1, by rw [hs0] at hb2; exact hb2, by rw [hs0] at hb3; exact hb3⟩
  rw [show w.heap.size + 2 + 1 = w.heap.size + 3 from rfl]
  clear hw1 hb0 hb1 hb2 hb3 hB0 hB1 hs0 hs1 e0 e1 e2 e3 e4 y0 ly hbb
  have y0 := cellOf HM1.out.cl 0
  have ly := box_lt HM1.out.cl
  have hbx := blkK_bd (u := u) (f := f) OK.out.s (k := l.length) (Nat.le_refl _)
  go_upto_region 4 with (fail)
  go_loopw [10, 11, 25] (fun _ _ iv wr => ∃ k : Nat, iv = .int .i64 k ∧ k ≤ l.length ∧ Hid (RsM w wr (some ⟨b, off, none⟩) Au q qu l u x (blkK l u f k))) (fun _ _ iv _ => l.length - (intOf iv).toNat)
  case atStart => exact ⟨0, rfl, Nat.zero_le _, HM1.out⟩
  case round =>
    obtain ⟨k, rfl, hk, HM⟩ := hrel
    clear y0 ly
    by_cases hlt : k < l.length
    case pos =>
      have hlt1 : (k : Int) < (l.length : Int) := by omega
      have ik0 : (0 : Int) ≤ (k : Int) := by omega
      obtain ⟨b', off', g, HG, hA', hbb, hq, e0, e1, e2, e3, e4⟩ := ((H.out.below HM.out.below).more HM.out.below.size).at hlt
      injection hA' with hA'
      injection hA' with hA1 hA2 _
      subst hA1 hA2
      have hgs := OK.out.s k hlt
      rw [HG.out] at hgs
      have hgs1 := hgs.1
      have hgs2 := hgs.2
      clear hq hgs
      go_upto_region 6 with (fail)
      generalize hw0 : World.alloc _ _ = w0
      obtain ⟨hb0, hB0, hs0⟩ := alloc1 hw0
      have c0 := cellOf hb0 0; have c1 := cellOf hb0 1; have c2 := cellOf hb0 2; have c3 := cellOf hb0 3; have c4 := cellOf hb0 4
      have hlc := box_lt hb0
      have HM0 := hide (HM.out.to hB0)
      have hbk := blkK_bd (u := u) (f := f) OK.out.s (k := k) (by omega)
      obtain ⟨bl, hbl⟩ : ∃ z, blkK l u f k = z := ⟨_, rfl⟩
      rw [hbl] at hbk HM0
      have hbk0 := hbk.1
      have hbk1 := hbk.2
      have HBL := hide hbl
      obtain ⟨b2, off2, d, HD, hA2, hbb2, hq2, g0⟩ := (HU.out.up HM0.out.below).at (k := k) (by rw [HUL.out]; exact hlt)
      subst hA2
      have i2 : (k : Int) < (u.length : Int) := by rw [HUL.out]; omega
      have iq2 : (u.length : Int) ≤ (qu : Int) := by omega
      have u0 := cellOf HM0.out.cu 0
      have lu := box_lt HM0.out.cu
      have k0 := cellOf HM0.out.ck 0
      have v0 := unfrozenOf HM0.out.ck 0
      have lk := box_lt HM0.out.ck
      clear hw0 hb0 hB0 hs0 hq2 e0 e1 e2 e3 e4 hbk hbl
      by_cases hkf : k = f
      · have hkf1 : ((k : Int) != (f : Int)) = false := by simp [hkf]
        have HK := hide hkf
        clear hkf
        go_wp2
        go_roundw
        case rel => exact ⟨k + 1, by go_num, by omega, by rw [blkK_no (.inl HK.out), HBL.out]; exact HM0.out⟩
        case measure => simp [intOf]; omega
      · have hkf1 : ((k : Int) != (f : Int)) = true := by simp; omega
        have HK := hide hkf
        clear hkf
        cases d with
        | true =>
          go_wp2
          go_roundw
          case rel => exact ⟨k + 1, by go_num, by omega, by rw [blkK_no (.inr HD.out), HBL.out]; exact HM0.out⟩
          case measure => simp [intOf]; omega
        | false =>
          have w1 : IntKind.i64.wrap (g.s - 1) = g.s - 1 := IntWalk.i64_in _ (by omega)
          go_upto_region 8 with (fail)
          have HMS := hide (HM0.out.set (if bl < g.s - 1 then g.s - 1 else bl))
          have HMX : Hid (blkK l u f (k + 1) = (if bl < g.s - 1 then g.s - 1 else bl)) := by
            show _ = _
            rw [blkK_yes HK.out HD.out, HBL.out, HG.out, Int.max_def]
            split <;> split <;> omega
          clear c0 c1 c2 c3 c4 hlc u0 lu k0 v0 lk g0
          go_wp2
          go_roundw
          case rel => exact ⟨k + 1, by go_num, by omega, by rw [HMX.out]; exact HMS.out⟩
          case measure => simp [intOf]; omega
    case neg =>
      have hlt1 : ¬ (k : Int) < (l.length : Int) := by omega
      obtain rfl : k = l.length := by omega
      obtain ⟨bl, hbl⟩ : ∃ z, blkK l u f l.length = z := ⟨_, rfl⟩
      rw [hbl] at hbx HM
      have hbl0 := hbx.1
      have hbl1 := hbx.2
      have HBL := hide hbl
      clear hbx hbl hlt
      go_upto_region 10 with (fail)
      generalize hw2 : World.alloc _ _ = w2
      obtain ⟨hb4, hB2, hs2⟩ := alloc1 hw2
      obtain ⟨fb, hfb⟩ : ∃ z, wr.heap.size = z := ⟨_, rfl⟩
      rw [hfb] at hb4 ⊢
      have HM2 := hide (HM.out.to hB2)
      have HA2 : Hid (RsAt w2 w.heap.size (w.heap.size + 1) (w.heap.size + 2) (w.heap.size + 3) fb (some ⟨b, off, none⟩) Au q qu l u x bl) := ⟨HM2.out.cl, HM2.out.cu, HM2.out.co, HM2.out.ck, hb4, H.out.up HM2.out.below, HU.out.up HM2.out.below⟩
      clear hw2 hb4 hB2 hs2 hfb
      have hst := settle1_any 1 (busF l u x bl) (.pointer (some ⟨w.heap.size + 3, 0, none⟩)) (.pointer (some ⟨w.heap.size + 2, 0, none⟩)) (.pointer (some ⟨fb, 0, none⟩)) w2 (by omega) (by omega) (by rw [← HX.out]; exact busF_lo OK.out hfl hbl0) (fun a c ha hc => by rw [← HX.out]; exact busF_mono OK.out hfl hc) (fun a ha1 ha2 => by rw [← HX.out]; exact busF_hi OK.out hfl hbl1 (by omega) ha2)
        (fun n W hn1 hn2 hW => next1_any n f _ _ _ _ _ _ _ _ _ l u x bl W OK.out HUL.out (HA2.out.to hW) hfl HX.out hbl0 hbl1 (by omega) hn2)
      have HST := hide hst
      clear hst
      go_upto_region 11 with (go_at_call 52; refine HST.out.mono ?_; rintro e w3 ⟨busy, is, rfl, hbusy, hB3⟩; have HBUSY := hide hbusy; have HA3 := hide (HA2.out.to hB3); have HB3 := hide (Below.to HM2.out.below hB3 (Nat.le_refl _)); clear hbusy hB3)
      cases is with
      | false =>
        go_wp2
        go_ret2
        exact ⟨0, false, rfl, (fun h => by cases h), HB3.out⟩
      | true =>
      obtain ⟨hb1, hb2, hb3⟩ := HBUSY.out rfl
      have HBF := hide hb3
      have hs := OK.out.s f hfl
      have he := OK.out.e f hfl
      have hj := OK.out.j f hfl
      rw [HX.out] at hs he hj
      have hs1 := hs.1
      have hs2 := hs.2
      have he1 := he.1
      have he2 := he.2
      have hj1 := hj.1
      have hj2 := hj.2
      have hQ0 := upI_pos (n := busy + x.j) (b := x.e) (by omega) he1
      have hQ1 := upI_le (n := busy + x.j) (b := x.e) (by omega) he1
      have hup := fun W => up_any (busy + x.j) x.e W (by omega) (by omega) he1 (by omega)
      obtain ⟨Q, hQ⟩ : ∃ Q : Nat, upI (busy + x.j) x.e = Q := Int.eq_ofNat_of_zero_le (by omega)
      rw [hQ] at hQ0 hQ1 hup
      have HUP := hide hup
      have HQ := hide hQ
      have c0 := cellOf HA3.out.co 0; have c1 := cellOf HA3.out.co 1; have c2 := cellOf HA3.out.co 2; have c3 := cellOf HA3.out.co 3; have c4 := cellOf HA3.out.co 4
      have hlc := box_lt HA3.out.co
      clear hb3 hs he hj hup hQ HBUSY HST
      go_upto_region 15 with (go_at_call 55; refine (HUP.out _).mono ?_; rintro e w4 ⟨rfl, rfl⟩)
      clear c0 c1 c2 c3 c4 hlc
      obtain ⟨W3, hW3⟩ : ∃ wo : World, wo = w3 := ⟨_, rfl⟩
      subst hW3
      go_loopw [15, 16, 17, 18, 61] (fun gv _ _ _ iv wr => ∃ (k : Nat) (g : Int), iv = .int .i64 k ∧ gv = .int .i64 g ∧ k ≤ Q ∧ 0 ≤ g ∧ g ≤ 3000000 ∧ Hid (0 < k → 1 ≤ g) ∧ Hid (∀ j : Nat, j < k → ∃ y, 0 ≤ y ∧ waitF l u x bl j y = y ∧ y + x.s + x.j - j * x.e ≤ g) ∧ Hid (Below W3.heap.size W3 wr)) (fun _ _ _ _ iv _ => Q - (intOf iv).toNat)
      case atStart => exact ⟨0, 0, rfl, rfl, Nat.zero_le _, Int.le_refl _, by omega, fun h => by omega, fun j hj => by omega, Below.refl _ _⟩
      case round =>
        obtain ⟨k, g, rfl, rfl, hk, hg0, hg1, HG1, HWT, HB⟩ := hrel
        by_cases hkQ : k < Q
        case neg =>
          have hkQ1 : ¬ (k : Int) < (Q : Int) := by omega
          obtain rfl : k = Q := by omega
          clear hkQ
          go_wp2
          go_ret2
          exact ⟨g, true, rfl, fun _ => ⟨hg1, bl, busy, hbl0, fun g' h1 h2 h3 => by rw [← HBL.out]; exact blkK_le h1 h2 h3, hb1, by rw [HX.out]; exact HBF.out, fun j hj => by rw [HX.out] at hj ⊢; rw [HQ.out] at hj; exact HWT.out j (by omega), HG1.out (by omega)⟩, Below.to HB3.out HB.out (Nat.le_refl _)⟩
        case pos =>
          have hkQ1 : (k : Int) < (Q : Int) := by omega
          have hk9 : (k : Int) ≤ 10000000 := by omega
          go_upto_region 17 with (fail)
          generalize hw5 : World.alloc _ _ = w5
          obtain ⟨hb5, hB5, hs5⟩ := alloc1 hw5
          obtain ⟨qb, hqb⟩ : ∃ z, wr.heap.size = z := ⟨_, rfl⟩
          rw [hqb] at hb5 ⊢
          have HQB : Hid (IntBox w5 qb k) := hb5
          have HB5 := hide (Below.to HB.out hB5 (Nat.le_refl _))
          have HA5 := hide (HA3.out.to HB5.out)
          have q0 := cellOf HQB.out 0
          have lq := box_lt HQB.out
          have k0 := cellOf HA5.out.ck 0
          have lk := box_lt HA5.out.ck
          have c0 := cellOf HA5.out.co 0; have c1 := cellOf HA5.out.co 1; have c2 := cellOf HA5.out.co 2; have c3 := cellOf HA5.out.co 3; have c4 := cellOf HA5.out.co 4
          have hlc := box_lt HA5.out.co
          clear hw5 hb5 hB5 hs5 hqb
          obtain ⟨p, hp⟩ : ∃ z, (k : Int) * x.s = z := ⟨_, rfl⟩
          have hp0 : 0 ≤ p := by rw [← hp]; exact Int.mul_nonneg (by omega) (by omega)
          have hp1 : p ≤ 10000000 * 1000 := by rw [← hp]; exact Int.mul_le_mul hk9 hs2 (by omega) (by omega)
          have w1 : IntKind.i64.wrap p = p := IntWalk.i64_in _ (by omega)
          have w2 : IntKind.i64.wrap (bl + p) = bl + p := IntWalk.i64_in _ (by omega)
          have hwl := fun t (ht : 0 ≤ t) => waitF_lo (u := u) (x := x) (bl := bl) (q := k) (t := t) OK.out ht
          rw [hp] at hwl
          have hst := settle2_any (bl + p) (waitF l u x bl k) (.pointer (some ⟨w.heap.size + 3, 0, none⟩)) (.pointer (some ⟨qb, 0, none⟩)) (.pointer (some ⟨w.heap.size + 2, 0, none⟩)) (.pointer (some ⟨fb, 0, none⟩)) w5 (by omega) (by omega) (hwl _ (by omega)) (fun a c ha hc => waitF_mono OK.out hc) (fun a ha1 ha2 => by rw [← HX.out]; exact waitF_hi OK.out hfl hbl1 (by omega) hk9 (by omega) ha2)
            (fun n W hn1 hn2 hW => next2_any n k f _ _ _ _ _ _ _ _ _ _ l u x bl W OK.out HUL.out (HA5.out.to hW) (HQB.out.to hW) hfl HX.out hbl0 hbl1 (by omega) hk9 (by omega) hn2)
          have HST := hide hst
          have HP := hide hp
          clear hst hwl
          go_upto_region 18 with (go_at_call 52; refine HST.out.mono ?_; rintro e w6 ⟨y, is, rfl, hy, hB6⟩; have HY := hide hy; have HA6 := hide (HA5.out.to hB6); have HQB6 := hide (HQB.out.to hB6); have HB6 := hide (Below.to HB5.out hB6 (Nat.le_refl _)); clear hy hB6)
          clear c0 c1 c2 c3 c4 hlc q0 lq k0 lk
          cases is with
          | false =>
            go_wp2
            go_ret2
            exact ⟨0, false, rfl, (fun h => by cases h), Below.to HB3.out HB6.out (Nat.le_refl _)⟩
          | true =>
          obtain ⟨hy1, hy2, hy3⟩ := HY.out rfl
          have HWF := hide hy3
          have q0 := cellOf HQB6.out 0
          have lq := box_lt HQB6.out
          have c0 := cellOf HA6.out.co 0; have c1 := cellOf HA6.out.co 1; have c2 := cellOf HA6.out.co 2; have c3 := cellOf HA6.out.co 3; have c4 := cellOf HA6.out.co 4
          have hlc := box_lt HA6.out.co
          obtain ⟨p2, hp2⟩ : ∃ z, (k : Int) * x.e = z := ⟨_, rfl⟩
          have hp20 : 0 ≤ p2 := by rw [← hp2]; exact Int.mul_nonneg (by omega) (by omega)
          have hp21 : p2 ≤ 10000000 * 100000 := by rw [← hp2]; exact Int.mul_le_mul hk9 he2 (by omega) (by omega)
          have w3 : IntKind.i64.wrap p2 = p2 := IntWalk.i64_in _ (by omega)
          have w4 : IntKind.i64.wrap (y + x.s) = y + x.s := IntWalk.i64_in _ (by omega)
          have w5' : IntKind.i64.wrap (y + x.s + x.j) = y + x.s + x.j := IntWalk.i64_in _ (by omega)
          have w6' : IntKind.i64.wrap (y + x.s + x.j - p2) = y + x.s + x.j - p2 := IntWalk.i64_in _ (by omega)
          have HP2 := hide hp2
          have hz1 : k = 0 → p2 = 0 := fun h => by rw [← hp2, h]; simp
          have HZ1 := hide hz1
          clear hy3 HST HY hz1
          go_wp2
          go_roundw
          case rel =>
            refine ⟨k + 1, max g (y + x.s + x.j - p2), by go_num, by first | rfl | (congr 1; omega), by omega, by omega, by omega, fun _ => ?_, fun j hj => ?_, HB6.out⟩
            · rcases Nat.eq_zero_or_pos k with h1 | h1
              · have := HZ1.out h1
                omega
              · have := HG1.out h1
                omega
            · rcases Nat.lt_or_ge j k with h1 | h1
              · obtain ⟨y', h2, h3, h4⟩ := HWT.out j h1
                exact ⟨y', h2, h3, Int.le_trans h4 (Int.le_max_left _ _)⟩
              · obtain rfl : j = k := by omega
                exact ⟨y, by omega, HWF.out, by rw [HP2.out]; exact Int.le_max_right _ _⟩
          case measure => simp [intOf]; omega
end Go.Proofs.Ytmgfijadjclmpaa
/- Rows of numbers and bools in blocks of their own; higher: walk. -/
namespace Go.Proofs.Ytmgfijadjclmpaa
open Go.RowKit
set_option linter.unusedVariables false
set_option linter.unusedSimpArgs false
/-- A row of numbers, a row of bools in a block of its own. -/
def NumB (w : World) (g : Nat) (L : List Int) : Prop := w.heap[g]? = some (.cells ((L.map (Value.int .i64)).toArray) 3 (0, 0))
def BoB (w : World) (g : Nat) (L : List Bool) : Prop := w.heap[g]? = some (.cells ((L.map Value.bool).toArray) 4 (0, 0))
theorem NumB.cell {w : World} {g k : Nat} {L : List Int} (h : NumB w g L) (hk : k < L.length) : w.cell? ⟨g, k, none⟩ = some (.int .i64 (L.getD k 0)) := by
  rw [cellOf h k]
  simp [hk]
theorem BoB.cell {w : World} {g k : Nat} {L : List Bool} (h : BoB w g L) (hk : k < L.length) : w.cell? ⟨g, k, none⟩ = some (.bool (L.getD k false)) := by
  rw [cellOf h k]
  simp [hk]
theorem NumB.set {w : World} {g k : Nat} {n : Int} {L : List Int} (h : NumB w g L) : NumB (w.setCell ⟨g, k, none⟩ (.int .i64 n)) g (L.set k n) := by
  have h1 := setCellOf (i := k) h (.int .i64 n)
  unfold NumB
  rw [h1]
  simp [List.map_set]
theorem BoB.set {w : World} {g k : Nat} {n : Bool} {L : List Bool} (h : BoB w g L) : BoB (w.setCell ⟨g, k, none⟩ (.bool n)) g (L.set k n) := by
  have h1 := setCellOf (i := k) h (.bool n)
  unfold BoB
  rw [h1]
  simp [List.map_set]
theorem NumB.to {w w' : World} {g : Nat} {L : List Int} (h : NumB w g L) (hb : Below w.heap.size w w') : NumB w' g L := box_to h hb
theorem BoB.to {w w' : World} {g : Nat} {L : List Bool} (h : BoB w g L) (hb : Below w.heap.size w w') : BoB w' g L := box_to h hb
theorem NumB.kept {w w' : World} {g g2 : Nat} {L : List Int} (h : NumB w g L) (hb : w.grownBy w' (some g2)) (hne : g ≠ g2) : NumB w' g L := (hb.block g (box_lt h) (fun e => by injection e with e; exact hne e)).trans h
theorem made_intsT (N : Nat) : madeCells #[.int .i64 0] N = (((List.replicate N (0 : Int)).map (Value.int .i64)).toArray) := by
  apply Array.ext
  · simp [madeCells]
  · intro i h1 h2
    simp [madeCells, Nat.mod_one]
theorem made_boolsT (N : Nat) : madeCells #[.bool false] N = (((List.replicate N false).map Value.bool).toArray) := by
  apply Array.ext
  · simp [madeCells]
  · intro i h1 h2
    simp [madeCells, Nat.mod_one]
theorem infoBoolT : (Try.prog.info? 4).map (fun i => (i.zero, i.size, i.bytes)) = some (some (.bool false), 1, 1) := by kernel_rfl
theorem NumB.ints {w : World} {g : Nat} {L : List Int} (h : NumB w g L) : Ints w w.heap.size (.slice (some ⟨g, 0, none⟩) L.length L.length) L :=
  ⟨_, g, 0, _, rfl, Nat.le_refl _, .inl ⟨rfl, box_lt h⟩, fun i j hi hj => by
    obtain rfl : j = 0 := by omega
    rw [Nat.mul_one, Nat.add_zero, Nat.zero_add, cellOf h]
    simp [hi]⟩
theorem BoB.bos {w : World} {g : Nat} {L : List Bool} (h : BoB w g L) : Bos w w.heap.size (.slice (some ⟨g, 0, none⟩) L.length L.length) L :=
  ⟨_, g, 0, _, rfl, Nat.le_refl _, .inl ⟨rfl, box_lt h⟩, fun i j hi hj => by
    obtain rfl : j = 0 := by omega
    rw [Nat.mul_one, Nat.add_zero, Nat.zero_add, cellOf h]
    simp [hi]⟩
/-- A list over the first numbers. -/
def rngB {α : Type} (n : Nat) (f : Nat → α) : List α := (List.range n).map f
theorem rngB_len {α : Type} (n : Nat) (f : Nat → α) : (rngB n f).length = n := by simp [rngB]
theorem rngB_at {α : Type} {n : Nat} {f : Nat → α} {i : Nat} (z : α) (h : i < n) : (rngB n f).getD i z = f i := by simp [rngB, h]
theorem rngB_set {α : Type} {n k : Nat} {F G : Nat → α} {x : α} (hk : k < n) (h1 : G k = x) (h2 : ∀ i, i ≠ k → G i = F i) : (rngB n F).set k x = rngB n G := by
  refine List.ext_getElem? fun i => ?_
  unfold rngB
  rw [List.getElem?_set]
  by_cases e : k = i
  · subst e
    simp [hk, h1]
  · rw [if_neg e]
    by_cases hi : i < n
    · simp [hi, h2 i (fun q => e q.symm)]
    · simp [hi]
theorem rngB_zero {α : Type} (n : Nat) (x : α) : List.replicate n x = rngB n fun _ => x := by
  unfold rngB
  rw [List.map_const', List.length_range]
theorem rngB_congr {α : Type} {n : Nat} {F G : Nat → α} (h : ∀ i, i < n → F i = G i) : rngB n F = rngB n G := by
  unfold rngB
  refine List.map_congr_left fun i hi => h i (List.mem_range.1 hi)
/-- Which frames are above one. -/
def hiB (l : List Fr) (f i : Nat) : Bool := decide ((l.getD i Fr.o).r < (l.getD f Fr.o).r)
def hiL (l : List Fr) (f : Nat) : List Bool := rngB l.length (hiB l f)
set_option maxRecDepth 100000 in
set_option maxHeartbeats 4000000 in
theorem higher_any (f : Nat) (A : Option Addr) (q : Nat) (l : List Fr) (w : World) (hll : l.length ≤ 1000) (hfl : f < l.length) (h : Frs w w.heap.size (.slice A l.length q) l) :
    Calls Try.prog 37 #[.slice A l.length q, .int .i64 f] w fun e w' => ∃ g, e = .returned (.slice (some ⟨g, 0, none⟩) l.length l.length) ∧ BoB w' g (hiL l f) ∧ Below w.heap.size w w' := by
  obtain ⟨i1, hi1, jz0, jz1, jz2⟩ := info_parts infoBoolT
  obtain ⟨n, hn⟩ : ∃ n, l.length = n := ⟨_, rfl⟩
  have hmk : ∀ W : World, (Instr.makeSlice 78 (.int .i64 n) (.int .i64 n)).run Try.prog W = .ok (.slice (some ⟨W.heap.size, 0, none⟩) n n) (W.alloc (.cells (madeCells #[.bool false] (n * 1)) 4)) := fun W => by
    have h1 := run_make (P := Try.prog) W 78 4 i1 (.bool false) Try.underlying78 hi1 jz0 .i64 .i64 n n (by omega) (Int.le_refl _) (by rw [jz2]; omega) (by omega)
    rw [jz1] at h1
    simpa [Value.cells] using h1
  have H := hide h
  have hn1 : n ≤ 1000 := by omega
  have ff0 : (0 : Int) ≤ (f : Int) := by omega
  have ff1 : (f : Int) < (n : Int) := by omega
  have iq : (n : Int) ≤ (q : Int) := by have := h.cap; omega
  obtain ⟨bf, of, y, HY, rfl, hbf, hqf, _, _, _, _, ey⟩ := h.at hfl
  rw [hn]
  have HN := hide hn
  clear h hqf hn
  go_enter Try.func37, Try.ntmps37
  go_upto_region 2 with (fail)
  generalize hw1 : World.alloc _ _ = w1
  obtain ⟨hb1, hB1, hs1⟩ := alloc1 hw1
  obtain ⟨g0, hg0⟩ : ∃ z, w.heap.size = z := ⟨_, rfl⟩
  have hr0 : BoB w1 w.heap.size (rngB n fun i => decide (i < 0) && hiB l f i) := by
    have e : (rngB n fun i => decide (i < 0) && hiB l f i) = List.replicate n false := by rw [rngB_zero]; exact rngB_congr fun i _ => by simp
    rw [e]
    unfold BoB
    rw [hb1, made_boolsT]
  rw [hg0] at hr0 ⊢
  have HR1 := hide hr0
  have HB1 := hide hB1
  have HG0 := hide hg0
  clear hw1 hb1 hB1 hs1 hr0 hmk hg0
  go_wp2_with fail
  go_loopw [6, 7, 13] (fun _ _ iv wr => ∃ k : Nat, iv = .int .i64 k ∧ k ≤ n ∧ Hid (BoB wr g0 (rngB n fun i => decide (i < k) && hiB l f i)) ∧ Hid (Below w.heap.size w wr)) (fun _ _ iv _ => n - (intOf iv).toNat)
  case atStart => exact ⟨0, rfl, Nat.zero_le _, HR1.out, HB1.out⟩
  case round =>
    obtain ⟨k, rfl, hk, HO, HB⟩ := hrel
    by_cases hlt : k < n
    case neg =>
      have hlt1 : ¬ (k : Int) < (n : Int) := by omega
      have HE : Hid (BoB wr g0 (hiL l f)) := by
        show BoB _ _ _
        have e : (rngB n fun i => decide (i < k) && hiB l f i) = hiL l f := by
          unfold hiL
          rw [HN.out]
          exact rngB_congr fun i hi => by rw [decide_eq_true (by omega)]; rfl
        rw [← e]
        exact HO.out
      clear hlt
      go_wp2
      go_ret
      exact ⟨g0, rfl, HE.out, HB.out⟩
    case pos =>
      have hlt1 : (k : Int) < (n : Int) := by omega
      have ik0 : (0 : Int) ≤ (k : Int) := by omega
      obtain ⟨b', off', x, HX, hA', hbb, hq, e0, e1, e2, e3, e4⟩ := ((H.out.below HB.out).more HB.out.size).at (k := k) (by rw [HN.out]; exact hlt)
      injection hA' with hA'
      injection hA' with hA1 hA2 _
      subst hA1 hA2
      clear hq
      go_upto_region 5 with (fail)
      generalize hw0 : World.alloc _ _ = w0
      obtain ⟨hb0, hB0, hs0⟩ := alloc1 hw0
      obtain ⟨pb, hpb⟩ : ∃ z, wr.heap.size = z := ⟨_, rfl⟩
      have hgp : ¬ pb = g0 := by have := box_lt HO.out; omega
      have hbg : ¬ bf = g0 := by have := HG0.out; omega
      have hbw : bf < w0.heap.size := by have := HB.out.size; omega
      rw [hpb] at hb0 ⊢
      have c0 := cellOf hb0 0; have c1 := cellOf hb0 1; have c2 := cellOf hb0 2; have c3 := cellOf hb0 3; have c4 := cellOf hb0 4
      have hlc := box_lt hb0
      have HO0 := hide (HO.out.to hB0)
      have HB0 := hide (Below.to HB.out hB0 (Nat.le_refl _))
      have ez : w0.cell? ⟨bf, of + f * 5 + 4, none⟩ = some (.int .i64 y.r) := (HB0.out.cell (p := ⟨bf, of + f * 5 + 4, none⟩) hbf).trans ey
      have g1 := HO0.out.cell (k := k) (by rw [rngB_len]; exact hlt)
      have v1 := unfrozenOf HO0.out k
      have lg : g0 < w0.heap.size := box_lt HO0.out
      have hset : (rngB n fun i => decide (i < k) && hiB l f i).set k (decide (x.r < y.r)) = rngB n fun i => decide (i < k + 1) && hiB l f i := rngB_set hlt (by unfold hiB; rw [HX.out, HY.out]; simp) (fun i hi => by
        by_cases h1 : i < k
        · rw [decide_eq_true h1, decide_eq_true (show i < k + 1 by omega)]
        · rw [decide_eq_false h1, decide_eq_false (show ¬ i < k + 1 by omega)])
      have hnx : BoB ((w0.setCell ⟨g0, k, none⟩ (.bool (decide (x.r < y.r)))).drew) g0 (rngB n fun i => decide (i < k + 1) && hiB l f i) := by rw [← hset]; exact HO0.out.set
      have hgx : Below w.heap.size w (w0.setCell ⟨g0, k, none⟩ (.bool (decide (x.r < y.r)))).drew := Below.drew (Below.setCell HB0.out (by show w.heap.size ≤ g0; rw [HG0.out]; exact Nat.le_refl _) _)
      have hKeep : Hid (w0.grownBy w0.drew (some g0)) := only_drew (only_refl _ _)
      clear hw0 hb0 hB0 hs0 hpb e0 e1 e2 e3 e4 hset
      refine wp_region_held_drew (S := (fun w' => w0.grownBy w' (some g0))) (by kernel_rfl) ?_ (fun hHeld => ?_)
      · try dsimp only
        (first | exact only_refl _ _ | assumption | exact only_drew (only_refl _ _) | exact hKeep.out | exact only_drew (by assumption) | (refine only_trans hKeep.out ?_; refine only_setCell (only_setCell (only_setCell (only_setCell (only_refl _ _) ?_ _) ?_ _) ?_ _) ?_ _ <;> exact .inl rfl) | (refine only_trans hKeep.out ?_; refine only_setCell (only_refl _ _) ?_ _; exact .inl rfl))
      refine zG 0 rfl ?_
      refine zG 1 rfl ?_
      refine zG 2 rfl ?_
      refine zG 3 rfl ?_
      refine zG 4 rfl ?_
      refine zG 5 rfl ?_
      refine zG 6 rfl ?_
      refine zG 7 rfl ?_
      refine zG 8 rfl ?_
      refine zG 9 rfl ?_
      refine zG 10 rfl ?_
      refine wpAnyH_ready (rs := [11]) (by kernel_rfl) (by simp) ?_
      refine AllReadyH.cons rfl (fun K hK => ?_) AllReadyH.nil
      go_simp
      refine hK.out _ _ ?_ (fun hNext => ?_)
      · try dsimp only
        (first | exact only_refl _ _ | assumption | exact only_drew (only_refl _ _) | exact hKeep.out | exact only_drew (by assumption) | (refine only_trans hKeep.out ?_; refine only_setCell (only_setCell (only_setCell (only_setCell (only_refl _ _) ?_ _) ?_ _) ?_ _) ?_ _ <;> exact .inl rfl) | (refine only_trans hKeep.out ?_; refine only_setCell (only_refl _ _) ?_ _; exact .inl rfl))
      clear hK K hHeld
      have hHeld := hNext
      clear hNext
      (try dsimp only at hHeld)
      try simp only [zX]
      refine wpAnyH_done (by kernel_rfl) ?_ _
      generalize hw2 : World.drew (World.setCell _ _ _) = w2 at hnx hgx ⊢
      have HNX := hide hnx
      have HGX := hide hgx
      clear hw2 hnx hgx hHeld hKeep c0 c1 c2 c3 c4 hlc ez g1 v1 lg
      go_wp2_with fail
      go_roundw
      case rel => exact ⟨k + 1, by go_num, by omega, HNX, HGX⟩
      case measure => simp [intOf]; omega
end Go.Proofs.Ytmgfijadjclmpaa
/- Response, FromFrames: walks. -/
namespace Go.Proofs.Ytmgfijadjclmpaa
open Go.RowKit
set_option linter.unusedVariables false
set_option linter.unusedSimpArgs false
/-- What Response answers for a frame of valid ones. -/
def RsnP (l : List Fr) (f : Nat) (w : World) (e : Ending) (w' : World) : Prop :=
  ∃ (r z : Int), e = .returned (.tuple #[.int .i64 r, .int .i64 z]) ∧ (z = 0 → r ≤ 3000000 ∧ ∃ bl busy, RespP l (hiL l f) f r bl busy) ∧ Below w.heap.size w w'
set_option maxRecDepth 100000 in
set_option maxHeartbeats 4000000 in
theorem Response_any (f : Nat) (v : Value) (l : List Fr) (w : World) (hck : chkF l = 0) (hfl : f < l.length) (h : Frs w w.heap.size v l) :
    Calls Try.prog 18 #[v, .int .i64 f] w (RsnP l f w) := by
  have ok := frs_ok hck
  have hll := ok.len
  obtain ⟨A, q, rfl⟩ := h.form
  have hca := fun W (hW : Frs W W.heap.size (.slice A l.length q) l) => Check_any (.slice A l.length q) l W (by unfold maxLen; omega) hW
  rw [hck] at hca
  have HCA := hide hca
  have OK := hide ok
  have H := hide h
  have HIN : Hid (inR (f : Int) 0 ((l.length : Int) - 1) = true) := inR_iff.2 ⟨by omega, by omega⟩
  clear hck hca ok h
  go_enter Try.func18, Try.ntmps18
  go_wp2_with (first
    | (go_at_call 14; refine (HCA.out _ H.out).mono ?_; rintro e w1 ⟨rfl, hB1⟩; have HB1 := hide hB1; have H1 := hide (H.out.up hB1); clear hB1)
    | (go_at_call 23; refine (withinB_any _ _ _ _ HIN.out _).mono ?_; rintro e w5 ⟨rfl, rfl⟩)
    | (go_at_call 37; refine (higher_any f A q l _ (by omega) hfl H1.out).mono ?_; rintro e w2 ⟨g, rfl, hg, hB2⟩; have HG := hide hg; have HB2 := hide (Below.to HB1.out hB2 (Nat.le_refl _)); have H2 := hide (H1.out.up hB2); clear hg hB2)
    | (go_at_call 36; refine (by have hg := HG.out.bos; rw [show (hiL l f).length = l.length from rngB_len _ _] at hg; have h1 := response_any f A (some ⟨g, 0, none⟩) q l.length l (hiL l f) _ OK.out (rngB_len _ _) hfl H2.out (by rw [show (hiL l f).length = l.length from rngB_len _ _]; exact hg); rw [show (hiL l f).length = l.length from rngB_len _ _] at h1; exact h1 : Calls Try.prog 36 #[.slice A l.length q, .int .i64 f, .slice (some ⟨g, 0, none⟩) l.length l.length] w2 (RspP l (hiL l f) f w2)).mono ?_; rintro e w3 ⟨r, is, rfl, hr, hB3⟩; have HR := hide hr; have HB3 := hide (Below.to HB2.out hB3 (Nat.le_refl _)); clear hr hB3; cases is))
  · go_ret2
    exact ⟨0, 41, rfl, (fun h => by cases h), HB3.out⟩
  · go_ret2
    exact ⟨r, 0, rfl, (fun _ => HR.out (by first | rfl | trivial)), HB3.out⟩
theorem infoStep : (Try.prog.info? 42).map (fun i => (i.zero, i.size, i.bytes)) = some (some (.agg #[.int .i64 0, .int .i64 0, .int .i64 0, .bool false]), 4, 32) := by kernel_rfl
set_option maxRecDepth 100000 in
theorem whichBad_any (n : Int) (A : Option Addr) (q : Nat) (l : List Fr) (pb : Nat) (w : World) (hll : l.length ≤ 1000) (h : w.heap[pb]? = some (.cells #[.slice A l.length q] 22 (0, 0))) :
    Calls Try.prog 17 #[.int .i64 n, .pointer (some ⟨pb, 0, none⟩)] w fun e w' => e = .returned (.bool (!inR n 0 ((l.length : Int) - 1))) ∧ Below w.heap.size w w' := by
  have c0 := cellOf h 0
  have hlb := box_lt h
  obtain ⟨b, hb⟩ : ∃ b, inR n 0 ((l.length : Int) - 1) = b := ⟨_, rfl⟩
  rw [hb]
  have HB := hide hb
  clear h hb
  go_enter Try.func17, Try.ntmps17
  go_wp2_with (go_at_call 15; refine (withinC_any _ _ _ _ HB.out _).mono ?_; rintro e w1 ⟨rfl, rfl⟩)
  go_ret
  exact ⟨rfl, (by repeat (first | exact Below.refl _ _ | assumption | refine Below.drew ?_ | refine Below.drewN ?_ _ | refine Below.allocT ?_ (Nat.le_refl _) _ | refine Below.setCell ?_ (by simp <;> omega) _ | refine Below.to ?_ (by assumption) (Nat.le_refl _)))⟩
set_option maxRecDepth 100000 in
theorem index_which (p : Int → Bool) (c0 : Value) (v : Value) (gs : List Int) (w : World) (hm : gs.length ≤ maxLen) (h : Ints w w.heap.size v gs)
    (hf : ∀ (i : Nat) (x : Int)  (W : World), i < gs.length → gs.getD i 0 = x → Below w.heap.size w W → Calls Try.prog 17 #[.int .i64 x, c0] W fun e w' => e = .returned (.bool (p x)) ∧ Below W.heap.size W w') :
    Calls Try.prog 35 #[v, .func (.func 17) #[] #[c0]] w fun e w' => e = .returned (.int .i64 (idxI p gs)) ∧ Below w.heap.size w w' := by
  unfold maxLen at hm
  obtain ⟨A, cap, rfl⟩ := ints_formT h
  have H := hide h; clear h
  have HF := hide hf; clear hf
  go_enter Try.func35, Try.ntmps35
  go_wp2
  go_loopw [5, 8] (fun _ i wr => ∃ k : Nat, k ≤ gs.length ∧ i = .int .i64 k ∧ Hid (∀ j, j < k → p (gs.getD j 0) = false) ∧ Below w.heap.size w wr) (fun _ i _ => gs.length - (intOf i).toNat)
  case atStart => exact ⟨0, Nat.zero_le _, rfl, fun j hj => by omega, Below.refl _ _⟩
  case round =>
    obtain ⟨k, hk, rfl, hz, hB⟩ := hrel
    by_cases hlt : k < gs.length
    · obtain ⟨b, off, x, HX, rfl, hbb, hq, e0⟩ := ints_atT (H.out.below hB) hlt
      have hf := fun W (hW : Below w.heap.size w W) => HF.out k x  W hlt HX.out hW
      have HF2 := hide hf
      have HB := hide hB
      clear hf
      by_cases hp : p x = true
      · have HP := hide hp
        clear hp
        go_wp2_with (go_at_call 17; refine (HF2.out _ hB).mono ?_; rw [HP.out]; rintro e w1 ⟨rfl, hB1⟩)
        go_ret
        exact ⟨ret_int (idxI_at p 0 gs k hz.out hlt (by rw [HX.out]; exact HP.out)).symm, Below.to HB.out hB1 (Nat.le_refl _)⟩
      · have hp' : p x = false := by simpa using hp
        have HP := hide hp'
        clear hp hp'
        go_wp2_with (go_at_call 17; refine (HF2.out _ hB).mono ?_; rw [HP.out]; rintro e w1 ⟨rfl, hB1⟩)
        go_roundw
        case rel => exact ⟨k + 1, by omega, by go_num, fun j hj => by
            rcases Nat.lt_or_ge j k with h | h
            · exact hz.out j h
            · rw [show j = k from by omega, HX.out]; exact HP.out, Below.to HB.out hB1 (Nat.le_refl _)⟩
        case measure => simp [intOf]; omega
    · go_wp2
      go_ret
      exact ⟨ret_int (idxI_none p 0 gs (fun j hj => hz.out j (by omega))).symm, hB⟩
set_option maxRecDepth 100000 in
theorem contains_which (p : Int → Bool) (c0 : Value) (v : Value) (gs : List Int) (w : World) (hm : gs.length ≤ maxLen) (h : Ints w w.heap.size v gs)
    (hf : ∀ (i : Nat) (x : Int)  (W : World), i < gs.length → gs.getD i 0 = x → Below w.heap.size w W → Calls Try.prog 17 #[.int .i64 x, c0] W fun e w' => e = .returned (.bool (p x)) ∧ Below W.heap.size W w') :
    Calls Try.prog 16 #[v, .func (.func 17) #[] #[c0]] w fun e w' => e = .returned (.bool (gs.any p)) ∧ Below w.heap.size w w' := by
  have hc := index_which p c0 v gs w hm h hf
  have he := idxI_any p gs
  have hlo := idxI_lo p gs
  have hhi := idxI_hi p gs
  obtain ⟨z, hz⟩ : ∃ z, idxI p gs = z := ⟨_, rfl⟩
  rw [hz] at hc he hlo hhi
  obtain ⟨A, cap, rfl⟩ := ints_formT h
  have HC := hide hc
  have HE := hide he
  unfold maxLen at hm
  have hz2 : z ≤ 9223372036854775807 := by omega
  clear hc he hz h hf
  go_enter Try.func16, Try.ntmps16
  go_wp2_with (go_at_call 35; refine HC.out.mono ?_; rintro e w1 ⟨rfl, hB1⟩)
  go_ret
  exact ⟨ret_bool HE.out, hB1⟩

end Go.Proofs.Ytmgfijadjclmpaa

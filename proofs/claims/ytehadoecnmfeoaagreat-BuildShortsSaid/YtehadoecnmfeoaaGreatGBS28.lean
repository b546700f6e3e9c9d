/- Part 28 of this claim's texts: walks and plain laws. -/
import Derived.Test.YtehadoecnmfeoaaGreatRows
import Derived.Test.YtehadoecnmfeoaaGreatGBS27
import Derived.Deep.RegionHeld3
import Derived.Deep.DrawnRows
import Derived.Test.YtehadoecnmfeoaaGreatGBS3
set_option linter.unusedVariables false
set_option linter.unusedSimpArgs false
set_option linter.unusedSectionVars false
namespace Go.Proofs.YtehadoecnmfeoaaGreat
open Go.RowKit
theorem any_take {α : Type} {z : α} {p : α → Bool} {l : List α} {k i : Nat} (hk : k < i) (hi : i ≤ l.length) (h : p (l.getD k z) = true) : (l.take i).any p = true :=
 any_yes (z := z) (k := k) (by simp; omega) (by rw [take_getD' hk]; exact h)
theorem any_take_no {α : Type} {z : α} {p : α → Bool} {l : List α} {i : Nat} (h : ∀ m, m < i → p (l.getD m z) = false) (hi : i ≤ l.length) : (l.take i).any p = false :=
 any_no (z := z) fun j hj => by
  have hj2 : j < i := by simp at hj; omega
  rw [take_getD' hj2]
  exact h j hj2
theorem fromB_any (n lo hi : Int) (w : World) (b : Bool) (hb : btw n lo hi = b) : Calls Tryz.prog 152 #[.int .i64 n, .int .i64 lo, .int .i64 hi] w fun e w' => e = .returned (.bool b) ∧ w = w' := by
 subst hb
 exact from_any n lo hi w
set_option maxRecDepth 100000 in
set_option maxHeartbeats 16000000 in
theorem rplug_any (i : Nat) (A0 A1 A2 A3 A4 A5 : Option Addr) (q0 q1 q2 q3 q4 q5 : Nat) (l : Lo) (w : World) (hi : i < l.ps.length) (hs : SizedL l) (h : LoA w w.heap.size A0 A1 A2 A3 A4 A5 q0 q1 q2 q3 q4 q5 l) :
  Calls Tryz.prog 154 #[.agg #[.slice A0 l.m.opts.length q0, .slice A1 l.m.rules.length q1, .slice A2 l.ss.length q2, .slice A3 l.us.length q3, .slice A4 l.ps.length q4, .slice A5 l.ws.length q5], .int .i64 i] w fun e w' => e = .returned (.bool (plOk l i)) ∧ Below w.heap.size w w' := by
 have H := hide h
 obtain ⟨b, off, x, HX, rfl, hbb, hq, e0, e1, e2⟩ := h.pl hi
 have hsz : x.name.size ≤ maxLen := hs.pn x (by rw [← HX.out]; exact getD_mem3f hi)
 have hpl := hs.p
 have hwl := hs.w
 unfold maxLen at hpl hwl
 have ii : (i : Int) < (l.ps.length : Int) := by omega
 have iq : (l.ps.length : Int) ≤ (q4 : Int) := by omega
 clear h hs
 go_enter Tryz.func154, Tryz.ntmps154
 go_upto_region 1 with (fail)
 generalize hw0 : World.alloc _ _ = w0
 obtain ⟨hb0, hB0, hs0⟩ := alloc1 hw0
 have HL0 : Hid (LoBox w0 w.heap.size A0 A1 A2 A3 (some ⟨b, off, none⟩) A5 q0 q1 q2 q3 q4 q5 l) := hb0
 have c0 := cellOf hb0 4
 have l0 := box_lt hb0
 have HB0 := hide hB0
 have l2 : b < w0.heap.size := by omega
 have g0 := (hB0.cell (p := ⟨b, off + i * 3, none⟩) hbb).trans e0
 have g1 := (hB0.cell (p := ⟨b, off + i * 3 + 1, none⟩) hbb).trans e1
 have g2 := (hB0.cell (p := ⟨b, off + i * 3 + 2, none⟩) hbb).trans e2
 clear hw0 hb0 hB0 hs0 e0 e1 e2
 go_upto_region 2 with (fail)
 generalize hw1 : World.alloc _ _ = w1
 obtain ⟨hb1, hB1, hs1⟩ := alloc1 hw1
 have HP0 := hide hb1
 have HL1 := hide (HL0.out.to hB1)
 have HB1 := hide (Below.to HB0.out hB1 (Nat.le_refl _))
 clear hw1 hb1 hB1 hs1 c0 l0 l2 g0 g1 g2
 go_wp2_with fail
 go_loopw [6] (fun j wr => ∃ k : Nat, k ≤ i ∧ j = .int .i64 k ∧ Hid (∀ m, m < k → (bytes (l.ps.getD m Pl.o).name == bytes x.name) = false) ∧ Hid (Below w1.heap.size w1 wr)) (fun j _ => i - (intOf j).toNat)
 case atStart => exact ⟨0, Nat.zero_le _, rfl, fun m hm => by omega, Below.refl _ _⟩
 case round =>
  obtain ⟨k, hk, rfl, hall, hBr⟩ := hrel
  have HL := hide (HL1.out.to hBr.out)
  have HP1 := box_to HP0.out hBr.out
  have HP := hide HP1
  have HBW := hide (Below.to HB1.out hBr.out (Nat.le_refl _))
  obtain ⟨y0, y1, y2, y3, y4, y5⟩ := zL HL.out
  have z0 := cellOf HP1 0; have z1 := cellOf HP1 1; have z2 := cellOf HP1 2
  have ly := box_lt HL.out
  have lz := box_lt HP1
  clear HP1
  by_cases hki : k < i
  ·
   obtain ⟨b', off', u, HU, he, hbb', hq', f0, f1, f2⟩ := (H.out.below HBW.out).pl (show k < l.ps.length by omega)
   injection he with he
   injection he with he1 he2
   subst he1 he2
   have lb : b < wr.heap.size := Nat.lt_of_lt_of_le hbb HBW.out.size
   have ik0 : (0 : Int) ≤ (k : Int) := by omega
   have ik1 : (k : Int) < (i : Int) := by omega
   have ik2 : (k : Int) < (l.ps.length : Int) := by omega
   have hbe : (bytes (l.ps.getD k Pl.o).name == bytes x.name) = (u.name.toList == x.name.toList) := by rw [HU.out]; unfold bytes; rw [ByteArray.toList_eq, ByteArray.toList_eq]
   by_cases hn : u.name.toList = x.name.toList
   ·
    have n1 : (u.name.toList == x.name.toList) = true := by simp [hn]
    rw [n1] at hbe
    have hT : ((l.ps.take i).any fun q => bytes q.name == bytes x.name) = true := any_take hki (by omega) hbe
    have hr : plOk l i = false := by unfold plOk; rw [HX.out]; rw [hT]; simp
    have HR := hide hr
    clear hr hT hbe hn
    go_wp2_with fail
    refine wp_region_held_drew (S := (fun w' => Below wr.heap.size wr w')) (by kernel_rfl) ?_ (fun hHeld => ?_)
    ·
     try dsimp only
     exact zP
    refine zT 0 rfl ?_
    refine zT 1 rfl ?_
    refine zT 2 rfl ?_
    refine zT 3 rfl ?_
    refine zT 4 rfl ?_
    refine zT 5 rfl ?_
    refine zT 6 rfl ?_
    refine zT 7 rfl ?_
    refine zT 8 rfl ?_
    refine wpAnyH_done (by kernel_rfl) ?_ _
    go_wp2_with fail
    go_ret
    exact ⟨ret_bool HR.out.symm, Below.to HBW.out hHeld (Nat.le_refl _)⟩
   ·
    have n1 : (u.name.toList == x.name.toList) = false := by simpa using hn
    rw [n1] at hbe
    have HBE := hide hbe
    clear hbe
    go_wp2_with fail
    refine wp_region_held_drew (S := (fun w' => Below wr.heap.size wr w')) (by kernel_rfl) ?_ (fun hHeld => ?_)
    ·
     try dsimp only
     exact zP
    refine zT 0 rfl ?_
    refine zT 1 rfl ?_
    refine zT 2 rfl ?_
    refine zT 3 rfl ?_
    refine zT 4 rfl ?_
    refine zT 5 rfl ?_
    refine zT 6 rfl ?_
    refine zT 7 rfl ?_
    refine zT 8 rfl ?_
    refine wpAnyH_done (by kernel_rfl) ?_ _
    go_wp2_with fail
    go_roundw
    case rel => exact ⟨k + 1, by omega, by go_num, fun m hm => by
      rcases Nat.lt_or_ge m k with h | h
      ·
       exact hall.out m h
      ·
       rw [show m = k from by omega]; exact HBE.out, Below.to hBr.out hHeld (Nat.le_refl _)⟩
    case measure => simp [intOf]; omega
  ·
   have hke : k = i := by omega
   subst hke
   have HT : Hid (((l.ps.take k).any fun q => bytes q.name == bytes x.name) = false) := any_take_no hall.out (by omega)
   clear hall
   cases hN : lowB (bytes x.name) with
   | false =>
    have hr : plOk l k = false := by
     unfold plOk
     rw [HX.out]
     rw [hN, HT.out]
     simp
    have HR := hide hr
    clear hr
    have HN := hide hN
    clear hN
    go_wp2_with (first | (go_at_call 203; refine (rlow_any _ _ hsz).mono ?_; rw [show lowB x.name.data.toList = _ from HN.out]; rintro e w3 ⟨rfl, rfl⟩))
    go_ret
    exact ⟨ret_bool HR.out.symm, HBW.out⟩
   | true =>
    cases hS : btw x.spot 0 ((l.ss.length : Int) - 1) with
    | false =>
     have hr : plOk l k = false := by
      unfold plOk
      rw [HX.out]
      rw [hN, HT.out, hS]
      simp
     have HR := hide hr
     clear hr
     have HN := hide hN
     have HS := hide hS
     clear hN hS
     go_wp2_with (first | (go_at_call 203; refine (rlow_any _ _ hsz).mono ?_; rw [show lowB x.name.data.toList = _ from HN.out]; rintro e w3 ⟨rfl, rfl⟩) | (go_at_call 202; refine (rspot_any x.spot _ _ _ _ _ _ _ _ _ _ _ _ l _ _ HS.out).mono ?_; rintro e w4 ⟨rfl, hB4⟩; have HB4 := hide (Below.to HBW.out hB4 (Nat.le_refl _)); have p0 := cellOf (box_to HP.out hB4) 0; have p1 := cellOf (box_to HP.out hB4) 1; have p2 := cellOf (box_to HP.out hB4) 2; have lp4 := box_lt (box_to HP.out hB4); clear hB4 z0 z1 z2 lz))
     go_ret
     exact ⟨ret_bool HR.out.symm, HB4.out⟩
    | true =>
     cases hC : btw x.cav 1 40 with
     | false =>
      have hr : plOk l k = false := by
       unfold plOk
       rw [HX.out]
       rw [hN, HT.out, hS, hC]
       simp
      have HR := hide hr
      clear hr
      have HN := hide hN
      have HS := hide hS
      have HC := hide hC
      clear hN hS hC
      go_wp2_with (first | (go_at_call 203; refine (rlow_any _ _ hsz).mono ?_; rw [show lowB x.name.data.toList = _ from HN.out]; rintro e w3 ⟨rfl, rfl⟩) | (go_at_call 202; refine (rspot_any x.spot _ _ _ _ _ _ _ _ _ _ _ _ l _ _ HS.out).mono ?_; rintro e w4 ⟨rfl, hB4⟩; have HB4 := hide (Below.to HBW.out hB4 (Nat.le_refl _)); have p0 := cellOf (box_to HP.out hB4) 0; have p1 := cellOf (box_to HP.out hB4) 1; have p2 := cellOf (box_to HP.out hB4) 2; have lp4 := box_lt (box_to HP.out hB4); clear hB4 z0 z1 z2 lz) | (go_at_call 152; refine (fromB_any _ _ _ _ _ HC.out).mono ?_; rintro e w5 ⟨rfl, rfl⟩))
      go_ret
      exact ⟨ret_bool HR.out.symm, HB4.out⟩
     | true =>
      have hr : plOk l k = true := by
       unfold plOk
       rw [HX.out]
       rw [hN, HT.out, hS, hC]
       rfl
      have HR := hide hr
      clear hr
      have HN := hide hN
      have HS := hide hS
      have HC := hide hC
      clear hN hS hC
      go_wp2_with (first | (go_at_call 203; refine (rlow_any _ _ hsz).mono ?_; rw [show lowB x.name.data.toList = _ from HN.out]; rintro e w3 ⟨rfl, rfl⟩) | (go_at_call 202; refine (rspot_any x.spot _ _ _ _ _ _ _ _ _ _ _ _ l _ _ HS.out).mono ?_; rintro e w4 ⟨rfl, hB4⟩; have HB4 := hide (Below.to HBW.out hB4 (Nat.le_refl _)); have p0 := cellOf (box_to HP.out hB4) 0; have p1 := cellOf (box_to HP.out hB4) 1; have p2 := cellOf (box_to HP.out hB4) 2; have lp4 := box_lt (box_to HP.out hB4); clear hB4 z0 z1 z2 lz) | (go_at_call 152; refine (fromB_any _ _ _ _ _ HC.out).mono ?_; rintro e w5 ⟨rfl, rfl⟩))
      go_ret
      exact ⟨ret_bool HR.out.symm, HB4.out⟩
set_option maxRecDepth 100000 in
set_option maxHeartbeats 16000000 in
theorem rwire_any (i : Nat) (A0 A1 A2 A3 A4 A5 : Option Addr) (q0 q1 q2 q3 q4 q5 : Nat) (l : Lo) (w : World) (hi : i < l.ws.length) (hs : SizedL l) (h : LoA w w.heap.size A0 A1 A2 A3 A4 A5 q0 q1 q2 q3 q4 q5 l) :
  Calls Tryz.prog 155 #[.agg #[.slice A0 l.m.opts.length q0, .slice A1 l.m.rules.length q1, .slice A2 l.ss.length q2, .slice A3 l.us.length q3, .slice A4 l.ps.length q4, .slice A5 l.ws.length q5], .int .i64 i] w fun e w' => e = .returned (.bool (wiOk l i)) ∧ Below w.heap.size w w' := by
 have H := hide h
 obtain ⟨b, off, x, Af, qf, HX, rfl, hbb, hq, HFO, e0, e1, e2, e3, e4, e5, e6⟩ := h.wi hi
 have hsz : x.name.size ≤ maxLen := (hs.wn x (by rw [← HX.out]; exact getD_mem3f hi)).1
 have hpl := hs.p
 have hwl := hs.w
 unfold maxLen at hpl hwl
 have ii : (i : Int) < (l.ws.length : Int) := by omega
 have iq : (l.ws.length : Int) ≤ (q5 : Int) := by omega
 clear h hs
 go_enter Tryz.func155, Tryz.ntmps155
 go_upto_region 1 with (fail)
 generalize hw0 : World.alloc _ _ = w0
 obtain ⟨hb0, hB0, hs0⟩ := alloc1 hw0
 have HL0 : Hid (LoBox w0 w.heap.size A0 A1 A2 A3 A4 (some ⟨b, off, none⟩) q0 q1 q2 q3 q4 q5 l) := hb0
 have c0 := cellOf hb0 5
 have l0 := box_lt hb0
 have HB0 := hide hB0
 have l2 : b < w0.heap.size := by omega
 have g0 := (hB0.cell (p := ⟨b, off + i * 7, none⟩) hbb).trans e0
 have g1 := (hB0.cell (p := ⟨b, off + i * 7 + 1, none⟩) hbb).trans e1
 have g2 := (hB0.cell (p := ⟨b, off + i * 7 + 2, none⟩) hbb).trans e2
 have g3 := (hB0.cell (p := ⟨b, off + i * 7 + 3, none⟩) hbb).trans e3
 have g4 := (hB0.cell (p := ⟨b, off + i * 7 + 4, none⟩) hbb).trans e4
 have g5 := (hB0.cell (p := ⟨b, off + i * 7 + 5, none⟩) hbb).trans e5
 have g6 := (hB0.cell (p := ⟨b, off + i * 7 + 6, none⟩) hbb).trans e6
 clear hw0 hb0 hB0 hs0 e0 e1 e2 e3 e4 e5 e6
 go_upto_region 2 with (fail)
 generalize hw1 : World.alloc _ _ = w1
 obtain ⟨hb1, hB1, hs1⟩ := alloc1 hw1
 have HP0 := hide hb1
 have HL1 := hide (HL0.out.to hB1)
 have HB1 := hide (Below.to HB0.out hB1 (Nat.le_refl _))
 clear hw1 hb1 hB1 hs1 c0 l0 l2 g0 g1 g2 g3 g4 g5 g6
 go_wp2_with fail
 go_loopw [6] (fun j wr => ∃ k : Nat, k ≤ i ∧ j = .int .i64 k ∧ Hid (∀ m, m < k → (bytes (l.ws.getD m Wi.o).name == bytes x.name) = false) ∧ Hid (Below w1.heap.size w1 wr)) (fun j _ => i - (intOf j).toNat)
 case atStart => exact ⟨0, Nat.zero_le _, rfl, fun m hm => by omega, Below.refl _ _⟩
 case round =>
  obtain ⟨k, hk, rfl, hall, hBr⟩ := hrel
  have HL := hide (HL1.out.to hBr.out)
  have HP1 := box_to HP0.out hBr.out
  have HP := hide HP1
  have HBW := hide (Below.to HB1.out hBr.out (Nat.le_refl _))
  obtain ⟨y0, y1, y2, y3, y4, y5⟩ := zL HL.out
  obtain ⟨z0, z1, z2, z3, z4, z5, z6⟩ := zM HP1
  have ly := box_lt HL.out
  have lz := box_lt HP1
  clear HP1
  by_cases hki : k < i
  ·
   obtain ⟨b', off', u, Ag, qg, HU, he, hbb', hq', HGO, f0, f1, f2, f3, f4, f5, f6⟩ := (H.out.below HBW.out).wi (show k < l.ws.length by omega)
   injection he with he
   injection he with he1 he2
   subst he1 he2
   have lb : b < wr.heap.size := Nat.lt_of_lt_of_le hbb HBW.out.size
   have ik0 : (0 : Int) ≤ (k : Int) := by omega
   have ik1 : (k : Int) < (i : Int) := by omega
   have ik2 : (k : Int) < (l.ws.length : Int) := by omega
   have hbe : (bytes (l.ws.getD k Wi.o).name == bytes x.name) = (u.name.toList == x.name.toList) := by rw [HU.out]; unfold bytes; rw [ByteArray.toList_eq, ByteArray.toList_eq]
   by_cases hn : u.name.toList = x.name.toList
   ·
    have n1 : (u.name.toList == x.name.toList) = true := by simp [hn]
    rw [n1] at hbe
    have hT : ((l.ws.take i).any fun q => bytes q.name == bytes x.name) = true := any_take hki (by omega) hbe
    have hr : wiOk l i = false := by unfold wiOk; rw [HX.out]; rw [hT]; simp
    have HR := hide hr
    clear hr hT hbe hn
    go_wp2_with fail
    refine wp_region_held_drew (S := (fun w' => Below wr.heap.size wr w')) (by kernel_rfl) ?_ (fun hHeld => ?_)
    ·
     try dsimp only
     exact zP
    refine zT 0 rfl ?_
    refine zT 1 rfl ?_
    refine zT 2 rfl ?_
    refine zT 3 rfl ?_
    refine zT 4 rfl ?_
    refine zT 5 rfl ?_
    refine zT 6 rfl ?_
    refine zT 7 rfl ?_
    refine zT 8 rfl ?_
    refine wpAnyH_done (by kernel_rfl) ?_ _
    go_wp2_with fail
    go_ret
    exact ⟨ret_bool HR.out.symm, Below.to HBW.out hHeld (Nat.le_refl _)⟩
   ·
    have n1 : (u.name.toList == x.name.toList) = false := by simpa using hn
    rw [n1] at hbe
    have HBE := hide hbe
    clear hbe
    go_wp2_with fail
    refine wp_region_held_drew (S := (fun w' => Below wr.heap.size wr w')) (by kernel_rfl) ?_ (fun hHeld => ?_)
    ·
     try dsimp only
     exact zP
    refine zT 0 rfl ?_
    refine zT 1 rfl ?_
    refine zT 2 rfl ?_
    refine zT 3 rfl ?_
    refine zT 4 rfl ?_
    refine zT 5 rfl ?_
    refine zT 6 rfl ?_
    refine zT 7 rfl ?_
    refine zT 8 rfl ?_
    refine wpAnyH_done (by kernel_rfl) ?_ _
    go_wp2_with fail
    go_roundw
    case rel => exact ⟨k + 1, by omega, by go_num, fun m hm => by
      rcases Nat.lt_or_ge m k with h | h
      ·
       exact hall.out m h
      ·
       rw [show m = k from by omega]; exact HBE.out, Below.to hBr.out hHeld (Nat.le_refl _)⟩
    case measure => simp [intOf]; omega
  ·
   have hke : k = i := by omega
   subst hke
   have HT : Hid (((l.ws.take k).any fun q => bytes q.name == bytes x.name) = false) := any_take_no hall.out (by omega)
   clear hall
   cases hN : lowB (bytes x.name) with
   | false =>
    have hr : wiOk l k = false := by
     unfold wiOk
     rw [HX.out]
     rw [hN, HT.out]
     simp
    have HR := hide hr
    clear hr
    have HN := hide hN
    clear hN
    go_wp2_with (first | (go_at_call 203; refine (rlow_any _ _ hsz).mono ?_; rw [show lowB x.name.data.toList = _ from HN.out]; rintro e w3 ⟨rfl, rfl⟩))
    go_ret
    exact ⟨ret_bool HR.out.symm, HBW.out⟩
   | true =>
    cases hP : pinOk l x.fp x.fc with
    | false =>
     have hr : wiOk l k = false := by
      unfold wiOk
      rw [HX.out]
      rw [hN, HT.out, hP]
      simp
     have HR := hide hr
     clear hr
     have HN := hide hN
     have HP_ := hide hP
     clear hN hP
     go_wp2_with (first | (go_at_call 203; refine (rlow_any _ _ hsz).mono ?_; rw [show lowB x.name.data.toList = _ from HN.out]; rintro e w3 ⟨rfl, rfl⟩) | (go_at_call 204; refine (rpin_any x.fp x.fc _ _ _ _ _ _ _ _ _ _ _ _ l _ (H.out.up HBW.out) _ HP_.out).mono ?_; rintro e w4 ⟨rfl, hB4⟩; have HB4 := hide (Below.to HBW.out hB4 (Nat.le_refl _)); have HL4 := hide (HL.out.to hB4); obtain ⟨p0, p1, p2, p3, p4, p5, p6⟩ := zM (box_to HP.out hB4); obtain ⟨r0, r1, r2, r3, r4, r5⟩ := zL (HL.out.to hB4); have HP4 := hide (box_to HP.out hB4); have lp4 := box_lt (box_to HP.out hB4); have ll4 := box_lt (HL.out.to hB4); clear hB4 z0 z1 z2 z3 z4 z5 z6 y0 y1 y2 y3 y4 y5 lz ly))
     go_ret
     exact ⟨ret_bool HR.out.symm, HB4.out⟩
    | true =>
     cases hQ : pinOk l x.tp x.tc with
     | false =>
      have hr : wiOk l k = false := by
       unfold wiOk
       rw [HX.out]
       rw [hN, HT.out, hP, hQ]
       simp
      have HR := hide hr
      clear hr
      have HN := hide hN
      have HP_ := hide hP
      have HQ_ := hide hQ
      clear hN hP hQ
      go_wp2_with (first | (go_at_call 203; refine (rlow_any _ _ hsz).mono ?_; rw [show lowB x.name.data.toList = _ from HN.out]; rintro e w3 ⟨rfl, rfl⟩) | (go_at_call 204; refine (rpin_any x.tp x.tc _ _ _ _ _ _ _ _ _ _ _ _ l _ (H.out.up HB4.out) _ HQ_.out).mono ?_; rintro e w6 ⟨rfl, hB6⟩; have HB6 := hide (Below.to HB4.out hB6 (Nat.le_refl _)); obtain ⟨o0, o1, o2, o3, o4, o5, o6⟩ := zM (box_to HP4.out hB6); have lp6 := box_lt (box_to HP4.out hB6); clear hB6 p0 p1 p2 p3 p4 p5 p6 r0 r1 r2 r3 r4 r5 lp4 ll4) | (go_at_call 204; refine (rpin_any x.fp x.fc _ _ _ _ _ _ _ _ _ _ _ _ l _ (H.out.up HBW.out) _ HP_.out).mono ?_; rintro e w4 ⟨rfl, hB4⟩; have HB4 := hide (Below.to HBW.out hB4 (Nat.le_refl _)); have HL4 := hide (HL.out.to hB4); obtain ⟨p0, p1, p2, p3, p4, p5, p6⟩ := zM (box_to HP.out hB4); obtain ⟨r0, r1, r2, r3, r4, r5⟩ := zL (HL.out.to hB4); have HP4 := hide (box_to HP.out hB4); have lp4 := box_lt (box_to HP.out hB4); have ll4 := box_lt (HL.out.to hB4); clear hB4 z0 z1 z2 z3 z4 z5 z6 y0 y1 y2 y3 y4 y5 lz ly))
      go_ret
      exact ⟨ret_bool HR.out.symm, HB6.out⟩
     | true =>
      cases hE : (decide (x.fp = x.tp) && decide (x.fc = x.tc)) with
      | true =>
       have hr : wiOk l k = false := by
        unfold wiOk
        rw [HX.out]
        rw [hN, HT.out, hP, hQ, hE]
        simp
       have HR := hide hr
       clear hr
       have HN := hide hN
       have HP_ := hide hP
       have HQ_ := hide hQ
       clear hN hP hQ
       obtain ⟨n1, n2⟩ : x.fp = x.tp ∧ x.fc = x.tc := by simpa using hE
       have m1 : (x.fp == x.tp) = true := by simp [n1]
       have m2 : (x.fc == x.tc) = true := by simp [n2]
       have m3 : (x.fp != x.tp) = false := by simp [n1]
       have m4 : (x.fc != x.tc) = false := by simp [n2]
       have N1 := hide n1
       have N2 := hide n2
       clear hE n1 n2
       go_wp2_with (first | (go_at_call 203; refine (rlow_any _ _ hsz).mono ?_; rw [show lowB x.name.data.toList = _ from HN.out]; rintro e w3 ⟨rfl, rfl⟩) | (go_at_call 204; refine (rpin_any x.tp x.tc _ _ _ _ _ _ _ _ _ _ _ _ l _ (H.out.up HB4.out) _ HQ_.out).mono ?_; rintro e w6 ⟨rfl, hB6⟩; have HB6 := hide (Below.to HB4.out hB6 (Nat.le_refl _)); obtain ⟨o0, o1, o2, o3, o4, o5, o6⟩ := zM (box_to HP4.out hB6); have lp6 := box_lt (box_to HP4.out hB6); clear hB6 p0 p1 p2 p3 p4 p5 p6 r0 r1 r2 r3 r4 r5 lp4 ll4) | (go_at_call 204; refine (rpin_any x.fp x.fc _ _ _ _ _ _ _ _ _ _ _ _ l _ (H.out.up HBW.out) _ HP_.out).mono ?_; rintro e w4 ⟨rfl, hB4⟩; have HB4 := hide (Below.to HBW.out hB4 (Nat.le_refl _)); have HL4 := hide (HL.out.to hB4); obtain ⟨p0, p1, p2, p3, p4, p5, p6⟩ := zM (box_to HP.out hB4); obtain ⟨r0, r1, r2, r3, r4, r5⟩ := zL (HL.out.to hB4); have HP4 := hide (box_to HP.out hB4); have lp4 := box_lt (box_to HP.out hB4); have ll4 := box_lt (HL.out.to hB4); clear hB4 z0 z1 z2 z3 z4 z5 z6 y0 y1 y2 y3 y4 y5 lz ly))
       go_ret
       exact ⟨ret_bool HR.out.symm, HB6.out⟩
      | false =>
       cases hZ : btw x.size 1 10000 with
       | false =>
        have hr : wiOk l k = false := by
         unfold wiOk
         rw [HX.out]
         rw [hN, HT.out, hP, hQ, hE, hZ]
         simp
        have HR := hide hr
        clear hr
        have HN := hide hN
        have HP_ := hide hP
        have HQ_ := hide hQ
        have HZ := hide hZ
        clear hN hP hQ hZ
        by_cases n1 : x.fp = x.tp
        ·
         have m1 : (x.fp == x.tp) = true := by simp [n1]
         have m2 : (x.fc == x.tc) = false := by simpa [n1] using hE
         clear n1 hE
         go_wp2_with (first | (go_at_call 203; refine (rlow_any _ _ hsz).mono ?_; rw [show lowB x.name.data.toList = _ from HN.out]; rintro e w3 ⟨rfl, rfl⟩) | (go_at_call 204; refine (rpin_any x.tp x.tc _ _ _ _ _ _ _ _ _ _ _ _ l _ (H.out.up HB4.out) _ HQ_.out).mono ?_; rintro e w6 ⟨rfl, hB6⟩; have HB6 := hide (Below.to HB4.out hB6 (Nat.le_refl _)); obtain ⟨o0, o1, o2, o3, o4, o5, o6⟩ := zM (box_to HP4.out hB6); have lp6 := box_lt (box_to HP4.out hB6); clear hB6 p0 p1 p2 p3 p4 p5 p6 r0 r1 r2 r3 r4 r5 lp4 ll4) | (go_at_call 204; refine (rpin_any x.fp x.fc _ _ _ _ _ _ _ _ _ _ _ _ l _ (H.out.up HBW.out) _ HP_.out).mono ?_; rintro e w4 ⟨rfl, hB4⟩; have HB4 := hide (Below.to HBW.out hB4 (Nat.le_refl _)); have HL4 := hide (HL.out.to hB4); obtain ⟨p0, p1, p2, p3, p4, p5, p6⟩ := zM (box_to HP.out hB4); obtain ⟨r0, r1, r2, r3, r4, r5⟩ := zL (HL.out.to hB4); have HP4 := hide (box_to HP.out hB4); have lp4 := box_lt (box_to HP.out hB4); have ll4 := box_lt (HL.out.to hB4); clear hB4 z0 z1 z2 z3 z4 z5 z6 y0 y1 y2 y3 y4 y5 lz ly) | (go_at_call 152; refine (fromB_any _ _ _ _ _ HZ.out).mono ?_; rintro e w5 ⟨rfl, rfl⟩))
         go_ret
         exact ⟨ret_bool HR.out.symm, HB6.out⟩
        ·
         have m1 : (x.fp == x.tp) = false := by simpa using n1
         clear n1 hE
         go_wp2_with (first | (go_at_call 203; refine (rlow_any _ _ hsz).mono ?_; rw [show lowB x.name.data.toList = _ from HN.out]; rintro e w3 ⟨rfl, rfl⟩) | (go_at_call 204; refine (rpin_any x.tp x.tc _ _ _ _ _ _ _ _ _ _ _ _ l _ (H.out.up HB4.out) _ HQ_.out).mono ?_; rintro e w6 ⟨rfl, hB6⟩; have HB6 := hide (Below.to HB4.out hB6 (Nat.le_refl _)); obtain ⟨o0, o1, o2, o3, o4, o5, o6⟩ := zM (box_to HP4.out hB6); have lp6 := box_lt (box_to HP4.out hB6); clear hB6 p0 p1 p2 p3 p4 p5 p6 r0 r1 r2 r3 r4 r5 lp4 ll4) | (go_at_call 204; refine (rpin_any x.fp x.fc _ _ _ _ _ _ _ _ _ _ _ _ l _ (H.out.up HBW.out) _ HP_.out).mono ?_; rintro e w4 ⟨rfl, hB4⟩; have HB4 := hide (Below.to HBW.out hB4 (Nat.le_refl _)); have HL4 := hide (HL.out.to hB4); obtain ⟨p0, p1, p2, p3, p4, p5, p6⟩ := zM (box_to HP.out hB4); obtain ⟨r0, r1, r2, r3, r4, r5⟩ := zL (HL.out.to hB4); have HP4 := hide (box_to HP.out hB4); have lp4 := box_lt (box_to HP.out hB4); have ll4 := box_lt (HL.out.to hB4); clear hB4 z0 z1 z2 z3 z4 z5 z6 y0 y1 y2 y3 y4 y5 lz ly) | (go_at_call 152; refine (fromB_any _ _ _ _ _ HZ.out).mono ?_; rintro e w5 ⟨rfl, rfl⟩))
         go_ret
         exact ⟨ret_bool HR.out.symm, HB6.out⟩
       | true =>
        have hr : wiOk l k = true := by
         unfold wiOk
         rw [HX.out]
         rw [hN, HT.out, hP, hQ, hE, hZ]
         rfl
        have HR := hide hr
        clear hr
        have HN := hide hN
        have HP_ := hide hP
        have HQ_ := hide hQ
        have HZ := hide hZ
        clear hN hP hQ hZ
        by_cases n1 : x.fp = x.tp
        ·
         have m1 : (x.fp == x.tp) = true := by simp [n1]
         have m2 : (x.fc == x.tc) = false := by simpa [n1] using hE
         clear n1 hE
         go_wp2_with (first | (go_at_call 203; refine (rlow_any _ _ hsz).mono ?_; rw [show lowB x.name.data.toList = _ from HN.out]; rintro e w3 ⟨rfl, rfl⟩) | (go_at_call 204; refine (rpin_any x.tp x.tc _ _ _ _ _ _ _ _ _ _ _ _ l _ (H.out.up HB4.out) _ HQ_.out).mono ?_; rintro e w6 ⟨rfl, hB6⟩; have HB6 := hide (Below.to HB4.out hB6 (Nat.le_refl _)); obtain ⟨o0, o1, o2, o3, o4, o5, o6⟩ := zM (box_to HP4.out hB6); have lp6 := box_lt (box_to HP4.out hB6); clear hB6 p0 p1 p2 p3 p4 p5 p6 r0 r1 r2 r3 r4 r5 lp4 ll4) | (go_at_call 204; refine (rpin_any x.fp x.fc _ _ _ _ _ _ _ _ _ _ _ _ l _ (H.out.up HBW.out) _ HP_.out).mono ?_; rintro e w4 ⟨rfl, hB4⟩; have HB4 := hide (Below.to HBW.out hB4 (Nat.le_refl _)); have HL4 := hide (HL.out.to hB4); obtain ⟨p0, p1, p2, p3, p4, p5, p6⟩ := zM (box_to HP.out hB4); obtain ⟨r0, r1, r2, r3, r4, r5⟩ := zL (HL.out.to hB4); have HP4 := hide (box_to HP.out hB4); have lp4 := box_lt (box_to HP.out hB4); have ll4 := box_lt (HL.out.to hB4); clear hB4 z0 z1 z2 z3 z4 z5 z6 y0 y1 y2 y3 y4 y5 lz ly) | (go_at_call 152; refine (fromB_any _ _ _ _ _ HZ.out).mono ?_; rintro e w5 ⟨rfl, rfl⟩))
         go_ret
         exact ⟨ret_bool HR.out.symm, HB6.out⟩
        ·
         have m1 : (x.fp == x.tp) = false := by simpa using n1
         clear n1 hE
         go_wp2_with (first | (go_at_call 203; refine (rlow_any _ _ hsz).mono ?_; rw [show lowB x.name.data.toList = _ from HN.out]; rintro e w3 ⟨rfl, rfl⟩) | (go_at_call 204; refine (rpin_any x.tp x.tc _ _ _ _ _ _ _ _ _ _ _ _ l _ (H.out.up HB4.out) _ HQ_.out).mono ?_; rintro e w6 ⟨rfl, hB6⟩; have HB6 := hide (Below.to HB4.out hB6 (Nat.le_refl _)); obtain ⟨o0, o1, o2, o3, o4, o5, o6⟩ := zM (box_to HP4.out hB6); have lp6 := box_lt (box_to HP4.out hB6); clear hB6 p0 p1 p2 p3 p4 p5 p6 r0 r1 r2 r3 r4 r5 lp4 ll4) | (go_at_call 204; refine (rpin_any x.fp x.fc _ _ _ _ _ _ _ _ _ _ _ _ l _ (H.out.up HBW.out) _ HP_.out).mono ?_; rintro e w4 ⟨rfl, hB4⟩; have HB4 := hide (Below.to HBW.out hB4 (Nat.le_refl _)); have HL4 := hide (HL.out.to hB4); obtain ⟨p0, p1, p2, p3, p4, p5, p6⟩ := zM (box_to HP.out hB4); obtain ⟨r0, r1, r2, r3, r4, r5⟩ := zL (HL.out.to hB4); have HP4 := hide (box_to HP.out hB4); have lp4 := box_lt (box_to HP.out hB4); have ll4 := box_lt (HL.out.to hB4); clear hB4 z0 z1 z2 z3 z4 z5 z6 y0 y1 y2 y3 y4 y5 lz ly) | (go_at_call 152; refine (fromB_any _ _ _ _ _ HZ.out).mono ?_; rintro e w5 ⟨rfl, rfl⟩))
         go_ret
         exact ⟨ret_bool HR.out.symm, HB6.out⟩
end Go.Proofs.YtehadoecnmfeoaaGreat

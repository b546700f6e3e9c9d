/- Part 22 of this claim's texts: walks and plain laws. -/
import Derived.Test.YtehadoecnmfeoaaGreatRows
import Derived.Test.YtehadoecnmfeoaaGreatGBS21
import Derived.Deep.RegionHeld3
import Derived.Deep.DrawnRows
import Derived.Test.YtehadoecnmfeoaaGreatGBS3
set_option linter.unusedVariables false
set_option linter.unusedSimpArgs false
set_option linter.unusedSectionVars false
namespace Go.Proofs.YtehadoecnmfeoaaGreat
open Go.RowKit
theorem getD_mem2 {α : Type} {l : List α} {z : α} {k : Nat} (h : k < l.length) : l.getD k z ∈ l := by
 rw [List.getD_eq_getElem?_getD, List.getElem?_eq_getElem h]
 exact List.getElem_mem h
theorem withinB_any (n lo hi : Int) (w : World) (b : Bool) (hb : btw n lo hi = b) : Calls Tryz.prog 106 #[.int .i64 n, .int .i64 lo, .int .i64 hi] w fun e w' => e = .returned (.bool b) ∧ w = w' := by
 subst hb
 exact within_any n lo hi w
set_option maxRecDepth 100000 in
set_option maxHeartbeats 8000000 in
theorem ckRun_any (i : Int) (ra rb rl rr : Int) (A0 A1 A2 A3 A4 A5 : Option Addr) (q0 q1 q2 q3 q4 q5 : Nat) (l : Lo) (sb lb : Nat) (w : World) (hm : l.ss.length ≤ maxLen) (hL : LoBox w lb A0 A1 A2 A3 A4 A5 q0 q1 q2 q3 q4 q5 l) (hS : FnBox w sb 135 #[.pointer (some ⟨lb, 0, none⟩)] 114) (h : LoA w w.heap.size A0 A1 A2 A3 A4 A5 q0 q1 q2 q3 q4 q5 l) (hok : ∀ x ∈ l.ss, x.ok = true) :
  Calls Tryz.prog 137 #[.int .i64 i, .agg #[.int .i64 ra, .int .i64 rb, .int .i64 rl, .int .i64 rr], .pointer (some ⟨sb, 0, none⟩), .pointer (some ⟨lb, 0, none⟩)] w fun e w' => e = .returned (.int .i64 (mustE (Ru.ok l.ss ⟨ra, rb, rl, rr⟩) 61)) ∧ Below w.heap.size w w' := by
 have H := hide h
 have HOK := hide hok
 have HL1 := hide hL
 have HS := hide hS
 clear h hok hL hS
 cases hA : btw ra 0 ((l.ss.length : Int) - 1) with
 | false =>
  have hr : Ru.ok l.ss ⟨ra, rb, rl, rr⟩ = false := by unfold Ru.ok; simp only []; rw [hA]; simp
  have HR := hide hr
  have HA := hide hA
  clear hr hA
  go_enter Tryz.func137, Tryz.ntmps137
  go_upto_region 1 with (fail)
  generalize hw0 : World.alloc _ _ = w0
  obtain ⟨hb0, hB0, hs0⟩ := alloc1 hw0
  have c0 := cellOf hb0 0
  have c1 := cellOf hb0 1
  have c2 := cellOf hb0 2
  have c3 := cellOf hb0 3
  have l0 : w.heap.size < w0.heap.size := by omega
  have HL := hide (HL1.out.to hB0)
  have s0 := cellOf (HS.out.to hB0) 0
  have lsb : sb < w0.heap.size := by have := box_lt HS.out; omega
  have HB0 := hide hB0
  clear hw0 hb0 hs0 hB0
  go_upto_region 2 with (first | (go_at_call 135; refine (spotN_any _ _ _ _ _ _ _ _ _ _ _ _ _ l lb _ hm HL.out _ (by first | exact HA.out)).mono ?_; rintro e w1 ⟨rfl, rfl⟩) | (go_at_call 106; refine (withinB_any _ _ _ _ _ (by first | fail)).mono ?_; rintro e w1 ⟨rfl, rfl⟩))
  refine wp_region_held_drew (S := (fun w' => Below w0.heap.size w0 w')) (by kernel_rfl) ?_ (fun hHeld => ?_)
  ·
   try dsimp only
   exact zP
  refine zT 0 rfl ?_
  refine zT 1 rfl ?_
  refine zS 2 rfl ?_
  refine zS 3 rfl ?_
  refine zS 4 rfl ?_
  refine zS 5 rfl ?_
  refine zS 6 rfl ?_
  refine zS 7 rfl ?_
  refine zS 8 rfl ?_
  refine zS 9 rfl ?_
  refine zS 10 rfl ?_
  refine zS 11 rfl ?_
  refine zS 12 rfl ?_
  refine zS 13 rfl ?_
  refine zS 14 rfl ?_
  refine zS 15 rfl ?_
  refine zS 16 rfl ?_
  refine zS 17 rfl ?_
  refine zS 18 rfl ?_
  refine zS 19 rfl ?_
  refine zS 20 rfl ?_
  refine zT 21 rfl ?_
  refine wpAnyH_ready (rs := [22]) (by kernel_rfl) (by simp) ?_
  refine AllReadyH.cons rfl (fun K hK => ?_) AllReadyH.nil
  go_simp
  ((go_at_call 134; refine (must_any _ _ _).mono ?_; rintro e w1 ⟨rfl, rfl⟩))
  (try dsimp only)
  refine hK.out _ _ zP fun hNext => ?_; clear hK K hHeld; have hHeld := hNext; clear hNext; (try dsimp only at hHeld); try simp only [zX]
  refine zT 23 rfl ?_
  refine wpAnyH_done (by kernel_rfl) ?_ _
  go_wp2_with fail
  go_ret
  exact ⟨ret_int (by rw [HR.out]), Below.to HB0.out hHeld (Nat.le_refl _)⟩
 | true =>
  cases hB : btw rb 0 ((l.ss.length : Int) - 1) with
  | false =>
   have hr : Ru.ok l.ss ⟨ra, rb, rl, rr⟩ = false := by unfold Ru.ok; simp only []; rw [hA, hB]; simp
   have HR := hide hr
   have HA := hide hA
   have HB := hide hB
   clear hr hA hB
   go_enter Tryz.func137, Tryz.ntmps137
   go_upto_region 1 with (fail)
   generalize hw0 : World.alloc _ _ = w0
   obtain ⟨hb0, hB0, hs0⟩ := alloc1 hw0
   have c0 := cellOf hb0 0
   have c1 := cellOf hb0 1
   have c2 := cellOf hb0 2
   have c3 := cellOf hb0 3
   have l0 : w.heap.size < w0.heap.size := by omega
   have HL := hide (HL1.out.to hB0)
   have s0 := cellOf (HS.out.to hB0) 0
   have lsb : sb < w0.heap.size := by have := box_lt HS.out; omega
   have HB0 := hide hB0
   clear hw0 hb0 hs0 hB0
   go_upto_region 2 with (first | (go_at_call 135; refine (spotN_any _ _ _ _ _ _ _ _ _ _ _ _ _ l lb _ hm HL.out _ (by first | exact HA.out | exact HB.out)).mono ?_; rintro e w1 ⟨rfl, rfl⟩) | (go_at_call 106; refine (withinB_any _ _ _ _ _ (by first | fail)).mono ?_; rintro e w1 ⟨rfl, rfl⟩))
   refine wp_region_held_drew (S := (fun w' => Below w0.heap.size w0 w')) (by kernel_rfl) ?_ (fun hHeld => ?_)
   ·
    try dsimp only
    exact zP
   refine zT 0 rfl ?_
   refine zT 1 rfl ?_
   refine zS 2 rfl ?_
   refine zS 3 rfl ?_
   refine zS 4 rfl ?_
   refine zS 5 rfl ?_
   refine zS 6 rfl ?_
   refine zS 7 rfl ?_
   refine zS 8 rfl ?_
   refine zS 9 rfl ?_
   refine zS 10 rfl ?_
   refine zS 11 rfl ?_
   refine zS 12 rfl ?_
   refine zS 13 rfl ?_
   refine zS 14 rfl ?_
   refine zS 15 rfl ?_
   refine zS 16 rfl ?_
   refine zS 17 rfl ?_
   refine zS 18 rfl ?_
   refine zS 19 rfl ?_
   refine zS 20 rfl ?_
   refine zT 21 rfl ?_
   refine wpAnyH_ready (rs := [22]) (by kernel_rfl) (by simp) ?_
   refine AllReadyH.cons rfl (fun K hK => ?_) AllReadyH.nil
   go_simp
   ((go_at_call 134; refine (must_any _ _ _).mono ?_; rintro e w1 ⟨rfl, rfl⟩))
   (try dsimp only)
   refine hK.out _ _ zP fun hNext => ?_; clear hK K hHeld; have hHeld := hNext; clear hNext; (try dsimp only at hHeld); try simp only [zX]
   refine zT 23 rfl ?_
   refine wpAnyH_done (by kernel_rfl) ?_ _
   go_wp2_with fail
   go_ret
   exact ⟨ret_int (by rw [HR.out]), Below.to HB0.out hHeld (Nat.le_refl _)⟩
  | true =>
   cases hN : decide (ra ≠ rb) with
   | false =>
    have hr : Ru.ok l.ss ⟨ra, rb, rl, rr⟩ = false := by unfold Ru.ok; simp only []; rw [hA, hB, hN]; simp
    have HR := hide hr
    have HA := hide hA
    have HB := hide hB
    have hnn : (ra != rb) = false := by simpa using hN
    clear hr hA hB hN
    go_enter Tryz.func137, Tryz.ntmps137
    go_upto_region 1 with (fail)
    generalize hw0 : World.alloc _ _ = w0
    obtain ⟨hb0, hB0, hs0⟩ := alloc1 hw0
    have c0 := cellOf hb0 0
    have c1 := cellOf hb0 1
    have c2 := cellOf hb0 2
    have c3 := cellOf hb0 3
    have l0 : w.heap.size < w0.heap.size := by omega
    have HL := hide (HL1.out.to hB0)
    have s0 := cellOf (HS.out.to hB0) 0
    have lsb : sb < w0.heap.size := by have := box_lt HS.out; omega
    have HB0 := hide hB0
    clear hw0 hb0 hs0 hB0
    go_upto_region 2 with (first | (go_at_call 135; refine (spotN_any _ _ _ _ _ _ _ _ _ _ _ _ _ l lb _ hm HL.out _ (by first | exact HA.out | exact HB.out)).mono ?_; rintro e w1 ⟨rfl, rfl⟩) | (go_at_call 106; refine (withinB_any _ _ _ _ _ (by first | fail)).mono ?_; rintro e w1 ⟨rfl, rfl⟩))
    refine wp_region_held_drew (S := (fun w' => Below w0.heap.size w0 w')) (by kernel_rfl) ?_ (fun hHeld => ?_)
    ·
     try dsimp only
     exact zP
    refine zT 0 rfl ?_
    refine zT 1 rfl ?_
    refine zS 2 rfl ?_
    refine zS 3 rfl ?_
    refine zS 4 rfl ?_
    refine zS 5 rfl ?_
    refine zS 6 rfl ?_
    refine zS 7 rfl ?_
    refine zS 8 rfl ?_
    refine zS 9 rfl ?_
    refine zS 10 rfl ?_
    refine zS 11 rfl ?_
    refine zS 12 rfl ?_
    refine zS 13 rfl ?_
    refine zS 14 rfl ?_
    refine zS 15 rfl ?_
    refine zS 16 rfl ?_
    refine zS 17 rfl ?_
    refine zS 18 rfl ?_
    refine zS 19 rfl ?_
    refine zS 20 rfl ?_
    refine zT 21 rfl ?_
    refine wpAnyH_ready (rs := [22]) (by kernel_rfl) (by simp) ?_
    refine AllReadyH.cons rfl (fun K hK => ?_) AllReadyH.nil
    go_simp
    ((go_at_call 134; refine (must_any _ _ _).mono ?_; rintro e w1 ⟨rfl, rfl⟩))
    (try dsimp only)
    refine hK.out _ _ zP fun hNext => ?_; clear hK K hHeld; have hHeld := hNext; clear hNext; (try dsimp only at hHeld); try simp only [zX]
    refine zT 23 rfl ?_
    refine wpAnyH_done (by kernel_rfl) ?_ _
    go_wp2_with fail
    go_ret
    exact ⟨ret_int (by rw [HR.out]), Below.to HB0.out hHeld (Nat.le_refl _)⟩
   | true =>
    cases hC : btw rl 1 1000000 with
    | false =>
     have hr : Ru.ok l.ss ⟨ra, rb, rl, rr⟩ = false := by unfold Ru.ok; simp only []; rw [hA, hB, hN, hC]; simp
     have HR := hide hr
     have HA := hide hA
     have HB := hide hB
     have HC := hide hC
     have hnn : (ra != rb) = true := by simpa using hN
     clear hr hA hB hN hC
     go_enter Tryz.func137, Tryz.ntmps137
     go_upto_region 1 with (fail)
     generalize hw0 : World.alloc _ _ = w0
     obtain ⟨hb0, hB0, hs0⟩ := alloc1 hw0
     have c0 := cellOf hb0 0
     have c1 := cellOf hb0 1
     have c2 := cellOf hb0 2
     have c3 := cellOf hb0 3
     have l0 : w.heap.size < w0.heap.size := by omega
     have HL := hide (HL1.out.to hB0)
     have s0 := cellOf (HS.out.to hB0) 0
     have lsb : sb < w0.heap.size := by have := box_lt HS.out; omega
     have HB0 := hide hB0
     clear hw0 hb0 hs0 hB0
     go_upto_region 2 with (first | (go_at_call 135; refine (spotN_any _ _ _ _ _ _ _ _ _ _ _ _ _ l lb _ hm HL.out _ (by first | exact HA.out | exact HB.out)).mono ?_; rintro e w1 ⟨rfl, rfl⟩) | (go_at_call 106; refine (withinB_any _ _ _ _ _ (by first | exact HC.out)).mono ?_; rintro e w1 ⟨rfl, rfl⟩))
     refine wp_region_held_drew (S := (fun w' => Below w0.heap.size w0 w')) (by kernel_rfl) ?_ (fun hHeld => ?_)
     ·
      try dsimp only
      exact zP
     refine zT 0 rfl ?_
     refine zT 1 rfl ?_
     refine zS 2 rfl ?_
     refine zS 3 rfl ?_
     refine zS 4 rfl ?_
     refine zS 5 rfl ?_
     refine zS 6 rfl ?_
     refine zS 7 rfl ?_
     refine zS 8 rfl ?_
     refine zS 9 rfl ?_
     refine zS 10 rfl ?_
     refine zS 11 rfl ?_
     refine zS 12 rfl ?_
     refine zS 13 rfl ?_
     refine zS 14 rfl ?_
     refine zS 15 rfl ?_
     refine zS 16 rfl ?_
     refine zS 17 rfl ?_
     refine zS 18 rfl ?_
     refine zS 19 rfl ?_
     refine zS 20 rfl ?_
     refine zT 21 rfl ?_
     refine wpAnyH_ready (rs := [22]) (by kernel_rfl) (by simp) ?_
     refine AllReadyH.cons rfl (fun K hK => ?_) AllReadyH.nil
     go_simp
     ((go_at_call 134; refine (must_any _ _ _).mono ?_; rintro e w1 ⟨rfl, rfl⟩))
     (try dsimp only)
     refine hK.out _ _ zP fun hNext => ?_; clear hK K hHeld; have hHeld := hNext; clear hNext; (try dsimp only at hHeld); try simp only [zX]
     refine zT 23 rfl ?_
     refine wpAnyH_done (by kernel_rfl) ?_ _
     go_wp2_with fail
     go_ret
     exact ⟨ret_int (by rw [HR.out]), Below.to HB0.out hHeld (Nat.le_refl _)⟩
    | true =>
     cases hD : btw rr 0 1000000 with
     | false =>
      have hr : Ru.ok l.ss ⟨ra, rb, rl, rr⟩ = false := by unfold Ru.ok; simp only []; rw [hA, hB, hN, hC, hD]; simp
      have HR := hide hr
      have HA := hide hA
      have HB := hide hB
      have HC := hide hC
      have HD := hide hD
      have hnn : (ra != rb) = true := by simpa using hN
      clear hr hA hB hN hC hD
      go_enter Tryz.func137, Tryz.ntmps137
      go_upto_region 1 with (fail)
      generalize hw0 : World.alloc _ _ = w0
      obtain ⟨hb0, hB0, hs0⟩ := alloc1 hw0
      have c0 := cellOf hb0 0
      have c1 := cellOf hb0 1
      have c2 := cellOf hb0 2
      have c3 := cellOf hb0 3
      have l0 : w.heap.size < w0.heap.size := by omega
      have HL := hide (HL1.out.to hB0)
      have s0 := cellOf (HS.out.to hB0) 0
      have lsb : sb < w0.heap.size := by have := box_lt HS.out; omega
      have HB0 := hide hB0
      clear hw0 hb0 hs0 hB0
      go_upto_region 2 with (first | (go_at_call 135; refine (spotN_any _ _ _ _ _ _ _ _ _ _ _ _ _ l lb _ hm HL.out _ (by first | exact HA.out | exact HB.out)).mono ?_; rintro e w1 ⟨rfl, rfl⟩) | (go_at_call 106; refine (withinB_any _ _ _ _ _ (by first | exact HC.out | exact HD.out)).mono ?_; rintro e w1 ⟨rfl, rfl⟩))
      refine wp_region_held_drew (S := (fun w' => Below w0.heap.size w0 w')) (by kernel_rfl) ?_ (fun hHeld => ?_)
      ·
       try dsimp only
       exact zP
      refine zT 0 rfl ?_
      refine zT 1 rfl ?_
      refine zS 2 rfl ?_
      refine zS 3 rfl ?_
      refine zS 4 rfl ?_
      refine zS 5 rfl ?_
      refine zS 6 rfl ?_
      refine zS 7 rfl ?_
      refine zS 8 rfl ?_
      refine zS 9 rfl ?_
      refine zS 10 rfl ?_
      refine zS 11 rfl ?_
      refine zS 12 rfl ?_
      refine zS 13 rfl ?_
      refine zS 14 rfl ?_
      refine zS 15 rfl ?_
      refine zS 16 rfl ?_
      refine zS 17 rfl ?_
      refine zS 18 rfl ?_
      refine zS 19 rfl ?_
      refine zS 20 rfl ?_
      refine zT 21 rfl ?_
      refine wpAnyH_ready (rs := [22]) (by kernel_rfl) (by simp) ?_
      refine AllReadyH.cons rfl (fun K hK => ?_) AllReadyH.nil
      go_simp
      ((go_at_call 134; refine (must_any _ _ _).mono ?_; rintro e w1 ⟨rfl, rfl⟩))
      (try dsimp only)
      refine hK.out _ _ zP fun hNext => ?_; clear hK K hHeld; have hHeld := hNext; clear hNext; (try dsimp only at hHeld); try simp only [zX]
      refine zT 23 rfl ?_
      refine wpAnyH_done (by kernel_rfl) ?_ _
      go_wp2_with fail
      go_ret
      exact ⟨ret_int (by rw [HR.out]), Below.to HB0.out hHeld (Nat.le_refl _)⟩
     | true =>
      have hnn : (ra != rb) = true := by simpa using hN
      rw [btw_iff] at hA hB hC hD
      obtain ⟨a1, a2⟩ := hA
      obtain ⟨b1, b2⟩ := hB
      obtain ⟨d1, d2⟩ := hC
      have HA : Hid (btw ra 0 ((l.ss.length : Int) - 1) = true) := btw_t a1 a2
      have HB : Hid (btw rb 0 ((l.ss.length : Int) - 1) = true) := btw_t b1 b2
      have HC : Hid (btw rl 1 1000000 = true) := btw_t d1 d2
      have HD : Hid (btw rr 0 1000000 = true) := btw_t hD.1 hD.2
      obtain ⟨ka, rfl⟩ := Int.eq_ofNat_of_zero_le a1
      obtain ⟨kb, rfl⟩ := Int.eq_ofNat_of_zero_le b1
      obtain ⟨bf, off, xa, HXA, rfl, hbb, hq, e0, e1, e2⟩ := H.out.sp (k := ka) (by omega)
      obtain ⟨bf', off', xb, HXB, he, hbb', hq', f0, f1, f2⟩ := H.out.sp (k := kb) (by omega)
      injection he with he
      injection he with he1 he2
      subst he1 he2
      have hxa : xa.ok = true := by rw [← HXA.out]; exact HOK.out _ (getD_mem2 (by omega))
      have hxb : xb.ok = true := by rw [← HXB.out]; exact HOK.out _ (getD_mem2 (by omega))
      have hsq := sqS_bd hxa hxb
      have hr : Ru.ok l.ss ⟨ka, kb, rl, rr⟩ = decide (sqS xa xb ≤ rl * rl) := by
       unfold Ru.ok
       simp only []
       rw [HA.out, HB.out, hN, HC.out, HD.out, Int.toNat_natCast, Int.toNat_natCast, HXA.out, HXB.out]
       simp
      have HR := hide hr
      have HXK := hide hxa
      have HXL := hide hxb
      have hll := sq_bd (x := rl) (c := 1000000) (by omega) (by omega) (by omega)
      obtain ⟨sq, hsq2⟩ : ∃ z, sqS xa xb = z := ⟨_, rfl⟩
      have HSQ := hide hsq2
      rw [hsq2] at hsq HR
      have ia : (ka : Int) < (l.ss.length : Int) := by omega
      have ib : (kb : Int) < (l.ss.length : Int) := by omega
      have iq : (l.ss.length : Int) ≤ (q2 : Int) := by omega
      clear hsq2 hr hN hxa hxb a1 a2 b1 b2 hD
      go_enter Tryz.func137, Tryz.ntmps137
      go_upto_region 1 with (fail)
      generalize hw0 : World.alloc _ _ = w0
      obtain ⟨hb0, hB0, hs0⟩ := alloc1 hw0
      have c0 := cellOf hb0 0
      have c1 := cellOf hb0 1
      have c2 := cellOf hb0 2
      have c3 := cellOf hb0 3
      have l0 : w.heap.size < w0.heap.size := by omega
      have HL := hide (HL1.out.to hB0)
      have s0 := cellOf (HS.out.to hB0) 0
      have lsb : sb < w0.heap.size := by have := box_lt HS.out; omega
      have HB0 := hide hB0
      have lb1 : bf < w0.heap.size := by omega
      have ll1 : lb < w0.heap.size := box_lt HL.out
      have lx1 := cellOf HL.out 1
      have lx2 := cellOf HL.out 2
      have g0 := (hB0.cell (p := ⟨bf, off + ka * 3, none⟩) hbb).trans e0
      have g1 := (hB0.cell (p := ⟨bf, off + ka * 3 + 1, none⟩) hbb).trans e1
      have g2 := (hB0.cell (p := ⟨bf, off + ka * 3 + 2, none⟩) hbb).trans e2
      have g3 := (hB0.cell (p := ⟨bf, off + kb * 3, none⟩) hbb).trans f0
      have g4 := (hB0.cell (p := ⟨bf, off + kb * 3 + 1, none⟩) hbb).trans f1
      have g5 := (hB0.cell (p := ⟨bf, off + kb * 3 + 2, none⟩) hbb).trans f2
      clear e0 e1 e2 f0 f1 f2
      clear hw0 hb0 hs0 hB0
      go_upto_region 2 with (first | (go_at_call 135; refine (spotN_any _ _ _ _ _ _ _ _ _ _ _ _ _ l lb _ hm HL.out _ (by first | exact HA.out | exact HB.out)).mono ?_; rintro e w1 ⟨rfl, rfl⟩) | (go_at_call 106; refine (withinB_any _ _ _ _ _ (by first | exact HC.out | exact HD.out)).mono ?_; rintro e w1 ⟨rfl, rfl⟩))
      refine wp_region_held_drew (S := (fun w' => Below w0.heap.size w0 w')) (by kernel_rfl) ?_ (fun hHeld => ?_)
      ·
       try dsimp only
       exact zP
      refine zT 0 rfl ?_
      refine zT 1 rfl ?_
      refine zT 2 rfl ?_
      refine zT 3 rfl ?_
      refine zT 4 rfl ?_
      refine zT 5 rfl ?_
      refine zT 6 rfl ?_
      refine zT 7 rfl ?_
      refine zT 8 rfl ?_
      refine zT 9 rfl ?_
      refine zT 10 rfl ?_
      refine zT 11 rfl ?_
      refine zT 12 rfl ?_
      refine zT 13 rfl ?_
      refine zT 14 rfl ?_
      refine zT 15 rfl ?_
      refine zT 16 rfl ?_
      refine zT 17 rfl ?_
      refine zT 18 rfl ?_
      refine wpAnyH_ready (rs := [19]) (by kernel_rfl) (by simp) ?_
      refine AllReadyH.cons rfl (fun K hK => ?_) AllReadyH.nil
      go_simp
      (first | (go_at_call 138; refine (square_any xa xb _ HXK.out HXL.out).mono ?_; rw [HSQ.out]; rintro e w2 ⟨rfl, hB2⟩) | (go_at_call 134; refine (must_any _ _ _).mono ?_; rintro e w1 ⟨rfl, rfl⟩))
      (try dsimp only)
      refine hK.out _ _ zP fun hNext => ?_; clear hK K hHeld; have hHeld := hNext; clear hNext; (try dsimp only at hHeld); try simp only [zX]
      refine zT 20 rfl ?_
      refine zT 21 rfl ?_
      refine wpAnyH_ready (rs := [22]) (by kernel_rfl) (by simp) ?_
      refine AllReadyH.cons rfl (fun K hK => ?_) AllReadyH.nil
      go_simp
      (first | (go_at_call 138; refine (square_any xa xb _ HXK.out HXL.out).mono ?_; rw [HSQ.out]; rintro e w2 ⟨rfl, hB2⟩) | (go_at_call 134; refine (must_any _ _ _).mono ?_; rintro e w1 ⟨rfl, rfl⟩))
      (try dsimp only)
      refine hK.out _ _ zP fun hNext => ?_; clear hK K hHeld; have hHeld := hNext; clear hNext; (try dsimp only at hHeld); try simp only [zX]
      refine zT 23 rfl ?_
      refine wpAnyH_done (by kernel_rfl) ?_ _
      go_wp2_with fail
      go_ret
      exact ⟨ret_int (by rw [HR.out, IntWalk.i64_in _ (by omega)]), Below.to HB0.out hHeld (Nat.le_refl _)⟩
theorem Pls.form {w : World} {B : Nat} {v : Value} {l : List Pl} (h : Pls w B v l) : ∃ A cap, v = .slice A l.length cap := Sl.form h
theorem Pls.below {w w' : World} {B : Nat} {v : Value} {l : List Pl} (h : Pls w B v l) (hb : Below B w w') : Pls w' B v l := Sl.below h hb
theorem Wis.form {w : World} {B : Nat} {v : Value} {l : List Wi} (h : Wis w B v l) : ∃ A cap, v = .slice A l.length cap := by
 obtain ⟨fv, h1, _⟩ := h
 exact Sl.form h1
theorem Pls.at {w : World} {B : Nat} {A : Option Addr} {n q : Nat} {l : List Pl} (h : Pls w B (.slice A n q) l) {k : Nat} (hk : k < l.length) : ∃ b off x, Hid (l.getD k Pl.o = x) ∧ A = some ⟨b, off, none⟩ ∧ b < B ∧ l.length ≤ q ∧
  w.cell? ⟨b, off + k * 3, none⟩ = some (.string x.name) ∧ w.cell? ⟨b, off + k * 3 + 1, none⟩ = some (.int .i64 x.spot) ∧ w.cell? ⟨b, off + k * 3 + 2, none⟩ = some (.int .i64 x.cav) := by
 obtain ⟨h1, h2, b, off, h3, h4, h5⟩ := sl_at h hk
 exact ⟨b, off, _, rfl, h3, h4, h1 ▸ h2, h5 0 (by omega), h5 1 (by omega), h5 2 (by omega)⟩
theorem Wis.at {w : World} {B : Nat} {A : Option Addr} {n q : Nat} {l : List Wi} (h : Wis w B (.slice A n q) l) {k : Nat} (hk : k < l.length) : ∃ b off x Af qf, Hid (l.getD k Wi.o = x) ∧ A = some ⟨b, off, none⟩ ∧ b < B ∧ l.length ≤ q ∧ Hid (Ints w B (.slice Af x.form.length qf) x.form) ∧
  w.cell? ⟨b, off + k * 7, none⟩ = some (.string x.name) ∧ w.cell? ⟨b, off + k * 7 + 1, none⟩ = some (.int .i64 x.fp) ∧ w.cell? ⟨b, off + k * 7 + 2, none⟩ = some (.int .i64 x.fc) ∧ w.cell? ⟨b, off + k * 7 + 3, none⟩ = some (.int .i64 x.tp) ∧
  w.cell? ⟨b, off + k * 7 + 4, none⟩ = some (.int .i64 x.tc) ∧ w.cell? ⟨b, off + k * 7 + 5, none⟩ = some (.int .i64 x.size) ∧ w.cell? ⟨b, off + k * 7 + 6, none⟩ = some (.slice Af x.form.length qf) := by
 obtain ⟨fv, hs, hf⟩ := h
 obtain ⟨h1, h2, b, off, h3, h4, h5⟩ := sl_at hs hk
 have h6 := hf k hk
 obtain ⟨Af, qf, e⟩ := Sl.form h6
 rw [e] at h6
 have h7 := h5 6 (by omega)
 rw [show wiC (l.getD k Wi.o) (fv k) 6 = fv k from rfl, e] at h7
 exact ⟨b, off, _, Af, qf, rfl, h3, h4, h1 ▸ h2, h6, h5 0 (by omega), h5 1 (by omega), h5 2 (by omega), h5 3 (by omega), h5 4 (by omega), h5 5 (by omega), h7⟩
theorem sl_take {w : World} {B sz n : Nat} {A : Option Addr} {m q : Nat} {f : Nat → Nat → Value} (h : Sl w B sz (.slice A m q) n f) {k : Nat} (hk : k ≤ n) : Sl w B sz (.slice A k q) k f := by
 obtain ⟨A', b, off, cap, h1, h2, h3, h4⟩ := h
 injection h1 with e1 e2 e3
 subst e1 e2 e3
 refine ⟨A, b, off, q, rfl, by omega, ?_, fun i j hi hj => h4 i j (by omega) hj⟩
 rcases h3 with h3 | h3
 ·
  exact .inl h3
 ·
  exact .inr (by omega)
theorem take_getD' {α : Type} {l : List α} {z : α} {k i : Nat} (hi : i < k) : (l.take k).getD i z = l.getD i z := by
 simp [List.getD_eq_getElem?_getD, List.getElem?_take, hi]
theorem Pls.take {w : World} {B : Nat} {A : Option Addr} {n q : Nat} {l : List Pl} (h : Pls w B (.slice A n q) l) {k : Nat} (hk : k ≤ l.length) : Pls w B (.slice A k q) (l.take k) := by
 have h1 := sl_take h hk
 have hl : (l.take k).length = k := by simp; omega
 unfold Pls
 rw [hl]
 exact Sl.congr h1 fun i j hi hj => by rw [take_getD' hi]
theorem Wis.take {w : World} {B : Nat} {A : Option Addr} {n q : Nat} {l : List Wi} (h : Wis w B (.slice A n q) l) {k : Nat} (hk : k ≤ l.length) : Wis w B (.slice A k q) (l.take k) := by
 obtain ⟨fv, hs, hf⟩ := h
 have h1 := sl_take hs hk
 have hl : (l.take k).length = k := by simp; omega
 refine ⟨fv, ?_, fun i hi => ?_⟩
 ·
  rw [hl]
  exact Sl.congr h1 fun i j hi hj => by rw [take_getD' hi]
 ·
  rw [hl] at hi
  rw [take_getD' hi]
  exact hf i (by omega)
set_option maxRecDepth 100000 in
theorem index_plugs (p : Pl → Bool) (c0 : Value) (v : Value) (gs : List Pl) (w : World) (hm : gs.length ≤ maxLen) (h : Pls w w.heap.size v gs)
  (hf : ∀ (i : Nat) (x : Pl)  (W : World), i < gs.length → gs.getD i Pl.o = x → Below w.heap.size w W → Calls Tryz.prog 143 #[.agg #[.string x.name, .int .i64 x.spot, .int .i64 x.cav], c0] W fun e w' => e = .returned (.bool (p x)) ∧ Below W.heap.size W w') :
  Calls Tryz.prog 199 #[v, .func (.func 143) #[] #[c0]] w fun e w' => e = .returned (.int .i64 (idxI p gs)) ∧ Below w.heap.size w w' := by
 unfold maxLen at hm
 obtain ⟨A, cap, rfl⟩ := Pls.form h
 have H := hide h; clear h
 have HF := hide hf; clear hf
 go_enter Tryz.func199, Tryz.ntmps199
 go_wp2
 go_loopw [5, 8] (fun _ i wr => ∃ k : Nat, k ≤ gs.length ∧ i = .int .i64 k ∧ Hid (∀ j, j < k → p (gs.getD j Pl.o) = false) ∧ Below w.heap.size w wr) (fun _ i _ => gs.length - (intOf i).toNat)
 case atStart => exact ⟨0, Nat.zero_le _, rfl, fun j hj => by omega, Below.refl _ _⟩
 case round =>
  obtain ⟨k, hk, rfl, hz, hB⟩ := hrel
  by_cases hlt : k < gs.length
  ·
   obtain ⟨b, off, x, HX, rfl, hbb, hq, e0, e1, e2⟩ := Pls.at (H.out.below hB) hlt
   have hf := fun W (hW : Below w.heap.size w W) => HF.out k x  W hlt HX.out hW
   have HF2 := hide hf
   have HB := hide hB
   clear hf
   by_cases hp : p x = true
   ·
    have HP := hide hp
    clear hp
    go_wp2_with (go_at_call 143; refine (HF2.out _ hB).mono ?_; rw [HP.out]; rintro e w1 ⟨rfl, hB1⟩)
    go_ret
    exact ⟨ret_int (idxI_at p Pl.o gs k hz.out hlt (by rw [HX.out]; exact HP.out)).symm, Below.to HB.out hB1 (Nat.le_refl _)⟩
   ·
    have hp' : p x = false := by simpa using hp
    have HP := hide hp'
    clear hp hp'
    go_wp2_with (go_at_call 143; refine (HF2.out _ hB).mono ?_; rw [HP.out]; rintro e w1 ⟨rfl, hB1⟩)
    go_roundw
    case rel => exact ⟨k + 1, by omega, by go_num, fun j hj => by
      rcases Nat.lt_or_ge j k with h | h
      ·
       exact hz.out j h
      ·
       rw [show j = k from by omega, HX.out]; exact HP.out, Below.to HB.out hB1 (Nat.le_refl _)⟩
    case measure => simp [intOf]; omega
  ·
   go_wp2
   go_ret
   exact ⟨ret_int (idxI_none p Pl.o gs (fun j hj => hz.out j (by omega))).symm, hB⟩
set_option maxRecDepth 100000 in
theorem contains_plugs (p : Pl → Bool) (c0 : Value) (v : Value) (gs : List Pl) (w : World) (hm : gs.length ≤ maxLen) (h : Pls w w.heap.size v gs)
  (hf : ∀ (i : Nat) (x : Pl)  (W : World), i < gs.length → gs.getD i Pl.o = x → Below w.heap.size w W → Calls Tryz.prog 143 #[.agg #[.string x.name, .int .i64 x.spot, .int .i64 x.cav], c0] W fun e w' => e = .returned (.bool (p x)) ∧ Below W.heap.size W w') :
  Calls Tryz.prog 142 #[v, .func (.func 143) #[] #[c0]] w fun e w' => e = .returned (.bool (gs.any p)) ∧ Below w.heap.size w w' := by
 have hc := index_plugs p c0 v gs w hm h hf
 have he := idxI_any p gs
 have hlo := idxI_lo p gs
 have hhi := idxI_hi p gs
 obtain ⟨z, hz⟩ : ∃ z, idxI p gs = z := ⟨_, rfl⟩
 rw [hz] at hc he hlo hhi
 obtain ⟨A, cap, rfl⟩ := Pls.form h
 have HC := hide hc
 have HE := hide he
 unfold maxLen at hm
 have hz2 : z ≤ 9223372036854775807 := by omega
 clear hc he hz h hf
 go_enter Tryz.func142, Tryz.ntmps142
 go_wp2_with (go_at_call 199; refine HC.out.mono ?_; rintro e w1 ⟨rfl, hB1⟩)
 go_ret
 exact ⟨ret_bool HE.out, hB1⟩

set_option maxRecDepth 100000 in
theorem index_wires (p : Wi → Bool) (c0 : Value) (v : Value) (gs : List Wi) (w : World) (hm : gs.length ≤ maxLen) (h : Wis w w.heap.size v gs)
  (hf : ∀ (i : Nat) (x : Wi) (Af : Option Addr) (qf : Nat) (W : World), i < gs.length → gs.getD i Wi.o = x → Below w.heap.size w W → Calls Tryz.prog 149 #[.agg #[.string x.name, .int .i64 x.fp, .int .i64 x.fc, .int .i64 x.tp, .int .i64 x.tc, .int .i64 x.size, .slice Af x.form.length qf], c0] W fun e w' => e = .returned (.bool (p x)) ∧ Below W.heap.size W w') :
  Calls Tryz.prog 200 #[v, .func (.func 149) #[] #[c0]] w fun e w' => e = .returned (.int .i64 (idxI p gs)) ∧ Below w.heap.size w w' := by
 unfold maxLen at hm
 obtain ⟨A, cap, rfl⟩ := Wis.form h
 have H := hide h; clear h
 have HF := hide hf; clear hf
 go_enter Tryz.func200, Tryz.ntmps200
 go_wp2
 go_loopw [5, 8] (fun _ i wr => ∃ k : Nat, k ≤ gs.length ∧ i = .int .i64 k ∧ Hid (∀ j, j < k → p (gs.getD j Wi.o) = false) ∧ Below w.heap.size w wr) (fun _ i _ => gs.length - (intOf i).toNat)
 case atStart => exact ⟨0, Nat.zero_le _, rfl, fun j hj => by omega, Below.refl _ _⟩
 case round =>
  obtain ⟨k, hk, rfl, hz, hB⟩ := hrel
  by_cases hlt : k < gs.length
  ·
   obtain ⟨b, off, x, Af, qf, HX, rfl, hbb, hq, HFO, e0, e1, e2, e3, e4, e5, e6⟩ := Wis.at (H.out.below hB) hlt
   have hf := fun W (hW : Below w.heap.size w W) => HF.out k x Af qf W hlt HX.out hW
   have HF2 := hide hf
   have HB := hide hB
   clear hf
   by_cases hp : p x = true
   ·
    have HP := hide hp
    clear hp
    go_wp2_with (go_at_call 149; refine (HF2.out _ hB).mono ?_; rw [HP.out]; rintro e w1 ⟨rfl, hB1⟩)
    go_ret
    exact ⟨ret_int (idxI_at p Wi.o gs k hz.out hlt (by rw [HX.out]; exact HP.out)).symm, Below.to HB.out hB1 (Nat.le_refl _)⟩
   ·
    have hp' : p x = false := by simpa using hp
    have HP := hide hp'
    clear hp hp'
    go_wp2_with (go_at_call 149; refine (HF2.out _ hB).mono ?_; rw [HP.out]; rintro e w1 ⟨rfl, hB1⟩)
    go_roundw
    case rel => exact ⟨k + 1, by omega, by go_num, fun j hj => by
      rcases Nat.lt_or_ge j k with h | h
      ·
       exact hz.out j h
      ·
       rw [show j = k from by omega, HX.out]; exact HP.out, Below.to HB.out hB1 (Nat.le_refl _)⟩
    case measure => simp [intOf]; omega
  ·
   go_wp2
   go_ret
   exact ⟨ret_int (idxI_none p Wi.o gs (fun j hj => hz.out j (by omega))).symm, hB⟩
set_option maxRecDepth 100000 in
theorem contains_wires (p : Wi → Bool) (c0 : Value) (v : Value) (gs : List Wi) (w : World) (hm : gs.length ≤ maxLen) (h : Wis w w.heap.size v gs)
  (hf : ∀ (i : Nat) (x : Wi) (Af : Option Addr) (qf : Nat) (W : World), i < gs.length → gs.getD i Wi.o = x → Below w.heap.size w W → Calls Tryz.prog 149 #[.agg #[.string x.name, .int .i64 x.fp, .int .i64 x.fc, .int .i64 x.tp, .int .i64 x.tc, .int .i64 x.size, .slice Af x.form.length qf], c0] W fun e w' => e = .returned (.bool (p x)) ∧ Below W.heap.size W w') :
  Calls Tryz.prog 148 #[v, .func (.func 149) #[] #[c0]] w fun e w' => e = .returned (.bool (gs.any p)) ∧ Below w.heap.size w w' := by
 have hc := index_wires p c0 v gs w hm h hf
 have he := idxI_any p gs
 have hlo := idxI_lo p gs
 have hhi := idxI_hi p gs
 obtain ⟨z, hz⟩ : ∃ z, idxI p gs = z := ⟨_, rfl⟩
 rw [hz] at hc he hlo hhi
 obtain ⟨A, cap, rfl⟩ := Wis.form h
 have HC := hide hc
 have HE := hide he
 unfold maxLen at hm
 have hz2 : z ≤ 9223372036854775807 := by omega
 clear hc he hz h hf
 go_enter Tryz.func148, Tryz.ntmps148
 go_wp2_with (go_at_call 200; refine HC.out.mono ?_; rintro e w1 ⟨rfl, hB1⟩)
 go_ret
 exact ⟨ret_bool HE.out, hB1⟩

set_option maxRecDepth 100000 in
theorem samePl_any (q x : Pl) (pb : Nat) (w : World) (h : w.heap[pb]? = some (.cells #[.string x.name, .int .i64 x.spot, .int .i64 x.cav] 159 (0, 0))) :
  Calls Tryz.prog 143 #[.agg #[.string q.name, .int .i64 q.spot, .int .i64 q.cav], .pointer (some ⟨pb, 0, none⟩)] w fun e w' => e = .returned (.bool (bytes q.name == bytes x.name)) ∧ Below w.heap.size w w' := by
 have c0 := cellOf h 0
 have hlb := box_lt h
 have hr : (bytes q.name == bytes x.name) = (q.name.toList == x.name.toList) := by unfold bytes; rw [ByteArray.toList_eq, ByteArray.toList_eq]
 rw [hr]
 clear h hr
 go_enter Tryz.func143, Tryz.ntmps143
 go_wp2_with fail
 go_ret
 exact ⟨rfl, zP⟩
set_option maxRecDepth 100000 in
theorem sameWi_any (q x : Wi) (Af Ag : Option Addr) (qf qg n m : Nat) (pb : Nat) (w : World) (h : w.heap[pb]? = some (.cells #[.string x.name, .int .i64 x.fp, .int .i64 x.fc, .int .i64 x.tp, .int .i64 x.tc, .int .i64 x.size, .slice Ag n qg] 76 (0, 0))) :
  Calls Tryz.prog 149 #[.agg #[.string q.name, .int .i64 q.fp, .int .i64 q.fc, .int .i64 q.tp, .int .i64 q.tc, .int .i64 q.size, .slice Af m qf], .pointer (some ⟨pb, 0, none⟩)] w fun e w' => e = .returned (.bool (bytes q.name == bytes x.name)) ∧ Below w.heap.size w w' := by
 have c0 := cellOf h 0
 have hlb := box_lt h
 have hr : (bytes q.name == bytes x.name) = (q.name.toList == x.name.toList) := by unfold bytes; rw [ByteArray.toList_eq, ByteArray.toList_eq]
 rw [hr]
 clear h hr
 go_enter Tryz.func149, Tryz.ntmps149
 go_wp2_with fail
 go_ret
 exact ⟨rfl, zP⟩
end Go.Proofs.YtehadoecnmfeoaaGreat

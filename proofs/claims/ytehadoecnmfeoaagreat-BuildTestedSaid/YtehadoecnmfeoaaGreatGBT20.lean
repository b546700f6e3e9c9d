/- Part 20 of this claim's texts: walks and plain laws. -/
import Derived.Test.YtehadoecnmfeoaaGreatRows
import Derived.Test.YtehadoecnmfeoaaGreatGBT19
import Derived.Deep.RegionHeld3
import Derived.Deep.DrawnRows
import Derived.Test.YtehadoecnmfeoaaGreatGBT3
/- A run's check: walks. -/
namespace Go.Proofs.YtehadoecnmfeoaaGreat
open Go.RowKit
set_option linter.unusedVariables false
set_option linter.unusedSimpArgs false
theorem getD_mem2 {α : Type} {l : List α} {z : α} {k : Nat} (h : k < l.length) : l.getD k z ∈ l := by
  rw [List.getD_eq_getElem?_getD, List.getElem?_eq_getElem h]
  exact List.getElem_mem h
theorem withinB_any (n lo hi : Int) (w : World) (b : Bool) (hb : btw n lo hi = b) : Calls Tryz.prog 106 #[.int .i64 n, .int .i64 lo, .int .i64 hi] w fun e w' => e = .returned (.bool b) ∧ w = w' := by
  subst hb
  exact within_any n lo hi w
set_option maxRecDepth 100000 in
set_option maxHeartbeats 8000000 in
theorem ckRun_any (i : Int) (ra rb rl rr : Int) (A0 A1 A2 A3 A4 A5 : Option Addr) (q0 q1 q2 q3 q4 q5 : Nat) (l : Lo) (sb lb : Nat) (w : World) (hm : l.ss.length ≤ maxLen) (hL : LoBox w lb A0 A1 A2 A3 A4 A5 q0 q1 q2 q3 q4 q5 l) (hS : FnBox w sb 135 #[.pointer (some ⟨lb, 0, none⟩)] 114) (h : LoA w w.heap.size A0 A1 A2 A3 A4 A5 q0 q1 q2 q3 q4 q5 l) (hok : ∀ x ∈ l.ss, x.ok = true) :
    Calls Tryz.prog 137 #[.int .i64 i, .agg #[.int .i64 ra, .int .i64 rb, .int .i64 rl, .int .i64 rr], .pointer (some ⟨sb, 0, none⟩), .pointer (some ⟨lb, 0, none⟩)] w fun e w' => e = .returned (.int .i64 (mustE (Ru.ok l.ss ⟨ra, rb, rl, rr⟩) 61)) ∧ Below w.heap.size w w' := by
  have H := hide h
  have HOK := hide hok
  have HL1 := hide hL
  have HS := hide hS
  clear h hok hL hS
  cases hA : btw ra 0 ((l.ss.length : Int) - 1) with
  | false =>
    have hr : Ru.ok l.ss ⟨ra, rb, rl, rr⟩ = false := by unfold Ru.ok; simp only []; rw [hA]; simp
    have HR := hide hr
    have HA := hide hA
    clear hr hA
    go_enter Tryz.func137, Tryz.ntmps137
    go_upto_region 1 with (fail)
    generalize hw0 : World.alloc _ _ = w0
    obtain ⟨hb0, hB0, hs0⟩ := alloc1 hw0
    have c0 := cellOf hb0 0
    have c1 := cellOf hb0 1
    have c2 := cellOf hb0 2
    have c3 := cellOf hb0 3
    have l0 : w.heap.size < w0.heap.size := by omega
    have HL := hide (HL1.out.to hB0)
    have s0 := cellOf (HS.out.to hB0) 0
    have lsb : sb < w0.heap.size := by have := box_lt HS.out; omega
    have HB0 := hide hB0
    clear hw0 hb0 hs0 hB0
    go_upto_region 2 with (first | (go_at_call 135; refine (spotN_any _ _ _ _ _ _ _ _ _ _ _ _ _ l lb _ hm HL.out _ (by first | exact HA.out)).mono ?_; rintro e w1 ⟨rfl, rfl⟩) | (go_at_call 106; refine (withinB_any _ _ _ _ _ (by first | fail)).mono ?_; rintro e w1 ⟨rfl, rfl⟩))
    refine wp_region_held_drew (S := (fun w' => Below w0.heap.size w0 w')) (by kernel_rfl) ?_ (fun hHeld => ?_)
    · try dsimp only
      exact (by repeat (first | exact Below.refl _ _ | assumption | refine Below.drew ?_ | refine Below.drewN ?_ _ | refine Below.allocT ?_ (Nat.le_refl _) _ | refine Below.setCell ?_ (by simp <;> omega) _ | refine Below.to ?_ (by assumption) (Nat.le_refl _)))
    refine zT 0 rfl ?_
    refine zT 1 rfl ?_
    refine zS 2 rfl ?_
    refine zS 3 rfl ?_
    refine zS 4 rfl ?_
    refine zS 5 rfl ?_
    refine zS 6 rfl ?_
    refine zS 7 rfl ?_
    refine zS 8 rfl ?_
    refine zS 9 rfl ?_
    refine zS 10 rfl ?_
    refine zS 11 rfl ?_
    refine zS 12 rfl ?_
    refine zS 13 rfl ?_
    refine zS 14 rfl ?_
    refine zS 15 rfl ?_
    refine zS 16 rfl ?_
    refine zS 17 rfl ?_
    refine zS 18 rfl ?_
    refine zS 19 rfl ?_
    refine zS 20 rfl ?_
    refine zT 21 rfl ?_
    refine wpAnyH_ready (rs := [22]) (by kernel_rfl) (by simp) ?_
    refine AllReadyH.cons rfl (fun K hK => ?_) AllReadyH.nil
    go_simp
    ((go_at_call 134; refine (must_any _ _ _).mono ?_; rintro e w1 ⟨rfl, rfl⟩))
    (try dsimp only)
    refine hK.out _ _ ?_ (fun hNext => ?_)
    · try dsimp only
      exact (by repeat (first | exact Below.refl _ _ | assumption | refine Below.drew ?_ | refine Below.drewN ?_ _ | refine Below.allocT ?_ (Nat.le_refl _) _ | refine Below.setCell ?_ (by simp <;> omega) _ | refine Below.to ?_ (by assumption) (Nat.le_refl _)))
    clear hK K hHeld
    have hHeld := hNext
    clear hNext
    (try dsimp only at hHeld)
    try simp only [zX]
    refine zT 23 rfl ?_
    refine wpAnyH_done (by kernel_rfl) ?_ _
    go_wp2_with fail
    go_ret
    exact ⟨ret_int (by rw [HR.out]), Below.to HB0.out hHeld (Nat.le_refl _)⟩
  | true =>
    cases hB : btw rb 0 ((l.ss.length : Int) - 1) with
    | false =>
      have hr : Ru.ok l.ss ⟨ra, rb, rl, rr⟩ = false := by unfold Ru.ok; simp only []; rw [hA, hB]; simp
      have HR := hide hr
      have HA := hide hA
      have HB := hide hB
      clear hr hA hB
      go_enter Tryz.func137, Tryz.ntmps137
      go_upto_region 1 with (fail)
      generalize hw0 : World.alloc _ _ = w0
      obtain ⟨hb0, hB0, hs0⟩ := alloc1 hw0
      have c0 := cellOf hb0 0
      have c1 := cellOf hb0 1
      have c2 := cellOf hb0 2
      have c3 := cellOf hb0 3
      have l0 : w.heap.size < w0.heap.size := by omega
      have HL := hide (HL1.out.to hB0)
      have s0 := cellOf (HS.out.to hB0) 0
      have lsb : sb < w0.heap.size := by have := box_lt HS.out; omega
      have HB0 := hide hB0
      clear hw0 hb0 hs0 hB0
      go_upto_region 2 with (first | (go_at_call 135; refine (spotN_any _ _ _ _ _ _ _ _ _ _ _ _ _ l lb _ hm HL.out _ (by first | exact HA.out | exact HB.out)).mono ?_; rintro e w1 ⟨rfl, rfl⟩) | (go_at_call 106; refine (withinB_any _ _ _ _ _ (by first | fail)).mono ?_; rintro e w1 ⟨rfl, rfl⟩))
      refine wp_region_held_drew (S := (fun w' => Below w0.heap.size w0 w')) (by kernel_rfl) ?_ (fun hHeld => ?_)
      · try dsimp only
        exact (by repeat (first | exact Below.refl _ _ | assumption | refine Below.drew ?_ | refine Below.drewN ?_ _ | refine Below.allocT ?_ (Nat.le_refl _) _ | refine Below.setCell ?_ (by simp <;> omega) _ | refine Below.to ?_ (by assumption) (Nat.le_refl _)))
      refine zT 0 rfl ?_
      refine zT 1 rfl ?_
      refine zS 2 rfl ?_
      refine zS 3 rfl ?_
      refine zS 4 rfl ?_
      refine zS 5 rfl ?_
      refine zS 6 rfl ?_
      refine zS 7 rfl ?_
      refine zS 8 rfl ?_
      refine zS 9 rfl ?_
      refine zS 10 rfl ?_
      refine zS 11 rfl ?_
      refine zS 12 rfl ?_
      refine zS 13 rfl ?_
      refine zS 14 rfl ?_
      refine zS 15 rfl ?_
      refine zS 16 rfl ?_
      refine zS 17 rfl ?_
      refine zS 18 rfl ?_
      refine zS 19 rfl ?_
      refine zS 20 rfl ?_
      refine zT 21 rfl ?_
      refine wpAnyH_ready (rs := [22]) (by kernel_rfl) (by simp) ?_
      refine AllReadyH.cons rfl (fun K hK => ?_) AllReadyH.nil
      go_simp
      ((go_at_call 134; refine (must_any _ _ _).mono ?_; rintro e w1 ⟨rfl, rfl⟩))
      (try dsimp only)
      refine hK.out _ _ ?_ (fun hNext => ?_)
      · try dsimp only
        exact (by repeat (first | exact Below.refl _ _ | assumption | refine Below.drew ?_ | refine Below.drewN ?_ _ | refine Below.allocT ?_ (Nat.le_refl _) _ | refine Below.setCell ?_ (by simp <;> omega) _ | refine Below.to ?_ (by assumption) (Nat.le_refl _)))
      clear hK K hHeld
      have hHeld := hNext
      clear hNext
      (try dsimp only at hHeld)
      try simp only [zX]
      refine zT 23 rfl ?_
      refine wpAnyH_done (by kernel_rfl) ?_ _
      go_wp2_with fail
      go_ret
      exact ⟨ret_int (by rw [HR.out]), Below.to HB0.out hHeld (Nat.le_refl _)⟩
    | true =>
      cases hN : decide (ra ≠ rb) with
      | false =>
        have hr : Ru.ok l.ss ⟨ra, rb, rl, rr⟩ = false := by unfold Ru.ok; simp only []; rw [hA, hB, hN]; simp
        have HR := hide hr
        have HA := hide hA
        have HB := hide hB
        have hnn : (ra != rb) = false := by simpa using hN
        clear hr hA hB hN
        go_enter Tryz.func137, Tryz.ntmps137
        go_upto_region 1 with (fail)
        generalize hw0 : World.alloc _ _ = w0
        obtain ⟨hb0, hB0, hs0⟩ := alloc1 hw0
        have c0 := cellOf hb0 0
        have c1 := cellOf hb0 1
        have c2 := cellOf hb0 2
        have c3 := cellOf hb0 3
        have l0 : w.heap.size < w0.heap.size := by omega
        have HL := hide (HL1.out.to hB0)
        have s0 := cellOf (HS.out.to hB0) 0
        have lsb : sb < w0.heap.size := by have := box_lt HS.out; omega
        have HB0 := hide hB0
        clear hw0 hb0 hs0 hB0
        go_upto_region 2 with (first | (go_at_call 135; refine (spotN_any _ _ _ _ _ _ _ _ _ _ _ _ _ l lb _ hm HL.out _ (by first | exact HA.out | exact HB.out)).mono ?_; rintro e w1 ⟨rfl, rfl⟩) | (go_at_call 106; refine (withinB_any _ _ _ _ _ (by first | fail)).mono ?_; rintro e w1 ⟨rfl, rfl⟩))
        refine wp_region_held_drew (S := (fun w' => Below w0.heap.size w0 w')) (by kernel_rfl) ?_ (fun hHeld => ?_)
        · try dsimp only
          exact (by repeat (first | exact Below.refl _ _ | assumption | refine Below.drew ?_ | refine Below.drewN ?_ _ | refine Below.allocT ?_ (Nat.le_refl _) _ | refine Below.setCell ?_ (by simp <;> omega) _ | refine Below.to ?_ (by assumption) (Nat.le_refl _)))
        refine zT 0 rfl ?_
        refine zT 1 rfl ?_
        refine zS 2 rfl ?_
        refine zS 3 rfl ?_
        refine zS 4 rfl ?_
        refine zS 5 rfl ?_
        refine zS 6 rfl ?_
        refine zS 7 rfl ?_
        refine zS 8 rfl ?_
        refine zS 9 rfl ?_
        refine zS 10 rfl ?_
        refine zS 11 rfl ?_
        refine zS 12 rfl ?_
        refine zS 13 rfl ?_
        refine zS 14 rfl ?_
        refine zS 15 rfl ?_
        refine zS 16 rfl ?_
        refine zS 17 rfl ?_
        refine zS 18 rfl ?_
        refine zS 19 rfl ?_
        refine zS 20 rfl ?_
        refine zT 21 rfl ?_
        refine wpAnyH_ready (rs := [22]) (by kernel_rfl) (by simp) ?_
        refine AllReadyH.cons rfl (fun K hK => ?_) AllReadyH.nil
        go_simp
        ((go_at_call 134; refine (must_any _ _ _).mono ?_; rintro e w1 ⟨rfl, rfl⟩))
        (try dsimp only)
        refine hK.out _ _ ?_ (fun hNext => ?_)
        · try dsimp only
          exact (by repeat (first | exact Below.refl _ _ | assumption | refine Below.drew ?_ | refine Below.drewN ?_ _ | refine Below.allocT ?_ (Nat.le_refl _) _ | refine Below.setCell ?_ (by simp <;> omega) _ | refine Below.to ?_ (by assumption) (Nat.le_refl _)))
        clear hK K hHeld
        have hHeld := hNext
        clear hNext
        (try dsimp only at hHeld)
        try simp only [zX]
        refine zT 23 rfl ?_
        refine wpAnyH_done (by kernel_rfl) ?_ _
        go_wp2_with fail
        go_ret
        exact ⟨ret_int (by rw [HR.out]), Below.to HB0.out hHeld (Nat.le_refl _)⟩
      | true =>
        cases hC : btw rl 1 1000000 with
        | false =>
          have hr : Ru.ok l.ss ⟨ra, rb, rl, rr⟩ = false := by unfold Ru.ok; simp only []; rw [hA, hB, hN, hC]; simp
          have HR := hide hr
          have HA := hide hA
          have HB := hide hB
          have HC := hide hC
          have hnn : (ra != rb) = true := by simpa using hN
          clear hr hA hB hN hC
          go_enter Tryz.func137, Tryz.ntmps137
          go_upto_region 1 with (fail)
          generalize hw0 : World.alloc _ _ = w0
          obtain ⟨hb0, hB0, hs0⟩ := alloc1 hw0
          have c0 := cellOf hb0 0
          have c1 := cellOf hb0 1
          have c2 := cellOf hb0 2
          have c3 := cellOf hb0 3
          have l0 : w.heap.size < w0.heap.size := by omega
          have HL := hide (HL1.out.to hB0)
          have s0 := cellOf (HS.out.to hB0) 0
          have lsb : sb < w0.heap.size := by have := box_lt HS.out; omega
          have HB0 := hide hB0
          clear hw0 hb0 hs0 hB0
          go_upto_region 2 with (first | (go_at_call 135; refine (spotN_any _ _ _ _ _ _ _ _ _ _ _ _ _ l lb _ hm HL.out _ (by first | exact HA.out | exact HB.out)).mono ?_; rintro e w1 ⟨rfl, rfl⟩) | (go_at_call 106; refine (withinB_any _ _ _ _ _ (by first | exact HC.out)).mono ?_; rintro e w1 ⟨rfl, rfl⟩))
          refine wp_region_held_drew (S := (fun w' => Below w0.heap.size w0 w')) (by kernel_rfl) ?_ (fun hHeld => ?_)
          · try dsimp only
            exact (by repeat (first | exact Below.refl _ _ | assumption | refine Below.drew ?_ | refine Below.drewN ?_ _ | refine Below.allocT ?_ (Nat.le_refl _) _ | refine Below.setCell ?_ (by simp <;> omega) _ | refine Below.to ?_ (by assumption) (Nat.le_refl _)))
          refine zT 0 rfl ?_
          refine zT 1 rfl ?_
          refine zS 2 rfl ?_
          refine zS 3 rfl ?_
          refine zS 4 rfl ?_
          refine zS 5 rfl ?_
          refine zS 6 rfl ?_
          refine zS 7 rfl ?_
          refine zS 8 rfl ?_
          refine zS 9 rfl ?_
          refine zS 10 rfl ?_
          refine zS 11 rfl ?_
          refine zS 12 rfl ?_
          refine zS 13 rfl ?_
          refine zS 14 rfl ?_
          refine zS 15 rfl ?_
          refine zS 16 rfl ?_
          refine zS 17 rfl ?_
          refine zS 18 rfl ?_
          refine zS 19 rfl ?_
          refine zS 20 rfl ?_
          refine zT 21 rfl ?_
          refine wpAnyH_ready (rs := [22]) (by kernel_rfl) (by simp) ?_
          refine AllReadyH.cons rfl (fun K hK => ?_) AllReadyH.nil
          go_simp
          ((go_at_call 134; refine (must_any _ _ _).mono ?_; rintro e w1 ⟨rfl, rfl⟩))
          (try dsimp only)
          refine hK.out _ _ ?_ (fun hNext => ?_)
          · try dsimp only
            exact (by repeat (first | exact Below.refl _ _ | assumption | refine Below.drew ?_ | refine Below.drewN ?_ _ | refine Below.allocT ?_ (Nat.le_refl _) _ | refine Below.setCell ?_ (by simp <;> omega) _ | refine Below.to ?_ (by assumption) (Nat.le_refl _)))
          clear hK K hHeld
          have hHeld := hNext
          clear hNext
          (try dsimp only at hHeld)
          try simp only [zX]
          refine zT 23 rfl ?_
          refine wpAnyH_done (by kernel_rfl) ?_ _
          go_wp2_with fail
          go_ret
          exact ⟨ret_int (by rw [HR.out]), Below.to HB0.out hHeld (Nat.le_refl _)⟩
        | true =>
          cases hD : btw rr 0 1000000 with
          | false =>
            have hr : Ru.ok l.ss ⟨ra, rb, rl, rr⟩ = false := by unfold Ru.ok; simp only []; rw [hA, hB, hN, hC, hD]; simp
            have HR := hide hr
            have HA := hide hA
            have HB := hide hB
            have HC := hide hC
            have HD := hide hD
            have hnn : (ra != rb) = true := by simpa using hN
            clear hr hA hB hN hC hD
            go_enter Tryz.func137, Tryz.ntmps137
            go_upto_region 1 with (fail)
            generalize hw0 : World.alloc _ _ = w0
            obtain ⟨hb0, hB0, hs0⟩ := alloc1 hw0
            have c0 := cellOf hb0 0
            have c1 := cellOf hb0 1
            have c2 := cellOf hb0 2
            have c3 := cellOf hb0 3
            have l0 : w.heap.size < w0.heap.size := by omega
            have HL := hide (HL1.out.to hB0)
            have s0 := cellOf (HS.out.to hB0) 0
            have lsb : sb < w0.heap.size := by have := box_lt HS.out; omega
            have HB0 := hide hB0
            clear hw0 hb0 hs0 hB0
            go_upto_region 2 with (first | (go_at_call 135; refine (spotN_any _ _ _ _ _ _ _ _ _ _ _ _ _ l lb _ hm HL.out _ (by first | exact HA.out | exact HB.out)).mono ?_; rintro e w1 ⟨rfl, rfl⟩) | (go_at_call 106; refine (withinB_any _ _ _ _ _ (by first | exact HC.out | exact HD.out)).mono ?_; rintro e w1 ⟨rfl, rfl⟩))
            refine wp_region_held_drew (S := (fun w' => Below w0.heap.size w0 w')) (by kernel_rfl) ?_ (fun hHeld => ?_)
            · try dsimp only
              exact (by repeat (first | exact Below.refl _ _ | assumption | refine Below.drew ?_ | refine Below.drewN ?_ _ | refine Below.allocT ?_ (Nat.le_refl _) _ | refine Below.setCell ?_ (by simp <;> omega) _ | refine Below.to ?_ (by assumption) (Nat.le_refl _)))
            refine zT 0 rfl ?_
            refine zT 1 rfl ?_
            refine zS 2 rfl ?_
            refine zS 3 rfl ?_
            refine zS 4 rfl ?_
            refine zS 5 rfl ?_
            refine zS 6 rfl ?_
            refine zS 7 rfl ?_
            refine zS 8 rfl ?_
            refine zS 9 rfl ?_
            refine zS 10 rfl ?_
            refine zS 11 rfl ?_
            refine zS 12 rfl ?_
            refine zS 13 rfl ?_
            refine zS 14 rfl ?_
            refine zS 15 rfl ?_
            refine zS 16 rfl ?_
            refine zS 17 rfl ?_
            refine zS 18 rfl ?_
            refine zS 19 rfl ?_
            refine zS 20 rfl ?_
            refine zT 21 rfl ?_
            refine wpAnyH_ready (rs := [22]) (by kernel_rfl) (by simp) ?_
            refine AllReadyH.cons rfl (fun K hK => ?_) AllReadyH.nil
            go_simp
            ((go_at_call 134; refine (must_any _ _ _).mono ?_; rintro e w1 ⟨rfl, rfl⟩))
            (try dsimp only)
            refine hK.out _ _ ?_ (fun hNext => ?_)
            · try dsimp only
              exact (by repeat (first | exact Below.refl _ _ | assumption | refine Below.drew ?_ | refine Below.drewN ?_ _ | refine Below.allocT ?_ (Nat.le_refl _) _ | refine Below.setCell ?_ (by simp <;> omega) _ | refine Below.to ?_ (by assumption) (Nat.le_refl _)))
            clear hK K hHeld
            have hHeld := hNext
            clear hNext
            (try dsimp only at hHeld)
            try simp only [zX]
            refine zT 23 rfl ?_
            refine wpAnyH_done (by kernel_rfl) ?_ _
            go_wp2_with fail
            go_ret
            exact ⟨ret_int (by rw [HR.out]), Below.to HB0.out hHeld (Nat.le_refl _)⟩
          | true =>
            have hnn : (ra != rb) = true := by simpa using hN
            rw [btw_iff] at hA hB hC hD
            obtain ⟨a1, a2⟩ := hA
            obtain ⟨b1, b2⟩ := hB
            obtain ⟨d1, d2⟩ := hC
            have HA : Hid (btw ra 0 ((l.ss.length : Int) - 1) = true) := btw_t a1 a2
            have HB : Hid (btw rb 0 ((l.ss.length : Int) - 1) = true) := btw_t b1 b2
            have HC : Hid (btw rl 1 1000000 = true) := btw_t d1 d2
            have HD : Hid (btw rr 0 1000000 = true) := btw_t hD.1 hD.2
            obtain ⟨ka, rfl⟩ := Int.eq_ofNat_of_zero_le a1
            obtain ⟨kb, rfl⟩ := Int.eq_ofNat_of_zero_le b1
            obtain ⟨bf, off, xa, HXA, rfl, hbb, hq, e0, e1, e2⟩ := H.out.sp (k := ka) (by omega)
            obtain ⟨bf', off', xb, HXB, he, hbb', hq', f0, f1, f2⟩ := H.out.sp (k := kb) (by omega)
            injection he with he
            injection he with he1 he2
            subst he1 he2
            have hxa : xa.ok = true := by rw [← HXA.out]; exact HOK.out _ (getD_mem2 (by omega))
            have hxb : xb.ok = true := by rw [← HXB.out]; exact HOK.out _ (getD_mem2 (by omega))
            have hsq := sqS_bd hxa hxb
            have hr : Ru.ok l.ss ⟨ka, kb, rl, rr⟩ = decide (sqS xa xb ≤ rl * rl) := by
              unfold Ru.ok
              simp only []
              rw [HA.out, HB.out, hN, HC.out, HD.out, Int.toNat_natCast, Int.toNat_natCast, HXA.out, HXB.out]
              simp
            have HR := hide hr
            have HXK := hide hxa
            have HXL := hide hxb
            have hll := sq_bd (x := rl) (c := 1000000) (by omega) (by omega) (by omega)
            obtain ⟨sq, hsq2⟩ : ∃ z, sqS xa xb = z := ⟨_, rfl⟩
            have HSQ := hide hsq2
            rw [hsq2] at hsq HR
            have ia : (ka : Int) < (l.ss.length : Int) := by omega
            have ib : (kb : Int) < (l.ss.length : Int) := by omega
            have iq : (l.ss.length : Int) ≤ (q2 : Int) := by omega
            clear hsq2 hr hN hxa hxb a1 a2 b1 b2 hD
            go_enter Tryz.func137, Tryz.ntmps137
            go_upto_region 1 with (fail)
            generalize hw0 : World.alloc _ _ = w0
            obtain ⟨hb0, hB0, hs0⟩ := alloc1 hw0
            have c0 := cellOf hb0 0
            have c1 := cellOf hb0 1
            have c2 := cellOf hb0 2
            have c3 := cellOf hb0 3
            have l0 : w.heap.size < w0.heap.size := by omega
            have HL := hide (HL1.out.to hB0)
            have s0 := cellOf (HS.out.to hB0) 0
            have lsb : sb < w0.heap.size := by have := box_lt HS.out; omega
            have HB0 := hide hB0
            have lb1 : bf < w0.heap.size := by omega
            have ll1 : lb < w0.heap.size := box_lt HL.out
            have lx1 := cellOf HL.out 1
            have lx2 := cellOf HL.out 2
            have g0 := (hB0.cell (p := ⟨bf, off + ka * 3, none⟩) hbb).trans e0
            have g1 := (hB0.cell (p := ⟨bf, off + ka * 3 + 1, none⟩) hbb).trans e1
            have g2 := (hB0.cell (p := ⟨bf, off + ka * 3 + 2, none⟩) hbb).trans e2
            have g3 := (hB0.cell (p := ⟨bf, off + kb * 3, none⟩) hbb).trans f0
            have g4 := (hB0.cell (p := ⟨bf, off + kb * 3 + 1, none⟩) hbb).trans f1
            have g5 := (hB0.cell (p := ⟨bf, off + kb * 3 + 2, none⟩) hbb).trans f2
            clear e0 e1 e2 f0 f1 f2
            clear hw0 hb0 hs0 hB0
            go_upto_region 2 with (first | (go_at_call 135; refine (spotN_any _ _ _ _ _ _ _ _ _ _ _ _ _ l lb _ hm HL.out _ (by first | exact HA.out | exact HB.out)).mono ?_; rintro e w1 ⟨rfl, rfl⟩) | (go_at_call 106; refine (withinB_any _ _ _ _ _ (by first | exact HC.out | exact HD.out)).mono ?_; rintro e w1 ⟨rfl, rfl⟩))
            refine wp_region_held_drew (S := (fun w' => Below w0.heap.size w0 w')) (by kernel_rfl) ?_ (fun hHeld => ?_)
            · try dsimp only
              exact (by repeat (first | exact Below.refl _ _ | assumption | refine Below.drew ?_ | refine Below.drewN ?_ _ | refine Below.allocT ?_ (Nat.le_refl _) _ | refine Below.setCell ?_ (by simp <;> omega) _ | refine Below.to ?_ (by assumption) (Nat.le_refl _)))
            refine zT 0 rfl ?_
            refine zT 1 rfl ?_
            refine zT 2 rfl ?_
            refine zT 3 rfl ?_
            refine zT 4 rfl ?_
            refine zT 5 rfl ?_
            refine zT 6 rfl ?_
            refine zT 7 rfl ?_
            refine zT 8 rfl ?_
            refine zT 9 rfl ?_
            refine zT 10 rfl ?_
            refine zT 11 rfl ?_
            refine zT 12 rfl ?_
            refine zT 13 rfl ?_
            refine zT 14 rfl ?_
            refine zT 15 rfl ?_
            refine zT 16 rfl ?_
            refine zT 17 rfl ?_
            refine zT 18 rfl ?_
            refine wpAnyH_ready (rs := [19]) (by kernel_rfl) (by simp) ?_
            refine AllReadyH.cons rfl (fun K hK => ?_) AllReadyH.nil
            go_simp
            (first | (go_at_call 138; refine (square_any xa xb _ HXK.out HXL.out).mono ?_; rw [HSQ.out]; rintro e w2 ⟨rfl, hB2⟩) | (go_at_call 134; refine (must_any _ _ _).mono ?_; rintro e w1 ⟨rfl, rfl⟩))
            (try dsimp only)
            refine hK.out _ _ ?_ (fun hNext => ?_)
            · try dsimp only
              exact (by repeat (first | exact Below.refl _ _ | assumption | refine Below.drew ?_ | refine Below.drewN ?_ _ | refine Below.allocT ?_ (Nat.le_refl _) _ | refine Below.setCell ?_ (by simp <;> omega) _ | refine Below.to ?_ (by assumption) (Nat.le_refl _)))
            clear hK K hHeld
            have hHeld := hNext
            clear hNext
            (try dsimp only at hHeld)
            try simp only [zX]
            refine zT 20 rfl ?_
            refine zT 21 rfl ?_
            refine wpAnyH_ready (rs := [22]) (by kernel_rfl) (by simp) ?_
            refine AllReadyH.cons rfl (fun K hK => ?_) AllReadyH.nil
            go_simp
            (first | (go_at_call 138; refine (square_any xa xb _ HXK.out HXL.out).mono ?_; rw [HSQ.out]; rintro e w2 ⟨rfl, hB2⟩) | (go_at_call 134; refine (must_any _ _ _).mono ?_; rintro e w1 ⟨rfl, rfl⟩))
            (try dsimp only)
            refine hK.out _ _ ?_ (fun hNext => ?_)
            · try dsimp only
              exact (by repeat (first | exact Below.refl _ _ | assumption | refine Below.drew ?_ | refine Below.drewN ?_ _ | refine Below.allocT ?_ (Nat.le_refl _) _ | refine Below.setCell ?_ (by simp <;> omega) _ | refine Below.to ?_ (by assumption) (Nat.le_refl _)))
            clear hK K hHeld
            have hHeld := hNext
            clear hNext
            (try dsimp only at hHeld)
            try simp only [zX]
            refine zT 23 rfl ?_
            refine wpAnyH_done (by kernel_rfl) ?_ _
            go_wp2_with fail
            go_ret
            exact ⟨ret_int (by rw [HR.out, IntWalk.i64_in _ (by omega)]), Below.to HB0.out hHeld (Nat.le_refl _)⟩
end Go.Proofs.YtehadoecnmfeoaaGreat

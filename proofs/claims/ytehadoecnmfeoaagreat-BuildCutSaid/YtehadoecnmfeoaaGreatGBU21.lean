/- Part 21 of this claim's texts: walks and plain laws. -/
import Derived.Test.YtehadoecnmfeoaaGreatRows
import Derived.Test.YtehadoecnmfeoaaGreatGBU20
import Derived.Deep.RegionHeld3
import Derived.Deep.DrawnRows
import Derived.Test.YtehadoecnmfeoaaGreatGBU3
/- A run's check: walks. -/
namespace Go.Proofs.YtehadoecnmfeoaaGreat
open Go.RowKit
set_option linter.unusedVariables false
set_option linter.unusedSimpArgs false
theorem getD_mem2 {α : Type} {l : List α} {z : α} {k : Nat} (h : k < l.length) : l.getD k z ∈ l := by
  rw [List.getD_eq_getElem?_getD, List.getElem?_eq_getElem h]
  exact List.getElem_mem h
theorem withinB_any (n lo hi : Int) (w : World) (b : Bool) (hb : btw n lo hi = b) : Calls Tryz.prog 106 #[.int .i64 n, .int .i64 lo, .int .i64 hi] w fun e w' => e = .returned (.bool b) ∧ w = w' := by
  subst hb
  exact within_any n lo hi w
set_option maxRecDepth 100000 in
set_option maxHeartbeats 8000000 in
theorem ckRun_any (i : Int) (ra rb rl rr : Int) (A0 A1 A2 A3 A4 A5 : Option Addr) (q0 q1 q2 q3 q4 q5 : Nat) (l : Lo) (sb lb : Nat) (w : World) (hm : l.ss.length ≤ maxLen) (hL : LoBox w lb A0 A1 A2 A3 A4 A5 q0 q1 q2 q3 q4 q5 l) (hS : FnBox w sb 135 #[.pointer (some ⟨lb, 0, none⟩)] 114) (h : LoA w w.heap.size A0 A1 A2 A3 A4 A5 q0 q1 q2 q3 q4 q5 l) (hok : ∀ x ∈ l.ss, x.ok = true) :
    Calls Tryz.prog 137 #[.int .i64 i, .agg #[.int .i64 ra, .int .i64 rb, .int .i64 rl, .int .i64 rr], .pointer (some ⟨sb, 0, none⟩), .pointer (some ⟨lb, 0, none⟩)] w fun e w' => e = .returned (.int .i64 (mustE (Ru.ok l.ss ⟨ra, rb, rl, rr⟩) 61)) ∧ Below w.heap.size w w' := by
  have H := hide h
  have HOK := hide hok
  have HL1 := hide hL
  have HS := hide hS
  clear h hok hL hS
  cases hA : btw ra 0 ((l.ss.length : Int) - 1) with
  | false =>
    have hr : Ru.ok l.ss ⟨ra, rb, rl, rr⟩ = false := by unfold Ru.ok; simp only []; rw [hA]; simp
    have HR := hide hr
    have HA := hide hA
    clear hr hA
    go_enter Tryz.func137, Tryz.ntmps137
    go_upto_region 1 with (fail)
    generalize hw0 : World.alloc _ _ = w0
    obtain ⟨hb0, hB0, hs0⟩ := alloc1 hw0
    have c0 := cellOf hb0 0
    have c1 := cellOf hb0 1
    have c2 := cellOf hb0 2
    have c3 := cellOf hb0 3
    have l0 : w.heap.size < w0.heap.size := by omega
    have HL := hide (HL1.out.to hB0)
    have s0 := cellOf (HS.out.to hB0) 0
    have lsb : sb < w0.heap.size := by have := box_lt HS.out; omega
    have HB0 := hide hB0
    clear hw0 hb0 hs0 hB0
    go_upto_region 2 with (first | (go_at_call 135; refine (spotN_any _ _ _ _ _ _ _ _ _ _ _ _ _ l lb _ hm HL.out _ (by first | exact HA.out)).mono ?_; rintro e w1 ⟨rfl, rfl⟩) | (go_at_call 106; refine (withinB_any _ _ _ _ _ (by first | fail)).mono ?_; rintro e w1 ⟨rfl, rfl⟩))
    refine wp_region_held_drew (S := (fun w' => Below w0.heap.size w0 w')) (by kernel_rfl) ?_ (fun hHeld => ?_)
    · try dsimp only
      exact (by repeat (first | exact Below.refl _ _ | assumption | refine Below.drew ?_ | refine Below.drewN ?_ _ | refine Below.allocT ?_ (Nat.le_refl _) _ | refine Below.setCell ?_ (by simp <;> omega) _ | refine Below.to ?_ (by assumption) (Nat.le_refl _)))
    refine zT 0 rfl ?_
    try simp only [zX]
    refine zT 1 rfl ?_
    try simp only [zX]
    refine wpAnyH_take (i := 2) (v := undef) rfl (by kernel_rfl) (by kernel_rfl) (by kernel_rfl) (fun _ _ _ h => h) (Or.inr ⟨?w1_2, rfl⟩) (by assumption) ?r1_2
    case' w1_2 => first | rfl | (simp [Region.wanted, yielded, *]; done)
    try simp only [zX]
    refine wpAnyH_take (i := 3) (v := undef) rfl (by kernel_rfl) (by kernel_rfl) (by kernel_rfl) (fun _ _ _ h => h) (Or.inr ⟨?w1_3, rfl⟩) (by assumption) ?r1_3
    case' w1_3 => first | rfl | (simp [Region.wanted, yielded, *]; done)
    try simp only [zX]
    refine wpAnyH_take (i := 4) (v := undef) rfl (by kernel_rfl) (by kernel_rfl) (by kernel_rfl) (fun _ _ _ h => h) (Or.inr ⟨?w1_4, rfl⟩) (by assumption) ?r1_4
    case' w1_4 => first | rfl | (simp [Region.wanted, yielded, *]; done)
    try simp only [zX]
    refine wpAnyH_take (i := 5) (v := undef) rfl (by kernel_rfl) (by kernel_rfl) (by kernel_rfl) (fun _ _ _ h => h) (Or.inr ⟨?w1_5, rfl⟩) (by assumption) ?r1_5
    case' w1_5 => first | rfl | (simp [Region.wanted, yielded, *]; done)
    try simp only [zX]
    refine wpAnyH_take (i := 6) (v := undef) rfl (by kernel_rfl) (by kernel_rfl) (by kernel_rfl) (fun _ _ _ h => h) (Or.inr ⟨?w1_6, rfl⟩) (by assumption) ?r1_6
    case' w1_6 => first | rfl | (simp [Region.wanted, yielded, *]; done)
    try simp only [zX]
    refine wpAnyH_take (i := 7) (v := undef) rfl (by kernel_rfl) (by kernel_rfl) (by kernel_rfl) (fun _ _ _ h => h) (Or.inr ⟨?w1_7, rfl⟩) (by assumption) ?r1_7
    case' w1_7 => first | rfl | (simp [Region.wanted, yielded, *]; done)
    try simp only [zX]
    refine wpAnyH_take (i := 8) (v := undef) rfl (by kernel_rfl) (by kernel_rfl) (by kernel_rfl) (fun _ _ _ h => h) (Or.inr ⟨?w1_8, rfl⟩) (by assumption) ?r1_8
    case' w1_8 => first | rfl | (simp [Region.wanted, yielded, *]; done)
    try simp only [zX]
    refine wpAnyH_take (i := 9) (v := undef) rfl (by kernel_rfl) (by kernel_rfl) (by kernel_rfl) (fun _ _ _ h => h) (Or.inr ⟨?w1_9, rfl⟩) (by assumption) ?r1_9
    case' w1_9 => first | rfl | (simp [Region.wanted, yielded, *]; done)
    try simp only [zX]
    refine wpAnyH_take (i := 10) (v := undef) rfl (by kernel_rfl) (by kernel_rfl) (by kernel_rfl) (fun _ _ _ h => h) (Or.inr ⟨?w1_10, rfl⟩) (by assumption) ?r1_10
    case' w1_10 => first | rfl | (simp [Region.wanted, yielded, *]; done)
    try simp only [zX]
    refine wpAnyH_take (i := 11) (v := undef) rfl (by kernel_rfl) (by kernel_rfl) (by kernel_rfl) (fun _ _ _ h => h) (Or.inr ⟨?w1_11, rfl⟩) (by assumption) ?r1_11
    case' w1_11 => first | rfl | (simp [Region.wanted, yielded, *]; done)
    try simp only [zX]
    refine wpAnyH_take (i := 12) (v := undef) rfl (by kernel_rfl) (by kernel_rfl) (by kernel_rfl) (fun _ _ _ h => h) (Or.inr ⟨?w1_12, rfl⟩) (by assumption) ?r1_12
    case' w1_12 => first | rfl | (simp [Region.wanted, yielded, *]; done)
    try simp only [zX]
    refine wpAnyH_take (i := 13) (v := undef) rfl (by kernel_rfl) (by kernel_rfl) (by kernel_rfl) (fun _ _ _ h => h) (Or.inr ⟨?w1_13, rfl⟩) (by assumption) ?r1_13
    case' w1_13 => first | rfl | (simp [Region.wanted, yielded, *]; done)
    try simp only [zX]
    refine wpAnyH_take (i := 14) (v := undef) rfl (by kernel_rfl) (by kernel_rfl) (by kernel_rfl) (fun _ _ _ h => h) (Or.inr ⟨?w1_14, rfl⟩) (by assumption) ?r1_14
    case' w1_14 => first | rfl | (simp [Region.wanted, yielded, *]; done)
    try simp only [zX]
    refine wpAnyH_take (i := 15) (v := undef) rfl (by kernel_rfl) (by kernel_rfl) (by kernel_rfl) (fun _ _ _ h => h) (Or.inr ⟨?w1_15, rfl⟩) (by assumption) ?r1_15
    case' w1_15 => first | rfl | (simp [Region.wanted, yielded, *]; done)
    try simp only [zX]
    refine wpAnyH_take (i := 16) (v := undef) rfl (by kernel_rfl) (by kernel_rfl) (by kernel_rfl) (fun _ _ _ h => h) (Or.inr ⟨?w1_16, rfl⟩) (by assumption) ?r1_16
    case' w1_16 => first | rfl | (simp [Region.wanted, yielded, *]; done)
    try simp only [zX]
    refine wpAnyH_take (i := 17) (v := undef) rfl (by kernel_rfl) (by kernel_rfl) (by kernel_rfl) (fun _ _ _ h => h) (Or.inr ⟨?w1_17, rfl⟩) (by assumption) ?r1_17
    case' w1_17 => first | rfl | (simp [Region.wanted, yielded, *]; done)
    try simp only [zX]
    refine wpAnyH_take (i := 18) (v := undef) rfl (by kernel_rfl) (by kernel_rfl) (by kernel_rfl) (fun _ _ _ h => h) (Or.inr ⟨?w1_18, rfl⟩) (by assumption) ?r1_18
    case' w1_18 => first | rfl | (simp [Region.wanted, yielded, *]; done)
    try simp only [zX]
    refine wpAnyH_take (i := 19) (v := undef) rfl (by kernel_rfl) (by kernel_rfl) (by kernel_rfl) (fun _ _ _ h => h) (Or.inr ⟨?w1_19, rfl⟩) (by assumption) ?r1_19
    case' w1_19 => first | rfl | (simp [Region.wanted, yielded, *]; done)
    try simp only [zX]
    refine wpAnyH_take (i := 20) (v := undef) rfl (by kernel_rfl) (by kernel_rfl) (by kernel_rfl) (fun _ _ _ h => h) (Or.inr ⟨?w1_20, rfl⟩) (by assumption) ?r1_20
    case' w1_20 => first | rfl | (simp [Region.wanted, yielded, *]; done)
    try simp only [zX]
    refine zT 21 rfl ?_
    try simp only [zX]
    refine wpAnyH_ready (rs := [22]) (by kernel_rfl) (by simp) ?_
    refine AllReadyH.cons rfl (fun K hK => ?_) AllReadyH.nil
    go_simp
    ((go_at_call 134; refine (must_any _ _ _).mono ?_; rintro e w1 ⟨rfl, rfl⟩))
    (try dsimp only)
    refine hK.out _ _ ?_ (fun hNext => ?_)
    · try dsimp only
      exact (by repeat (first | exact Below.refl _ _ | assumption | refine Below.drew ?_ | refine Below.drewN ?_ _ | refine Below.allocT ?_ (Nat.le_refl _) _ | refine Below.setCell ?_ (by simp <;> omega) _ | refine Below.to ?_ (by assumption) (Nat.le_refl _)))
    clear hK K hHeld
    have hHeld := hNext
    clear hNext
    (try dsimp only at hHeld)
    try simp only [zX]
    refine zT 23 rfl ?_
    try simp only [zX]
    refine wpAnyH_done (by kernel_rfl) ?_ _
    go_wp2_with fail
    go_ret
    exact ⟨ret_int (by rw [HR.out]), Below.to HB0.out hHeld (Nat.le_refl _)⟩
  | true =>
    cases hB : btw rb 0 ((l.ss.length : Int) - 1) with
    | false =>
      have hr : Ru.ok l.ss ⟨ra, rb, rl, rr⟩ = false := by unfold Ru.ok; simp only []; rw [hA, hB]; simp
      have HR := hide hr
      have HA := hide hA
      have HB := hide hB
      clear hr hA hB
      go_enter Tryz.func137, Tryz.ntmps137
      go_upto_region 1 with (fail)
      generalize hw0 : World.alloc _ _ = w0
      obtain ⟨hb0, hB0, hs0⟩ := alloc1 hw0
      have c0 := cellOf hb0 0
      have c1 := cellOf hb0 1
      have c2 := cellOf hb0 2
      have c3 := cellOf hb0 3
      have l0 : w.heap.size < w0.heap.size := by omega
      have HL := hide (HL1.out.to hB0)
      have s0 := cellOf (HS.out.to hB0) 0
      have lsb : sb < w0.heap.size := by have := box_lt HS.out; omega
      have HB0 := hide hB0
      clear hw0 hb0 hs0 hB0
      go_upto_region 2 with (first | (go_at_call 135; refine (spotN_any _ _ _ _ _ _ _ _ _ _ _ _ _ l lb _ hm HL.out _ (by first | exact HA.out | exact HB.out)).mono ?_; rintro e w1 ⟨rfl, rfl⟩) | (go_at_call 106; refine (withinB_any _ _ _ _ _ (by first | fail)).mono ?_; rintro e w1 ⟨rfl, rfl⟩))
      refine wp_region_held_drew (S := (fun w' => Below w0.heap.size w0 w')) (by kernel_rfl) ?_ (fun hHeld => ?_)
      · try dsimp only
        exact (by repeat (first | exact Below.refl _ _ | assumption | refine Below.drew ?_ | refine Below.drewN ?_ _ | refine Below.allocT ?_ (Nat.le_refl _) _ | refine Below.setCell ?_ (by simp <;> omega) _ | refine Below.to ?_ (by assumption) (Nat.le_refl _)))
      refine zT 0 rfl ?_
      try simp only [zX]
      refine zT 1 rfl ?_
      try simp only [zX]
      refine wpAnyH_take (i := 2) (v := undef) rfl (by kernel_rfl) (by kernel_rfl) (by kernel_rfl) (fun _ _ _ h => h) (Or.inr ⟨?w2_2, rfl⟩) (by assumption) ?r2_2
      case' w2_2 => first | rfl | (simp [Region.wanted, yielded, *]; done)
      try simp only [zX]
      refine wpAnyH_take (i := 3) (v := undef) rfl (by kernel_rfl) (by kernel_rfl) (by kernel_rfl) (fun _ _ _ h => h) (Or.inr ⟨?w2_3, rfl⟩) (by assumption) ?r2_3
      case' w2_3 => first | rfl | (simp [Region.wanted, yielded, *]; done)
      try simp only [zX]
      refine wpAnyH_take (i := 4) (v := undef) rfl (by kernel_rfl) (by kernel_rfl) (by kernel_rfl) (fun _ _ _ h => h) (Or.inr ⟨?w2_4, rfl⟩) (by assumption) ?r2_4
      case' w2_4 => first | rfl | (simp [Region.wanted, yielded, *]; done)
      try simp only [zX]
      refine wpAnyH_take (i := 5) (v := undef) rfl (by kernel_rfl) (by kernel_rfl) (by kernel_rfl) (fun _ _ _ h => h) (Or.inr ⟨?w2_5, rfl⟩) (by assumption) ?r2_5
      case' w2_5 => first | rfl | (simp [Region.wanted, yielded, *]; done)
      try simp only [zX]
      refine wpAnyH_take (i := 6) (v := undef) rfl (by kernel_rfl) (by kernel_rfl) (by kernel_rfl) (fun _ _ _ h => h) (Or.inr ⟨?w2_6, rfl⟩) (by assumption) ?r2_6
      case' w2_6 => first | rfl | (simp [Region.wanted, yielded, *]; done)
      try simp only [zX]
      refine wpAnyH_take (i := 7) (v := undef) rfl (by kernel_rfl) (by kernel_rfl) (by kernel_rfl) (fun _ _ _ h => h) (Or.inr ⟨?w2_7, rfl⟩) (by assumption) ?r2_7
      case' w2_7 => first | rfl | (simp [Region.wanted, yielded, *]; done)
      try simp only [zX]
      refine wpAnyH_take (i := 8) (v := undef) rfl (by kernel_rfl) (by kernel_rfl) (by kernel_rfl) (fun _ _ _ h => h) (Or.inr ⟨?w2_8, rfl⟩) (by assumption) ?r2_8
      case' w2_8 => first | rfl | (simp [Region.wanted, yielded, *]; done)
      try simp only [zX]
      refine wpAnyH_take (i := 9) (v := undef) rfl (by kernel_rfl) (by kernel_rfl) (by kernel_rfl) (fun _ _ _ h => h) (Or.inr ⟨?w2_9, rfl⟩) (by assumption) ?r2_9
      case' w2_9 => first | rfl | (simp [Region.wanted, yielded, *]; done)
      try simp only [zX]
      refine wpAnyH_take (i := 10) (v := undef) rfl (by kernel_rfl) (by kernel_rfl) (by kernel_rfl) (fun _ _ _ h => h) (Or.inr ⟨?w2_10, rfl⟩) (by assumption) ?r2_10
      case' w2_10 => first | rfl | (simp [Region.wanted, yielded, *]; done)
      try simp only [zX]
      refine wpAnyH_take (i := 11) (v := undef) rfl (by kernel_rfl) (by kernel_rfl) (by kernel_rfl) (fun _ _ _ h => h) (Or.inr ⟨?w2_11, rfl⟩) (by assumption) ?r2_11
      case' w2_11 => first | rfl | (simp [Region.wanted, yielded, *]; done)
      try simp only [zX]
      refine wpAnyH_take (i := 12) (v := undef) rfl (by kernel_rfl) (by kernel_rfl) (by kernel_rfl) (fun _ _ _ h => h) (Or.inr ⟨?w2_12, rfl⟩) (by assumption) ?r2_12
      case' w2_12 => first | rfl | (simp [Region.wanted, yielded, *]; done)
      try simp only [zX]
      refine wpAnyH_take (i := 13) (v := undef) rfl (by kernel_rfl) (by kernel_rfl) (by kernel_rfl) (fun _ _ _ h => h) (Or.inr ⟨?w2_13, rfl⟩) (by assumption) ?r2_13
      case' w2_13 => first | rfl | (simp [Region.wanted, yielded, *]; done)
      try simp only [zX]
      refine wpAnyH_take (i := 14) (v := undef) rfl (by kernel_rfl) (by kernel_rfl) (by kernel_rfl) (fun _ _ _ h => h) (Or.inr ⟨?w2_14, rfl⟩) (by assumption) ?r2_14
      case' w2_14 => first | rfl | (simp [Region.wanted, yielded, *]; done)
      try simp only [zX]
      refine wpAnyH_take (i := 15) (v := undef) rfl (by kernel_rfl) (by kernel_rfl) (by kernel_rfl) (fun _ _ _ h => h) (Or.inr ⟨?w2_15, rfl⟩) (by assumption) ?r2_15
      case' w2_15 => first | rfl | (simp [Region.wanted, yielded, *]; done)
      try simp only [zX]
      refine wpAnyH_take (i := 16) (v := undef) rfl (by kernel_rfl) (by kernel_rfl) (by kernel_rfl) (fun _ _ _ h => h) (Or.inr ⟨?w2_16, rfl⟩) (by assumption) ?r2_16
      case' w2_16 => first | rfl | (simp [Region.wanted, yielded, *]; done)
      try simp only [zX]
      refine wpAnyH_take (i := 17) (v := undef) rfl (by kernel_rfl) (by kernel_rfl) (by kernel_rfl) (fun _ _ _ h => h) (Or.inr ⟨?w2_17, rfl⟩) (by assumption) ?r2_17
      case' w2_17 => first | rfl | (simp [Region.wanted, yielded, *]; done)
      try simp only [zX]
      refine wpAnyH_take (i := 18) (v := undef) rfl (by kernel_rfl) (by kernel_rfl) (by kernel_rfl) (fun _ _ _ h => h) (Or.inr ⟨?w2_18, rfl⟩) (by assumption) ?r2_18
      case' w2_18 => first | rfl | (simp [Region.wanted, yielded, *]; done)
      try simp only [zX]
      refine wpAnyH_take (i := 19) (v := undef) rfl (by kernel_rfl) (by kernel_rfl) (by kernel_rfl) (fun _ _ _ h => h) (Or.inr ⟨?w2_19, rfl⟩) (by assumption) ?r2_19
      case' w2_19 => first | rfl | (simp [Region.wanted, yielded, *]; done)
      try simp only [zX]
      refine wpAnyH_take (i := 20) (v := undef) rfl (by kernel_rfl) (by kernel_rfl) (by kernel_rfl) (fun _ _ _ h => h) (Or.inr ⟨?w2_20, rfl⟩) (by assumption) ?r2_20
      case' w2_20 => first | rfl | (simp [Region.wanted, yielded, *]; done)
      try simp only [zX]
      refine zT 21 rfl ?_
      try simp only [zX]
      refine wpAnyH_ready (rs := [22]) (by kernel_rfl) (by simp) ?_
      refine AllReadyH.cons rfl (fun K hK => ?_) AllReadyH.nil
      go_simp
      ((go_at_call 134; refine (must_any _ _ _).mono ?_; rintro e w1 ⟨rfl, rfl⟩))
      (try dsimp only)
      refine hK.out _ _ ?_ (fun hNext => ?_)
      · try dsimp only
        exact (by repeat (first | exact Below.refl _ _ | assumption | refine Below.drew ?_ | refine Below.drewN ?_ _ | refine Below.allocT ?_ (Nat.le_refl _) _ | refine Below.setCell ?_ (by simp <;> omega) _ | refine Below.to ?_ (by assumption) (Nat.le_refl _)))
      clear hK K hHeld
      have hHeld := hNext
      clear hNext
      (try dsimp only at hHeld)
      try simp only [zX]
      refine zT 23 rfl ?_
      try simp only [zX]
      refine wpAnyH_done (by kernel_rfl) ?_ _
      go_wp2_with fail
      go_ret
      exact ⟨ret_int (by rw [HR.out]), Below.to HB0.out hHeld (Nat.le_refl _)⟩
    | true =>
      cases hN : decide (ra ≠ rb) with
      | false =>
        have hr : Ru.ok l.ss ⟨ra, rb, rl, rr⟩ = false := by unfold Ru.ok; simp only []; rw [hA, hB, hN]; simp
        have HR := hide hr
        have HA := hide hA
        have HB := hide hB
        have hnn : (ra != rb) = false := by simpa using hN
        clear hr hA hB hN
        go_enter Tryz.func137, Tryz.ntmps137
        go_upto_region 1 with (fail)
        generalize hw0 : World.alloc _ _ = w0
        obtain ⟨hb0, hB0, hs0⟩ := alloc1 hw0
        have c0 := cellOf hb0 0
        have c1 := cellOf hb0 1
        have c2 := cellOf hb0 2
        have c3 := cellOf hb0 3
        have l0 : w.heap.size < w0.heap.size := by omega
        have HL := hide (HL1.out.to hB0)
        have s0 := cellOf (HS.out.to hB0) 0
        have lsb : sb < w0.heap.size := by have := box_lt HS.out; omega
        have HB0 := hide hB0
        clear hw0 hb0 hs0 hB0
        go_upto_region 2 with (first | (go_at_call 135; refine (spotN_any _ _ _ _ _ _ _ _ _ _ _ _ _ l lb _ hm HL.out _ (by first | exact HA.out | exact HB.out)).mono ?_; rintro e w1 ⟨rfl, rfl⟩) | (go_at_call 106; refine (withinB_any _ _ _ _ _ (by first | fail)).mono ?_; rintro e w1 ⟨rfl, rfl⟩))
        refine wp_region_held_drew (S := (fun w' => Below w0.heap.size w0 w')) (by kernel_rfl) ?_ (fun hHeld => ?_)
        · try dsimp only
          exact (by repeat (first | exact Below.refl _ _ | assumption | refine Below.drew ?_ | refine Below.drewN ?_ _ | refine Below.allocT ?_ (Nat.le_refl _) _ | refine Below.setCell ?_ (by simp <;> omega) _ | refine Below.to ?_ (by assumption) (Nat.le_refl _)))
        refine zT 0 rfl ?_
        try simp only [zX]
        refine zT 1 rfl ?_
        try simp only [zX]
        refine wpAnyH_take (i := 2) (v := undef) rfl (by kernel_rfl) (by kernel_rfl) (by kernel_rfl) (fun _ _ _ h => h) (Or.inr ⟨?w3_2, rfl⟩) (by assumption) ?r3_2
        case' w3_2 => first | rfl | (simp [Region.wanted, yielded, *]; done)
        try simp only [zX]
        refine wpAnyH_take (i := 3) (v := undef) rfl (by kernel_rfl) (by kernel_rfl) (by kernel_rfl) (fun _ _ _ h => h) (Or.inr ⟨?w3_3, rfl⟩) (by assumption) ?r3_3
        case' w3_3 => first | rfl | (simp [Region.wanted, yielded, *]; done)
        try simp only [zX]
        refine wpAnyH_take (i := 4) (v := undef) rfl (by kernel_rfl) (by kernel_rfl) (by kernel_rfl) (fun _ _ _ h => h) (Or.inr ⟨?w3_4, rfl⟩) (by assumption) ?r3_4
        case' w3_4 => first | rfl | (simp [Region.wanted, yielded, *]; done)
        try simp only [zX]
        refine wpAnyH_take (i := 5) (v := undef) rfl (by kernel_rfl) (by kernel_rfl) (by kernel_rfl) (fun _ _ _ h => h) (Or.inr ⟨?w3_5, rfl⟩) (by assumption) ?r3_5
        case' w3_5 => first | rfl | (simp [Region.wanted, yielded, *]; done)
        try simp only [zX]
        refine wpAnyH_take (i := 6) (v := undef) rfl (by kernel_rfl) (by kernel_rfl) (by kernel_rfl) (fun _ _ _ h => h) (Or.inr ⟨?w3_6, rfl⟩) (by assumption) ?r3_6
        case' w3_6 => first | rfl | (simp [Region.wanted, yielded, *]; done)
        try simp only [zX]
        refine wpAnyH_take (i := 7) (v := undef) rfl (by kernel_rfl) (by kernel_rfl) (by kernel_rfl) (fun _ _ _ h => h) (Or.inr ⟨?w3_7, rfl⟩) (by assumption) ?r3_7
        case' w3_7 => first | rfl | (simp [Region.wanted, yielded, *]; done)
        try simp only [zX]
        refine wpAnyH_take (i := 8) (v := undef) rfl (by kernel_rfl) (by kernel_rfl) (by kernel_rfl) (fun _ _ _ h => h) (Or.inr ⟨?w3_8, rfl⟩) (by assumption) ?r3_8
        case' w3_8 => first | rfl | (simp [Region.wanted, yielded, *]; done)
        try simp only [zX]
        refine wpAnyH_take (i := 9) (v := undef) rfl (by kernel_rfl) (by kernel_rfl) (by kernel_rfl) (fun _ _ _ h => h) (Or.inr ⟨?w3_9, rfl⟩) (by assumption) ?r3_9
        case' w3_9 => first | rfl | (simp [Region.wanted, yielded, *]; done)
        try simp only [zX]
        refine wpAnyH_take (i := 10) (v := undef) rfl (by kernel_rfl) (by kernel_rfl) (by kernel_rfl) (fun _ _ _ h => h) (Or.inr ⟨?w3_10, rfl⟩) (by assumption) ?r3_10
        case' w3_10 => first | rfl | (simp [Region.wanted, yielded, *]; done)
        try simp only [zX]
        refine wpAnyH_take (i := 11) (v := undef) rfl (by kernel_rfl) (by kernel_rfl) (by kernel_rfl) (fun _ _ _ h => h) (Or.inr ⟨?w3_11, rfl⟩) (by assumption) ?r3_11
        case' w3_11 => first | rfl | (simp [Region.wanted, yielded, *]; done)
        try simp only [zX]
        refine wpAnyH_take (i := 12) (v := undef) rfl (by kernel_rfl) (by kernel_rfl) (by kernel_rfl) (fun _ _ _ h => h) (Or.inr ⟨?w3_12, rfl⟩) (by assumption) ?r3_12
        case' w3_12 => first | rfl | (simp [Region.wanted, yielded, *]; done)
        try simp only [zX]
        refine wpAnyH_take (i := 13) (v := undef) rfl (by kernel_rfl) (by kernel_rfl) (by kernel_rfl) (fun _ _ _ h => h) (Or.inr ⟨?w3_13, rfl⟩) (by assumption) ?r3_13
        case' w3_13 => first | rfl | (simp [Region.wanted, yielded, *]; done)
        try simp only [zX]
        refine wpAnyH_take (i := 14) (v := undef) rfl (by kernel_rfl) (by kernel_rfl) (by kernel_rfl) (fun _ _ _ h => h) (Or.inr ⟨?w3_14, rfl⟩) (by assumption) ?r3_14
        case' w3_14 => first | rfl | (simp [Region.wanted, yielded, *]; done)
        try simp only [zX]
        refine wpAnyH_take (i := 15) (v := undef) rfl (by kernel_rfl) (by kernel_rfl) (by kernel_rfl) (fun _ _ _ h => h) (Or.inr ⟨?w3_15, rfl⟩) (by assumption) ?r3_15
        case' w3_15 => first | rfl | (simp [Region.wanted, yielded, *]; done)
        try simp only [zX]
        refine wpAnyH_take (i := 16) (v := undef) rfl (by kernel_rfl) (by kernel_rfl) (by kernel_rfl) (fun _ _ _ h => h) (Or.inr ⟨?w3_16, rfl⟩) (by assumption) ?r3_16
        case' w3_16 => first | rfl | (simp [Region.wanted, yielded, *]; done)
        try simp only [zX]
        refine wpAnyH_take (i := 17) (v := undef) rfl (by kernel_rfl) (by kernel_rfl) (by kernel_rfl) (fun _ _ _ h => h) (Or.inr ⟨?w3_17, rfl⟩) (by assumption) ?r3_17
        case' w3_17 => first | rfl | (simp [Region.wanted, yielded, *]; done)
        try simp only [zX]
        refine wpAnyH_take (i := 18) (v := undef) rfl (by kernel_rfl) (by kernel_rfl) (by kernel_rfl) (fun _ _ _ h => h) (Or.inr ⟨?w3_18, rfl⟩) (by assumption) ?r3_18
        case' w3_18 => first | rfl | (simp [Region.wanted, yielded, *]; done)
        try simp only [zX]
        refine wpAnyH_take (i := 19) (v := undef) rfl (by kernel_rfl) (by kernel_rfl) (by kernel_rfl) (fun _ _ _ h => h) (Or.inr ⟨?w3_19, rfl⟩) (by assumption) ?r3_19
        case' w3_19 => first | rfl | (simp [Region.wanted, yielded, *]; done)
        try simp only [zX]
        refine wpAnyH_take (i := 20) (v := undef) rfl (by kernel_rfl) (by kernel_rfl) (by kernel_rfl) (fun _ _ _ h => h) (Or.inr ⟨?w3_20, rfl⟩) (by assumption) ?r3_20
        case' w3_20 => first | rfl | (simp [Region.wanted, yielded, *]; done)
        try simp only [zX]
        refine zT 21 rfl ?_
        try simp only [zX]
        refine wpAnyH_ready (rs := [22]) (by kernel_rfl) (by simp) ?_
        refine AllReadyH.cons rfl (fun K hK => ?_) AllReadyH.nil
        go_simp
        ((go_at_call 134; refine (must_any _ _ _).mono ?_; rintro e w1 ⟨rfl, rfl⟩))
        (try dsimp only)
        refine hK.out _ _ ?_ (fun hNext => ?_)
        · try dsimp only
          exact (by repeat (first | exact Below.refl _ _ | assumption | refine Below.drew ?_ | refine Below.drewN ?_ _ | refine Below.allocT ?_ (Nat.le_refl _) _ | refine Below.setCell ?_ (by simp <;> omega) _ | refine Below.to ?_ (by assumption) (Nat.le_refl _)))
        clear hK K hHeld
        have hHeld := hNext
        clear hNext
        (try dsimp only at hHeld)
        try simp only [zX]
        refine zT 23 rfl ?_
        try simp only [zX]
        refine wpAnyH_done (by kernel_rfl) ?_ _
        go_wp2_with fail
        go_ret
        exact ⟨ret_int (by rw [HR.out]), Below.to HB0.out hHeld (Nat.le_refl _)⟩
      | true =>
        cases hC : btw rl 1 1000000 with
        | false =>
          have hr : Ru.ok l.ss ⟨ra, rb, rl, rr⟩ = false := by unfold Ru.ok; simp only []; rw [hA, hB, hN, hC]; simp
          have HR := hide hr
          have HA := hide hA
          have HB := hide hB
          have HC := hide hC
          have hnn : (ra != rb) = true := by simpa using hN
          clear hr hA hB hN hC
          go_enter Tryz.func137, Tryz.ntmps137
          go_upto_region 1 with (fail)
          generalize hw0 : World.alloc _ _ = w0
          obtain ⟨hb0, hB0, hs0⟩ := alloc1 hw0
          have c0 := cellOf hb0 0
          have c1 := cellOf hb0 1
          have c2 := cellOf hb0 2
          have c3 := cellOf hb0 3
          have l0 : w.heap.size < w0.heap.size := by omega
          have HL := hide (HL1.out.to hB0)
          have s0 := cellOf (HS.out.to hB0) 0
          have lsb : sb < w0.heap.size := by have := box_lt HS.out; omega
          have HB0 := hide hB0
          clear hw0 hb0 hs0 hB0
          go_upto_region 2 with (first | (go_at_call 135; refine (spotN_any _ _ _ _ _ _ _ _ _ _ _ _ _ l lb _ hm HL.out _ (by first | exact HA.out | exact HB.out)).mono ?_; rintro e w1 ⟨rfl, rfl⟩) | (go_at_call 106; refine (withinB_any _ _ _ _ _ (by first | exact HC.out)).mono ?_; rintro e w1 ⟨rfl, rfl⟩))
          refine wp_region_held_drew (S := (fun w' => Below w0.heap.size w0 w')) (by kernel_rfl) ?_ (fun hHeld => ?_)
          · try dsimp only
            exact (by repeat (first | exact Below.refl _ _ | assumption | refine Below.drew ?_ | refine Below.drewN ?_ _ | refine Below.allocT ?_ (Nat.le_refl _) _ | refine Below.setCell ?_ (by simp <;> omega) _ | refine Below.to ?_ (by assumption) (Nat.le_refl _)))
          refine zT 0 rfl ?_
          try simp only [zX]
          refine zT 1 rfl ?_
          try simp only [zX]
          refine wpAnyH_take (i := 2) (v := undef) rfl (by kernel_rfl) (by kernel_rfl) (by kernel_rfl) (fun _ _ _ h => h) (Or.inr ⟨?w4_2, rfl⟩) (by assumption) ?r4_2
          case' w4_2 => first | rfl | (simp [Region.wanted, yielded, *]; done)
          try simp only [zX]
          refine wpAnyH_take (i := 3) (v := undef) rfl (by kernel_rfl) (by kernel_rfl) (by kernel_rfl) (fun _ _ _ h => h) (Or.inr ⟨?w4_3, rfl⟩) (by assumption) ?r4_3
          case' w4_3 => first | rfl | (simp [Region.wanted, yielded, *]; done)
          try simp only [zX]
          refine wpAnyH_take (i := 4) (v := undef) rfl (by kernel_rfl) (by kernel_rfl) (by kernel_rfl) (fun _ _ _ h => h) (Or.inr ⟨?w4_4, rfl⟩) (by assumption) ?r4_4
          case' w4_4 => first | rfl | (simp [Region.wanted, yielded, *]; done)
          try simp only [zX]
          refine wpAnyH_take (i := 5) (v := undef) rfl (by kernel_rfl) (by kernel_rfl) (by kernel_rfl) (fun _ _ _ h => h) (Or.inr ⟨?w4_5, rfl⟩) (by assumption) ?r4_5
          case' w4_5 => first | rfl | (simp [Region.wanted, yielded, *]; done)
          try simp only [zX]
          refine wpAnyH_take (i := 6) (v := undef) rfl (by kernel_rfl) (by kernel_rfl) (by kernel_rfl) (fun _ _ _ h => h) (Or.inr ⟨?w4_6, rfl⟩) (by assumption) ?r4_6
          case' w4_6 => first | rfl | (simp [Region.wanted, yielded, *]; done)
          try simp only [zX]
          refine wpAnyH_take (i := 7) (v := undef) rfl (by kernel_rfl) (by kernel_rfl) (by kernel_rfl) (fun _ _ _ h => h) (Or.inr ⟨?w4_7, rfl⟩) (by assumption) ?r4_7
          case' w4_7 => first | rfl | (simp [Region.wanted, yielded, *]; done)
          try simp only [zX]
          refine wpAnyH_take (i := 8) (v := undef) rfl (by kernel_rfl) (by kernel_rfl) (by kernel_rfl) (fun _ _ _ h => h) (Or.inr ⟨?w4_8, rfl⟩) (by assumption) ?r4_8
          case' w4_8 => first | rfl | (simp [Region.wanted, yielded, *]; done)
          try simp only [zX]
          refine wpAnyH_take (i := 9) (v := undef) rfl (by kernel_rfl) (by kernel_rfl) (by kernel_rfl) (fun _ _ _ h => h) (Or.inr ⟨?w4_9, rfl⟩) (by assumption) ?r4_9
          case' w4_9 => first | rfl | (simp [Region.wanted, yielded, *]; done)
          try simp only [zX]
          refine wpAnyH_take (i := 10) (v := undef) rfl (by kernel_rfl) (by kernel_rfl) (by kernel_rfl) (fun _ _ _ h => h) (Or.inr ⟨?w4_10, rfl⟩) (by assumption) ?r4_10
          case' w4_10 => first | rfl | (simp [Region.wanted, yielded, *]; done)
          try simp only [zX]
          refine wpAnyH_take (i := 11) (v := undef) rfl (by kernel_rfl) (by kernel_rfl) (by kernel_rfl) (fun _ _ _ h => h) (Or.inr ⟨?w4_11, rfl⟩) (by assumption) ?r4_11
          case' w4_11 => first | rfl | (simp [Region.wanted, yielded, *]; done)
          try simp only [zX]
          refine wpAnyH_take (i := 12) (v := undef) rfl (by kernel_rfl) (by kernel_rfl) (by kernel_rfl) (fun _ _ _ h => h) (Or.inr ⟨?w4_12, rfl⟩) (by assumption) ?r4_12
          case' w4_12 => first | rfl | (simp [Region.wanted, yielded, *]; done)
          try simp only [zX]
          refine wpAnyH_take (i := 13) (v := undef) rfl (by kernel_rfl) (by kernel_rfl) (by kernel_rfl) (fun _ _ _ h => h) (Or.inr ⟨?w4_13, rfl⟩) (by assumption) ?r4_13
          case' w4_13 => first | rfl | (simp [Region.wanted, yielded, *]; done)
          try simp only [zX]
          refine wpAnyH_take (i := 14) (v := undef) rfl (by kernel_rfl) (by kernel_rfl) (by kernel_rfl) (fun _ _ _ h => h) (Or.inr ⟨?w4_14, rfl⟩) (by assumption) ?r4_14
          case' w4_14 => first | rfl | (simp [Region.wanted, yielded, *]; done)
          try simp only [zX]
          refine wpAnyH_take (i := 15) (v := undef) rfl (by kernel_rfl) (by kernel_rfl) (by kernel_rfl) (fun _ _ _ h => h) (Or.inr ⟨?w4_15, rfl⟩) (by assumption) ?r4_15
          case' w4_15 => first | rfl | (simp [Region.wanted, yielded, *]; done)
          try simp only [zX]
          refine wpAnyH_take (i := 16) (v := undef) rfl (by kernel_rfl) (by kernel_rfl) (by kernel_rfl) (fun _ _ _ h => h) (Or.inr ⟨?w4_16, rfl⟩) (by assumption) ?r4_16
          case' w4_16 => first | rfl | (simp [Region.wanted, yielded, *]; done)
          try simp only [zX]
          refine wpAnyH_take (i := 17) (v := undef) rfl (by kernel_rfl) (by kernel_rfl) (by kernel_rfl) (fun _ _ _ h => h) (Or.inr ⟨?w4_17, rfl⟩) (by assumption) ?r4_17
          case' w4_17 => first | rfl | (simp [Region.wanted, yielded, *]; done)
          try simp only [zX]
          refine wpAnyH_take (i := 18) (v := undef) rfl (by kernel_rfl) (by kernel_rfl) (by kernel_rfl) (fun _ _ _ h => h) (Or.inr ⟨?w4_18, rfl⟩) (by assumption) ?r4_18
          case' w4_18 => first | rfl | (simp [Region.wanted, yielded, *]; done)
          try simp only [zX]
          refine wpAnyH_take (i := 19) (v := undef) rfl (by kernel_rfl) (by kernel_rfl) (by kernel_rfl) (fun _ _ _ h => h) (Or.inr ⟨?w4_19, rfl⟩) (by assumption) ?r4_19
          case' w4_19 => first | rfl | (simp [Region.wanted, yielded, *]; done)
          try simp only [zX]
          refine wpAnyH_take (i := 20) (v := undef) rfl (by kernel_rfl) (by kernel_rfl) (by kernel_rfl) (fun _ _ _ h => h) (Or.inr ⟨?w4_20, rfl⟩) (by assumption) ?r4_20
          case' w4_20 => first | rfl | (simp [Region.wanted, yielded, *]; done)
          try simp only [zX]
          refine zT 21 rfl ?_
          try simp only [zX]
          refine wpAnyH_ready (rs := [22]) (by kernel_rfl) (by simp) ?_
          refine AllReadyH.cons rfl (fun K hK => ?_) AllReadyH.nil
          go_simp
          ((go_at_call 134; refine (must_any _ _ _).mono ?_; rintro e w1 ⟨rfl, rfl⟩))
          (try dsimp only)
          refine hK.out _ _ ?_ (fun hNext => ?_)
          · try dsimp only
            exact (by repeat (first | exact Below.refl _ _ | assumption | refine Below.drew ?_ | refine Below.drewN ?_ _ | refine Below.allocT ?_ (Nat.le_refl _) _ | refine Below.setCell ?_ (by simp <;> omega) _ | refine Below.to ?_ (by assumption) (Nat.le_refl _)))
          clear hK K hHeld
          have hHeld := hNext
          clear hNext
          (try dsimp only at hHeld)
          try simp only [zX]
          refine zT 23 rfl ?_
          try simp only [zX]
          refine wpAnyH_done (by kernel_rfl) ?_ _
          go_wp2_with fail
          go_ret
          exact ⟨ret_int (by rw [HR.out]), Below.to HB0.out hHeld (Nat.le_refl _)⟩
        | true =>
          cases hD : btw rr 0 1000000 with
          | false =>
            have hr : Ru.ok l.ss ⟨ra, rb, rl, rr⟩ = false := by unfold Ru.ok; simp only []; rw [hA, hB, hN, hC, hD]; simp
            have HR := hide hr
            have HA := hide hA
            have HB := hide hB
            have HC := hide hC
            have HD := hide hD
            have hnn : (ra != rb) = true := by simpa using hN
            clear hr hA hB hN hC hD
            go_enter Tryz.func137, Tryz.ntmps137
            go_upto_region 1 with (fail)
            generalize hw0 : World.alloc _ _ = w0
            obtain ⟨hb0, hB0, hs0⟩ := alloc1 hw0
            have c0 := cellOf hb0 0
            have c1 := cellOf hb0 1
            have c2 := cellOf hb0 2
            have c3 := cellOf hb0 3
            have l0 : w.heap.size < w0.heap.size := by omega
            have HL := hide (HL1.out.to hB0)
            have s0 := cellOf (HS.out.to hB0) 0
            have lsb : sb < w0.heap.size := by have := box_lt HS.out; omega
            have HB0 := hide hB0
            clear hw0 hb0 hs0 hB0
            go_upto_region 2 with (first | (go_at_call 135; refine (spotN_any _ _ _ _ _ _ _ _ _ _ _ _ _ l lb _ hm HL.out _ (by first | exact HA.out | exact HB.out)).mono ?_; rintro e w1 ⟨rfl, rfl⟩) | (go_at_call 106; refine (withinB_any _ _ _ _ _ (by first | exact HC.out | exact HD.out)).mono ?_; rintro e w1 ⟨rfl, rfl⟩))
            refine wp_region_held_drew (S := (fun w' => Below w0.heap.size w0 w')) (by kernel_rfl) ?_ (fun hHeld => ?_)
            · try dsimp only
              exact (by repeat (first | exact Below.refl _ _ | assumption | refine Below.drew ?_ | refine Below.drewN ?_ _ | refine Below.allocT ?_ (Nat.le_refl _) _ | refine Below.setCell ?_ (by simp <;> omega) _ | refine Below.to ?_ (by assumption) (Nat.le_refl _)))
            refine zT 0 rfl ?_
            try simp only [zX]
            refine zT 1 rfl ?_
            try simp only [zX]
            refine wpAnyH_take (i := 2) (v := undef) rfl (by kernel_rfl) (by kernel_rfl) (by kernel_rfl) (fun _ _ _ h => h) (Or.inr ⟨?w5_2, rfl⟩) (by assumption) ?r5_2
            case' w5_2 => first | rfl | (simp [Region.wanted, yielded, *]; done)
            try simp only [zX]
            refine wpAnyH_take (i := 3) (v := undef) rfl (by kernel_rfl) (by kernel_rfl) (by kernel_rfl) (fun _ _ _ h => h) (Or.inr ⟨?w5_3, rfl⟩) (by assumption) ?r5_3
            case' w5_3 => first | rfl | (simp [Region.wanted, yielded, *]; done)
            try simp only [zX]
            refine wpAnyH_take (i := 4) (v := undef) rfl (by kernel_rfl) (by kernel_rfl) (by kernel_rfl) (fun _ _ _ h => h) (Or.inr ⟨?w5_4, rfl⟩) (by assumption) ?r5_4
            case' w5_4 => first | rfl | (simp [Region.wanted, yielded, *]; done)
            try simp only [zX]
            refine wpAnyH_take (i := 5) (v := undef) rfl (by kernel_rfl) (by kernel_rfl) (by kernel_rfl) (fun _ _ _ h => h) (Or.inr ⟨?w5_5, rfl⟩) (by assumption) ?r5_5
            case' w5_5 => first | rfl | (simp [Region.wanted, yielded, *]; done)
            try simp only [zX]
            refine wpAnyH_take (i := 6) (v := undef) rfl (by kernel_rfl) (by kernel_rfl) (by kernel_rfl) (fun _ _ _ h => h) (Or.inr ⟨?w5_6, rfl⟩) (by assumption) ?r5_6
            case' w5_6 => first | rfl | (simp [Region.wanted, yielded, *]; done)
            try simp only [zX]
            refine wpAnyH_take (i := 7) (v := undef) rfl (by kernel_rfl) (by kernel_rfl) (by kernel_rfl) (fun _ _ _ h => h) (Or.inr ⟨?w5_7, rfl⟩) (by assumption) ?r5_7
            case' w5_7 => first | rfl | (simp [Region.wanted, yielded, *]; done)
            try simp only [zX]
            refine wpAnyH_take (i := 8) (v := undef) rfl (by kernel_rfl) (by kernel_rfl) (by kernel_rfl) (fun _ _ _ h => h) (Or.inr ⟨?w5_8, rfl⟩) (by assumption) ?r5_8
            case' w5_8 => first | rfl | (simp [Region.wanted, yielded, *]; done)
            try simp only [zX]
            refine wpAnyH_take (i := 9) (v := undef) rfl (by kernel_rfl) (by kernel_rfl) (by kernel_rfl) (fun _ _ _ h => h) (Or.inr ⟨?w5_9, rfl⟩) (by assumption) ?r5_9
            case' w5_9 => first | rfl | (simp [Region.wanted, yielded, *]; done)
            try simp only [zX]
            refine wpAnyH_take (i := 10) (v := undef) rfl (by kernel_rfl) (by kernel_rfl) (by kernel_rfl) (fun _ _ _ h => h) (Or.inr ⟨?w5_10, rfl⟩) (by assumption) ?r5_10
            case' w5_10 => first | rfl | (simp [Region.wanted, yielded, *]; done)
            try simp only [zX]
            refine wpAnyH_take (i := 11) (v := undef) rfl (by kernel_rfl) (by kernel_rfl) (by kernel_rfl) (fun _ _ _ h => h) (Or.inr ⟨?w5_11, rfl⟩) (by assumption) ?r5_11
            case' w5_11 => first | rfl | (simp [Region.wanted, yielded, *]; done)
            try simp only [zX]
            refine wpAnyH_take (i := 12) (v := undef) rfl (by kernel_rfl) (by kernel_rfl) (by kernel_rfl) (fun _ _ _ h => h) (Or.inr ⟨?w5_12, rfl⟩) (by assumption) ?r5_12
            case' w5_12 => first | rfl | (simp [Region.wanted, yielded, *]; done)
            try simp only [zX]
            refine wpAnyH_take (i := 13) (v := undef) rfl (by kernel_rfl) (by kernel_rfl) (by kernel_rfl) (fun _ _ _ h => h) (Or.inr ⟨?w5_13, rfl⟩) (by assumption) ?r5_13
            case' w5_13 => first | rfl | (simp [Region.wanted, yielded, *]; done)
            try simp only [zX]
            refine wpAnyH_take (i := 14) (v := undef) rfl (by kernel_rfl) (by kernel_rfl) (by kernel_rfl) (fun _ _ _ h => h) (Or.inr ⟨?w5_14, rfl⟩) (by assumption) ?r5_14
            case' w5_14 => first | rfl | (simp [Region.wanted, yielded, *]; done)
            try simp only [zX]
            refine wpAnyH_take (i := 15) (v := undef) rfl (by kernel_rfl) (by kernel_rfl) (by kernel_rfl) (fun _ _ _ h => h) (Or.inr ⟨?w5_15, rfl⟩) (by assumption) ?r5_15
            case' w5_15 => first | rfl | (simp [Region.wanted, yielded, *]; done)
            try simp only [zX]
            refine wpAnyH_take (i := 16) (v := undef) rfl (by kernel_rfl) (by kernel_rfl) (by kernel_rfl) (fun _ _ _ h => h) (Or.inr ⟨?w5_16, rfl⟩) (by assumption) ?r5_16
            case' w5_16 => first | rfl | (simp [Region.wanted, yielded, *]; done)
            try simp only [zX]
            refine wpAnyH_take (i := 17) (v := undef) rfl (by kernel_rfl) (by kernel_rfl) (by kernel_rfl) (fun _ _ _ h => h) (Or.inr ⟨?w5_17, rfl⟩) (by assumption) ?r5_17
            case' w5_17 => first | rfl | (simp [Region.wanted, yielded, *]; done)
            try simp only [zX]
            refine wpAnyH_take (i := 18) (v := undef) rfl (by kernel_rfl) (by kernel_rfl) (by kernel_rfl) (fun _ _ _ h => h) (Or.inr ⟨?w5_18, rfl⟩) (by assumption) ?r5_18
            case' w5_18 => first | rfl | (simp [Region.wanted, yielded, *]; done)
            try simp only [zX]
            refine wpAnyH_take (i := 19) (v := undef) rfl (by kernel_rfl) (by kernel_rfl) (by kernel_rfl) (fun _ _ _ h => h) (Or.inr ⟨?w5_19, rfl⟩) (by assumption) ?r5_19
            case' w5_19 => first | rfl | (simp [Region.wanted, yielded, *]; done)
            try simp only [zX]
            refine wpAnyH_take (i := 20) (v := undef) rfl (by kernel_rfl) (by kernel_rfl) (by kernel_rfl) (fun _ _ _ h => h) (Or.inr ⟨?w5_20, rfl⟩) (by assumption) ?r5_20
            case' w5_20 => first | rfl | (simp [Region.wanted, yielded, *]; done)
            try simp only [zX]
            refine zT 21 rfl ?_
            try simp only [zX]
            refine wpAnyH_ready (rs := [22]) (by kernel_rfl) (by simp) ?_
            refine AllReadyH.cons rfl (fun K hK => ?_) AllReadyH.nil
            go_simp
            ((go_at_call 134; refine (must_any _ _ _).mono ?_; rintro e w1 ⟨rfl, rfl⟩))
            (try dsimp only)
            refine hK.out _ _ ?_ (fun hNext => ?_)
            · try dsimp only
              exact (by repeat (first | exact Below.refl _ _ | assumption | refine Below.drew ?_ | refine Below.drewN ?_ _ | refine Below.allocT ?_ (Nat.le_refl _) _ | refine Below.setCell ?_ (by simp <;> omega) _ | refine Below.to ?_ (by assumption) (Nat.le_refl _)))
            clear hK K hHeld
            have hHeld := hNext
            clear hNext
            (try dsimp only at hHeld)
            try simp only [zX]
            refine zT 23 rfl ?_
            try simp only [zX]
            refine wpAnyH_done (by kernel_rfl) ?_ _
            go_wp2_with fail
            go_ret
            exact ⟨ret_int (by rw [HR.out]), Below.to HB0.out hHeld (Nat.le_refl _)⟩
          | true =>
            have hnn : (ra != rb) = true := by simpa using hN
            rw [btw_iff] at hA hB hC hD
            obtain ⟨a1, a2⟩ := hA
            obtain ⟨b1, b2⟩ := hB
            obtain ⟨d1, d2⟩ := hC
            have HA : Hid (btw ra 0 ((l.ss.length : Int) - 1) = true) := btw_t a1 a2
            have HB : Hid (btw rb 0 ((l.ss.length : Int) - 1) = true) := btw_t b1 b2
            have HC : Hid (btw rl 1 1000000 = true) := btw_t d1 d2
            have HD : Hid (btw rr 0 1000000 = true) := btw_t hD.1 hD.2
            obtain ⟨ka, rfl⟩ := Int.eq_ofNat_of_zero_le a1
            obtain ⟨kb, rfl⟩ := Int.eq_ofNat_of_zero_le b1
            obtain ⟨bf, off, xa, HXA, rfl, hbb, hq, e0, e1, e2⟩ := H.out.sp (k := ka) (by omega)
            obtain ⟨bf', off', xb, HXB, he, hbb', hq', f0, f1, f2⟩ := H.out.sp (k := kb) (by omega)
            injection he with he
            injection he with he1 he2
            subst he1 he2
            have hxa : xa.ok = true := by rw [← HXA.out]; exact HOK.out _ (getD_mem2 (by omega))
            have hxb : xb.ok = true := by rw [← HXB.out]; exact HOK.out _ (getD_mem2 (by omega))
            have hsq := sqS_bd hxa hxb
            have hr : Ru.ok l.ss ⟨ka, kb, rl, rr⟩ = decide (sqS xa xb ≤ rl * rl) := by
              unfold Ru.ok
              simp only []
              rw [HA.out, HB.out, hN, HC.out, HD.out, Int.toNat_natCast, Int.toNat_natCast, HXA.out, HXB.out]
              simp
            have HR := hide hr
            have HXK := hide hxa
            have HXL := hide hxb
            have hll := sq_bd (x := rl) (c := 1000000) (by omega) (by omega) (by omega)
            obtain ⟨sq, hsq2⟩ : ∃ z, sqS xa xb = z := ⟨_, rfl⟩
            have HSQ := hide hsq2
            rw [hsq2] at hsq HR
            have ia : (ka : Int) < (l.ss.length : Int) := by omega
            have ib : (kb : Int) < (l.ss.length : Int) := by omega
            have iq : (l.ss.length : Int) ≤ (q2 : Int) := by omega
            clear hsq2 hr hN hxa hxb a1 a2 b1 b2 hD
            go_enter Tryz.func137, Tryz.ntmps137
            go_upto_region 1 with (fail)
            generalize hw0 : World.alloc _ _ = w0
            obtain ⟨hb0, hB0, hs0⟩ := alloc1 hw0
            have c0 := cellOf hb0 0
            have c1 := cellOf hb0 1
            have c2 := cellOf hb0 2
            have c3 := cellOf hb0 3
            have l0 : w.heap.size < w0.heap.size := by omega
            have HL := hide (HL1.out.to hB0)
            have s0 := cellOf (HS.out.to hB0) 0
            have lsb : sb < w0.heap.size := by have := box_lt HS.out; omega
            have HB0 := hide hB0
            have lb1 : bf < w0.heap.size := by omega
            have ll1 : lb < w0.heap.size := box_lt HL.out
            have lx1 := cellOf HL.out 1
            have lx2 := cellOf HL.out 2
            have g0 := (hB0.cell (p := ⟨bf, off + ka * 3, none⟩) hbb).trans e0
            have g1 := (hB0.cell (p := ⟨bf, off + ka * 3 + 1, none⟩) hbb).trans e1
            have g2 := (hB0.cell (p := ⟨bf, off + ka * 3 + 2, none⟩) hbb).trans e2
            have g3 := (hB0.cell (p := ⟨bf, off + kb * 3, none⟩) hbb).trans f0
            have g4 := (hB0.cell (p := ⟨bf, off + kb * 3 + 1, none⟩) hbb).trans f1
            have g5 := (hB0.cell (p := ⟨bf, off + kb * 3 + 2, none⟩) hbb).trans f2
            clear e0 e1 e2 f0 f1 f2
            clear hw0 hb0 hs0 hB0
            go_upto_region 2 with (first | (go_at_call 135; refine (spotN_any _ _ _ _ _ _ _ _ _ _ _ _ _ l lb _ hm HL.out _ (by first | exact HA.out | exact HB.out)).mono ?_; rintro e w1 ⟨rfl, rfl⟩) | (go_at_call 106; refine (withinB_any _ _ _ _ _ (by first | exact HC.out | exact HD.out)).mono ?_; rintro e w1 ⟨rfl, rfl⟩))
            refine wp_region_held_drew (S := (fun w' => Below w0.heap.size w0 w')) (by kernel_rfl) ?_ (fun hHeld => ?_)
            · try dsimp only
              exact (by repeat (first | exact Below.refl _ _ | assumption | refine Below.drew ?_ | refine Below.drewN ?_ _ | refine Below.allocT ?_ (Nat.le_refl _) _ | refine Below.setCell ?_ (by simp <;> omega) _ | refine Below.to ?_ (by assumption) (Nat.le_refl _)))
            refine zT 0 rfl ?_
            try simp only [zX]
            refine zT 1 rfl ?_
            try simp only [zX]
            refine zT 2 rfl ?_
            try simp only [zX]
            refine zT 3 rfl ?_
            try simp only [zX]
            refine zT 4 rfl ?_
            try simp only [zX]
            refine zT 5 rfl ?_
            try simp only [zX]
            refine zT 6 rfl ?_
            try simp only [zX]
            refine zT 7 rfl ?_
            try simp only [zX]
            refine zT 8 rfl ?_
            try simp only [zX]
            refine zT 9 rfl ?_
            try simp only [zX]
            refine zT 10 rfl ?_
            try simp only [zX]
            refine zT 11 rfl ?_
            try simp only [zX]
            refine zT 12 rfl ?_
            try simp only [zX]
            refine zT 13 rfl ?_
            try simp only [zX]
            refine zT 14 rfl ?_
            try simp only [zX]
            refine zT 15 rfl ?_
            try simp only [zX]
            refine zT 16 rfl ?_
            try simp only [zX]
            refine zT 17 rfl ?_
            try simp only [zX]
            refine zT 18 rfl ?_
            try simp only [zX]
            refine wpAnyH_ready (rs := [19]) (by kernel_rfl) (by simp) ?_
            refine AllReadyH.cons rfl (fun K hK => ?_) AllReadyH.nil
            go_simp
            (first | (go_at_call 138; refine (square_any xa xb _ HXK.out HXL.out).mono ?_; rw [HSQ.out]; rintro e w2 ⟨rfl, hB2⟩) | (go_at_call 134; refine (must_any _ _ _).mono ?_; rintro e w1 ⟨rfl, rfl⟩))
            (try dsimp only)
            refine hK.out _ _ ?_ (fun hNext => ?_)
            · try dsimp only
              exact (by repeat (first | exact Below.refl _ _ | assumption | refine Below.drew ?_ | refine Below.drewN ?_ _ | refine Below.allocT ?_ (Nat.le_refl _) _ | refine Below.setCell ?_ (by simp <;> omega) _ | refine Below.to ?_ (by assumption) (Nat.le_refl _)))
            clear hK K hHeld
            have hHeld := hNext
            clear hNext
            (try dsimp only at hHeld)
            try simp only [zX]
            refine zT 20 rfl ?_
            try simp only [zX]
            refine zT 21 rfl ?_
            try simp only [zX]
            refine wpAnyH_ready (rs := [22]) (by kernel_rfl) (by simp) ?_
            refine AllReadyH.cons rfl (fun K hK => ?_) AllReadyH.nil
            go_simp
            (first | (go_at_call 138; refine (square_any xa xb _ HXK.out HXL.out).mono ?_; rw [HSQ.out]; rintro e w2 ⟨rfl, hB2⟩) | (go_at_call 134; refine (must_any _ _ _).mono ?_; rintro e w1 ⟨rfl, rfl⟩))
            (try dsimp only)
            refine hK.out _ _ ?_ (fun hNext => ?_)
            · try dsimp only
              exact (by repeat (first | exact Below.refl _ _ | assumption | refine Below.drew ?_ | refine Below.drewN ?_ _ | refine Below.allocT ?_ (Nat.le_refl _) _ | refine Below.setCell ?_ (by simp <;> omega) _ | refine Below.to ?_ (by assumption) (Nat.le_refl _)))
            clear hK K hHeld
            have hHeld := hNext
            clear hNext
            (try dsimp only at hHeld)
            try simp only [zX]
            refine zT 23 rfl ?_
            try simp only [zX]
            refine wpAnyH_done (by kernel_rfl) ?_ _
            go_wp2_with fail
            go_ret
            exact ⟨ret_int (by rw [HR.out, IntWalk.i64_in _ (by omega)]), Below.to HB0.out hHeld (Nat.le_refl _)⟩
end Go.Proofs.YtehadoecnmfeoaaGreat

/- Part 31 of this claim's texts: walks and plain laws. -/
import Derived.Test.YtehadoecnmfeoaaGreatRows
import Derived.Test.YtehadoecnmfeoaaGreatGBY30
import Derived.Test.YtehadoecnmfeoaaGreatGBY27
import Derived.Deep.RegionHeld3
import Derived.Deep.DrawnRows
import Derived.Test.YtehadoecnmfeoaaGreatGBY3
/- The elder checks of spots and pins: walks. -/
namespace Go.Proofs.YtehadoecnmfeoaaGreat
open Go.RowKit
set_option linter.unusedVariables false
set_option linter.unusedSimpArgs false
theorem btw_neg {n m : Int} (h : n < 0) : btw n 0 m = false := btw_f (.inl h)
theorem btw_dec {n : Int} {m : Nat} (h : 0 ≤ n) : btw n 0 ((m : Int) - 1) = decide (n < (m : Int)) := by
  unfold btw
  rw [decide_eq_true h, Bool.true_and]
  exact decide_eq_decide.2 (by omega)
theorem btw_dec2 {n m : Int} (h : 0 ≤ n) : btw n 0 (m - 1) = decide (n < m) := by
  unfold btw
  rw [decide_eq_true h, Bool.true_and]
  exact decide_eq_decide.2 (by omega)
set_option maxRecDepth 100000 in
set_option maxHeartbeats 1000000 in
theorem rspot_any (n : Int) (A0 A1 A2 A3 A4 A5 : Option Addr) (q0 q1 q2 q3 q4 q5 : Nat) (l : Lo) (w : World) (b : Bool) (hb : btw n 0 ((l.ss.length : Int) - 1) = b) :
    Calls Tryz.prog 202 #[.agg #[.slice A0 l.m.opts.length q0, .slice A1 l.m.rules.length q1, .slice A2 l.ss.length q2, .slice A3 l.us.length q3, .slice A4 l.ps.length q4, .slice A5 l.ws.length q5], .int .i64 n] w fun e w' => e = .returned (.bool b) ∧ Below w.heap.size w w' := by
  subst hb
  by_cases h0 : 0 ≤ n
  · have hr := btw_dec (n := n) (m := l.ss.length) h0
    have HR := hide hr
    clear hr
    go_enter Tryz.func202, Tryz.ntmps202
    go_wp2_with fail
    go_ret
    exact ⟨ret_bool HR.out.symm, (by repeat (first | exact Below.refl _ _ | assumption | refine Below.drew ?_ | refine Below.drewN ?_ _ | refine Below.allocT ?_ (Nat.le_refl _) _ | refine Below.setCell ?_ (by simp <;> omega) _ | refine Below.to ?_ (by assumption) (Nat.le_refl _)))⟩
  · have hr := btw_neg (n := n) (m := (l.ss.length : Int) - 1) (by omega)
    have HR := hide hr
    clear hr
    go_enter Tryz.func202, Tryz.ntmps202
    go_wp2_with fail
    go_ret
    exact ⟨ret_bool HR.out.symm, (by repeat (first | exact Below.refl _ _ | assumption | refine Below.drew ?_ | refine Below.drewN ?_ _ | refine Below.allocT ?_ (Nat.le_refl _) _ | refine Below.setCell ?_ (by simp <;> omega) _ | refine Below.to ?_ (by assumption) (Nat.le_refl _)))⟩
set_option maxRecDepth 100000 in
set_option maxHeartbeats 2000000 in
theorem rpin_any (p c : Int) (A0 A1 A2 A3 A4 A5 : Option Addr) (q0 q1 q2 q3 q4 q5 : Nat) (l : Lo) (w : World) (h : LoA w w.heap.size A0 A1 A2 A3 A4 A5 q0 q1 q2 q3 q4 q5 l) (b : Bool) (hb : pinOk l p c = b) :
    Calls Tryz.prog 204 #[.agg #[.slice A0 l.m.opts.length q0, .slice A1 l.m.rules.length q1, .slice A2 l.ss.length q2, .slice A3 l.us.length q3, .slice A4 l.ps.length q4, .slice A5 l.ws.length q5], .agg #[.int .i64 p, .int .i64 c]] w fun e w' => e = .returned (.bool b) ∧ Below w.heap.size w w' := by
  subst hb
  have H := hide h
  clear h
  by_cases h0 : 0 ≤ p
  case neg =>
    have hr : pinOk l p c = false := by unfold pinOk; rw [btw_f (.inl (by omega))]; rfl
    have HR := hide hr
    have e0 : decide ((0 : Int) ≤ p) = false := decide_eq_false h0
    clear hr
    go_enter Tryz.func204, Tryz.ntmps204
    go_upto_region 1 with (fail)
    generalize hw0 : World.alloc _ _ = w0
    obtain ⟨hb0, hb1, hB0, hs0⟩ := alloc2 hw0
    have HB0 := hide hB0
    have c4 := cellOf hb0 4
    have d0 := cellOf hb1 0
    have d1 := cellOf hb1 1
    have l0 := box_lt hb0
    have l1 := box_lt hb1
    clear hw0 hb0 hb1 hB0 hs0
    refine wp_region_held_drew (S := (fun w' => Below w0.heap.size w0 w')) (by kernel_rfl) ?_ (fun hHeld => ?_)
    · try dsimp only
      exact (by repeat (first | exact Below.refl _ _ | assumption | refine Below.drew ?_ | refine Below.drewN ?_ _ | refine Below.allocT ?_ (Nat.le_refl _) _ | refine Below.setCell ?_ (by simp <;> omega) _ | refine Below.to ?_ (by assumption) (Nat.le_refl _)))
    refine zT 0 rfl ?_
    try simp only [zX]
    refine zT 1 rfl ?_
    try simp only [zX]
    refine zT 2 rfl ?_
    try simp only [zX]
    refine zT 3 rfl ?_
    try simp only [zX]
    refine wpAnyH_take (i := 4) (v := undef) rfl (by kernel_rfl) (by kernel_rfl) (by kernel_rfl) (fun _ _ _ h => h) (Or.inr ⟨?w1_4, rfl⟩) (by assumption) ?r1_4
    case' w1_4 => first | rfl | (simp [Region.wanted, yielded, *]; done)
    try simp only [zX]
    refine wpAnyH_take (i := 5) (v := undef) rfl (by kernel_rfl) (by kernel_rfl) (by kernel_rfl) (fun _ _ _ h => h) (Or.inr ⟨?w1_5, rfl⟩) (by assumption) ?r1_5
    case' w1_5 => first | rfl | (simp [Region.wanted, yielded, *]; done)
    try simp only [zX]
    refine wpAnyH_take (i := 6) (v := undef) rfl (by kernel_rfl) (by kernel_rfl) (by kernel_rfl) (fun _ _ _ h => h) (Or.inr ⟨?w1_6, rfl⟩) (by assumption) ?r1_6
    case' w1_6 => first | rfl | (simp [Region.wanted, yielded, *]; done)
    try simp only [zX]
    refine wpAnyH_take (i := 7) (v := undef) rfl (by kernel_rfl) (by kernel_rfl) (by kernel_rfl) (fun _ _ _ h => h) (Or.inr ⟨?w1_7, rfl⟩) (by assumption) ?r1_7
    case' w1_7 => first | rfl | (simp [Region.wanted, yielded, *]; done)
    try simp only [zX]
    refine wpAnyH_take (i := 8) (v := undef) rfl (by kernel_rfl) (by kernel_rfl) (by kernel_rfl) (fun _ _ _ h => h) (Or.inr ⟨?w1_8, rfl⟩) (by assumption) ?r1_8
    case' w1_8 => first | rfl | (simp [Region.wanted, yielded, *]; done)
    try simp only [zX]
    refine wpAnyH_take (i := 9) (v := undef) rfl (by kernel_rfl) (by kernel_rfl) (by kernel_rfl) (fun _ _ _ h => h) (Or.inr ⟨?w1_9, rfl⟩) (by assumption) ?r1_9
    case' w1_9 => first | rfl | (simp [Region.wanted, yielded, *]; done)
    try simp only [zX]
    refine zT 10 rfl ?_
    try simp only [zX]
    refine zT 11 rfl ?_
    try simp only [zX]
    refine wpAnyH_take (i := 12) (v := undef) rfl (by kernel_rfl) (by kernel_rfl) (by kernel_rfl) (fun _ _ _ h => h) (Or.inr ⟨?w1_12, rfl⟩) (by assumption) ?r1_12
    case' w1_12 => first | rfl | (simp [Region.wanted, yielded, *]; done)
    try simp only [zX]
    refine wpAnyH_take (i := 13) (v := undef) rfl (by kernel_rfl) (by kernel_rfl) (by kernel_rfl) (fun _ _ _ h => h) (Or.inr ⟨?w1_13, rfl⟩) (by assumption) ?r1_13
    case' w1_13 => first | rfl | (simp [Region.wanted, yielded, *]; done)
    try simp only [zX]
    refine wpAnyH_take (i := 14) (v := undef) rfl (by kernel_rfl) (by kernel_rfl) (by kernel_rfl) (fun _ _ _ h => h) (Or.inr ⟨?w1_14, rfl⟩) (by assumption) ?r1_14
    case' w1_14 => first | rfl | (simp [Region.wanted, yielded, *]; done)
    try simp only [zX]
    refine zT 15 rfl ?_
    try simp only [zX]
    refine zT 16 rfl ?_
    try simp only [zX]
    refine wpAnyH_take (i := 17) (v := undef) rfl (by kernel_rfl) (by kernel_rfl) (by kernel_rfl) (fun _ _ _ h => h) (Or.inr ⟨?w1_17, rfl⟩) (by assumption) ?r1_17
    case' w1_17 => first | rfl | (simp [Region.wanted, yielded, *]; done)
    try simp only [zX]
    refine wpAnyH_take (i := 18) (v := undef) rfl (by kernel_rfl) (by kernel_rfl) (by kernel_rfl) (fun _ _ _ h => h) (Or.inr ⟨?w1_18, rfl⟩) (by assumption) ?r1_18
    case' w1_18 => first | rfl | (simp [Region.wanted, yielded, *]; done)
    try simp only [zX]
    refine wpAnyH_take (i := 19) (v := undef) rfl (by kernel_rfl) (by kernel_rfl) (by kernel_rfl) (fun _ _ _ h => h) (Or.inr ⟨?w1_19, rfl⟩) (by assumption) ?r1_19
    case' w1_19 => first | rfl | (simp [Region.wanted, yielded, *]; done)
    try simp only [zX]
    refine wpAnyH_take (i := 20) (v := undef) rfl (by kernel_rfl) (by kernel_rfl) (by kernel_rfl) (fun _ _ _ h => h) (Or.inr ⟨?w1_20, rfl⟩) (by assumption) ?r1_20
    case' w1_20 => first | rfl | (simp [Region.wanted, yielded, *]; done)
    try simp only [zX]
    refine wpAnyH_take (i := 21) (v := undef) rfl (by kernel_rfl) (by kernel_rfl) (by kernel_rfl) (fun _ _ _ h => h) (Or.inr ⟨?w1_21, rfl⟩) (by assumption) ?r1_21
    case' w1_21 => first | rfl | (simp [Region.wanted, yielded, *]; done)
    try simp only [zX]
    refine wpAnyH_take (i := 22) (v := undef) rfl (by kernel_rfl) (by kernel_rfl) (by kernel_rfl) (fun _ _ _ h => h) (Or.inr ⟨?w1_22, rfl⟩) (by assumption) ?r1_22
    case' w1_22 => first | rfl | (simp [Region.wanted, yielded, *]; done)
    try simp only [zX]
    refine wpAnyH_take (i := 23) (v := undef) rfl (by kernel_rfl) (by kernel_rfl) (by kernel_rfl) (fun _ _ _ h => h) (Or.inr ⟨?w1_23, rfl⟩) (by assumption) ?r1_23
    case' w1_23 => first | rfl | (simp [Region.wanted, yielded, *]; done)
    try simp only [zX]
    refine wpAnyH_take (i := 24) (v := undef) rfl (by kernel_rfl) (by kernel_rfl) (by kernel_rfl) (fun _ _ _ h => h) (Or.inr ⟨?w1_24, rfl⟩) (by assumption) ?r1_24
    case' w1_24 => first | rfl | (simp [Region.wanted, yielded, *]; done)
    try simp only [zX]
    refine wpAnyH_take (i := 25) (v := undef) rfl (by kernel_rfl) (by kernel_rfl) (by kernel_rfl) (fun _ _ _ h => h) (Or.inr ⟨?w1_25, rfl⟩) (by assumption) ?r1_25
    case' w1_25 => first | rfl | (simp [Region.wanted, yielded, *]; done)
    try simp only [zX]
    refine wpAnyH_take (i := 26) (v := undef) rfl (by kernel_rfl) (by kernel_rfl) (by kernel_rfl) (fun _ _ _ h => h) (Or.inr ⟨?w1_26, rfl⟩) (by assumption) ?r1_26
    case' w1_26 => first | rfl | (simp [Region.wanted, yielded, *]; done)
    try simp only [zX]
    refine zT 27 rfl ?_
    try simp only [zX]
    refine zT 28 rfl ?_
    try simp only [zX]
    refine wpAnyH_done (by kernel_rfl) ?_ _
    go_wp2_with fail
    go_ret
    exact ⟨ret_bool HR.out.symm, Below.to HB0.out hHeld (Nat.le_refl _)⟩
  case pos =>
  have e0 : decide ((0 : Int) ≤ p) = true := decide_eq_true h0
  by_cases h1 : p < (l.ps.length : Int)
  case neg =>
    have hr : pinOk l p c = false := by unfold pinOk; rw [btw_f (.inr (by omega))]; rfl
    have HR := hide hr
    have e1 : decide (p < (l.ps.length : Int)) = false := decide_eq_false h1
    clear hr
    go_enter Tryz.func204, Tryz.ntmps204
    go_upto_region 1 with (fail)
    generalize hw0 : World.alloc _ _ = w0
    obtain ⟨hb0, hb1, hB0, hs0⟩ := alloc2 hw0
    have HB0 := hide hB0
    have c4 := cellOf hb0 4
    have d0 := cellOf hb1 0
    have d1 := cellOf hb1 1
    have l0 := box_lt hb0
    have l1 := box_lt hb1
    clear hw0 hb0 hb1 hB0 hs0
    refine wp_region_held_drew (S := (fun w' => Below w0.heap.size w0 w')) (by kernel_rfl) ?_ (fun hHeld => ?_)
    · try dsimp only
      exact (by repeat (first | exact Below.refl _ _ | assumption | refine Below.drew ?_ | refine Below.drewN ?_ _ | refine Below.allocT ?_ (Nat.le_refl _) _ | refine Below.setCell ?_ (by simp <;> omega) _ | refine Below.to ?_ (by assumption) (Nat.le_refl _)))
    refine zT 0 rfl ?_
    try simp only [zX]
    refine zT 1 rfl ?_
    try simp only [zX]
    refine zT 2 rfl ?_
    try simp only [zX]
    refine zT 3 rfl ?_
    try simp only [zX]
    refine zT 4 rfl ?_
    try simp only [zX]
    refine zT 5 rfl ?_
    try simp only [zX]
    refine zT 6 rfl ?_
    try simp only [zX]
    refine zT 7 rfl ?_
    try simp only [zX]
    refine zT 8 rfl ?_
    try simp only [zX]
    refine zT 9 rfl ?_
    try simp only [zX]
    refine zT 10 rfl ?_
    try simp only [zX]
    refine zT 11 rfl ?_
    try simp only [zX]
    refine wpAnyH_take (i := 12) (v := undef) rfl (by kernel_rfl) (by kernel_rfl) (by kernel_rfl) (fun _ _ _ h => h) (Or.inr ⟨?w2_12, rfl⟩) (by assumption) ?r2_12
    case' w2_12 => first | rfl | (simp [Region.wanted, yielded, *]; done)
    try simp only [zX]
    refine wpAnyH_take (i := 13) (v := undef) rfl (by kernel_rfl) (by kernel_rfl) (by kernel_rfl) (fun _ _ _ h => h) (Or.inr ⟨?w2_13, rfl⟩) (by assumption) ?r2_13
    case' w2_13 => first | rfl | (simp [Region.wanted, yielded, *]; done)
    try simp only [zX]
    refine wpAnyH_take (i := 14) (v := undef) rfl (by kernel_rfl) (by kernel_rfl) (by kernel_rfl) (fun _ _ _ h => h) (Or.inr ⟨?w2_14, rfl⟩) (by assumption) ?r2_14
    case' w2_14 => first | rfl | (simp [Region.wanted, yielded, *]; done)
    try simp only [zX]
    refine zT 15 rfl ?_
    try simp only [zX]
    refine zT 16 rfl ?_
    try simp only [zX]
    refine wpAnyH_take (i := 17) (v := undef) rfl (by kernel_rfl) (by kernel_rfl) (by kernel_rfl) (fun _ _ _ h => h) (Or.inr ⟨?w2_17, rfl⟩) (by assumption) ?r2_17
    case' w2_17 => first | rfl | (simp [Region.wanted, yielded, *]; done)
    try simp only [zX]
    refine wpAnyH_take (i := 18) (v := undef) rfl (by kernel_rfl) (by kernel_rfl) (by kernel_rfl) (fun _ _ _ h => h) (Or.inr ⟨?w2_18, rfl⟩) (by assumption) ?r2_18
    case' w2_18 => first | rfl | (simp [Region.wanted, yielded, *]; done)
    try simp only [zX]
    refine wpAnyH_take (i := 19) (v := undef) rfl (by kernel_rfl) (by kernel_rfl) (by kernel_rfl) (fun _ _ _ h => h) (Or.inr ⟨?w2_19, rfl⟩) (by assumption) ?r2_19
    case' w2_19 => first | rfl | (simp [Region.wanted, yielded, *]; done)
    try simp only [zX]
    refine wpAnyH_take (i := 20) (v := undef) rfl (by kernel_rfl) (by kernel_rfl) (by kernel_rfl) (fun _ _ _ h => h) (Or.inr ⟨?w2_20, rfl⟩) (by assumption) ?r2_20
    case' w2_20 => first | rfl | (simp [Region.wanted, yielded, *]; done)
    try simp only [zX]
    refine wpAnyH_take (i := 21) (v := undef) rfl (by kernel_rfl) (by kernel_rfl) (by kernel_rfl) (fun _ _ _ h => h) (Or.inr ⟨?w2_21, rfl⟩) (by assumption) ?r2_21
    case' w2_21 => first | rfl | (simp [Region.wanted, yielded, *]; done)
    try simp only [zX]
    refine wpAnyH_take (i := 22) (v := undef) rfl (by kernel_rfl) (by kernel_rfl) (by kernel_rfl) (fun _ _ _ h => h) (Or.inr ⟨?w2_22, rfl⟩) (by assumption) ?r2_22
    case' w2_22 => first | rfl | (simp [Region.wanted, yielded, *]; done)
    try simp only [zX]
    refine wpAnyH_take (i := 23) (v := undef) rfl (by kernel_rfl) (by kernel_rfl) (by kernel_rfl) (fun _ _ _ h => h) (Or.inr ⟨?w2_23, rfl⟩) (by assumption) ?r2_23
    case' w2_23 => first | rfl | (simp [Region.wanted, yielded, *]; done)
    try simp only [zX]
    refine wpAnyH_take (i := 24) (v := undef) rfl (by kernel_rfl) (by kernel_rfl) (by kernel_rfl) (fun _ _ _ h => h) (Or.inr ⟨?w2_24, rfl⟩) (by assumption) ?r2_24
    case' w2_24 => first | rfl | (simp [Region.wanted, yielded, *]; done)
    try simp only [zX]
    refine wpAnyH_take (i := 25) (v := undef) rfl (by kernel_rfl) (by kernel_rfl) (by kernel_rfl) (fun _ _ _ h => h) (Or.inr ⟨?w2_25, rfl⟩) (by assumption) ?r2_25
    case' w2_25 => first | rfl | (simp [Region.wanted, yielded, *]; done)
    try simp only [zX]
    refine wpAnyH_take (i := 26) (v := undef) rfl (by kernel_rfl) (by kernel_rfl) (by kernel_rfl) (fun _ _ _ h => h) (Or.inr ⟨?w2_26, rfl⟩) (by assumption) ?r2_26
    case' w2_26 => first | rfl | (simp [Region.wanted, yielded, *]; done)
    try simp only [zX]
    refine zT 27 rfl ?_
    try simp only [zX]
    refine zT 28 rfl ?_
    try simp only [zX]
    refine wpAnyH_done (by kernel_rfl) ?_ _
    go_wp2_with fail
    go_ret
    exact ⟨ret_bool HR.out.symm, Below.to HB0.out hHeld (Nat.le_refl _)⟩
  case pos =>
  have e1 : decide (p < (l.ps.length : Int)) = true := decide_eq_true h1
  by_cases h2 : 0 ≤ c
  case neg =>
    have hr : pinOk l p c = false := by unfold pinOk; rw [btw_f (n := c) (.inl (by omega))]; simp
    have HR := hide hr
    have e2 : decide ((0 : Int) ≤ c) = false := decide_eq_false h2
    clear hr
    go_enter Tryz.func204, Tryz.ntmps204
    go_upto_region 1 with (fail)
    generalize hw0 : World.alloc _ _ = w0
    obtain ⟨hb0, hb1, hB0, hs0⟩ := alloc2 hw0
    have HB0 := hide hB0
    have c4 := cellOf hb0 4
    have d0 := cellOf hb1 0
    have d1 := cellOf hb1 1
    have l0 := box_lt hb0
    have l1 := box_lt hb1
    clear hw0 hb0 hb1 hB0 hs0
    refine wp_region_held_drew (S := (fun w' => Below w0.heap.size w0 w')) (by kernel_rfl) ?_ (fun hHeld => ?_)
    · try dsimp only
      exact (by repeat (first | exact Below.refl _ _ | assumption | refine Below.drew ?_ | refine Below.drewN ?_ _ | refine Below.allocT ?_ (Nat.le_refl _) _ | refine Below.setCell ?_ (by simp <;> omega) _ | refine Below.to ?_ (by assumption) (Nat.le_refl _)))
    refine zT 0 rfl ?_
    try simp only [zX]
    refine zT 1 rfl ?_
    try simp only [zX]
    refine zT 2 rfl ?_
    try simp only [zX]
    refine zT 3 rfl ?_
    try simp only [zX]
    refine zT 4 rfl ?_
    try simp only [zX]
    refine zT 5 rfl ?_
    try simp only [zX]
    refine zT 6 rfl ?_
    try simp only [zX]
    refine zT 7 rfl ?_
    try simp only [zX]
    refine zT 8 rfl ?_
    try simp only [zX]
    refine zT 9 rfl ?_
    try simp only [zX]
    refine zT 10 rfl ?_
    try simp only [zX]
    refine zT 11 rfl ?_
    try simp only [zX]
    refine zT 12 rfl ?_
    try simp only [zX]
    refine zT 13 rfl ?_
    try simp only [zX]
    refine zT 14 rfl ?_
    try simp only [zX]
    refine zT 15 rfl ?_
    try simp only [zX]
    refine zT 16 rfl ?_
    try simp only [zX]
    refine wpAnyH_take (i := 17) (v := undef) rfl (by kernel_rfl) (by kernel_rfl) (by kernel_rfl) (fun _ _ _ h => h) (Or.inr ⟨?w3_17, rfl⟩) (by assumption) ?r3_17
    case' w3_17 => first | rfl | (simp [Region.wanted, yielded, *]; done)
    try simp only [zX]
    refine wpAnyH_take (i := 18) (v := undef) rfl (by kernel_rfl) (by kernel_rfl) (by kernel_rfl) (fun _ _ _ h => h) (Or.inr ⟨?w3_18, rfl⟩) (by assumption) ?r3_18
    case' w3_18 => first | rfl | (simp [Region.wanted, yielded, *]; done)
    try simp only [zX]
    refine wpAnyH_take (i := 19) (v := undef) rfl (by kernel_rfl) (by kernel_rfl) (by kernel_rfl) (fun _ _ _ h => h) (Or.inr ⟨?w3_19, rfl⟩) (by assumption) ?r3_19
    case' w3_19 => first | rfl | (simp [Region.wanted, yielded, *]; done)
    try simp only [zX]
    refine wpAnyH_take (i := 20) (v := undef) rfl (by kernel_rfl) (by kernel_rfl) (by kernel_rfl) (fun _ _ _ h => h) (Or.inr ⟨?w3_20, rfl⟩) (by assumption) ?r3_20
    case' w3_20 => first | rfl | (simp [Region.wanted, yielded, *]; done)
    try simp only [zX]
    refine wpAnyH_take (i := 21) (v := undef) rfl (by kernel_rfl) (by kernel_rfl) (by kernel_rfl) (fun _ _ _ h => h) (Or.inr ⟨?w3_21, rfl⟩) (by assumption) ?r3_21
    case' w3_21 => first | rfl | (simp [Region.wanted, yielded, *]; done)
    try simp only [zX]
    refine wpAnyH_take (i := 22) (v := undef) rfl (by kernel_rfl) (by kernel_rfl) (by kernel_rfl) (fun _ _ _ h => h) (Or.inr ⟨?w3_22, rfl⟩) (by assumption) ?r3_22
    case' w3_22 => first | rfl | (simp [Region.wanted, yielded, *]; done)
    try simp only [zX]
    refine wpAnyH_take (i := 23) (v := undef) rfl (by kernel_rfl) (by kernel_rfl) (by kernel_rfl) (fun _ _ _ h => h) (Or.inr ⟨?w3_23, rfl⟩) (by assumption) ?r3_23
    case' w3_23 => first | rfl | (simp [Region.wanted, yielded, *]; done)
    try simp only [zX]
    refine wpAnyH_take (i := 24) (v := undef) rfl (by kernel_rfl) (by kernel_rfl) (by kernel_rfl) (fun _ _ _ h => h) (Or.inr ⟨?w3_24, rfl⟩) (by assumption) ?r3_24
    case' w3_24 => first | rfl | (simp [Region.wanted, yielded, *]; done)
    try simp only [zX]
    refine wpAnyH_take (i := 25) (v := undef) rfl (by kernel_rfl) (by kernel_rfl) (by kernel_rfl) (fun _ _ _ h => h) (Or.inr ⟨?w3_25, rfl⟩) (by assumption) ?r3_25
    case' w3_25 => first | rfl | (simp [Region.wanted, yielded, *]; done)
    try simp only [zX]
    refine wpAnyH_take (i := 26) (v := undef) rfl (by kernel_rfl) (by kernel_rfl) (by kernel_rfl) (fun _ _ _ h => h) (Or.inr ⟨?w3_26, rfl⟩) (by assumption) ?r3_26
    case' w3_26 => first | rfl | (simp [Region.wanted, yielded, *]; done)
    try simp only [zX]
    refine zT 27 rfl ?_
    try simp only [zX]
    refine zT 28 rfl ?_
    try simp only [zX]
    refine wpAnyH_done (by kernel_rfl) ?_ _
    go_wp2_with fail
    go_ret
    exact ⟨ret_bool HR.out.symm, Below.to HB0.out hHeld (Nat.le_refl _)⟩
  case pos =>
  have e2 : decide ((0 : Int) ≤ c) = true := decide_eq_true h2
  obtain ⟨k, rfl⟩ := Int.eq_ofNat_of_zero_le h0
  have hk : k < l.ps.length := by omega
  obtain ⟨b, off, x, HX, rfl, hbb, hq, f0, f1, f2⟩ := H.out.pl hk
  have iq : (l.ps.length : Int) ≤ (q4 : Int) := by omega
  have hr : pinOk l k c = decide (c < x.cav) := by unfold pinOk; rw [btw_t h0 (by omega), Int.toNat_natCast, HX.out, btw_dec2 h2]; rfl
  have HR := hide hr
  clear hr
  go_enter Tryz.func204, Tryz.ntmps204
  go_upto_region 1 with (fail)
  generalize hw0 : World.alloc _ _ = w0
  obtain ⟨hb0, hb1, hB0, hs0⟩ := alloc2 hw0
  have HB0 := hide hB0
  have c4 := cellOf hb0 4
  have d0 := cellOf hb1 0
  have d1 := cellOf hb1 1
  have l0 := box_lt hb0
  have l1 := box_lt hb1
  have l2 : b < w0.heap.size := by omega
  have g2 := (hB0.cell (p := ⟨b, off + k * 3 + 2, none⟩) hbb).trans f2
  clear f0 f1 f2
  clear hw0 hb0 hb1 hB0 hs0
  refine wp_region_held_drew (S := (fun w' => Below w0.heap.size w0 w')) (by kernel_rfl) ?_ (fun hHeld => ?_)
  · try dsimp only
    exact (by repeat (first | exact Below.refl _ _ | assumption | refine Below.drew ?_ | refine Below.drewN ?_ _ | refine Below.allocT ?_ (Nat.le_refl _) _ | refine Below.setCell ?_ (by simp <;> omega) _ | refine Below.to ?_ (by assumption) (Nat.le_refl _)))
  refine zT 0 rfl ?_
  try simp only [zX]
  refine zT 1 rfl ?_
  try simp only [zX]
  refine zT 2 rfl ?_
  try simp only [zX]
  refine zT 3 rfl ?_
  try simp only [zX]
  refine zT 4 rfl ?_
  try simp only [zX]
  refine zT 5 rfl ?_
  try simp only [zX]
  refine zT 6 rfl ?_
  try simp only [zX]
  refine zT 7 rfl ?_
  try simp only [zX]
  refine zT 8 rfl ?_
  try simp only [zX]
  refine zT 9 rfl ?_
  try simp only [zX]
  refine zT 10 rfl ?_
  try simp only [zX]
  refine zT 11 rfl ?_
  try simp only [zX]
  refine zT 12 rfl ?_
  try simp only [zX]
  refine zT 13 rfl ?_
  try simp only [zX]
  refine zT 14 rfl ?_
  try simp only [zX]
  refine zT 15 rfl ?_
  try simp only [zX]
  refine zT 16 rfl ?_
  try simp only [zX]
  refine zT 17 rfl ?_
  try simp only [zX]
  refine zT 18 rfl ?_
  try simp only [zX]
  refine zT 19 rfl ?_
  try simp only [zX]
  refine zT 20 rfl ?_
  try simp only [zX]
  refine zT 21 rfl ?_
  try simp only [zX]
  refine zT 22 rfl ?_
  try simp only [zX]
  refine zT 23 rfl ?_
  try simp only [zX]
  refine zT 24 rfl ?_
  try simp only [zX]
  refine zT 25 rfl ?_
  try simp only [zX]
  refine zT 26 rfl ?_
  try simp only [zX]
  refine zT 27 rfl ?_
  try simp only [zX]
  refine zT 28 rfl ?_
  try simp only [zX]
  refine wpAnyH_done (by kernel_rfl) ?_ _
  go_wp2_with fail
  go_ret
  exact ⟨ret_bool HR.out.symm, Below.to HB0.out hHeld (Nat.le_refl _)⟩
end Go.Proofs.YtehadoecnmfeoaaGreat
/- The elder checks of spots and pins: walks. -/
namespace Go.Proofs.YtehadoecnmfeoaaGreat
open Go.RowKit
set_option linter.unusedVariables false
set_option linter.unusedSimpArgs false
theorem any_take {α : Type} {z : α} {p : α → Bool} {l : List α} {k i : Nat} (hk : k < i) (hi : i ≤ l.length) (h : p (l.getD k z) = true) : (l.take i).any p = true :=
  any_yes (z := z) (k := k) (by simp; omega) (by rw [take_getD' hk]; exact h)
theorem any_take_no {α : Type} {z : α} {p : α → Bool} {l : List α} {i : Nat} (h : ∀ m, m < i → p (l.getD m z) = false) (hi : i ≤ l.length) : (l.take i).any p = false :=
  any_no (z := z) fun j hj => by
    have hj2 : j < i := by simp at hj; omega
    rw [take_getD' hj2]
    exact h j hj2
theorem fromB_any (n lo hi : Int) (w : World) (b : Bool) (hb : btw n lo hi = b) : Calls Tryz.prog 152 #[.int .i64 n, .int .i64 lo, .int .i64 hi] w fun e w' => e = .returned (.bool b) ∧ w = w' := by
  subst hb
  exact from_any n lo hi w
set_option maxRecDepth 100000 in
set_option maxHeartbeats 16000000 in
theorem rplug_any (i : Nat) (A0 A1 A2 A3 A4 A5 : Option Addr) (q0 q1 q2 q3 q4 q5 : Nat) (l : Lo) (w : World) (hi : i < l.ps.length) (hs : SizedL l) (h : LoA w w.heap.size A0 A1 A2 A3 A4 A5 q0 q1 q2 q3 q4 q5 l) :
    Calls Tryz.prog 154 #[.agg #[.slice A0 l.m.opts.length q0, .slice A1 l.m.rules.length q1, .slice A2 l.ss.length q2, .slice A3 l.us.length q3, .slice A4 l.ps.length q4, .slice A5 l.ws.length q5], .int .i64 i] w fun e w' => e = .returned (.bool (plOk l i)) ∧ Below w.heap.size w w' := by
  have H := hide h
  obtain ⟨b, off, x, HX, rfl, hbb, hq, e0, e1, e2⟩ := h.pl hi
  have hsz : x.name.size ≤ maxLen := hs.pn x (by rw [← HX.out]; exact getD_mem3f hi)
  have hpl := hs.p
  have hwl := hs.w
  unfold maxLen at hpl hwl
  have ii : (i : Int) < (l.ps.length : Int) := by omega
  have iq : (l.ps.length : Int) ≤ (q4 : Int) := by omega
  clear h hs
  go_enter Tryz.func154, Tryz.ntmps154
  go_upto_region 1 with (fail)
  generalize hw0 : World.alloc _ _ = w0
  obtain ⟨hb0, hB0, hs0⟩ := alloc1 hw0
  have HL0 : Hid (LoBox w0 w.heap.size A0 A1 A2 A3 (some ⟨b, off, none⟩) A5 q0 q1 q2 q3 q4 q5 l) := hb0
  have c0 := cellOf hb0 4
  have l0 := box_lt hb0
  have HB0 := hide hB0
  have l2 : b < w0.heap.size := by omega
  have g0 := (hB0.cell (p := ⟨b, off + i * 3, none⟩) hbb).trans e0
  have g1 := (hB0.cell (p := ⟨b, off + i * 3 + 1, none⟩) hbb).trans e1
  have g2 := (hB0.cell (p := ⟨b, off + i * 3 + 2, none⟩) hbb).trans e2
  clear hw0 hb0 hB0 hs0 e0 e1 e2
  go_upto_region 2 with (fail)
  generalize hw1 : World.alloc _ _ = w1
  obtain ⟨hb1, hB1, hs1⟩ := alloc1 hw1
  have HP0 := hide hb1
  have HL1 := hide (HL0.out.to hB1)
  have HB1 := hide (Below.to HB0.out hB1 (Nat.le_refl _))
  clear hw1 hb1 hB1 hs1 c0 l0 l2 g0 g1 g2
  go_wp2_with fail
  go_loopw [6] (fun j wr => ∃ k : Nat, k ≤ i ∧ j = .int .i64 k ∧ Hid (∀ m, m < k → (bytes (l.ps.getD m Pl.o).name == bytes x.name) = false) ∧ Hid (Below w1.heap.size w1 wr)) (fun j _ => i - (intOf j).toNat)
  case atStart => exact ⟨0, Nat.zero_le _, rfl, fun m hm => by omega, Below.refl _ _⟩
  case round =>
    obtain ⟨k, hk, rfl, hall, hBr⟩ := hrel
    have HL := hide (HL1.out.to hBr.out)
    have HP1 := box_to HP0.out hBr.out
    have HP := hide HP1
    have HBW := hide (Below.to HB1.out hBr.out (Nat.le_refl _))
    have y0 := cellOf HL.out 0; have y1 := cellOf HL.out 1; have y2 := cellOf HL.out 2; have y3 := cellOf HL.out 3; have y4 := cellOf HL.out 4; have y5 := cellOf HL.out 5
    have z0 := cellOf HP1 0; have z1 := cellOf HP1 1; have z2 := cellOf HP1 2
    have ly := box_lt HL.out
    have lz := box_lt HP1
    clear HP1
    by_cases hki : k < i
    · obtain ⟨b', off', u, HU, he, hbb', hq', f0, f1, f2⟩ := (H.out.below HBW.out).pl (show k < l.ps.length by omega)
      injection he with he
      injection he with he1 he2
      subst he1 he2
      have lb : b < wr.heap.size := Nat.lt_of_lt_of_le hbb HBW.out.size
      have ik0 : (0 : Int) ≤ (k : Int) := by omega
      have ik1 : (k : Int) < (i : Int) := by omega
      have ik2 : (k : Int) < (l.ps.length : Int) := by omega
      have hbe : (bytes (l.ps.getD k Pl.o).name == bytes x.name) = (u.name.toList == x.name.toList) := by rw [HU.out]; unfold bytes; rw [ByteArray.toList_eq, ByteArray.toList_eq]
      by_cases hn : u.name.toList = x.name.toList
      · have n1 : (u.name.toList == x.name.toList) = true := by simp [hn]
        rw [n1] at hbe
        have hT : ((l.ps.take i).any fun q => bytes q.name == bytes x.name) = true := any_take hki (by omega) hbe
        have hr : plOk l i = false := by unfold plOk; rw [HX.out]; rw [hT]; simp
        have HR := hide hr
        clear hr hT hbe hn
        go_wp2_with fail
        refine wp_region_held_drew (S := (fun w' => Below wr.heap.size wr w')) (by kernel_rfl) ?_ (fun hHeld => ?_)
        · try dsimp only
          exact (by repeat (first | exact Below.refl _ _ | assumption | refine Below.drew ?_ | refine Below.drewN ?_ _ | refine Below.allocT ?_ (Nat.le_refl _) _ | refine Below.setCell ?_ (by simp <;> omega) _ | refine Below.to ?_ (by assumption) (Nat.le_refl _)))
        refine zT 0 rfl ?_
        try simp only [zX]
        refine zT 1 rfl ?_
        try simp only [zX]
        refine zT 2 rfl ?_
        try simp only [zX]
        refine zT 3 rfl ?_
        try simp only [zX]
        refine zT 4 rfl ?_
        try simp only [zX]
        refine zT 5 rfl ?_
        try simp only [zX]
        refine zT 6 rfl ?_
        try simp only [zX]
        refine zT 7 rfl ?_
        try simp only [zX]
        refine zT 8 rfl ?_
        try simp only [zX]
        refine wpAnyH_done (by kernel_rfl) ?_ _
        go_wp2_with fail
        go_ret
        exact ⟨ret_bool HR.out.symm, Below.to HBW.out hHeld (Nat.le_refl _)⟩
      · have n1 : (u.name.toList == x.name.toList) = false := by simpa using hn
        rw [n1] at hbe
        have HBE := hide hbe
        clear hbe
        go_wp2_with fail
        refine wp_region_held_drew (S := (fun w' => Below wr.heap.size wr w')) (by kernel_rfl) ?_ (fun hHeld => ?_)
        · try dsimp only
          exact (by repeat (first | exact Below.refl _ _ | assumption | refine Below.drew ?_ | refine Below.drewN ?_ _ | refine Below.allocT ?_ (Nat.le_refl _) _ | refine Below.setCell ?_ (by simp <;> omega) _ | refine Below.to ?_ (by assumption) (Nat.le_refl _)))
        refine zT 0 rfl ?_
        try simp only [zX]
        refine zT 1 rfl ?_
        try simp only [zX]
        refine zT 2 rfl ?_
        try simp only [zX]
        refine zT 3 rfl ?_
        try simp only [zX]
        refine zT 4 rfl ?_
        try simp only [zX]
        refine zT 5 rfl ?_
        try simp only [zX]
        refine zT 6 rfl ?_
        try simp only [zX]
        refine zT 7 rfl ?_
        try simp only [zX]
        refine zT 8 rfl ?_
        try simp only [zX]
        refine wpAnyH_done (by kernel_rfl) ?_ _
        go_wp2_with fail
        go_roundw
        case rel => exact ⟨k + 1, by omega, by go_num, fun m hm => by
            rcases Nat.lt_or_ge m k with h | h
            · exact hall.out m h
            · rw [show m = k from by omega]; exact HBE.out, Below.to hBr.out hHeld (Nat.le_refl _)⟩
        case measure => simp [intOf]; omega
    · have hke : k = i := by omega
      subst hke
      have HT : Hid (((l.ps.take k).any fun q => bytes q.name == bytes x.name) = false) := any_take_no hall.out (by omega)
      clear hall
      cases hN : lowB (bytes x.name) with
      | false =>
        have hr : plOk l k = false := by
          unfold plOk
          rw [HX.out]
          rw [hN, HT.out]
          simp
        have HR := hide hr
        clear hr
        have HN := hide hN
        clear hN
        go_wp2_with (first | (go_at_call 203; refine (rlow_any _ _ hsz).mono ?_; rw [show lowB x.name.data.toList = _ from HN.out]; rintro e w3 ⟨rfl, rfl⟩))
        go_ret
        exact ⟨ret_bool HR.out.symm, HBW.out⟩
      | true =>
        cases hS : btw x.spot 0 ((l.ss.length : Int) - 1) with
        | false =>
          have hr : plOk l k = false := by
            unfold plOk
            rw [HX.out]
            rw [hN, HT.out, hS]
            simp
          have HR := hide hr
          clear hr
          have HN := hide hN
          have HS := hide hS
          clear hN hS
          go_wp2_with (first | (go_at_call 203; refine (rlow_any _ _ hsz).mono ?_; rw [show lowB x.name.data.toList = _ from HN.out]; rintro e w3 ⟨rfl, rfl⟩) | (go_at_call 202; refine (rspot_any x.spot _ _ _ _ _ _ _ _ _ _ _ _ l _ _ HS.out).mono ?_; rintro e w4 ⟨rfl, hB4⟩; have HB4 := hide (Below.to HBW.out hB4 (Nat.le_refl _)); have p0 := cellOf (box_to HP.out hB4) 0; have p1 := cellOf (box_to HP.out hB4) 1; have p2 := cellOf (box_to HP.out hB4) 2; have lp4 := box_lt (box_to HP.out hB4); clear hB4 z0 z1 z2 lz))
          go_ret
          exact ⟨ret_bool HR.out.symm, HB4.out⟩
        | true =>
          cases hC : btw x.cav 1 40 with
          | false =>
            have hr : plOk l k = false := by
              unfold plOk
              rw [HX.out]
              rw [hN, HT.out, hS, hC]
              simp
            have HR := hide hr
            clear hr
            have HN := hide hN
            have HS := hide hS
            have HC := hide hC
            clear hN hS hC
            go_wp2_with (first | (go_at_call 203; refine (rlow_any _ _ hsz).mono ?_; rw [show lowB x.name.data.toList = _ from HN.out]; rintro e w3 ⟨rfl, rfl⟩) | (go_at_call 202; refine (rspot_any x.spot _ _ _ _ _ _ _ _ _ _ _ _ l _ _ HS.out).mono ?_; rintro e w4 ⟨rfl, hB4⟩; have HB4 := hide (Below.to HBW.out hB4 (Nat.le_refl _)); have p0 := cellOf (box_to HP.out hB4) 0; have p1 := cellOf (box_to HP.out hB4) 1; have p2 := cellOf (box_to HP.out hB4) 2; have lp4 := box_lt (box_to HP.out hB4); clear hB4 z0 z1 z2 lz) | (go_at_call 152; refine (fromB_any _ _ _ _ _ HC.out).mono ?_; rintro e w5 ⟨rfl, rfl⟩))
            go_ret
            exact ⟨ret_bool HR.out.symm, HB4.out⟩
          | true =>
            have hr : plOk l k = true := by
              unfold plOk
              rw [HX.out]
              rw [hN, HT.out, hS, hC]
              rfl
            have HR := hide hr
            clear hr
            have HN := hide hN
            have HS := hide hS
            have HC := hide hC
            clear hN hS hC
            go_wp2_with (first | (go_at_call 203; refine (rlow_any _ _ hsz).mono ?_; rw [show lowB x.name.data.toList = _ from HN.out]; rintro e w3 ⟨rfl, rfl⟩) | (go_at_call 202; refine (rspot_any x.spot _ _ _ _ _ _ _ _ _ _ _ _ l _ _ HS.out).mono ?_; rintro e w4 ⟨rfl, hB4⟩; have HB4 := hide (Below.to HBW.out hB4 (Nat.le_refl _)); have p0 := cellOf (box_to HP.out hB4) 0; have p1 := cellOf (box_to HP.out hB4) 1; have p2 := cellOf (box_to HP.out hB4) 2; have lp4 := box_lt (box_to HP.out hB4); clear hB4 z0 z1 z2 lz) | (go_at_call 152; refine (fromB_any _ _ _ _ _ HC.out).mono ?_; rintro e w5 ⟨rfl, rfl⟩))
            go_ret
            exact ⟨ret_bool HR.out.symm, HB4.out⟩
end Go.Proofs.YtehadoecnmfeoaaGreat

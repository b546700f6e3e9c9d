/- Part 33 of this claim's texts: walks and plain laws. -/
import Derived.Test.YtmabfnddedffoaaRows
import Derived.Test.YtmabfnddedffoaaGLP30
import Derived.Test.YtmabfnddedffoaaGLP18
import Derived.Deep.RegionHeld3
import Derived.Deep.DrawnRows
/- The elder checks of spots and pins: walks. -/
namespace Go.Proofs.Ytmabfnddedffoaa
open Go.RowKit
set_option linter.unusedVariables false
set_option linter.unusedSimpArgs false
theorem btw_neg {n m : Int} (h : n < 0) : btw n 0 m = false := btw_f (.inl h)
theorem btw_dec {n : Int} {m : Nat} (h : 0 ≤ n) : btw n 0 ((m : Int) - 1) = decide (n < (m : Int)) := by
  unfold btw
  rw [decide_eq_true h, Bool.true_and]
  exact decide_eq_decide.2 (by omega)
theorem btw_dec2 {n m : Int} (h : 0 ≤ n) : btw n 0 (m - 1) = decide (n < m) := by
  unfold btw
  rw [decide_eq_true h, Bool.true_and]
  exact decide_eq_decide.2 (by omega)
set_option maxRecDepth 100000 in
set_option maxHeartbeats 1000000 in
theorem rspot_any (n : Int) (A0 A1 A2 A3 A4 A5 : Option Addr) (q0 q1 q2 q3 q4 q5 : Nat) (l : Lo) (w : World) (b : Bool) (hb : btw n 0 ((l.ss.length : Int) - 1) = b) :
    Calls Try.prog 90 #[.agg #[.slice A0 l.m.opts.length q0, .slice A1 l.m.rules.length q1, .slice A2 l.ss.length q2, .slice A3 l.us.length q3, .slice A4 l.ps.length q4, .slice A5 l.ws.length q5], .int .i64 n] w fun e w' => e = .returned (.bool b) ∧ Below w.heap.size w w' := by
  subst hb
  by_cases h0 : 0 ≤ n
  · have hr := btw_dec (n := n) (m := l.ss.length) h0
    have HR := hide hr
    clear hr
    go_enter Try.func90, Try.ntmps90
    go_wp2_with fail
    go_ret
    exact ⟨ret_bool HR.out.symm, (by repeat (first | exact Below.refl _ _ | assumption | refine Below.drew ?_ | refine Below.drewN ?_ _ | refine Below.allocT ?_ (Nat.le_refl _) _ | refine Below.setCell ?_ (by simp <;> omega) _ | refine Below.to ?_ (by assumption) (Nat.le_refl _)))⟩
  · have hr := btw_neg (n := n) (m := (l.ss.length : Int) - 1) (by omega)
    have HR := hide hr
    clear hr
    go_enter Try.func90, Try.ntmps90
    go_wp2_with fail
    go_ret
    exact ⟨ret_bool HR.out.symm, (by repeat (first | exact Below.refl _ _ | assumption | refine Below.drew ?_ | refine Below.drewN ?_ _ | refine Below.allocT ?_ (Nat.le_refl _) _ | refine Below.setCell ?_ (by simp <;> omega) _ | refine Below.to ?_ (by assumption) (Nat.le_refl _)))⟩
set_option maxRecDepth 100000 in
set_option maxHeartbeats 2000000 in
theorem rpin_any (p c : Int) (A0 A1 A2 A3 A4 A5 : Option Addr) (q0 q1 q2 q3 q4 q5 : Nat) (l : Lo) (w : World) (h : LoA w w.heap.size A0 A1 A2 A3 A4 A5 q0 q1 q2 q3 q4 q5 l) (b : Bool) (hb : pinOk l p c = b) :
    Calls Try.prog 137 #[.agg #[.slice A0 l.m.opts.length q0, .slice A1 l.m.rules.length q1, .slice A2 l.ss.length q2, .slice A3 l.us.length q3, .slice A4 l.ps.length q4, .slice A5 l.ws.length q5], .agg #[.int .i64 p, .int .i64 c]] w fun e w' => e = .returned (.bool b) ∧ Below w.heap.size w w' := by
  subst hb
  have H := hide h
  clear h
  by_cases h0 : 0 ≤ p
  case neg =>
    have hr : pinOk l p c = false := by unfold pinOk; rw [btw_f (.inl (by omega))]; rfl
    have HR := hide hr
    have e0 : decide ((0 : Int) ≤ p) = false := decide_eq_false h0
    clear hr
    go_enter Try.func137, Try.ntmps137
    go_upto_region 1 with (fail)
    generalize hw0 : World.alloc _ _ = w0
    obtain ⟨hb0, hb1, hB0, hs0⟩ := alloc2 hw0
    have HB0 := hide hB0
    have c4 := cellOf hb0 4
    have d0 := cellOf hb1 0
    have d1 := cellOf hb1 1
    have l0 := box_lt hb0
    have l1 := box_lt hb1
    clear hw0 hb0 hb1 hB0 hs0
    refine wp_region_held_drew (S := (fun w' => Below w0.heap.size w0 w')) (by kernel_rfl) ?_ (fun hHeld => ?_)
    · try dsimp only
      exact (by repeat (first | exact Below.refl _ _ | assumption | refine Below.drew ?_ | refine Below.drewN ?_ _ | refine Below.allocT ?_ (Nat.le_refl _) _ | refine Below.setCell ?_ (by simp <;> omega) _ | refine Below.to ?_ (by assumption) (Nat.le_refl _)))
    refine wpAnyH_take (i := 0) (v := ?v1_0) rfl (by kernel_rfl) (by kernel_rfl) (by kernel_rfl) (fun _ _ _ h => h) (Or.inl ⟨by rfl, ?y1_0⟩) (by assumption) ?r1_0
    case' y1_0 => (intro w hSw; (try dsimp only at hSw); (try have hlS := HLK.out _ hSw); obtain ⟨hcS, hfS⟩ := bcell hSw; clear hSw; go_simp; try with_reducible rfl)
    try simp only [Act.put, zA, zB, zC, zD, zE, zF]
    refine wpAnyH_take (i := 1) (v := ?v1_1) rfl (by kernel_rfl) (by kernel_rfl) (by kernel_rfl) (fun _ _ _ h => h) (Or.inl ⟨by rfl, ?y1_1⟩) (by assumption) ?r1_1
    case' y1_1 => (intro w hSw; (try dsimp only at hSw); (try have hlS := HLK.out _ hSw); obtain ⟨hcS, hfS⟩ := bcell hSw; clear hSw; go_simp; try with_reducible rfl)
    try simp only [Act.put, zA, zB, zC, zD, zE, zF]
    refine wpAnyH_take (i := 2) (v := ?v1_2) rfl (by kernel_rfl) (by kernel_rfl) (by kernel_rfl) (fun _ _ _ h => h) (Or.inl ⟨by rfl, ?y1_2⟩) (by assumption) ?r1_2
    case' y1_2 => (intro w hSw; (try dsimp only at hSw); (try have hlS := HLK.out _ hSw); obtain ⟨hcS, hfS⟩ := bcell hSw; clear hSw; go_simp; try with_reducible rfl)
    try simp only [Act.put, zA, zB, zC, zD, zE, zF]
    refine wpAnyH_take (i := 3) (v := ?v1_3) rfl (by kernel_rfl) (by kernel_rfl) (by kernel_rfl) (fun _ _ _ h => h) (Or.inl ⟨by rfl, ?y1_3⟩) (by assumption) ?r1_3
    case' y1_3 => (intro w hSw; (try dsimp only at hSw); (try have hlS := HLK.out _ hSw); obtain ⟨hcS, hfS⟩ := bcell hSw; clear hSw; go_simp; try with_reducible rfl)
    try simp only [Act.put, zA, zB, zC, zD, zE, zF]
    refine wpAnyH_take (i := 4) (v := undef) rfl (by kernel_rfl) (by kernel_rfl) (by kernel_rfl) (fun _ _ _ h => h) (Or.inr ⟨?w1_4, rfl⟩) (by assumption) ?r1_4
    case' w1_4 => first | rfl | (simp [Region.wanted, yielded, *]; done)
    try simp only [Act.put, zA, zB, zC, zD, zE, zF]
    refine wpAnyH_take (i := 5) (v := undef) rfl (by kernel_rfl) (by kernel_rfl) (by kernel_rfl) (fun _ _ _ h => h) (Or.inr ⟨?w1_5, rfl⟩) (by assumption) ?r1_5
    case' w1_5 => first | rfl | (simp [Region.wanted, yielded, *]; done)
    try simp only [Act.put, zA, zB, zC, zD, zE, zF]
    refine wpAnyH_take (i := 6) (v := undef) rfl (by kernel_rfl) (by kernel_rfl) (by kernel_rfl) (fun _ _ _ h => h) (Or.inr ⟨?w1_6, rfl⟩) (by assumption) ?r1_6
    case' w1_6 => first | rfl | (simp [Region.wanted, yielded, *]; done)
    try simp only [Act.put, zA, zB, zC, zD, zE, zF]
    refine wpAnyH_take (i := 7) (v := undef) rfl (by kernel_rfl) (by kernel_rfl) (by kernel_rfl) (fun _ _ _ h => h) (Or.inr ⟨?w1_7, rfl⟩) (by assumption) ?r1_7
    case' w1_7 => first | rfl | (simp [Region.wanted, yielded, *]; done)
    try simp only [Act.put, zA, zB, zC, zD, zE, zF]
    refine wpAnyH_take (i := 8) (v := undef) rfl (by kernel_rfl) (by kernel_rfl) (by kernel_rfl) (fun _ _ _ h => h) (Or.inr ⟨?w1_8, rfl⟩) (by assumption) ?r1_8
    case' w1_8 => first | rfl | (simp [Region.wanted, yielded, *]; done)
    try simp only [Act.put, zA, zB, zC, zD, zE, zF]
    refine wpAnyH_take (i := 9) (v := undef) rfl (by kernel_rfl) (by kernel_rfl) (by kernel_rfl) (fun _ _ _ h => h) (Or.inr ⟨?w1_9, rfl⟩) (by assumption) ?r1_9
    case' w1_9 => first | rfl | (simp [Region.wanted, yielded, *]; done)
    try simp only [Act.put, zA, zB, zC, zD, zE, zF]
    refine wpAnyH_take (i := 10) (v := ?v1_10) rfl (by kernel_rfl) (by kernel_rfl) (by kernel_rfl) (fun _ _ _ h => h) (Or.inl ⟨by rfl, ?y1_10⟩) (by assumption) ?r1_10
    case' y1_10 => (intro w hSw; (try dsimp only at hSw); (try have hlS := HLK.out _ hSw); obtain ⟨hcS, hfS⟩ := bcell hSw; clear hSw; go_simp; try with_reducible rfl)
    try simp only [Act.put, zA, zB, zC, zD, zE, zF]
    refine wpAnyH_take (i := 11) (v := ?v1_11) rfl (by kernel_rfl) (by kernel_rfl) (by kernel_rfl) (fun _ _ _ h => h) (Or.inl ⟨by rfl, ?y1_11⟩) (by assumption) ?r1_11
    case' y1_11 => (intro w hSw; (try dsimp only at hSw); (try have hlS := HLK.out _ hSw); obtain ⟨hcS, hfS⟩ := bcell hSw; clear hSw; go_simp; try with_reducible rfl)
    try simp only [Act.put, zA, zB, zC, zD, zE, zF]
    refine wpAnyH_take (i := 12) (v := undef) rfl (by kernel_rfl) (by kernel_rfl) (by kernel_rfl) (fun _ _ _ h => h) (Or.inr ⟨?w1_12, rfl⟩) (by assumption) ?r1_12
    case' w1_12 => first | rfl | (simp [Region.wanted, yielded, *]; done)
    try simp only [Act.put, zA, zB, zC, zD, zE, zF]
    refine wpAnyH_take (i := 13) (v := undef) rfl (by kernel_rfl) (by kernel_rfl) (by kernel_rfl) (fun _ _ _ h => h) (Or.inr ⟨?w1_13, rfl⟩) (by assumption) ?r1_13
    case' w1_13 => first | rfl | (simp [Region.wanted, yielded, *]; done)
    try simp only [Act.put, zA, zB, zC, zD, zE, zF]
    refine wpAnyH_take (i := 14) (v := undef) rfl (by kernel_rfl) (by kernel_rfl) (by kernel_rfl) (fun _ _ _ h => h) (Or.inr ⟨?w1_14, rfl⟩) (by assumption) ?r1_14
    case' w1_14 => first | rfl | (simp [Region.wanted, yielded, *]; done)
    try simp only [Act.put, zA, zB, zC, zD, zE, zF]
    refine wpAnyH_take (i := 15) (v := ?v1_15) rfl (by kernel_rfl) (by kernel_rfl) (by kernel_rfl) (fun _ _ _ h => h) (Or.inl ⟨by rfl, ?y1_15⟩) (by assumption) ?r1_15
    case' y1_15 => (intro w hSw; (try dsimp only at hSw); (try have hlS := HLK.out _ hSw); obtain ⟨hcS, hfS⟩ := bcell hSw; clear hSw; go_simp; try with_reducible rfl)
    try simp only [Act.put, zA, zB, zC, zD, zE, zF]
    refine wpAnyH_take (i := 16) (v := ?v1_16) rfl (by kernel_rfl) (by kernel_rfl) (by kernel_rfl) (fun _ _ _ h => h) (Or.inl ⟨by rfl, ?y1_16⟩) (by assumption) ?r1_16
    case' y1_16 => (intro w hSw; (try dsimp only at hSw); (try have hlS := HLK.out _ hSw); obtain ⟨hcS, hfS⟩ := bcell hSw; clear hSw; go_simp; try with_reducible rfl)
    try simp only [Act.put, zA, zB, zC, zD, zE, zF]
    refine wpAnyH_take (i := 17) (v := undef) rfl (by kernel_rfl) (by kernel_rfl) (by kernel_rfl) (fun _ _ _ h => h) (Or.inr ⟨?w1_17, rfl⟩) (by assumption) ?r1_17
    case' w1_17 => first | rfl | (simp [Region.wanted, yielded, *]; done)
    try simp only [Act.put, zA, zB, zC, zD, zE, zF]
    refine wpAnyH_take (i := 18) (v := undef) rfl (by kernel_rfl) (by kernel_rfl) (by kernel_rfl) (fun _ _ _ h => h) (Or.inr ⟨?w1_18, rfl⟩) (by assumption) ?r1_18
    case' w1_18 => first | rfl | (simp [Region.wanted, yielded, *]; done)
    try simp only [Act.put, zA, zB, zC, zD, zE, zF]
    refine wpAnyH_take (i := 19) (v := undef) rfl (by kernel_rfl) (by kernel_rfl) (by kernel_rfl) (fun _ _ _ h => h) (Or.inr ⟨?w1_19, rfl⟩) (by assumption) ?r1_19
    case' w1_19 => first | rfl | (simp [Region.wanted, yielded, *]; done)
    try simp only [Act.put, zA, zB, zC, zD, zE, zF]
    refine wpAnyH_take (i := 20) (v := undef) rfl (by kernel_rfl) (by kernel_rfl) (by kernel_rfl) (fun _ _ _ h => h) (Or.inr ⟨?w1_20, rfl⟩) (by assumption) ?r1_20
    case' w1_20 => first | rfl | (simp [Region.wanted, yielded, *]; done)
    try simp only [Act.put, zA, zB, zC, zD, zE, zF]
    refine wpAnyH_take (i := 21) (v := undef) rfl (by kernel_rfl) (by kernel_rfl) (by kernel_rfl) (fun _ _ _ h => h) (Or.inr ⟨?w1_21, rfl⟩) (by assumption) ?r1_21
    case' w1_21 => first | rfl | (simp [Region.wanted, yielded, *]; done)
    try simp only [Act.put, zA, zB, zC, zD, zE, zF]
    refine wpAnyH_take (i := 22) (v := undef) rfl (by kernel_rfl) (by kernel_rfl) (by kernel_rfl) (fun _ _ _ h => h) (Or.inr ⟨?w1_22, rfl⟩) (by assumption) ?r1_22
    case' w1_22 => first | rfl | (simp [Region.wanted, yielded, *]; done)
    try simp only [Act.put, zA, zB, zC, zD, zE, zF]
    refine wpAnyH_take (i := 23) (v := undef) rfl (by kernel_rfl) (by kernel_rfl) (by kernel_rfl) (fun _ _ _ h => h) (Or.inr ⟨?w1_23, rfl⟩) (by assumption) ?r1_23
    case' w1_23 => first | rfl | (simp [Region.wanted, yielded, *]; done)
    try simp only [Act.put, zA, zB, zC, zD, zE, zF]
    refine wpAnyH_take (i := 24) (v := undef) rfl (by kernel_rfl) (by kernel_rfl) (by kernel_rfl) (fun _ _ _ h => h) (Or.inr ⟨?w1_24, rfl⟩) (by assumption) ?r1_24
    case' w1_24 => first | rfl | (simp [Region.wanted, yielded, *]; done)
    try simp only [Act.put, zA, zB, zC, zD, zE, zF]
    refine wpAnyH_take (i := 25) (v := undef) rfl (by kernel_rfl) (by kernel_rfl) (by kernel_rfl) (fun _ _ _ h => h) (Or.inr ⟨?w1_25, rfl⟩) (by assumption) ?r1_25
    case' w1_25 => first | rfl | (simp [Region.wanted, yielded, *]; done)
    try simp only [Act.put, zA, zB, zC, zD, zE, zF]
    refine wpAnyH_take (i := 26) (v := undef) rfl (by kernel_rfl) (by kernel_rfl) (by kernel_rfl) (fun _ _ _ h => h) (Or.inr ⟨?w1_26, rfl⟩) (by assumption) ?r1_26
    case' w1_26 => first | rfl | (simp [Region.wanted, yielded, *]; done)
    try simp only [Act.put, zA, zB, zC, zD, zE, zF]
    refine wpAnyH_take (i := 27) (v := ?v1_27) rfl (by kernel_rfl) (by kernel_rfl) (by kernel_rfl) (fun _ _ _ h => h) (Or.inl ⟨by rfl, ?y1_27⟩) (by assumption) ?r1_27
    case' y1_27 => (intro w hSw; (try dsimp only at hSw); (try have hlS := HLK.out _ hSw); obtain ⟨hcS, hfS⟩ := bcell hSw; clear hSw; go_simp; try with_reducible rfl)
    try simp only [Act.put, zA, zB, zC, zD, zE, zF]
    refine wpAnyH_take (i := 28) (v := ?v1_28) rfl (by kernel_rfl) (by kernel_rfl) (by kernel_rfl) (fun _ _ _ h => h) (Or.inl ⟨by rfl, ?y1_28⟩) (by assumption) ?r1_28
    case' y1_28 => (intro w hSw; (try dsimp only at hSw); (try have hlS := HLK.out _ hSw); obtain ⟨hcS, hfS⟩ := bcell hSw; clear hSw; go_simp; try with_reducible rfl)
    try simp only [Act.put, zA, zB, zC, zD, zE, zF]
    refine wpAnyH_done (by kernel_rfl) ?_ _
    go_wp2_with fail
    go_ret
    exact ⟨ret_bool HR.out.symm, Below.to HB0.out hHeld (Nat.le_refl _)⟩
  case pos =>
  have e0 : decide ((0 : Int) ≤ p) = true := decide_eq_true h0
  by_cases h1 : p < (l.ps.length : Int)
  case neg =>
    have hr : pinOk l p c = false := by unfold pinOk; rw [btw_f (.inr (by omega))]; rfl
    have HR := hide hr
    have e1 : decide (p < (l.ps.length : Int)) = false := decide_eq_false h1
    clear hr
    go_enter Try.func137, Try.ntmps137
    go_upto_region 1 with (fail)
    generalize hw0 : World.alloc _ _ = w0
    obtain ⟨hb0, hb1, hB0, hs0⟩ := alloc2 hw0
    have HB0 := hide hB0
    have c4 := cellOf hb0 4
    have d0 := cellOf hb1 0
    have d1 := cellOf hb1 1
    have l0 := box_lt hb0
    have l1 := box_lt hb1
    clear hw0 hb0 hb1 hB0 hs0
    refine wp_region_held_drew (S := (fun w' => Below w0.heap.size w0 w')) (by kernel_rfl) ?_ (fun hHeld => ?_)
    · try dsimp only
      exact (by repeat (first | exact Below.refl _ _ | assumption | refine Below.drew ?_ | refine Below.drewN ?_ _ | refine Below.allocT ?_ (Nat.le_refl _) _ | refine Below.setCell ?_ (by simp <;> omega) _ | refine Below.to ?_ (by assumption) (Nat.le_refl _)))
    refine wpAnyH_take (i := 0) (v := ?v2_0) rfl (by kernel_rfl) (by kernel_rfl) (by kernel_rfl) (fun _ _ _ h => h) (Or.inl ⟨by rfl, ?y2_0⟩) (by assumption) ?r2_0
    case' y2_0 => (intro w hSw; (try dsimp only at hSw); (try have hlS := HLK.out _ hSw); obtain ⟨hcS, hfS⟩ := bcell hSw; clear hSw; go_simp; try with_reducible rfl)
    try simp only [Act.put, zA, zB, zC, zD, zE, zF]
    refine wpAnyH_take (i := 1) (v := ?v2_1) rfl (by kernel_rfl) (by kernel_rfl) (by kernel_rfl) (fun _ _ _ h => h) (Or.inl ⟨by rfl, ?y2_1⟩) (by assumption) ?r2_1
    case' y2_1 => (intro w hSw; (try dsimp only at hSw); (try have hlS := HLK.out _ hSw); obtain ⟨hcS, hfS⟩ := bcell hSw; clear hSw; go_simp; try with_reducible rfl)
    try simp only [Act.put, zA, zB, zC, zD, zE, zF]
    refine wpAnyH_take (i := 2) (v := ?v2_2) rfl (by kernel_rfl) (by kernel_rfl) (by kernel_rfl) (fun _ _ _ h => h) (Or.inl ⟨by rfl, ?y2_2⟩) (by assumption) ?r2_2
    case' y2_2 => (intro w hSw; (try dsimp only at hSw); (try have hlS := HLK.out _ hSw); obtain ⟨hcS, hfS⟩ := bcell hSw; clear hSw; go_simp; try with_reducible rfl)
    try simp only [Act.put, zA, zB, zC, zD, zE, zF]
    refine wpAnyH_take (i := 3) (v := ?v2_3) rfl (by kernel_rfl) (by kernel_rfl) (by kernel_rfl) (fun _ _ _ h => h) (Or.inl ⟨by rfl, ?y2_3⟩) (by assumption) ?r2_3
    case' y2_3 => (intro w hSw; (try dsimp only at hSw); (try have hlS := HLK.out _ hSw); obtain ⟨hcS, hfS⟩ := bcell hSw; clear hSw; go_simp; try with_reducible rfl)
    try simp only [Act.put, zA, zB, zC, zD, zE, zF]
    refine wpAnyH_take (i := 4) (v := ?v2_4) rfl (by kernel_rfl) (by kernel_rfl) (by kernel_rfl) (fun _ _ _ h => h) (Or.inl ⟨by rfl, ?y2_4⟩) (by assumption) ?r2_4
    case' y2_4 => (intro w hSw; (try dsimp only at hSw); (try have hlS := HLK.out _ hSw); obtain ⟨hcS, hfS⟩ := bcell hSw; clear hSw; go_simp; try with_reducible rfl)
    try simp only [Act.put, zA, zB, zC, zD, zE, zF]
    refine wpAnyH_take (i := 5) (v := ?v2_5) rfl (by kernel_rfl) (by kernel_rfl) (by kernel_rfl) (fun _ _ _ h => h) (Or.inl ⟨by rfl, ?y2_5⟩) (by assumption) ?r2_5
    case' y2_5 => (intro w hSw; (try dsimp only at hSw); (try have hlS := HLK.out _ hSw); obtain ⟨hcS, hfS⟩ := bcell hSw; clear hSw; go_simp; try with_reducible rfl)
    try simp only [Act.put, zA, zB, zC, zD, zE, zF]
    refine wpAnyH_take (i := 6) (v := ?v2_6) rfl (by kernel_rfl) (by kernel_rfl) (by kernel_rfl) (fun _ _ _ h => h) (Or.inl ⟨by rfl, ?y2_6⟩) (by assumption) ?r2_6
    case' y2_6 => (intro w hSw; (try dsimp only at hSw); (try have hlS := HLK.out _ hSw); obtain ⟨hcS, hfS⟩ := bcell hSw; clear hSw; go_simp; try with_reducible rfl)
    try simp only [Act.put, zA, zB, zC, zD, zE, zF]
    refine wpAnyH_take (i := 7) (v := ?v2_7) rfl (by kernel_rfl) (by kernel_rfl) (by kernel_rfl) (fun _ _ _ h => h) (Or.inl ⟨by rfl, ?y2_7⟩) (by assumption) ?r2_7
    case' y2_7 => (intro w hSw; (try dsimp only at hSw); (try have hlS := HLK.out _ hSw); obtain ⟨hcS, hfS⟩ := bcell hSw; clear hSw; go_simp; try with_reducible rfl)
    try simp only [Act.put, zA, zB, zC, zD, zE, zF]
    refine wpAnyH_take (i := 8) (v := ?v2_8) rfl (by kernel_rfl) (by kernel_rfl) (by kernel_rfl) (fun _ _ _ h => h) (Or.inl ⟨by rfl, ?y2_8⟩) (by assumption) ?r2_8
    case' y2_8 => (intro w hSw; (try dsimp only at hSw); (try have hlS := HLK.out _ hSw); obtain ⟨hcS, hfS⟩ := bcell hSw; clear hSw; go_simp; try with_reducible rfl)
    try simp only [Act.put, zA, zB, zC, zD, zE, zF]
    refine wpAnyH_take (i := 9) (v := ?v2_9) rfl (by kernel_rfl) (by kernel_rfl) (by kernel_rfl) (fun _ _ _ h => h) (Or.inl ⟨by rfl, ?y2_9⟩) (by assumption) ?r2_9
    case' y2_9 => (intro w hSw; (try dsimp only at hSw); (try have hlS := HLK.out _ hSw); obtain ⟨hcS, hfS⟩ := bcell hSw; clear hSw; go_simp; try with_reducible rfl)
    try simp only [Act.put, zA, zB, zC, zD, zE, zF]
    refine wpAnyH_take (i := 10) (v := ?v2_10) rfl (by kernel_rfl) (by kernel_rfl) (by kernel_rfl) (fun _ _ _ h => h) (Or.inl ⟨by rfl, ?y2_10⟩) (by assumption) ?r2_10
    case' y2_10 => (intro w hSw; (try dsimp only at hSw); (try have hlS := HLK.out _ hSw); obtain ⟨hcS, hfS⟩ := bcell hSw; clear hSw; go_simp; try with_reducible rfl)
    try simp only [Act.put, zA, zB, zC, zD, zE, zF]
    refine wpAnyH_take (i := 11) (v := ?v2_11) rfl (by kernel_rfl) (by kernel_rfl) (by kernel_rfl) (fun _ _ _ h => h) (Or.inl ⟨by rfl, ?y2_11⟩) (by assumption) ?r2_11
    case' y2_11 => (intro w hSw; (try dsimp only at hSw); (try have hlS := HLK.out _ hSw); obtain ⟨hcS, hfS⟩ := bcell hSw; clear hSw; go_simp; try with_reducible rfl)
    try simp only [Act.put, zA, zB, zC, zD, zE, zF]
    refine wpAnyH_take (i := 12) (v := undef) rfl (by kernel_rfl) (by kernel_rfl) (by kernel_rfl) (fun _ _ _ h => h) (Or.inr ⟨?w2_12, rfl⟩) (by assumption) ?r2_12
    case' w2_12 => first | rfl | (simp [Region.wanted, yielded, *]; done)
    try simp only [Act.put, zA, zB, zC, zD, zE, zF]
    refine wpAnyH_take (i := 13) (v := undef) rfl (by kernel_rfl) (by kernel_rfl) (by kernel_rfl) (fun _ _ _ h => h) (Or.inr ⟨?w2_13, rfl⟩) (by assumption) ?r2_13
    case' w2_13 => first | rfl | (simp [Region.wanted, yielded, *]; done)
    try simp only [Act.put, zA, zB, zC, zD, zE, zF]
    refine wpAnyH_take (i := 14) (v := undef) rfl (by kernel_rfl) (by kernel_rfl) (by kernel_rfl) (fun _ _ _ h => h) (Or.inr ⟨?w2_14, rfl⟩) (by assumption) ?r2_14
    case' w2_14 => first | rfl | (simp [Region.wanted, yielded, *]; done)
    try simp only [Act.put, zA, zB, zC, zD, zE, zF]
    refine wpAnyH_take (i := 15) (v := ?v2_15) rfl (by kernel_rfl) (by kernel_rfl) (by kernel_rfl) (fun _ _ _ h => h) (Or.inl ⟨by rfl, ?y2_15⟩) (by assumption) ?r2_15
    case' y2_15 => (intro w hSw; (try dsimp only at hSw); (try have hlS := HLK.out _ hSw); obtain ⟨hcS, hfS⟩ := bcell hSw; clear hSw; go_simp; try with_reducible rfl)
    try simp only [Act.put, zA, zB, zC, zD, zE, zF]
    refine wpAnyH_take (i := 16) (v := ?v2_16) rfl (by kernel_rfl) (by kernel_rfl) (by kernel_rfl) (fun _ _ _ h => h) (Or.inl ⟨by rfl, ?y2_16⟩) (by assumption) ?r2_16
    case' y2_16 => (intro w hSw; (try dsimp only at hSw); (try have hlS := HLK.out _ hSw); obtain ⟨hcS, hfS⟩ := bcell hSw; clear hSw; go_simp; try with_reducible rfl)
    try simp only [Act.put, zA, zB, zC, zD, zE, zF]
    refine wpAnyH_take (i := 17) (v := undef) rfl (by kernel_rfl) (by kernel_rfl) (by kernel_rfl) (fun _ _ _ h => h) (Or.inr ⟨?w2_17, rfl⟩) (by assumption) ?r2_17
    case' w2_17 => first | rfl | (simp [Region.wanted, yielded, *]; done)
    try simp only [Act.put, zA, zB, zC, zD, zE, zF]
    refine wpAnyH_take (i := 18) (v := undef) rfl (by kernel_rfl) (by kernel_rfl) (by kernel_rfl) (fun _ _ _ h => h) (Or.inr ⟨?w2_18, rfl⟩) (by assumption) ?r2_18
    case' w2_18 => first | rfl | (simp [Region.wanted, yielded, *]; done)
    try simp only [Act.put, zA, zB, zC, zD, zE, zF]
    refine wpAnyH_take (i := 19) (v := undef) rfl (by kernel_rfl) (by kernel_rfl) (by kernel_rfl) (fun _ _ _ h => h) (Or.inr ⟨?w2_19, rfl⟩) (by assumption) ?r2_19
    case' w2_19 => first | rfl | (simp [Region.wanted, yielded, *]; done)
    try simp only [Act.put, zA, zB, zC, zD, zE, zF]
    refine wpAnyH_take (i := 20) (v := undef) rfl (by kernel_rfl) (by kernel_rfl) (by kernel_rfl) (fun _ _ _ h => h) (Or.inr ⟨?w2_20, rfl⟩) (by assumption) ?r2_20
    case' w2_20 => first | rfl | (simp [Region.wanted, yielded, *]; done)
    try simp only [Act.put, zA, zB, zC, zD, zE, zF]
    refine wpAnyH_take (i := 21) (v := undef) rfl (by kernel_rfl) (by kernel_rfl) (by kernel_rfl) (fun _ _ _ h => h) (Or.inr ⟨?w2_21, rfl⟩) (by assumption) ?r2_21
    case' w2_21 => first | rfl | (simp [Region.wanted, yielded, *]; done)
    try simp only [Act.put, zA, zB, zC, zD, zE, zF]
    refine wpAnyH_take (i := 22) (v := undef) rfl (by kernel_rfl) (by kernel_rfl) (by kernel_rfl) (fun _ _ _ h => h) (Or.inr ⟨?w2_22, rfl⟩) (by assumption) ?r2_22
    case' w2_22 => first | rfl | (simp [Region.wanted, yielded, *]; done)
    try simp only [Act.put, zA, zB, zC, zD, zE, zF]
    refine wpAnyH_take (i := 23) (v := undef) rfl (by kernel_rfl) (by kernel_rfl) (by kernel_rfl) (fun _ _ _ h => h) (Or.inr ⟨?w2_23, rfl⟩) (by assumption) ?r2_23
    case' w2_23 => first | rfl | (simp [Region.wanted, yielded, *]; done)
    try simp only [Act.put, zA, zB, zC, zD, zE, zF]
    refine wpAnyH_take (i := 24) (v := undef) rfl (by kernel_rfl) (by kernel_rfl) (by kernel_rfl) (fun _ _ _ h => h) (Or.inr ⟨?w2_24, rfl⟩) (by assumption) ?r2_24
    case' w2_24 => first | rfl | (simp [Region.wanted, yielded, *]; done)
    try simp only [Act.put, zA, zB, zC, zD, zE, zF]
    refine wpAnyH_take (i := 25) (v := undef) rfl (by kernel_rfl) (by kernel_rfl) (by kernel_rfl) (fun _ _ _ h => h) (Or.inr ⟨?w2_25, rfl⟩) (by assumption) ?r2_25
    case' w2_25 => first | rfl | (simp [Region.wanted, yielded, *]; done)
    try simp only [Act.put, zA, zB, zC, zD, zE, zF]
    refine wpAnyH_take (i := 26) (v := undef) rfl (by kernel_rfl) (by kernel_rfl) (by kernel_rfl) (fun _ _ _ h => h) (Or.inr ⟨?w2_26, rfl⟩) (by assumption) ?r2_26
    case' w2_26 => first | rfl | (simp [Region.wanted, yielded, *]; done)
    try simp only [Act.put, zA, zB, zC, zD, zE, zF]
    refine wpAnyH_take (i := 27) (v := ?v2_27) rfl (by kernel_rfl) (by kernel_rfl) (by kernel_rfl) (fun _ _ _ h => h) (Or.inl ⟨by rfl, ?y2_27⟩) (by assumption) ?r2_27
    case' y2_27 => (intro w hSw; (try dsimp only at hSw); (try have hlS := HLK.out _ hSw); obtain ⟨hcS, hfS⟩ := bcell hSw; clear hSw; go_simp; try with_reducible rfl)
    try simp only [Act.put, zA, zB, zC, zD, zE, zF]
    refine wpAnyH_take (i := 28) (v := ?v2_28) rfl (by kernel_rfl) (by kernel_rfl) (by kernel_rfl) (fun _ _ _ h => h) (Or.inl ⟨by rfl, ?y2_28⟩) (by assumption) ?r2_28
    case' y2_28 => (intro w hSw; (try dsimp only at hSw); (try have hlS := HLK.out _ hSw); obtain ⟨hcS, hfS⟩ := bcell hSw; clear hSw; go_simp; try with_reducible rfl)
    try simp only [Act.put, zA, zB, zC, zD, zE, zF]
    refine wpAnyH_done (by kernel_rfl) ?_ _
    go_wp2_with fail
    go_ret
    exact ⟨ret_bool HR.out.symm, Below.to HB0.out hHeld (Nat.le_refl _)⟩
  case pos =>
  have e1 : decide (p < (l.ps.length : Int)) = true := decide_eq_true h1
  by_cases h2 : 0 ≤ c
  case neg =>
    have hr : pinOk l p c = false := by unfold pinOk; rw [btw_f (n := c) (.inl (by omega))]; simp
    have HR := hide hr
    have e2 : decide ((0 : Int) ≤ c) = false := decide_eq_false h2
    clear hr
    go_enter Try.func137, Try.ntmps137
    go_upto_region 1 with (fail)
    generalize hw0 : World.alloc _ _ = w0
    obtain ⟨hb0, hb1, hB0, hs0⟩ := alloc2 hw0
    have HB0 := hide hB0
    have c4 := cellOf hb0 4
    have d0 := cellOf hb1 0
    have d1 := cellOf hb1 1
    have l0 := box_lt hb0
    have l1 := box_lt hb1
    clear hw0 hb0 hb1 hB0 hs0
    refine wp_region_held_drew (S := (fun w' => Below w0.heap.size w0 w')) (by kernel_rfl) ?_ (fun hHeld => ?_)
    · try dsimp only
      exact (by repeat (first | exact Below.refl _ _ | assumption | refine Below.drew ?_ | refine Below.drewN ?_ _ | refine Below.allocT ?_ (Nat.le_refl _) _ | refine Below.setCell ?_ (by simp <;> omega) _ | refine Below.to ?_ (by assumption) (Nat.le_refl _)))
    refine wpAnyH_take (i := 0) (v := ?v3_0) rfl (by kernel_rfl) (by kernel_rfl) (by kernel_rfl) (fun _ _ _ h => h) (Or.inl ⟨by rfl, ?y3_0⟩) (by assumption) ?r3_0
    case' y3_0 => (intro w hSw; (try dsimp only at hSw); (try have hlS := HLK.out _ hSw); obtain ⟨hcS, hfS⟩ := bcell hSw; clear hSw; go_simp; try with_reducible rfl)
    try simp only [Act.put, zA, zB, zC, zD, zE, zF]
    refine wpAnyH_take (i := 1) (v := ?v3_1) rfl (by kernel_rfl) (by kernel_rfl) (by kernel_rfl) (fun _ _ _ h => h) (Or.inl ⟨by rfl, ?y3_1⟩) (by assumption) ?r3_1
    case' y3_1 => (intro w hSw; (try dsimp only at hSw); (try have hlS := HLK.out _ hSw); obtain ⟨hcS, hfS⟩ := bcell hSw; clear hSw; go_simp; try with_reducible rfl)
    try simp only [Act.put, zA, zB, zC, zD, zE, zF]
    refine wpAnyH_take (i := 2) (v := ?v3_2) rfl (by kernel_rfl) (by kernel_rfl) (by kernel_rfl) (fun _ _ _ h => h) (Or.inl ⟨by rfl, ?y3_2⟩) (by assumption) ?r3_2
    case' y3_2 => (intro w hSw; (try dsimp only at hSw); (try have hlS := HLK.out _ hSw); obtain ⟨hcS, hfS⟩ := bcell hSw; clear hSw; go_simp; try with_reducible rfl)
    try simp only [Act.put, zA, zB, zC, zD, zE, zF]
    refine wpAnyH_take (i := 3) (v := ?v3_3) rfl (by kernel_rfl) (by kernel_rfl) (by kernel_rfl) (fun _ _ _ h => h) (Or.inl ⟨by rfl, ?y3_3⟩) (by assumption) ?r3_3
    case' y3_3 => (intro w hSw; (try dsimp only at hSw); (try have hlS := HLK.out _ hSw); obtain ⟨hcS, hfS⟩ := bcell hSw; clear hSw; go_simp; try with_reducible rfl)
    try simp only [Act.put, zA, zB, zC, zD, zE, zF]
    refine wpAnyH_take (i := 4) (v := ?v3_4) rfl (by kernel_rfl) (by kernel_rfl) (by kernel_rfl) (fun _ _ _ h => h) (Or.inl ⟨by rfl, ?y3_4⟩) (by assumption) ?r3_4
    case' y3_4 => (intro w hSw; (try dsimp only at hSw); (try have hlS := HLK.out _ hSw); obtain ⟨hcS, hfS⟩ := bcell hSw; clear hSw; go_simp; try with_reducible rfl)
    try simp only [Act.put, zA, zB, zC, zD, zE, zF]
    refine wpAnyH_take (i := 5) (v := ?v3_5) rfl (by kernel_rfl) (by kernel_rfl) (by kernel_rfl) (fun _ _ _ h => h) (Or.inl ⟨by rfl, ?y3_5⟩) (by assumption) ?r3_5
    case' y3_5 => (intro w hSw; (try dsimp only at hSw); (try have hlS := HLK.out _ hSw); obtain ⟨hcS, hfS⟩ := bcell hSw; clear hSw; go_simp; try with_reducible rfl)
    try simp only [Act.put, zA, zB, zC, zD, zE, zF]
    refine wpAnyH_take (i := 6) (v := ?v3_6) rfl (by kernel_rfl) (by kernel_rfl) (by kernel_rfl) (fun _ _ _ h => h) (Or.inl ⟨by rfl, ?y3_6⟩) (by assumption) ?r3_6
    case' y3_6 => (intro w hSw; (try dsimp only at hSw); (try have hlS := HLK.out _ hSw); obtain ⟨hcS, hfS⟩ := bcell hSw; clear hSw; go_simp; try with_reducible rfl)
    try simp only [Act.put, zA, zB, zC, zD, zE, zF]
    refine wpAnyH_take (i := 7) (v := ?v3_7) rfl (by kernel_rfl) (by kernel_rfl) (by kernel_rfl) (fun _ _ _ h => h) (Or.inl ⟨by rfl, ?y3_7⟩) (by assumption) ?r3_7
    case' y3_7 => (intro w hSw; (try dsimp only at hSw); (try have hlS := HLK.out _ hSw); obtain ⟨hcS, hfS⟩ := bcell hSw; clear hSw; go_simp; try with_reducible rfl)
    try simp only [Act.put, zA, zB, zC, zD, zE, zF]
    refine wpAnyH_take (i := 8) (v := ?v3_8) rfl (by kernel_rfl) (by kernel_rfl) (by kernel_rfl) (fun _ _ _ h => h) (Or.inl ⟨by rfl, ?y3_8⟩) (by assumption) ?r3_8
    case' y3_8 => (intro w hSw; (try dsimp only at hSw); (try have hlS := HLK.out _ hSw); obtain ⟨hcS, hfS⟩ := bcell hSw; clear hSw; go_simp; try with_reducible rfl)
    try simp only [Act.put, zA, zB, zC, zD, zE, zF]
    refine wpAnyH_take (i := 9) (v := ?v3_9) rfl (by kernel_rfl) (by kernel_rfl) (by kernel_rfl) (fun _ _ _ h => h) (Or.inl ⟨by rfl, ?y3_9⟩) (by assumption) ?r3_9
    case' y3_9 => (intro w hSw; (try dsimp only at hSw); (try have hlS := HLK.out _ hSw); obtain ⟨hcS, hfS⟩ := bcell hSw; clear hSw; go_simp; try with_reducible rfl)
    try simp only [Act.put, zA, zB, zC, zD, zE, zF]
    refine wpAnyH_take (i := 10) (v := ?v3_10) rfl (by kernel_rfl) (by kernel_rfl) (by kernel_rfl) (fun _ _ _ h => h) (Or.inl ⟨by rfl, ?y3_10⟩) (by assumption) ?r3_10
    case' y3_10 => (intro w hSw; (try dsimp only at hSw); (try have hlS := HLK.out _ hSw); obtain ⟨hcS, hfS⟩ := bcell hSw; clear hSw; go_simp; try with_reducible rfl)
    try simp only [Act.put, zA, zB, zC, zD, zE, zF]
    refine wpAnyH_take (i := 11) (v := ?v3_11) rfl (by kernel_rfl) (by kernel_rfl) (by kernel_rfl) (fun _ _ _ h => h) (Or.inl ⟨by rfl, ?y3_11⟩) (by assumption) ?r3_11
    case' y3_11 => (intro w hSw; (try dsimp only at hSw); (try have hlS := HLK.out _ hSw); obtain ⟨hcS, hfS⟩ := bcell hSw; clear hSw; go_simp; try with_reducible rfl)
    try simp only [Act.put, zA, zB, zC, zD, zE, zF]
    refine wpAnyH_take (i := 12) (v := ?v3_12) rfl (by kernel_rfl) (by kernel_rfl) (by kernel_rfl) (fun _ _ _ h => h) (Or.inl ⟨by rfl, ?y3_12⟩) (by assumption) ?r3_12
    case' y3_12 => (intro w hSw; (try dsimp only at hSw); (try have hlS := HLK.out _ hSw); obtain ⟨hcS, hfS⟩ := bcell hSw; clear hSw; go_simp; try with_reducible rfl)
    try simp only [Act.put, zA, zB, zC, zD, zE, zF]
    refine wpAnyH_take (i := 13) (v := ?v3_13) rfl (by kernel_rfl) (by kernel_rfl) (by kernel_rfl) (fun _ _ _ h => h) (Or.inl ⟨by rfl, ?y3_13⟩) (by assumption) ?r3_13
    case' y3_13 => (intro w hSw; (try dsimp only at hSw); (try have hlS := HLK.out _ hSw); obtain ⟨hcS, hfS⟩ := bcell hSw; clear hSw; go_simp; try with_reducible rfl)
    try simp only [Act.put, zA, zB, zC, zD, zE, zF]
    refine wpAnyH_take (i := 14) (v := ?v3_14) rfl (by kernel_rfl) (by kernel_rfl) (by kernel_rfl) (fun _ _ _ h => h) (Or.inl ⟨by rfl, ?y3_14⟩) (by assumption) ?r3_14
    case' y3_14 => (intro w hSw; (try dsimp only at hSw); (try have hlS := HLK.out _ hSw); obtain ⟨hcS, hfS⟩ := bcell hSw; clear hSw; go_simp; try with_reducible rfl)
    try simp only [Act.put, zA, zB, zC, zD, zE, zF]
    refine wpAnyH_take (i := 15) (v := ?v3_15) rfl (by kernel_rfl) (by kernel_rfl) (by kernel_rfl) (fun _ _ _ h => h) (Or.inl ⟨by rfl, ?y3_15⟩) (by assumption) ?r3_15
    case' y3_15 => (intro w hSw; (try dsimp only at hSw); (try have hlS := HLK.out _ hSw); obtain ⟨hcS, hfS⟩ := bcell hSw; clear hSw; go_simp; try with_reducible rfl)
    try simp only [Act.put, zA, zB, zC, zD, zE, zF]
    refine wpAnyH_take (i := 16) (v := ?v3_16) rfl (by kernel_rfl) (by kernel_rfl) (by kernel_rfl) (fun _ _ _ h => h) (Or.inl ⟨by rfl, ?y3_16⟩) (by assumption) ?r3_16
    case' y3_16 => (intro w hSw; (try dsimp only at hSw); (try have hlS := HLK.out _ hSw); obtain ⟨hcS, hfS⟩ := bcell hSw; clear hSw; go_simp; try with_reducible rfl)
    try simp only [Act.put, zA, zB, zC, zD, zE, zF]
    refine wpAnyH_take (i := 17) (v := undef) rfl (by kernel_rfl) (by kernel_rfl) (by kernel_rfl) (fun _ _ _ h => h) (Or.inr ⟨?w3_17, rfl⟩) (by assumption) ?r3_17
    case' w3_17 => first | rfl | (simp [Region.wanted, yielded, *]; done)
    try simp only [Act.put, zA, zB, zC, zD, zE, zF]
    refine wpAnyH_take (i := 18) (v := undef) rfl (by kernel_rfl) (by kernel_rfl) (by kernel_rfl) (fun _ _ _ h => h) (Or.inr ⟨?w3_18, rfl⟩) (by assumption) ?r3_18
    case' w3_18 => first | rfl | (simp [Region.wanted, yielded, *]; done)
    try simp only [Act.put, zA, zB, zC, zD, zE, zF]
    refine wpAnyH_take (i := 19) (v := undef) rfl (by kernel_rfl) (by kernel_rfl) (by kernel_rfl) (fun _ _ _ h => h) (Or.inr ⟨?w3_19, rfl⟩) (by assumption) ?r3_19
    case' w3_19 => first | rfl | (simp [Region.wanted, yielded, *]; done)
    try simp only [Act.put, zA, zB, zC, zD, zE, zF]
    refine wpAnyH_take (i := 20) (v := undef) rfl (by kernel_rfl) (by kernel_rfl) (by kernel_rfl) (fun _ _ _ h => h) (Or.inr ⟨?w3_20, rfl⟩) (by assumption) ?r3_20
    case' w3_20 => first | rfl | (simp [Region.wanted, yielded, *]; done)
    try simp only [Act.put, zA, zB, zC, zD, zE, zF]
    refine wpAnyH_take (i := 21) (v := undef) rfl (by kernel_rfl) (by kernel_rfl) (by kernel_rfl) (fun _ _ _ h => h) (Or.inr ⟨?w3_21, rfl⟩) (by assumption) ?r3_21
    case' w3_21 => first | rfl | (simp [Region.wanted, yielded, *]; done)
    try simp only [Act.put, zA, zB, zC, zD, zE, zF]
    refine wpAnyH_take (i := 22) (v := undef) rfl (by kernel_rfl) (by kernel_rfl) (by kernel_rfl) (fun _ _ _ h => h) (Or.inr ⟨?w3_22, rfl⟩) (by assumption) ?r3_22
    case' w3_22 => first | rfl | (simp [Region.wanted, yielded, *]; done)
    try simp only [Act.put, zA, zB, zC, zD, zE, zF]
    refine wpAnyH_take (i := 23) (v := undef) rfl (by kernel_rfl) (by kernel_rfl) (by kernel_rfl) (fun _ _ _ h => h) (Or.inr ⟨?w3_23, rfl⟩) (by assumption) ?r3_23
    case' w3_23 => first | rfl | (simp [Region.wanted, yielded, *]; done)
    try simp only [Act.put, zA, zB, zC, zD, zE, zF]
    refine wpAnyH_take (i := 24) (v := undef) rfl (by kernel_rfl) (by kernel_rfl) (by kernel_rfl) (fun _ _ _ h => h) (Or.inr ⟨?w3_24, rfl⟩) (by assumption) ?r3_24
    case' w3_24 => first | rfl | (simp [Region.wanted, yielded, *]; done)
    try simp only [Act.put, zA, zB, zC, zD, zE, zF]
    refine wpAnyH_take (i := 25) (v := undef) rfl (by kernel_rfl) (by kernel_rfl) (by kernel_rfl) (fun _ _ _ h => h) (Or.inr ⟨?w3_25, rfl⟩) (by assumption) ?r3_25
    case' w3_25 => first | rfl | (simp [Region.wanted, yielded, *]; done)
    try simp only [Act.put, zA, zB, zC, zD, zE, zF]
    refine wpAnyH_take (i := 26) (v := undef) rfl (by kernel_rfl) (by kernel_rfl) (by kernel_rfl) (fun _ _ _ h => h) (Or.inr ⟨?w3_26, rfl⟩) (by assumption) ?r3_26
    case' w3_26 => first | rfl | (simp [Region.wanted, yielded, *]; done)
    try simp only [Act.put, zA, zB, zC, zD, zE, zF]
    refine wpAnyH_take (i := 27) (v := ?v3_27) rfl (by kernel_rfl) (by kernel_rfl) (by kernel_rfl) (fun _ _ _ h => h) (Or.inl ⟨by rfl, ?y3_27⟩) (by assumption) ?r3_27
    case' y3_27 => (intro w hSw; (try dsimp only at hSw); (try have hlS := HLK.out _ hSw); obtain ⟨hcS, hfS⟩ := bcell hSw; clear hSw; go_simp; try with_reducible rfl)
    try simp only [Act.put, zA, zB, zC, zD, zE, zF]
    refine wpAnyH_take (i := 28) (v := ?v3_28) rfl (by kernel_rfl) (by kernel_rfl) (by kernel_rfl) (fun _ _ _ h => h) (Or.inl ⟨by rfl, ?y3_28⟩) (by assumption) ?r3_28
    case' y3_28 => (intro w hSw; (try dsimp only at hSw); (try have hlS := HLK.out _ hSw); obtain ⟨hcS, hfS⟩ := bcell hSw; clear hSw; go_simp; try with_reducible rfl)
    try simp only [Act.put, zA, zB, zC, zD, zE, zF]
    refine wpAnyH_done (by kernel_rfl) ?_ _
    go_wp2_with fail
    go_ret
    exact ⟨ret_bool HR.out.symm, Below.to HB0.out hHeld (Nat.le_refl _)⟩
  case pos =>
  have e2 : decide ((0 : Int) ≤ c) = true := decide_eq_true h2
  obtain ⟨k, rfl⟩ := Int.eq_ofNat_of_zero_le h0
  have hk : k < l.ps.length := by omega
  obtain ⟨b, off, x, HX, rfl, hbb, hq, f0, f1, f2⟩ := H.out.pl hk
  have iq : (l.ps.length : Int) ≤ (q4 : Int) := by omega
  have hr : pinOk l k c = decide (c < x.cav) := by unfold pinOk; rw [btw_t h0 (by omega), Int.toNat_natCast, HX.out, btw_dec2 h2]; rfl
  have HR := hide hr
  clear hr
  go_enter Try.func137, Try.ntmps137
  go_upto_region 1 with (fail)
  generalize hw0 : World.alloc _ _ = w0
  obtain ⟨hb0, hb1, hB0, hs0⟩ := alloc2 hw0
  have HB0 := hide hB0
  have c4 := cellOf hb0 4
  have d0 := cellOf hb1 0
  have d1 := cellOf hb1 1
  have l0 := box_lt hb0
  have l1 := box_lt hb1
  have l2 : b < w0.heap.size := by omega
  have g2 := (hB0.cell (p := ⟨b, off + k * 3 + 2, none⟩) hbb).trans f2
  clear f0 f1 f2
  clear hw0 hb0 hb1 hB0 hs0
  refine wp_region_held_drew (S := (fun w' => Below w0.heap.size w0 w')) (by kernel_rfl) ?_ (fun hHeld => ?_)
  · try dsimp only
    exact (by repeat (first | exact Below.refl _ _ | assumption | refine Below.drew ?_ | refine Below.drewN ?_ _ | refine Below.allocT ?_ (Nat.le_refl _) _ | refine Below.setCell ?_ (by simp <;> omega) _ | refine Below.to ?_ (by assumption) (Nat.le_refl _)))
  refine wpAnyH_take (i := 0) (v := ?v4_0) rfl (by kernel_rfl) (by kernel_rfl) (by kernel_rfl) (fun _ _ _ h => h) (Or.inl ⟨by rfl, ?y4_0⟩) (by assumption) ?r4_0
  case' y4_0 => (intro w hSw; (try dsimp only at hSw); (try have hlS := HLK.out _ hSw); obtain ⟨hcS, hfS⟩ := bcell hSw; clear hSw; go_simp; try with_reducible rfl)
  try simp only [Act.put, zA, zB, zC, zD, zE, zF]
  refine wpAnyH_take (i := 1) (v := ?v4_1) rfl (by kernel_rfl) (by kernel_rfl) (by kernel_rfl) (fun _ _ _ h => h) (Or.inl ⟨by rfl, ?y4_1⟩) (by assumption) ?r4_1
  case' y4_1 => (intro w hSw; (try dsimp only at hSw); (try have hlS := HLK.out _ hSw); obtain ⟨hcS, hfS⟩ := bcell hSw; clear hSw; go_simp; try with_reducible rfl)
  try simp only [Act.put, zA, zB, zC, zD, zE, zF]
  refine wpAnyH_take (i := 2) (v := ?v4_2) rfl (by kernel_rfl) (by kernel_rfl) (by kernel_rfl) (fun _ _ _ h => h) (Or.inl ⟨by rfl, ?y4_2⟩) (by assumption) ?r4_2
  case' y4_2 => (intro w hSw; (try dsimp only at hSw); (try have hlS := HLK.out _ hSw); obtain ⟨hcS, hfS⟩ := bcell hSw; clear hSw; go_simp; try with_reducible rfl)
  try simp only [Act.put, zA, zB, zC, zD, zE, zF]
  refine wpAnyH_take (i := 3) (v := ?v4_3) rfl (by kernel_rfl) (by kernel_rfl) (by kernel_rfl) (fun _ _ _ h => h) (Or.inl ⟨by rfl, ?y4_3⟩) (by assumption) ?r4_3
  case' y4_3 => (intro w hSw; (try dsimp only at hSw); (try have hlS := HLK.out _ hSw); obtain ⟨hcS, hfS⟩ := bcell hSw; clear hSw; go_simp; try with_reducible rfl)
  try simp only [Act.put, zA, zB, zC, zD, zE, zF]
  refine wpAnyH_take (i := 4) (v := ?v4_4) rfl (by kernel_rfl) (by kernel_rfl) (by kernel_rfl) (fun _ _ _ h => h) (Or.inl ⟨by rfl, ?y4_4⟩) (by assumption) ?r4_4
  case' y4_4 => (intro w hSw; (try dsimp only at hSw); (try have hlS := HLK.out _ hSw); obtain ⟨hcS, hfS⟩ := bcell hSw; clear hSw; go_simp; try with_reducible rfl)
  try simp only [Act.put, zA, zB, zC, zD, zE, zF]
  refine wpAnyH_take (i := 5) (v := ?v4_5) rfl (by kernel_rfl) (by kernel_rfl) (by kernel_rfl) (fun _ _ _ h => h) (Or.inl ⟨by rfl, ?y4_5⟩) (by assumption) ?r4_5
  case' y4_5 => (intro w hSw; (try dsimp only at hSw); (try have hlS := HLK.out _ hSw); obtain ⟨hcS, hfS⟩ := bcell hSw; clear hSw; go_simp; try with_reducible rfl)
  try simp only [Act.put, zA, zB, zC, zD, zE, zF]
  refine wpAnyH_take (i := 6) (v := ?v4_6) rfl (by kernel_rfl) (by kernel_rfl) (by kernel_rfl) (fun _ _ _ h => h) (Or.inl ⟨by rfl, ?y4_6⟩) (by assumption) ?r4_6
  case' y4_6 => (intro w hSw; (try dsimp only at hSw); (try have hlS := HLK.out _ hSw); obtain ⟨hcS, hfS⟩ := bcell hSw; clear hSw; go_simp; try with_reducible rfl)
  try simp only [Act.put, zA, zB, zC, zD, zE, zF]
  refine wpAnyH_take (i := 7) (v := ?v4_7) rfl (by kernel_rfl) (by kernel_rfl) (by kernel_rfl) (fun _ _ _ h => h) (Or.inl ⟨by rfl, ?y4_7⟩) (by assumption) ?r4_7
  case' y4_7 => (intro w hSw; (try dsimp only at hSw); (try have hlS := HLK.out _ hSw); obtain ⟨hcS, hfS⟩ := bcell hSw; clear hSw; go_simp; try with_reducible rfl)
  try simp only [Act.put, zA, zB, zC, zD, zE, zF]
  refine wpAnyH_take (i := 8) (v := ?v4_8) rfl (by kernel_rfl) (by kernel_rfl) (by kernel_rfl) (fun _ _ _ h => h) (Or.inl ⟨by rfl, ?y4_8⟩) (by assumption) ?r4_8
  case' y4_8 => (intro w hSw; (try dsimp only at hSw); (try have hlS := HLK.out _ hSw); obtain ⟨hcS, hfS⟩ := bcell hSw; clear hSw; go_simp; try with_reducible rfl)
  try simp only [Act.put, zA, zB, zC, zD, zE, zF]
  refine wpAnyH_take (i := 9) (v := ?v4_9) rfl (by kernel_rfl) (by kernel_rfl) (by kernel_rfl) (fun _ _ _ h => h) (Or.inl ⟨by rfl, ?y4_9⟩) (by assumption) ?r4_9
  case' y4_9 => (intro w hSw; (try dsimp only at hSw); (try have hlS := HLK.out _ hSw); obtain ⟨hcS, hfS⟩ := bcell hSw; clear hSw; go_simp; try with_reducible rfl)
  try simp only [Act.put, zA, zB, zC, zD, zE, zF]
  refine wpAnyH_take (i := 10) (v := ?v4_10) rfl (by kernel_rfl) (by kernel_rfl) (by kernel_rfl) (fun _ _ _ h => h) (Or.inl ⟨by rfl, ?y4_10⟩) (by assumption) ?r4_10
  case' y4_10 => (intro w hSw; (try dsimp only at hSw); (try have hlS := HLK.out _ hSw); obtain ⟨hcS, hfS⟩ := bcell hSw; clear hSw; go_simp; try with_reducible rfl)
  try simp only [Act.put, zA, zB, zC, zD, zE, zF]
  refine wpAnyH_take (i := 11) (v := ?v4_11) rfl (by kernel_rfl) (by kernel_rfl) (by kernel_rfl) (fun _ _ _ h => h) (Or.inl ⟨by rfl, ?y4_11⟩) (by assumption) ?r4_11
  case' y4_11 => (intro w hSw; (try dsimp only at hSw); (try have hlS := HLK.out _ hSw); obtain ⟨hcS, hfS⟩ := bcell hSw; clear hSw; go_simp; try with_reducible rfl)
  try simp only [Act.put, zA, zB, zC, zD, zE, zF]
  refine wpAnyH_take (i := 12) (v := ?v4_12) rfl (by kernel_rfl) (by kernel_rfl) (by kernel_rfl) (fun _ _ _ h => h) (Or.inl ⟨by rfl, ?y4_12⟩) (by assumption) ?r4_12
  case' y4_12 => (intro w hSw; (try dsimp only at hSw); (try have hlS := HLK.out _ hSw); obtain ⟨hcS, hfS⟩ := bcell hSw; clear hSw; go_simp; try with_reducible rfl)
  try simp only [Act.put, zA, zB, zC, zD, zE, zF]
  refine wpAnyH_take (i := 13) (v := ?v4_13) rfl (by kernel_rfl) (by kernel_rfl) (by kernel_rfl) (fun _ _ _ h => h) (Or.inl ⟨by rfl, ?y4_13⟩) (by assumption) ?r4_13
  case' y4_13 => (intro w hSw; (try dsimp only at hSw); (try have hlS := HLK.out _ hSw); obtain ⟨hcS, hfS⟩ := bcell hSw; clear hSw; go_simp; try with_reducible rfl)
  try simp only [Act.put, zA, zB, zC, zD, zE, zF]
  refine wpAnyH_take (i := 14) (v := ?v4_14) rfl (by kernel_rfl) (by kernel_rfl) (by kernel_rfl) (fun _ _ _ h => h) (Or.inl ⟨by rfl, ?y4_14⟩) (by assumption) ?r4_14
  case' y4_14 => (intro w hSw; (try dsimp only at hSw); (try have hlS := HLK.out _ hSw); obtain ⟨hcS, hfS⟩ := bcell hSw; clear hSw; go_simp; try with_reducible rfl)
  try simp only [Act.put, zA, zB, zC, zD, zE, zF]
  refine wpAnyH_take (i := 15) (v := ?v4_15) rfl (by kernel_rfl) (by kernel_rfl) (by kernel_rfl) (fun _ _ _ h => h) (Or.inl ⟨by rfl, ?y4_15⟩) (by assumption) ?r4_15
  case' y4_15 => (intro w hSw; (try dsimp only at hSw); (try have hlS := HLK.out _ hSw); obtain ⟨hcS, hfS⟩ := bcell hSw; clear hSw; go_simp; try with_reducible rfl)
  try simp only [Act.put, zA, zB, zC, zD, zE, zF]
  refine wpAnyH_take (i := 16) (v := ?v4_16) rfl (by kernel_rfl) (by kernel_rfl) (by kernel_rfl) (fun _ _ _ h => h) (Or.inl ⟨by rfl, ?y4_16⟩) (by assumption) ?r4_16
  case' y4_16 => (intro w hSw; (try dsimp only at hSw); (try have hlS := HLK.out _ hSw); obtain ⟨hcS, hfS⟩ := bcell hSw; clear hSw; go_simp; try with_reducible rfl)
  try simp only [Act.put, zA, zB, zC, zD, zE, zF]
  refine wpAnyH_take (i := 17) (v := ?v4_17) rfl (by kernel_rfl) (by kernel_rfl) (by kernel_rfl) (fun _ _ _ h => h) (Or.inl ⟨by rfl, ?y4_17⟩) (by assumption) ?r4_17
  case' y4_17 => (intro w hSw; (try dsimp only at hSw); (try have hlS := HLK.out _ hSw); obtain ⟨hcS, hfS⟩ := bcell hSw; clear hSw; go_simp; try with_reducible rfl)
  try simp only [Act.put, zA, zB, zC, zD, zE, zF]
  refine wpAnyH_take (i := 18) (v := ?v4_18) rfl (by kernel_rfl) (by kernel_rfl) (by kernel_rfl) (fun _ _ _ h => h) (Or.inl ⟨by rfl, ?y4_18⟩) (by assumption) ?r4_18
  case' y4_18 => (intro w hSw; (try dsimp only at hSw); (try have hlS := HLK.out _ hSw); obtain ⟨hcS, hfS⟩ := bcell hSw; clear hSw; go_simp; try with_reducible rfl)
  try simp only [Act.put, zA, zB, zC, zD, zE, zF]
  refine wpAnyH_take (i := 19) (v := ?v4_19) rfl (by kernel_rfl) (by kernel_rfl) (by kernel_rfl) (fun _ _ _ h => h) (Or.inl ⟨by rfl, ?y4_19⟩) (by assumption) ?r4_19
  case' y4_19 => (intro w hSw; (try dsimp only at hSw); (try have hlS := HLK.out _ hSw); obtain ⟨hcS, hfS⟩ := bcell hSw; clear hSw; go_simp; try with_reducible rfl)
  try simp only [Act.put, zA, zB, zC, zD, zE, zF]
  refine wpAnyH_take (i := 20) (v := ?v4_20) rfl (by kernel_rfl) (by kernel_rfl) (by kernel_rfl) (fun _ _ _ h => h) (Or.inl ⟨by rfl, ?y4_20⟩) (by assumption) ?r4_20
  case' y4_20 => (intro w hSw; (try dsimp only at hSw); (try have hlS := HLK.out _ hSw); obtain ⟨hcS, hfS⟩ := bcell hSw; clear hSw; go_simp; try with_reducible rfl)
  try simp only [Act.put, zA, zB, zC, zD, zE, zF]
  refine wpAnyH_take (i := 21) (v := ?v4_21) rfl (by kernel_rfl) (by kernel_rfl) (by kernel_rfl) (fun _ _ _ h => h) (Or.inl ⟨by rfl, ?y4_21⟩) (by assumption) ?r4_21
  case' y4_21 => (intro w hSw; (try dsimp only at hSw); (try have hlS := HLK.out _ hSw); obtain ⟨hcS, hfS⟩ := bcell hSw; clear hSw; go_simp; try with_reducible rfl)
  try simp only [Act.put, zA, zB, zC, zD, zE, zF]
  refine wpAnyH_take (i := 22) (v := ?v4_22) rfl (by kernel_rfl) (by kernel_rfl) (by kernel_rfl) (fun _ _ _ h => h) (Or.inl ⟨by rfl, ?y4_22⟩) (by assumption) ?r4_22
  case' y4_22 => (intro w hSw; (try dsimp only at hSw); (try have hlS := HLK.out _ hSw); obtain ⟨hcS, hfS⟩ := bcell hSw; clear hSw; go_simp; try with_reducible rfl)
  try simp only [Act.put, zA, zB, zC, zD, zE, zF]
  refine wpAnyH_take (i := 23) (v := ?v4_23) rfl (by kernel_rfl) (by kernel_rfl) (by kernel_rfl) (fun _ _ _ h => h) (Or.inl ⟨by rfl, ?y4_23⟩) (by assumption) ?r4_23
  case' y4_23 => (intro w hSw; (try dsimp only at hSw); (try have hlS := HLK.out _ hSw); obtain ⟨hcS, hfS⟩ := bcell hSw; clear hSw; go_simp; try with_reducible rfl)
  try simp only [Act.put, zA, zB, zC, zD, zE, zF]
  refine wpAnyH_take (i := 24) (v := ?v4_24) rfl (by kernel_rfl) (by kernel_rfl) (by kernel_rfl) (fun _ _ _ h => h) (Or.inl ⟨by rfl, ?y4_24⟩) (by assumption) ?r4_24
  case' y4_24 => (intro w hSw; (try dsimp only at hSw); (try have hlS := HLK.out _ hSw); obtain ⟨hcS, hfS⟩ := bcell hSw; clear hSw; go_simp; try with_reducible rfl)
  try simp only [Act.put, zA, zB, zC, zD, zE, zF]
  refine wpAnyH_take (i := 25) (v := ?v4_25) rfl (by kernel_rfl) (by kernel_rfl) (by kernel_rfl) (fun _ _ _ h => h) (Or.inl ⟨by rfl, ?y4_25⟩) (by assumption) ?r4_25
  case' y4_25 => (intro w hSw; (try dsimp only at hSw); (try have hlS := HLK.out _ hSw); obtain ⟨hcS, hfS⟩ := bcell hSw; clear hSw; go_simp; try with_reducible rfl)
  try simp only [Act.put, zA, zB, zC, zD, zE, zF]
  refine wpAnyH_take (i := 26) (v := ?v4_26) rfl (by kernel_rfl) (by kernel_rfl) (by kernel_rfl) (fun _ _ _ h => h) (Or.inl ⟨by rfl, ?y4_26⟩) (by assumption) ?r4_26
  case' y4_26 => (intro w hSw; (try dsimp only at hSw); (try have hlS := HLK.out _ hSw); obtain ⟨hcS, hfS⟩ := bcell hSw; clear hSw; go_simp; try with_reducible rfl)
  try simp only [Act.put, zA, zB, zC, zD, zE, zF]
  refine wpAnyH_take (i := 27) (v := ?v4_27) rfl (by kernel_rfl) (by kernel_rfl) (by kernel_rfl) (fun _ _ _ h => h) (Or.inl ⟨by rfl, ?y4_27⟩) (by assumption) ?r4_27
  case' y4_27 => (intro w hSw; (try dsimp only at hSw); (try have hlS := HLK.out _ hSw); obtain ⟨hcS, hfS⟩ := bcell hSw; clear hSw; go_simp; try with_reducible rfl)
  try simp only [Act.put, zA, zB, zC, zD, zE, zF]
  refine wpAnyH_take (i := 28) (v := ?v4_28) rfl (by kernel_rfl) (by kernel_rfl) (by kernel_rfl) (fun _ _ _ h => h) (Or.inl ⟨by rfl, ?y4_28⟩) (by assumption) ?r4_28
  case' y4_28 => (intro w hSw; (try dsimp only at hSw); (try have hlS := HLK.out _ hSw); obtain ⟨hcS, hfS⟩ := bcell hSw; clear hSw; go_simp; try with_reducible rfl)
  try simp only [Act.put, zA, zB, zC, zD, zE, zF]
  refine wpAnyH_done (by kernel_rfl) ?_ _
  go_wp2_with fail
  go_ret
  exact ⟨ret_bool HR.out.symm, Below.to HB0.out hHeld (Nat.le_refl _)⟩
end Go.Proofs.Ytmabfnddedffoaa

/- Part 4 of this claim's texts: walks and plain laws. -/
import Derived.Test.YtmabfnddedffoaaRows
import Derived.Test.YtmabfnddedffoaaGLW3
import Derived.Deep.RegionHeld3
import Derived.Deep.DrawnRows
import Derived.Test.YtmabfnddedffoaaGLW1
import Derived.WalkLawsBesides
import Derived.WalkSpells
import Derived.Deep.QuietTactic
/- A run's check: walks. -/
namespace Go.Proofs.Ytmabfnddedffoaa
open Go.RowKit
set_option linter.unusedVariables false
set_option linter.unusedSimpArgs false
theorem getD_mem2 {α : Type} {l : List α} {z : α} {k : Nat} (h : k < l.length) : l.getD k z ∈ l := by
  rw [List.getD_eq_getElem?_getD, List.getElem?_eq_getElem h]
  exact List.getElem_mem h
theorem withinB_any (n lo hi : Int) (w : World) (b : Bool) (hb : btw n lo hi = b) : Calls Try.prog 54 #[.int .i64 n, .int .i64 lo, .int .i64 hi] w fun e w' => e = .returned (.bool b) ∧ w = w' := by
  subst hb
  exact within_any n lo hi w
set_option maxRecDepth 100000 in
set_option maxHeartbeats 8000000 in
theorem ckRun_any (i : Int) (ra rb rl rr : Int) (A0 A1 A2 A3 A4 A5 : Option Addr) (q0 q1 q2 q3 q4 q5 : Nat) (l : Lo) (sb lb : Nat) (w : World) (hm : l.ss.length ≤ maxLen) (hL : LoBox w lb A0 A1 A2 A3 A4 A5 q0 q1 q2 q3 q4 q5 l) (hS : FnBox w sb 58 #[.pointer (some ⟨lb, 0, none⟩)] 94) (h : LoA w w.heap.size A0 A1 A2 A3 A4 A5 q0 q1 q2 q3 q4 q5 l) (hok : ∀ x ∈ l.ss, x.ok = true) :
    Calls Try.prog 60 #[.int .i64 i, .agg #[.int .i64 ra, .int .i64 rb, .int .i64 rl, .int .i64 rr], .pointer (some ⟨sb, 0, none⟩), .pointer (some ⟨lb, 0, none⟩)] w fun e w' => e = .returned (.int .i64 (mustE (Ru.ok l.ss ⟨ra, rb, rl, rr⟩) 61)) ∧ Below w.heap.size w w' := by
  have H := hide h
  have HOK := hide hok
  have HL1 := hide hL
  have HS := hide hS
  clear h hok hL hS
  cases hA : btw ra 0 ((l.ss.length : Int) - 1) with
  | false =>
    have hr : Ru.ok l.ss ⟨ra, rb, rl, rr⟩ = false := by unfold Ru.ok; simp only []; rw [hA]; simp
    have HR := hide hr
    have HA := hide hA
    clear hr hA
    go_enter Try.func60, Try.ntmps60
    go_upto_region 1 with (fail)
    generalize hw0 : World.alloc _ _ = w0
    obtain ⟨hb0, hB0, hs0⟩ := alloc1 hw0
    have c0 := cellOf hb0 0
    have c1 := cellOf hb0 1
    have c2 := cellOf hb0 2
    have c3 := cellOf hb0 3
    have l0 : w.heap.size < w0.heap.size := by omega
    have HL := hide (HL1.out.to hB0)
    have s0 := cellOf (HS.out.to hB0) 0
    have lsb : sb < w0.heap.size := by have := box_lt HS.out; omega
    have HB0 := hide hB0
    clear hw0 hb0 hs0 hB0
    go_upto_region 2 with (first | (go_at_call 58; refine (spotN_any _ _ _ _ _ _ _ _ _ _ _ _ _ l lb _ hm HL.out _ (by first | exact HA.out)).mono ?_; rintro e w1 ⟨rfl, rfl⟩) | (go_at_call 54; refine (withinB_any _ _ _ _ _ (by first | fail)).mono ?_; rintro e w1 ⟨rfl, rfl⟩))
    refine wp_region_held_drew (S := (fun w' => Below w0.heap.size w0 w')) (by kernel_rfl) ?_ (fun hHeld => ?_)
    · try dsimp only
      exact (by repeat (first | exact Below.refl _ _ | assumption | refine Below.drew ?_ | refine Below.drewN ?_ _ | refine Below.allocT ?_ (Nat.le_refl _) _ | refine Below.setCell ?_ (by simp <;> omega) _ | refine Below.to ?_ (by assumption) (Nat.le_refl _)))
    refine wpAnyH_take (i := 0) (v := ?v1_0) rfl (by kernel_rfl) (by kernel_rfl) (by kernel_rfl) (fun _ _ _ h => h) (Or.inl ⟨by rfl, ?y1_0⟩) (by assumption) ?r1_0
    case' y1_0 => (intro w hSw; (try dsimp only at hSw); (try have hlS := HLK.out _ hSw); obtain ⟨hcS, hfS⟩ := bcell hSw; clear hSw; go_simp; try with_reducible rfl)
    try simp only [Act.put, zA, zB, zC, zD, zE, zF]
    refine wpAnyH_take (i := 1) (v := ?v1_1) rfl (by kernel_rfl) (by kernel_rfl) (by kernel_rfl) (fun _ _ _ h => h) (Or.inl ⟨by rfl, ?y1_1⟩) (by assumption) ?r1_1
    case' y1_1 => (intro w hSw; (try dsimp only at hSw); (try have hlS := HLK.out _ hSw); obtain ⟨hcS, hfS⟩ := bcell hSw; clear hSw; go_simp; try with_reducible rfl)
    try simp only [Act.put, zA, zB, zC, zD, zE, zF]
    refine wpAnyH_take (i := 2) (v := undef) rfl (by kernel_rfl) (by kernel_rfl) (by kernel_rfl) (fun _ _ _ h => h) (Or.inr ⟨?w1_2, rfl⟩) (by assumption) ?r1_2
    case' w1_2 => first | rfl | (simp [Region.wanted, yielded, *]; done)
    try simp only [Act.put, zA, zB, zC, zD, zE, zF]
    refine wpAnyH_take (i := 3) (v := undef) rfl (by kernel_rfl) (by kernel_rfl) (by kernel_rfl) (fun _ _ _ h => h) (Or.inr ⟨?w1_3, rfl⟩) (by assumption) ?r1_3
    case' w1_3 => first | rfl | (simp [Region.wanted, yielded, *]; done)
    try simp only [Act.put, zA, zB, zC, zD, zE, zF]
    refine wpAnyH_take (i := 4) (v := undef) rfl (by kernel_rfl) (by kernel_rfl) (by kernel_rfl) (fun _ _ _ h => h) (Or.inr ⟨?w1_4, rfl⟩) (by assumption) ?r1_4
    case' w1_4 => first | rfl | (simp [Region.wanted, yielded, *]; done)
    try simp only [Act.put, zA, zB, zC, zD, zE, zF]
    refine wpAnyH_take (i := 5) (v := undef) rfl (by kernel_rfl) (by kernel_rfl) (by kernel_rfl) (fun _ _ _ h => h) (Or.inr ⟨?w1_5, rfl⟩) (by assumption) ?r1_5
    case' w1_5 => first | rfl | (simp [Region.wanted, yielded, *]; done)
    try simp only [Act.put, zA, zB, zC, zD, zE, zF]
    refine wpAnyH_take (i := 6) (v := undef) rfl (by kernel_rfl) (by kernel_rfl) (by kernel_rfl) (fun _ _ _ h => h) (Or.inr ⟨?w1_6, rfl⟩) (by assumption) ?r1_6
    case' w1_6 => first | rfl | (simp [Region.wanted, yielded, *]; done)
    try simp only [Act.put, zA, zB, zC, zD, zE, zF]
    refine wpAnyH_take (i := 7) (v := undef) rfl (by kernel_rfl) (by kernel_rfl) (by kernel_rfl) (fun _ _ _ h => h) (Or.inr ⟨?w1_7, rfl⟩) (by assumption) ?r1_7
    case' w1_7 => first | rfl | (simp [Region.wanted, yielded, *]; done)
    try simp only [Act.put, zA, zB, zC, zD, zE, zF]
    refine wpAnyH_take (i := 8) (v := undef) rfl (by kernel_rfl) (by kernel_rfl) (by kernel_rfl) (fun _ _ _ h => h) (Or.inr ⟨?w1_8, rfl⟩) (by assumption) ?r1_8
    case' w1_8 => first | rfl | (simp [Region.wanted, yielded, *]; done)
    try simp only [Act.put, zA, zB, zC, zD, zE, zF]
    refine wpAnyH_take (i := 9) (v := undef) rfl (by kernel_rfl) (by kernel_rfl) (by kernel_rfl) (fun _ _ _ h => h) (Or.inr ⟨?w1_9, rfl⟩) (by assumption) ?r1_9
    case' w1_9 => first | rfl | (simp [Region.wanted, yielded, *]; done)
    try simp only [Act.put, zA, zB, zC, zD, zE, zF]
    refine wpAnyH_take (i := 10) (v := undef) rfl (by kernel_rfl) (by kernel_rfl) (by kernel_rfl) (fun _ _ _ h => h) (Or.inr ⟨?w1_10, rfl⟩) (by assumption) ?r1_10
    case' w1_10 => first | rfl | (simp [Region.wanted, yielded, *]; done)
    try simp only [Act.put, zA, zB, zC, zD, zE, zF]
    refine wpAnyH_take (i := 11) (v := undef) rfl (by kernel_rfl) (by kernel_rfl) (by kernel_rfl) (fun _ _ _ h => h) (Or.inr ⟨?w1_11, rfl⟩) (by assumption) ?r1_11
    case' w1_11 => first | rfl | (simp [Region.wanted, yielded, *]; done)
    try simp only [Act.put, zA, zB, zC, zD, zE, zF]
    refine wpAnyH_take (i := 12) (v := undef) rfl (by kernel_rfl) (by kernel_rfl) (by kernel_rfl) (fun _ _ _ h => h) (Or.inr ⟨?w1_12, rfl⟩) (by assumption) ?r1_12
    case' w1_12 => first | rfl | (simp [Region.wanted, yielded, *]; done)
    try simp only [Act.put, zA, zB, zC, zD, zE, zF]
    refine wpAnyH_take (i := 13) (v := undef) rfl (by kernel_rfl) (by kernel_rfl) (by kernel_rfl) (fun _ _ _ h => h) (Or.inr ⟨?w1_13, rfl⟩) (by assumption) ?r1_13
    case' w1_13 => first | rfl | (simp [Region.wanted, yielded, *]; done)
    try simp only [Act.put, zA, zB, zC, zD, zE, zF]
    refine wpAnyH_take (i := 14) (v := undef) rfl (by kernel_rfl) (by kernel_rfl) (by kernel_rfl) (fun _ _ _ h => h) (Or.inr ⟨?w1_14, rfl⟩) (by assumption) ?r1_14
    case' w1_14 => first | rfl | (simp [Region.wanted, yielded, *]; done)
    try simp only [Act.put, zA, zB, zC, zD, zE, zF]
    refine wpAnyH_take (i := 15) (v := undef) rfl (by kernel_rfl) (by kernel_rfl) (by kernel_rfl) (fun _ _ _ h => h) (Or.inr ⟨?w1_15, rfl⟩) (by assumption) ?r1_15
    case' w1_15 => first | rfl | (simp [Region.wanted, yielded, *]; done)
    try simp only [Act.put, zA, zB, zC, zD, zE, zF]
    refine wpAnyH_take (i := 16) (v := undef) rfl (by kernel_rfl) (by kernel_rfl) (by kernel_rfl) (fun _ _ _ h => h) (Or.inr ⟨?w1_16, rfl⟩) (by assumption) ?r1_16
    case' w1_16 => first | rfl | (simp [Region.wanted, yielded, *]; done)
    try simp only [Act.put, zA, zB, zC, zD, zE, zF]
    refine wpAnyH_take (i := 17) (v := undef) rfl (by kernel_rfl) (by kernel_rfl) (by kernel_rfl) (fun _ _ _ h => h) (Or.inr ⟨?w1_17, rfl⟩) (by assumption) ?r1_17
    case' w1_17 => first | rfl | (simp [Region.wanted, yielded, *]; done)
    try simp only [Act.put, zA, zB, zC, zD, zE, zF]
    refine wpAnyH_take (i := 18) (v := undef) rfl (by kernel_rfl) (by kernel_rfl) (by kernel_rfl) (fun _ _ _ h => h) (Or.inr ⟨?w1_18, rfl⟩) (by assumption) ?r1_18
    case' w1_18 => first | rfl | (simp [Region.wanted, yielded, *]; done)
    try simp only [Act.put, zA, zB, zC, zD, zE, zF]
    refine wpAnyH_take (i := 19) (v := undef) rfl (by kernel_rfl) (by kernel_rfl) (by kernel_rfl) (fun _ _ _ h => h) (Or.inr ⟨?w1_19, rfl⟩) (by assumption) ?r1_19
    case' w1_19 => first | rfl | (simp [Region.wanted, yielded, *]; done)
    try simp only [Act.put, zA, zB, zC, zD, zE, zF]
    refine wpAnyH_take (i := 20) (v := undef) rfl (by kernel_rfl) (by kernel_rfl) (by kernel_rfl) (fun _ _ _ h => h) (Or.inr ⟨?w1_20, rfl⟩) (by assumption) ?r1_20
    case' w1_20 => first | rfl | (simp [Region.wanted, yielded, *]; done)
    try simp only [Act.put, zA, zB, zC, zD, zE, zF]
    refine wpAnyH_take (i := 21) (v := ?v1_21) rfl (by kernel_rfl) (by kernel_rfl) (by kernel_rfl) (fun _ _ _ h => h) (Or.inl ⟨by rfl, ?y1_21⟩) (by assumption) ?r1_21
    case' y1_21 => (intro w hSw; (try dsimp only at hSw); (try have hlS := HLK.out _ hSw); obtain ⟨hcS, hfS⟩ := bcell hSw; clear hSw; go_simp; try with_reducible rfl)
    try simp only [Act.put, zA, zB, zC, zD, zE, zF]
    refine wpAnyH_ready (rs := [22]) (by kernel_rfl) (by simp) ?_
    refine AllReadyH.cons rfl (fun K hK => ?_) AllReadyH.nil
    go_simp
    ((go_at_call 57; refine (must_any _ _ _).mono ?_; rintro e w1 ⟨rfl, rfl⟩))
    (try dsimp only)
    refine hK.out _ _ ?_ (fun hNext => ?_)
    · try dsimp only
      exact (by repeat (first | exact Below.refl _ _ | assumption | refine Below.drew ?_ | refine Below.drewN ?_ _ | refine Below.allocT ?_ (Nat.le_refl _) _ | refine Below.setCell ?_ (by simp <;> omega) _ | refine Below.to ?_ (by assumption) (Nat.le_refl _)))
    clear hK K hHeld
    have hHeld := hNext
    clear hNext
    (try dsimp only at hHeld)
    try simp only [Act.put, zA, zB, zC, zD, zE, zF]
    refine wpAnyH_take (i := 23) (v := ?v1_23) rfl (by kernel_rfl) (by kernel_rfl) (by kernel_rfl) (fun _ _ _ h => h) (Or.inl ⟨by rfl, ?y1_23⟩) (by assumption) ?r1_23
    case' y1_23 => (intro w hSw; (try dsimp only at hSw); (try have hlS := HLK.out _ hSw); obtain ⟨hcS, hfS⟩ := bcell hSw; clear hSw; go_simp; try with_reducible rfl)
    try simp only [Act.put, zA, zB, zC, zD, zE, zF]
    refine wpAnyH_done (by kernel_rfl) ?_ _
    go_wp2_with fail
    go_ret
    exact ⟨ret_int (by rw [HR.out]), Below.to HB0.out hHeld (Nat.le_refl _)⟩
  | true =>
    cases hB : btw rb 0 ((l.ss.length : Int) - 1) with
    | false =>
      have hr : Ru.ok l.ss ⟨ra, rb, rl, rr⟩ = false := by unfold Ru.ok; simp only []; rw [hA, hB]; simp
      have HR := hide hr
      have HA := hide hA
      have HB := hide hB
      clear hr hA hB
      go_enter Try.func60, Try.ntmps60
      go_upto_region 1 with (fail)
      generalize hw0 : World.alloc _ _ = w0
      obtain ⟨hb0, hB0, hs0⟩ := alloc1 hw0
      have c0 := cellOf hb0 0
      have c1 := cellOf hb0 1
      have c2 := cellOf hb0 2
      have c3 := cellOf hb0 3
      have l0 : w.heap.size < w0.heap.size := by omega
      have HL := hide (HL1.out.to hB0)
      have s0 := cellOf (HS.out.to hB0) 0
      have lsb : sb < w0.heap.size := by have := box_lt HS.out; omega
      have HB0 := hide hB0
      clear hw0 hb0 hs0 hB0
      go_upto_region 2 with (first | (go_at_call 58; refine (spotN_any _ _ _ _ _ _ _ _ _ _ _ _ _ l lb _ hm HL.out _ (by first | exact HA.out | exact HB.out)).mono ?_; rintro e w1 ⟨rfl, rfl⟩) | (go_at_call 54; refine (withinB_any _ _ _ _ _ (by first | fail)).mono ?_; rintro e w1 ⟨rfl, rfl⟩))
      refine wp_region_held_drew (S := (fun w' => Below w0.heap.size w0 w')) (by kernel_rfl) ?_ (fun hHeld => ?_)
      · try dsimp only
        exact (by repeat (first | exact Below.refl _ _ | assumption | refine Below.drew ?_ | refine Below.drewN ?_ _ | refine Below.allocT ?_ (Nat.le_refl _) _ | refine Below.setCell ?_ (by simp <;> omega) _ | refine Below.to ?_ (by assumption) (Nat.le_refl _)))
      refine wpAnyH_take (i := 0) (v := ?v2_0) rfl (by kernel_rfl) (by kernel_rfl) (by kernel_rfl) (fun _ _ _ h => h) (Or.inl ⟨by rfl, ?y2_0⟩) (by assumption) ?r2_0
      case' y2_0 => (intro w hSw; (try dsimp only at hSw); (try have hlS := HLK.out _ hSw); obtain ⟨hcS, hfS⟩ := bcell hSw; clear hSw; go_simp; try with_reducible rfl)
      try simp only [Act.put, zA, zB, zC, zD, zE, zF]
      refine wpAnyH_take (i := 1) (v := ?v2_1) rfl (by kernel_rfl) (by kernel_rfl) (by kernel_rfl) (fun _ _ _ h => h) (Or.inl ⟨by rfl, ?y2_1⟩) (by assumption) ?r2_1
      case' y2_1 => (intro w hSw; (try dsimp only at hSw); (try have hlS := HLK.out _ hSw); obtain ⟨hcS, hfS⟩ := bcell hSw; clear hSw; go_simp; try with_reducible rfl)
      try simp only [Act.put, zA, zB, zC, zD, zE, zF]
      refine wpAnyH_take (i := 2) (v := undef) rfl (by kernel_rfl) (by kernel_rfl) (by kernel_rfl) (fun _ _ _ h => h) (Or.inr ⟨?w2_2, rfl⟩) (by assumption) ?r2_2
      case' w2_2 => first | rfl | (simp [Region.wanted, yielded, *]; done)
      try simp only [Act.put, zA, zB, zC, zD, zE, zF]
      refine wpAnyH_take (i := 3) (v := undef) rfl (by kernel_rfl) (by kernel_rfl) (by kernel_rfl) (fun _ _ _ h => h) (Or.inr ⟨?w2_3, rfl⟩) (by assumption) ?r2_3
      case' w2_3 => first | rfl | (simp [Region.wanted, yielded, *]; done)
      try simp only [Act.put, zA, zB, zC, zD, zE, zF]
      refine wpAnyH_take (i := 4) (v := undef) rfl (by kernel_rfl) (by kernel_rfl) (by kernel_rfl) (fun _ _ _ h => h) (Or.inr ⟨?w2_4, rfl⟩) (by assumption) ?r2_4
      case' w2_4 => first | rfl | (simp [Region.wanted, yielded, *]; done)
      try simp only [Act.put, zA, zB, zC, zD, zE, zF]
      refine wpAnyH_take (i := 5) (v := undef) rfl (by kernel_rfl) (by kernel_rfl) (by kernel_rfl) (fun _ _ _ h => h) (Or.inr ⟨?w2_5, rfl⟩) (by assumption) ?r2_5
      case' w2_5 => first | rfl | (simp [Region.wanted, yielded, *]; done)
      try simp only [Act.put, zA, zB, zC, zD, zE, zF]
      refine wpAnyH_take (i := 6) (v := undef) rfl (by kernel_rfl) (by kernel_rfl) (by kernel_rfl) (fun _ _ _ h => h) (Or.inr ⟨?w2_6, rfl⟩) (by assumption) ?r2_6
      case' w2_6 => first | rfl | (simp [Region.wanted, yielded, *]; done)
      try simp only [Act.put, zA, zB, zC, zD, zE, zF]
      refine wpAnyH_take (i := 7) (v := undef) rfl (by kernel_rfl) (by kernel_rfl) (by kernel_rfl) (fun _ _ _ h => h) (Or.inr ⟨?w2_7, rfl⟩) (by assumption) ?r2_7
      case' w2_7 => first | rfl | (simp [Region.wanted, yielded, *]; done)
      try simp only [Act.put, zA, zB, zC, zD, zE, zF]
      refine wpAnyH_take (i := 8) (v := undef) rfl (by kernel_rfl) (by kernel_rfl) (by kernel_rfl) (fun _ _ _ h => h) (Or.inr ⟨?w2_8, rfl⟩) (by assumption) ?r2_8
      case' w2_8 => first | rfl | (simp [Region.wanted, yielded, *]; done)
      try simp only [Act.put, zA, zB, zC, zD, zE, zF]
      refine wpAnyH_take (i := 9) (v := undef) rfl (by kernel_rfl) (by kernel_rfl) (by kernel_rfl) (fun _ _ _ h => h) (Or.inr ⟨?w2_9, rfl⟩) (by assumption) ?r2_9
      case' w2_9 => first | rfl | (simp [Region.wanted, yielded, *]; done)
      try simp only [Act.put, zA, zB, zC, zD, zE, zF]
      refine wpAnyH_take (i := 10) (v := undef) rfl (by kernel_rfl) (by kernel_rfl) (by kernel_rfl) (fun _ _ _ h => h) (Or.inr ⟨?w2_10, rfl⟩) (by assumption) ?r2_10
      case' w2_10 => first | rfl | (simp [Region.wanted, yielded, *]; done)
      try simp only [Act.put, zA, zB, zC, zD, zE, zF]
      refine wpAnyH_take (i := 11) (v := undef) rfl (by kernel_rfl) (by kernel_rfl) (by kernel_rfl) (fun _ _ _ h => h) (Or.inr ⟨?w2_11, rfl⟩) (by assumption) ?r2_11
      case' w2_11 => first | rfl | (simp [Region.wanted, yielded, *]; done)
      try simp only [Act.put, zA, zB, zC, zD, zE, zF]
      refine wpAnyH_take (i := 12) (v := undef) rfl (by kernel_rfl) (by kernel_rfl) (by kernel_rfl) (fun _ _ _ h => h) (Or.inr ⟨?w2_12, rfl⟩) (by assumption) ?r2_12
      case' w2_12 => first | rfl | (simp [Region.wanted, yielded, *]; done)
      try simp only [Act.put, zA, zB, zC, zD, zE, zF]
      refine wpAnyH_take (i := 13) (v := undef) rfl (by kernel_rfl) (by kernel_rfl) (by kernel_rfl) (fun _ _ _ h => h) (Or.inr ⟨?w2_13, rfl⟩) (by assumption) ?r2_13
      case' w2_13 => first | rfl | (simp [Region.wanted, yielded, *]; done)
      try simp only [Act.put, zA, zB, zC, zD, zE, zF]
      refine wpAnyH_take (i := 14) (v := undef) rfl (by kernel_rfl) (by kernel_rfl) (by kernel_rfl) (fun _ _ _ h => h) (Or.inr ⟨?w2_14, rfl⟩) (by assumption) ?r2_14
      case' w2_14 => first | rfl | (simp [Region.wanted, yielded, *]; done)
      try simp only [Act.put, zA, zB, zC, zD, zE, zF]
      refine wpAnyH_take (i := 15) (v := undef) rfl (by kernel_rfl) (by kernel_rfl) (by kernel_rfl) (fun _ _ _ h => h) (Or.inr ⟨?w2_15, rfl⟩) (by assumption) ?r2_15
      case' w2_15 => first | rfl | (simp [Region.wanted, yielded, *]; done)
      try simp only [Act.put, zA, zB, zC, zD, zE, zF]
      refine wpAnyH_take (i := 16) (v := undef) rfl (by kernel_rfl) (by kernel_rfl) (by kernel_rfl) (fun _ _ _ h => h) (Or.inr ⟨?w2_16, rfl⟩) (by assumption) ?r2_16
      case' w2_16 => first | rfl | (simp [Region.wanted, yielded, *]; done)
      try simp only [Act.put, zA, zB, zC, zD, zE, zF]
      refine wpAnyH_take (i := 17) (v := undef) rfl (by kernel_rfl) (by kernel_rfl) (by kernel_rfl) (fun _ _ _ h => h) (Or.inr ⟨?w2_17, rfl⟩) (by assumption) ?r2_17
      case' w2_17 => first | rfl | (simp [Region.wanted, yielded, *]; done)
      try simp only [Act.put, zA, zB, zC, zD, zE, zF]
      refine wpAnyH_take (i := 18) (v := undef) rfl (by kernel_rfl) (by kernel_rfl) (by kernel_rfl) (fun _ _ _ h => h) (Or.inr ⟨?w2_18, rfl⟩) (by assumption) ?r2_18
      case' w2_18 => first | rfl | (simp [Region.wanted, yielded, *]; done)
      try simp only [Act.put, zA, zB, zC, zD, zE, zF]
      refine wpAnyH_take (i := 19) (v := undef) rfl (by kernel_rfl) (by kernel_rfl) (by kernel_rfl) (fun _ _ _ h => h) (Or.inr ⟨?w2_19, rfl⟩) (by assumption) ?r2_19
      case' w2_19 => first | rfl | (simp [Region.wanted, yielded, *]; done)
      try simp only [Act.put, zA, zB, zC, zD, zE, zF]
      refine wpAnyH_take (i := 20) (v := undef) rfl (by kernel_rfl) (by kernel_rfl) (by kernel_rfl) (fun _ _ _ h => h) (Or.inr ⟨?w2_20, rfl⟩) (by assumption) ?r2_20
      case' w2_20 => first | rfl | (simp [Region.wanted, yielded, *]; done)
      try simp only [Act.put, zA, zB, zC, zD, zE, zF]
      refine wpAnyH_take (i := 21) (v := ?v2_21) rfl (by kernel_rfl) (by kernel_rfl) (by kernel_rfl) (fun _ _ _ h => h) (Or.inl ⟨by rfl, ?y2_21⟩) (by assumption) ?r2_21
      case' y2_21 => (intro w hSw; (try dsimp only at hSw); (try have hlS := HLK.out _ hSw); obtain ⟨hcS, hfS⟩ := bcell hSw; clear hSw; go_simp; try with_reducible rfl)
      try simp only [Act.put, zA, zB, zC, zD, zE, zF]
      refine wpAnyH_ready (rs := [22]) (by kernel_rfl) (by simp) ?_
      refine AllReadyH.cons rfl (fun K hK => ?_) AllReadyH.nil
      go_simp
      ((go_at_call 57; refine (must_any _ _ _).mono ?_; rintro e w1 ⟨rfl, rfl⟩))
      (try dsimp only)
      refine hK.out _ _ ?_ (fun hNext => ?_)
      · try dsimp only
        exact (by repeat (first | exact Below.refl _ _ | assumption | refine Below.drew ?_ | refine Below.drewN ?_ _ | refine Below.allocT ?_ (Nat.le_refl _) _ | refine Below.setCell ?_ (by simp <;> omega) _ | refine Below.to ?_ (by assumption) (Nat.le_refl _)))
      clear hK K hHeld
      have hHeld := hNext
      clear hNext
      (try dsimp only at hHeld)
      try simp only [Act.put, zA, zB, zC, zD, zE, zF]
      refine wpAnyH_take (i := 23) (v := ?v2_23) rfl (by kernel_rfl) (by kernel_rfl) (by kernel_rfl) (fun _ _ _ h => h) (Or.inl ⟨by rfl, ?y2_23⟩) (by assumption) ?r2_23
      case' y2_23 => (intro w hSw; (try dsimp only at hSw); (try have hlS := HLK.out _ hSw); obtain ⟨hcS, hfS⟩ := bcell hSw; clear hSw; go_simp; try with_reducible rfl)
      try simp only [Act.put, zA, zB, zC, zD, zE, zF]
      refine wpAnyH_done (by kernel_rfl) ?_ _
      go_wp2_with fail
      go_ret
      exact ⟨ret_int (by rw [HR.out]), Below.to HB0.out hHeld (Nat.le_refl _)⟩
    | true =>
      cases hN : decide (ra ≠ rb) with
      | false =>
        have hr : Ru.ok l.ss ⟨ra, rb, rl, rr⟩ = false := by unfold Ru.ok; simp only []; rw [hA, hB, hN]; simp
        have HR := hide hr
        have HA := hide hA
        have HB := hide hB
        have hnn : (ra != rb) = false := by simpa using hN
        clear hr hA hB hN
        go_enter Try.func60, Try.ntmps60
        go_upto_region 1 with (fail)
        generalize hw0 : World.alloc _ _ = w0
        obtain ⟨hb0, hB0, hs0⟩ := alloc1 hw0
        have c0 := cellOf hb0 0
        have c1 := cellOf hb0 1
        have c2 := cellOf hb0 2
        have c3 := cellOf hb0 3
        have l0 : w.heap.size < w0.heap.size := by omega
        have HL := hide (HL1.out.to hB0)
        have s0 := cellOf (HS.out.to hB0) 0
        have lsb : sb < w0.heap.size := by have := box_lt HS.out; omega
        have HB0 := hide hB0
        clear hw0 hb0 hs0 hB0
        go_upto_region 2 with (first | (go_at_call 58; refine (spotN_any _ _ _ _ _ _ _ _ _ _ _ _ _ l lb _ hm HL.out _ (by first | exact HA.out | exact HB.out)).mono ?_; rintro e w1 ⟨rfl, rfl⟩) | (go_at_call 54; refine (withinB_any _ _ _ _ _ (by first | fail)).mono ?_; rintro e w1 ⟨rfl, rfl⟩))
        refine wp_region_held_drew (S := (fun w' => Below w0.heap.size w0 w')) (by kernel_rfl) ?_ (fun hHeld => ?_)
        · try dsimp only
          exact (by repeat (first | exact Below.refl _ _ | assumption | refine Below.drew ?_ | refine Below.drewN ?_ _ | refine Below.allocT ?_ (Nat.le_refl _) _ | refine Below.setCell ?_ (by simp <;> omega) _ | refine Below.to ?_ (by assumption) (Nat.le_refl _)))
        refine wpAnyH_take (i := 0) (v := ?v3_0) rfl (by kernel_rfl) (by kernel_rfl) (by kernel_rfl) (fun _ _ _ h => h) (Or.inl ⟨by rfl, ?y3_0⟩) (by assumption) ?r3_0
        case' y3_0 => (intro w hSw; (try dsimp only at hSw); (try have hlS := HLK.out _ hSw); obtain ⟨hcS, hfS⟩ := bcell hSw; clear hSw; go_simp; try with_reducible rfl)
        try simp only [Act.put, zA, zB, zC, zD, zE, zF]
        refine wpAnyH_take (i := 1) (v := ?v3_1) rfl (by kernel_rfl) (by kernel_rfl) (by kernel_rfl) (fun _ _ _ h => h) (Or.inl ⟨by rfl, ?y3_1⟩) (by assumption) ?r3_1
        case' y3_1 => (intro w hSw; (try dsimp only at hSw); (try have hlS := HLK.out _ hSw); obtain ⟨hcS, hfS⟩ := bcell hSw; clear hSw; go_simp; try with_reducible rfl)
        try simp only [Act.put, zA, zB, zC, zD, zE, zF]
        refine wpAnyH_take (i := 2) (v := undef) rfl (by kernel_rfl) (by kernel_rfl) (by kernel_rfl) (fun _ _ _ h => h) (Or.inr ⟨?w3_2, rfl⟩) (by assumption) ?r3_2
        case' w3_2 => first | rfl | (simp [Region.wanted, yielded, *]; done)
        try simp only [Act.put, zA, zB, zC, zD, zE, zF]
        refine wpAnyH_take (i := 3) (v := undef) rfl (by kernel_rfl) (by kernel_rfl) (by kernel_rfl) (fun _ _ _ h => h) (Or.inr ⟨?w3_3, rfl⟩) (by assumption) ?r3_3
        case' w3_3 => first | rfl | (simp [Region.wanted, yielded, *]; done)
        try simp only [Act.put, zA, zB, zC, zD, zE, zF]
        refine wpAnyH_take (i := 4) (v := undef) rfl (by kernel_rfl) (by kernel_rfl) (by kernel_rfl) (fun _ _ _ h => h) (Or.inr ⟨?w3_4, rfl⟩) (by assumption) ?r3_4
        case' w3_4 => first | rfl | (simp [Region.wanted, yielded, *]; done)
        try simp only [Act.put, zA, zB, zC, zD, zE, zF]
        refine wpAnyH_take (i := 5) (v := undef) rfl (by kernel_rfl) (by kernel_rfl) (by kernel_rfl) (fun _ _ _ h => h) (Or.inr ⟨?w3_5, rfl⟩) (by assumption) ?r3_5
        case' w3_5 => first | rfl | (simp [Region.wanted, yielded, *]; done)
        try simp only [Act.put, zA, zB, zC, zD, zE, zF]
        refine wpAnyH_take (i := 6) (v := undef) rfl (by kernel_rfl) (by kernel_rfl) (by kernel_rfl) (fun _ _ _ h => h) (Or.inr ⟨?w3_6, rfl⟩) (by assumption) ?r3_6
        case' w3_6 => first | rfl | (simp [Region.wanted, yielded, *]; done)
        try simp only [Act.put, zA, zB, zC, zD, zE, zF]
        refine wpAnyH_take (i := 7) (v := undef) rfl (by kernel_rfl) (by kernel_rfl) (by kernel_rfl) (fun _ _ _ h => h) (Or.inr ⟨?w3_7, rfl⟩) (by assumption) ?r3_7
        case' w3_7 => first | rfl | (simp [Region.wanted, yielded, *]; done)
        try simp only [Act.put, zA, zB, zC, zD, zE, zF]
        refine wpAnyH_take (i := 8) (v := undef) rfl (by kernel_rfl) (by kernel_rfl) (by kernel_rfl) (fun _ _ _ h => h) (Or.inr ⟨?w3_8, rfl⟩) (by assumption) ?r3_8
        case' w3_8 => first | rfl | (simp [Region.wanted, yielded, *]; done)
        try simp only [Act.put, zA, zB, zC, zD, zE, zF]
        refine wpAnyH_take (i := 9) (v := undef) rfl (by kernel_rfl) (by kernel_rfl) (by kernel_rfl) (fun _ _ _ h => h) (Or.inr ⟨?w3_9, rfl⟩) (by assumption) ?r3_9
        case' w3_9 => first | rfl | (simp [Region.wanted, yielded, *]; done)
        try simp only [Act.put, zA, zB, zC, zD, zE, zF]
        refine wpAnyH_take (i := 10) (v := undef) rfl (by kernel_rfl) (by kernel_rfl) (by kernel_rfl) (fun _ _ _ h => h) (Or.inr ⟨?w3_10, rfl⟩) (by assumption) ?r3_10
        case' w3_10 => first | rfl | (simp [Region.wanted, yielded, *]; done)
        try simp only [Act.put, zA, zB, zC, zD, zE, zF]
        refine wpAnyH_take (i := 11) (v := undef) rfl (by kernel_rfl) (by kernel_rfl) (by kernel_rfl) (fun _ _ _ h => h) (Or.inr ⟨?w3_11, rfl⟩) (by assumption) ?r3_11
        case' w3_11 => first | rfl | (simp [Region.wanted, yielded, *]; done)
        try simp only [Act.put, zA, zB, zC, zD, zE, zF]
        refine wpAnyH_take (i := 12) (v := undef) rfl (by kernel_rfl) (by kernel_rfl) (by kernel_rfl) (fun _ _ _ h => h) (Or.inr ⟨?w3_12, rfl⟩) (by assumption) ?r3_12
        case' w3_12 => first | rfl | (simp [Region.wanted, yielded, *]; done)
        try simp only [Act.put, zA, zB, zC, zD, zE, zF]
        refine wpAnyH_take (i := 13) (v := undef) rfl (by kernel_rfl) (by kernel_rfl) (by kernel_rfl) (fun _ _ _ h => h) (Or.inr ⟨?w3_13, rfl⟩) (by assumption) ?r3_13
        case' w3_13 => first | rfl | (simp [Region.wanted, yielded, *]; done)
        try simp only [Act.put, zA, zB, zC, zD, zE, zF]
        refine wpAnyH_take (i := 14) (v := undef) rfl (by kernel_rfl) (by kernel_rfl) (by kernel_rfl) (fun _ _ _ h => h) (Or.inr ⟨?w3_14, rfl⟩) (by assumption) ?r3_14
        case' w3_14 => first | rfl | (simp [Region.wanted, yielded, *]; done)
        try simp only [Act.put, zA, zB, zC, zD, zE, zF]
        refine wpAnyH_take (i := 15) (v := undef) rfl (by kernel_rfl) (by kernel_rfl) (by kernel_rfl) (fun _ _ _ h => h) (Or.inr ⟨?w3_15, rfl⟩) (by assumption) ?r3_15
        case' w3_15 => first | rfl | (simp [Region.wanted, yielded, *]; done)
        try simp only [Act.put, zA, zB, zC, zD, zE, zF]
        refine wpAnyH_take (i := 16) (v := undef) rfl (by kernel_rfl) (by kernel_rfl) (by kernel_rfl) (fun _ _ _ h => h) (Or.inr ⟨?w3_16, rfl⟩) (by assumption) ?r3_16
        case' w3_16 => first | rfl | (simp [Region.wanted, yielded, *]; done)
        try simp only [Act.put, zA, zB, zC, zD, zE, zF]
        refine wpAnyH_take (i := 17) (v := undef) rfl (by kernel_rfl) (by kernel_rfl) (by kernel_rfl) (fun _ _ _ h => h) (Or.inr ⟨?w3_17, rfl⟩) (by assumption) ?r3_17
        case' w3_17 => first | rfl | (simp [Region.wanted, yielded, *]; done)
        try simp only [Act.put, zA, zB, zC, zD, zE, zF]
        refine wpAnyH_take (i := 18) (v := undef) rfl (by kernel_rfl) (by kernel_rfl) (by kernel_rfl) (fun _ _ _ h => h) (Or.inr ⟨?w3_18, rfl⟩) (by assumption) ?r3_18
        case' w3_18 => first | rfl | (simp [Region.wanted, yielded, *]; done)
        try simp only [Act.put, zA, zB, zC, zD, zE, zF]
        refine wpAnyH_take (i := 19) (v := undef) rfl (by kernel_rfl) (by kernel_rfl) (by kernel_rfl) (fun _ _ _ h => h) (Or.inr ⟨?w3_19, rfl⟩) (by assumption) ?r3_19
        case' w3_19 => first | rfl | (simp [Region.wanted, yielded, *]; done)
        try simp only [Act.put, zA, zB, zC, zD, zE, zF]
        refine wpAnyH_take (i := 20) (v := undef) rfl (by kernel_rfl) (by kernel_rfl) (by kernel_rfl) (fun _ _ _ h => h) (Or.inr ⟨?w3_20, rfl⟩) (by assumption) ?r3_20
        case' w3_20 => first | rfl | (simp [Region.wanted, yielded, *]; done)
        try simp only [Act.put, zA, zB, zC, zD, zE, zF]
        refine wpAnyH_take (i := 21) (v := ?v3_21) rfl (by kernel_rfl) (by kernel_rfl) (by kernel_rfl) (fun _ _ _ h => h) (Or.inl ⟨by rfl, ?y3_21⟩) (by assumption) ?r3_21
        case' y3_21 => (intro w hSw; (try dsimp only at hSw); (try have hlS := HLK.out _ hSw); obtain ⟨hcS, hfS⟩ := bcell hSw; clear hSw; go_simp; try with_reducible rfl)
        try simp only [Act.put, zA, zB, zC, zD, zE, zF]
        refine wpAnyH_ready (rs := [22]) (by kernel_rfl) (by simp) ?_
        refine AllReadyH.cons rfl (fun K hK => ?_) AllReadyH.nil
        go_simp
        ((go_at_call 57; refine (must_any _ _ _).mono ?_; rintro e w1 ⟨rfl, rfl⟩))
        (try dsimp only)
        refine hK.out _ _ ?_ (fun hNext => ?_)
        · try dsimp only
          exact (by repeat (first | exact Below.refl _ _ | assumption | refine Below.drew ?_ | refine Below.drewN ?_ _ | refine Below.allocT ?_ (Nat.le_refl _) _ | refine Below.setCell ?_ (by simp <;> omega) _ | refine Below.to ?_ (by assumption) (Nat.le_refl _)))
        clear hK K hHeld
        have hHeld := hNext
        clear hNext
        (try dsimp only at hHeld)
        try simp only [Act.put, zA, zB, zC, zD, zE, zF]
        refine wpAnyH_take (i := 23) (v := ?v3_23) rfl (by kernel_rfl) (by kernel_rfl) (by kernel_rfl) (fun _ _ _ h => h) (Or.inl ⟨by rfl, ?y3_23⟩) (by assumption) ?r3_23
        case' y3_23 => (intro w hSw; (try dsimp only at hSw); (try have hlS := HLK.out _ hSw); obtain ⟨hcS, hfS⟩ := bcell hSw; clear hSw; go_simp; try with_reducible rfl)
        try simp only [Act.put, zA, zB, zC, zD, zE, zF]
        refine wpAnyH_done (by kernel_rfl) ?_ _
        go_wp2_with fail
        go_ret
        exact ⟨ret_int (by rw [HR.out]), Below.to HB0.out hHeld (Nat.le_refl _)⟩
      | true =>
        cases hC : btw rl 1 1000000 with
        | false =>
          have hr : Ru.ok l.ss ⟨ra, rb, rl, rr⟩ = false := by unfold Ru.ok; simp only []; rw [hA, hB, hN, hC]; simp
          have HR := hide hr
          have HA := hide hA
          have HB := hide hB
          have HC := hide hC
          have hnn : (ra != rb) = true := by simpa using hN
          clear hr hA hB hN hC
          go_enter Try.func60, Try.ntmps60
          go_upto_region 1 with (fail)
          generalize hw0 : World.alloc _ _ = w0
          obtain ⟨hb0, hB0, hs0⟩ := alloc1 hw0
          have c0 := cellOf hb0 0
          have c1 := cellOf hb0 1
          have c2 := cellOf hb0 2
          have c3 := cellOf hb0 3
          have l0 : w.heap.size < w0.heap.size := by omega
          have HL := hide (HL1.out.to hB0)
          have s0 := cellOf (HS.out.to hB0) 0
          have lsb : sb < w0.heap.size := by have := box_lt HS.out; omega
          have HB0 := hide hB0
          clear hw0 hb0 hs0 hB0
          go_upto_region 2 with (first | (go_at_call 58; refine (spotN_any _ _ _ _ _ _ _ _ _ _ _ _ _ l lb _ hm HL.out _ (by first | exact HA.out | exact HB.out)).mono ?_; rintro e w1 ⟨rfl, rfl⟩) | (go_at_call 54; refine (withinB_any _ _ _ _ _ (by first | exact HC.out)).mono ?_; rintro e w1 ⟨rfl, rfl⟩))
          refine wp_region_held_drew (S := (fun w' => Below w0.heap.size w0 w')) (by kernel_rfl) ?_ (fun hHeld => ?_)
          · try dsimp only
            exact (by repeat (first | exact Below.refl _ _ | assumption | refine Below.drew ?_ | refine Below.drewN ?_ _ | refine Below.allocT ?_ (Nat.le_refl _) _ | refine Below.setCell ?_ (by simp <;> omega) _ | refine Below.to ?_ (by assumption) (Nat.le_refl _)))
          refine wpAnyH_take (i := 0) (v := ?v4_0) rfl (by kernel_rfl) (by kernel_rfl) (by kernel_rfl) (fun _ _ _ h => h) (Or.inl ⟨by rfl, ?y4_0⟩) (by assumption) ?r4_0
          case' y4_0 => (intro w hSw; (try dsimp only at hSw); (try have hlS := HLK.out _ hSw); obtain ⟨hcS, hfS⟩ := bcell hSw; clear hSw; go_simp; try with_reducible rfl)
          try simp only [Act.put, zA, zB, zC, zD, zE, zF]
          refine wpAnyH_take (i := 1) (v := ?v4_1) rfl (by kernel_rfl) (by kernel_rfl) (by kernel_rfl) (fun _ _ _ h => h) (Or.inl ⟨by rfl, ?y4_1⟩) (by assumption) ?r4_1
          case' y4_1 => (intro w hSw; (try dsimp only at hSw); (try have hlS := HLK.out _ hSw); obtain ⟨hcS, hfS⟩ := bcell hSw; clear hSw; go_simp; try with_reducible rfl)
          try simp only [Act.put, zA, zB, zC, zD, zE, zF]
          refine wpAnyH_take (i := 2) (v := undef) rfl (by kernel_rfl) (by kernel_rfl) (by kernel_rfl) (fun _ _ _ h => h) (Or.inr ⟨?w4_2, rfl⟩) (by assumption) ?r4_2
          case' w4_2 => first | rfl | (simp [Region.wanted, yielded, *]; done)
          try simp only [Act.put, zA, zB, zC, zD, zE, zF]
          refine wpAnyH_take (i := 3) (v := undef) rfl (by kernel_rfl) (by kernel_rfl) (by kernel_rfl) (fun _ _ _ h => h) (Or.inr ⟨?w4_3, rfl⟩) (by assumption) ?r4_3
          case' w4_3 => first | rfl | (simp [Region.wanted, yielded, *]; done)
          try simp only [Act.put, zA, zB, zC, zD, zE, zF]
          refine wpAnyH_take (i := 4) (v := undef) rfl (by kernel_rfl) (by kernel_rfl) (by kernel_rfl) (fun _ _ _ h => h) (Or.inr ⟨?w4_4, rfl⟩) (by assumption) ?r4_4
          case' w4_4 => first | rfl | (simp [Region.wanted, yielded, *]; done)
          try simp only [Act.put, zA, zB, zC, zD, zE, zF]
          refine wpAnyH_take (i := 5) (v := undef) rfl (by kernel_rfl) (by kernel_rfl) (by kernel_rfl) (fun _ _ _ h => h) (Or.inr ⟨?w4_5, rfl⟩) (by assumption) ?r4_5
          case' w4_5 => first | rfl | (simp [Region.wanted, yielded, *]; done)
          try simp only [Act.put, zA, zB, zC, zD, zE, zF]
          refine wpAnyH_take (i := 6) (v := undef) rfl (by kernel_rfl) (by kernel_rfl) (by kernel_rfl) (fun _ _ _ h => h) (Or.inr ⟨?w4_6, rfl⟩) (by assumption) ?r4_6
          case' w4_6 => first | rfl | (simp [Region.wanted, yielded, *]; done)
          try simp only [Act.put, zA, zB, zC, zD, zE, zF]
          refine wpAnyH_take (i := 7) (v := undef) rfl (by kernel_rfl) (by kernel_rfl) (by kernel_rfl) (fun _ _ _ h => h) (Or.inr ⟨?w4_7, rfl⟩) (by assumption) ?r4_7
          case' w4_7 => first | rfl | (simp [Region.wanted, yielded, *]; done)
          try simp only [Act.put, zA, zB, zC, zD, zE, zF]
          refine wpAnyH_take (i := 8) (v := undef) rfl (by kernel_rfl) (by kernel_rfl) (by kernel_rfl) (fun _ _ _ h => h) (Or.inr ⟨?w4_8, rfl⟩) (by assumption) ?r4_8
          case' w4_8 => first | rfl | (simp [Region.wanted, yielded, *]; done)
          try simp only [Act.put, zA, zB, zC, zD, zE, zF]
          refine wpAnyH_take (i := 9) (v := undef) rfl (by kernel_rfl) (by kernel_rfl) (by kernel_rfl) (fun _ _ _ h => h) (Or.inr ⟨?w4_9, rfl⟩) (by assumption) ?r4_9
          case' w4_9 => first | rfl | (simp [Region.wanted, yielded, *]; done)
          try simp only [Act.put, zA, zB, zC, zD, zE, zF]
          refine wpAnyH_take (i := 10) (v := undef) rfl (by kernel_rfl) (by kernel_rfl) (by kernel_rfl) (fun _ _ _ h => h) (Or.inr ⟨?w4_10, rfl⟩) (by assumption) ?r4_10
          case' w4_10 => first | rfl | (simp [Region.wanted, yielded, *]; done)
          try simp only [Act.put, zA, zB, zC, zD, zE, zF]
          refine wpAnyH_take (i := 11) (v := undef) rfl (by kernel_rfl) (by kernel_rfl) (by kernel_rfl) (fun _ _ _ h => h) (Or.inr ⟨?w4_11, rfl⟩) (by assumption) ?r4_11
          case' w4_11 => first | rfl | (simp [Region.wanted, yielded, *]; done)
          try simp only [Act.put, zA, zB, zC, zD, zE, zF]
          refine wpAnyH_take (i := 12) (v := undef) rfl (by kernel_rfl) (by kernel_rfl) (by kernel_rfl) (fun _ _ _ h => h) (Or.inr ⟨?w4_12, rfl⟩) (by assumption) ?r4_12
          case' w4_12 => first | rfl | (simp [Region.wanted, yielded, *]; done)
          try simp only [Act.put, zA, zB, zC, zD, zE, zF]
          refine wpAnyH_take (i := 13) (v := undef) rfl (by kernel_rfl) (by kernel_rfl) (by kernel_rfl) (fun _ _ _ h => h) (Or.inr ⟨?w4_13, rfl⟩) (by assumption) ?r4_13
          case' w4_13 => first | rfl | (simp [Region.wanted, yielded, *]; done)
          try simp only [Act.put, zA, zB, zC, zD, zE, zF]
          refine wpAnyH_take (i := 14) (v := undef) rfl (by kernel_rfl) (by kernel_rfl) (by kernel_rfl) (fun _ _ _ h => h) (Or.inr ⟨?w4_14, rfl⟩) (by assumption) ?r4_14
          case' w4_14 => first | rfl | (simp [Region.wanted, yielded, *]; done)
          try simp only [Act.put, zA, zB, zC, zD, zE, zF]
          refine wpAnyH_take (i := 15) (v := undef) rfl (by kernel_rfl) (by kernel_rfl) (by kernel_rfl) (fun _ _ _ h => h) (Or.inr ⟨?w4_15, rfl⟩) (by assumption) ?r4_15
          case' w4_15 => first | rfl | (simp [Region.wanted, yielded, *]; done)
          try simp only [Act.put, zA, zB, zC, zD, zE, zF]
          refine wpAnyH_take (i := 16) (v := undef) rfl (by kernel_rfl) (by kernel_rfl) (by kernel_rfl) (fun _ _ _ h => h) (Or.inr ⟨?w4_16, rfl⟩) (by assumption) ?r4_16
          case' w4_16 => first | rfl | (simp [Region.wanted, yielded, *]; done)
          try simp only [Act.put, zA, zB, zC, zD, zE, zF]
          refine wpAnyH_take (i := 17) (v := undef) rfl (by kernel_rfl) (by kernel_rfl) (by kernel_rfl) (fun _ _ _ h => h) (Or.inr ⟨?w4_17, rfl⟩) (by assumption) ?r4_17
          case' w4_17 => first | rfl | (simp [Region.wanted, yielded, *]; done)
          try simp only [Act.put, zA, zB, zC, zD, zE, zF]
          refine wpAnyH_take (i := 18) (v := undef) rfl (by kernel_rfl) (by kernel_rfl) (by kernel_rfl) (fun _ _ _ h => h) (Or.inr ⟨?w4_18, rfl⟩) (by assumption) ?r4_18
          case' w4_18 => first | rfl | (simp [Region.wanted, yielded, *]; done)
          try simp only [Act.put, zA, zB, zC, zD, zE, zF]
          refine wpAnyH_take (i := 19) (v := undef) rfl (by kernel_rfl) (by kernel_rfl) (by kernel_rfl) (fun _ _ _ h => h) (Or.inr ⟨?w4_19, rfl⟩) (by assumption) ?r4_19
          case' w4_19 => first | rfl | (simp [Region.wanted, yielded, *]; done)
          try simp only [Act.put, zA, zB, zC, zD, zE, zF]
          refine wpAnyH_take (i := 20) (v := undef) rfl (by kernel_rfl) (by kernel_rfl) (by kernel_rfl) (fun _ _ _ h => h) (Or.inr ⟨?w4_20, rfl⟩) (by assumption) ?r4_20
          case' w4_20 => first | rfl | (simp [Region.wanted, yielded, *]; done)
          try simp only [Act.put, zA, zB, zC, zD, zE, zF]
          refine wpAnyH_take (i := 21) (v := ?v4_21) rfl (by kernel_rfl) (by kernel_rfl) (by kernel_rfl) (fun _ _ _ h => h) (Or.inl ⟨by rfl, ?y4_21⟩) (by assumption) ?r4_21
          case' y4_21 => (intro w hSw; (try dsimp only at hSw); (try have hlS := HLK.out _ hSw); obtain ⟨hcS, hfS⟩ := bcell hSw; clear hSw; go_simp; try with_reducible rfl)
          try simp only [Act.put, zA, zB, zC, zD, zE, zF]
          refine wpAnyH_ready (rs := [22]) (by kernel_rfl) (by simp) ?_
          refine AllReadyH.cons rfl (fun K hK => ?_) AllReadyH.nil
          go_simp
          ((go_at_call 57; refine (must_any _ _ _).mono ?_; rintro e w1 ⟨rfl, rfl⟩))
          (try dsimp only)
          refine hK.out _ _ ?_ (fun hNext => ?_)
          · try dsimp only
            exact (by repeat (first | exact Below.refl _ _ | assumption | refine Below.drew ?_ | refine Below.drewN ?_ _ | refine Below.allocT ?_ (Nat.le_refl _) _ | refine Below.setCell ?_ (by simp <;> omega) _ | refine Below.to ?_ (by assumption) (Nat.le_refl _)))
          clear hK K hHeld
          have hHeld := hNext
          clear hNext
          (try dsimp only at hHeld)
          try simp only [Act.put, zA, zB, zC, zD, zE, zF]
          refine wpAnyH_take (i := 23) (v := ?v4_23) rfl (by kernel_rfl) (by kernel_rfl) (by kernel_rfl) (fun _ _ _ h => h) (Or.inl ⟨by rfl, ?y4_23⟩) (by assumption) ?r4_23
          case' y4_23 => (intro w hSw; (try dsimp only at hSw); (try have hlS := HLK.out _ hSw); obtain ⟨hcS, hfS⟩ := bcell hSw; clear hSw; go_simp; try with_reducible rfl)
          try simp only [Act.put, zA, zB, zC, zD, zE, zF]
          refine wpAnyH_done (by kernel_rfl) ?_ _
          go_wp2_with fail
          go_ret
          exact ⟨ret_int (by rw [HR.out]), Below.to HB0.out hHeld (Nat.le_refl _)⟩
        | true =>
          cases hD : btw rr 0 1000000 with
          | false =>
            have hr : Ru.ok l.ss ⟨ra, rb, rl, rr⟩ = false := by unfold Ru.ok; simp only []; rw [hA, hB, hN, hC, hD]; simp
            have HR := hide hr
            have HA := hide hA
            have HB := hide hB
            have HC := hide hC
            have HD := hide hD
            have hnn : (ra != rb) = true := by simpa using hN
            clear hr hA hB hN hC hD
            go_enter Try.func60, Try.ntmps60
            go_upto_region 1 with (fail)
            generalize hw0 : World.alloc _ _ = w0
            obtain ⟨hb0, hB0, hs0⟩ := alloc1 hw0
            have c0 := cellOf hb0 0
            have c1 := cellOf hb0 1
            have c2 := cellOf hb0 2
            have c3 := cellOf hb0 3
            have l0 : w.heap.size < w0.heap.size := by omega
            have HL := hide (HL1.out.to hB0)
            have s0 := cellOf (HS.out.to hB0) 0
            have lsb : sb < w0.heap.size := by have := box_lt HS.out; omega
            have HB0 := hide hB0
            clear hw0 hb0 hs0 hB0
            go_upto_region 2 with (first | (go_at_call 58; refine (spotN_any _ _ _ _ _ _ _ _ _ _ _ _ _ l lb _ hm HL.out _ (by first | exact HA.out | exact HB.out)).mono ?_; rintro e w1 ⟨rfl, rfl⟩) | (go_at_call 54; refine (withinB_any _ _ _ _ _ (by first | exact HC.out | exact HD.out)).mono ?_; rintro e w1 ⟨rfl, rfl⟩))
            refine wp_region_held_drew (S := (fun w' => Below w0.heap.size w0 w')) (by kernel_rfl) ?_ (fun hHeld => ?_)
            · try dsimp only
              exact (by repeat (first | exact Below.refl _ _ | assumption | refine Below.drew ?_ | refine Below.drewN ?_ _ | refine Below.allocT ?_ (Nat.le_refl _) _ | refine Below.setCell ?_ (by simp <;> omega) _ | refine Below.to ?_ (by assumption) (Nat.le_refl _)))
            refine wpAnyH_take (i := 0) (v := ?v5_0) rfl (by kernel_rfl) (by kernel_rfl) (by kernel_rfl) (fun _ _ _ h => h) (Or.inl ⟨by rfl, ?y5_0⟩) (by assumption) ?r5_0
            case' y5_0 => (intro w hSw; (try dsimp only at hSw); (try have hlS := HLK.out _ hSw); obtain ⟨hcS, hfS⟩ := bcell hSw; clear hSw; go_simp; try with_reducible rfl)
            try simp only [Act.put, zA, zB, zC, zD, zE, zF]
            refine wpAnyH_take (i := 1) (v := ?v5_1) rfl (by kernel_rfl) (by kernel_rfl) (by kernel_rfl) (fun _ _ _ h => h) (Or.inl ⟨by rfl, ?y5_1⟩) (by assumption) ?r5_1
            case' y5_1 => (intro w hSw; (try dsimp only at hSw); (try have hlS := HLK.out _ hSw); obtain ⟨hcS, hfS⟩ := bcell hSw; clear hSw; go_simp; try with_reducible rfl)
            try simp only [Act.put, zA, zB, zC, zD, zE, zF]
            refine wpAnyH_take (i := 2) (v := undef) rfl (by kernel_rfl) (by kernel_rfl) (by kernel_rfl) (fun _ _ _ h => h) (Or.inr ⟨?w5_2, rfl⟩) (by assumption) ?r5_2
            case' w5_2 => first | rfl | (simp [Region.wanted, yielded, *]; done)
            try simp only [Act.put, zA, zB, zC, zD, zE, zF]
            refine wpAnyH_take (i := 3) (v := undef) rfl (by kernel_rfl) (by kernel_rfl) (by kernel_rfl) (fun _ _ _ h => h) (Or.inr ⟨?w5_3, rfl⟩) (by assumption) ?r5_3
            case' w5_3 => first | rfl | (simp [Region.wanted, yielded, *]; done)
            try simp only [Act.put, zA, zB, zC, zD, zE, zF]
            refine wpAnyH_take (i := 4) (v := undef) rfl (by kernel_rfl) (by kernel_rfl) (by kernel_rfl) (fun _ _ _ h => h) (Or.inr ⟨?w5_4, rfl⟩) (by assumption) ?r5_4
            case' w5_4 => first | rfl | (simp [Region.wanted, yielded, *]; done)
            try simp only [Act.put, zA, zB, zC, zD, zE, zF]
            refine wpAnyH_take (i := 5) (v := undef) rfl (by kernel_rfl) (by kernel_rfl) (by kernel_rfl) (fun _ _ _ h => h) (Or.inr ⟨?w5_5, rfl⟩) (by assumption) ?r5_5
            case' w5_5 => first | rfl | (simp [Region.wanted, yielded, *]; done)
            try simp only [Act.put, zA, zB, zC, zD, zE, zF]
            refine wpAnyH_take (i := 6) (v := undef) rfl (by kernel_rfl) (by kernel_rfl) (by kernel_rfl) (fun _ _ _ h => h) (Or.inr ⟨?w5_6, rfl⟩) (by assumption) ?r5_6
            case' w5_6 => first | rfl | (simp [Region.wanted, yielded, *]; done)
            try simp only [Act.put, zA, zB, zC, zD, zE, zF]
            refine wpAnyH_take (i := 7) (v := undef) rfl (by kernel_rfl) (by kernel_rfl) (by kernel_rfl) (fun _ _ _ h => h) (Or.inr ⟨?w5_7, rfl⟩) (by assumption) ?r5_7
            case' w5_7 => first | rfl | (simp [Region.wanted, yielded, *]; done)
            try simp only [Act.put, zA, zB, zC, zD, zE, zF]
            refine wpAnyH_take (i := 8) (v := undef) rfl (by kernel_rfl) (by kernel_rfl) (by kernel_rfl) (fun _ _ _ h => h) (Or.inr ⟨?w5_8, rfl⟩) (by assumption) ?r5_8
            case' w5_8 => first | rfl | (simp [Region.wanted, yielded, *]; done)
            try simp only [Act.put, zA, zB, zC, zD, zE, zF]
            refine wpAnyH_take (i := 9) (v := undef) rfl (by kernel_rfl) (by kernel_rfl) (by kernel_rfl) (fun _ _ _ h => h) (Or.inr ⟨?w5_9, rfl⟩) (by assumption) ?r5_9
            case' w5_9 => first | rfl | (simp [Region.wanted, yielded, *]; done)
            try simp only [Act.put, zA, zB, zC, zD, zE, zF]
            refine wpAnyH_take (i := 10) (v := undef) rfl (by kernel_rfl) (by kernel_rfl) (by kernel_rfl) (fun _ _ _ h => h) (Or.inr ⟨?w5_10, rfl⟩) (by assumption) ?r5_10
            case' w5_10 => first | rfl | (simp [Region.wanted, yielded, *]; done)
            try simp only [Act.put, zA, zB, zC, zD, zE, zF]
            refine wpAnyH_take (i := 11) (v := undef) rfl (by kernel_rfl) (by kernel_rfl) (by kernel_rfl) (fun _ _ _ h => h) (Or.inr ⟨?w5_11, rfl⟩) (by assumption) ?r5_11
            case' w5_11 => first | rfl | (simp [Region.wanted, yielded, *]; done)
            try simp only [Act.put, zA, zB, zC, zD, zE, zF]
            refine wpAnyH_take (i := 12) (v := undef) rfl (by kernel_rfl) (by kernel_rfl) (by kernel_rfl) (fun _ _ _ h => h) (Or.inr ⟨?w5_12, rfl⟩) (by assumption) ?r5_12
            case' w5_12 => first | rfl | (simp [Region.wanted, yielded, *]; done)
            try simp only [Act.put, zA, zB, zC, zD, zE, zF]
            refine wpAnyH_take (i := 13) (v := undef) rfl (by kernel_rfl) (by kernel_rfl) (by kernel_rfl) (fun _ _ _ h => h) (Or.inr ⟨?w5_13, rfl⟩) (by assumption) ?r5_13
            case' w5_13 => first | rfl | (simp [Region.wanted, yielded, *]; done)
            try simp only [Act.put, zA, zB, zC, zD, zE, zF]
            refine wpAnyH_take (i := 14) (v := undef) rfl (by kernel_rfl) (by kernel_rfl) (by kernel_rfl) (fun _ _ _ h => h) (Or.inr ⟨?w5_14, rfl⟩) (by assumption) ?r5_14
            case' w5_14 => first | rfl | (simp [Region.wanted, yielded, *]; done)
            try simp only [Act.put, zA, zB, zC, zD, zE, zF]
            refine wpAnyH_take (i := 15) (v := undef) rfl (by kernel_rfl) (by kernel_rfl) (by kernel_rfl) (fun _ _ _ h => h) (Or.inr ⟨?w5_15, rfl⟩) (by assumption) ?r5_15
            case' w5_15 => first | rfl | (simp [Region.wanted, yielded, *]; done)
            try simp only [Act.put, zA, zB, zC, zD, zE, zF]
            refine wpAnyH_take (i := 16) (v := undef) rfl (by kernel_rfl) (by kernel_rfl) (by kernel_rfl) (fun _ _ _ h => h) (Or.inr ⟨?w5_16, rfl⟩) (by assumption) ?r5_16
            case' w5_16 => first | rfl | (simp [Region.wanted, yielded, *]; done)
            try simp only [Act.put, zA, zB, zC, zD, zE, zF]
            refine wpAnyH_take (i := 17) (v := undef) rfl (by kernel_rfl) (by kernel_rfl) (by kernel_rfl) (fun _ _ _ h => h) (Or.inr ⟨?w5_17, rfl⟩) (by assumption) ?r5_17
            case' w5_17 => first | rfl | (simp [Region.wanted, yielded, *]; done)
            try simp only [Act.put, zA, zB, zC, zD, zE, zF]
            refine wpAnyH_take (i := 18) (v := undef) rfl (by kernel_rfl) (by kernel_rfl) (by kernel_rfl) (fun _ _ _ h => h) (Or.inr ⟨?w5_18, rfl⟩) (by assumption) ?r5_18
            case' w5_18 => first | rfl | (simp [Region.wanted, yielded, *]; done)
            try simp only [Act.put, zA, zB, zC, zD, zE, zF]
            refine wpAnyH_take (i := 19) (v := undef) rfl (by kernel_rfl) (by kernel_rfl) (by kernel_rfl) (fun _ _ _ h => h) (Or.inr ⟨?w5_19, rfl⟩) (by assumption) ?r5_19
            case' w5_19 => first | rfl | (simp [Region.wanted, yielded, *]; done)
            try simp only [Act.put, zA, zB, zC, zD, zE, zF]
            refine wpAnyH_take (i := 20) (v := undef) rfl (by kernel_rfl) (by kernel_rfl) (by kernel_rfl) (fun _ _ _ h => h) (Or.inr ⟨?w5_20, rfl⟩) (by assumption) ?r5_20
            case' w5_20 => first | rfl | (simp [Region.wanted, yielded, *]; done)
            try simp only [Act.put, zA, zB, zC, zD, zE, zF]
            refine wpAnyH_take (i := 21) (v := ?v5_21) rfl (by kernel_rfl) (by kernel_rfl) (by kernel_rfl) (fun _ _ _ h => h) (Or.inl ⟨by rfl, ?y5_21⟩) (by assumption) ?r5_21
            case' y5_21 => (intro w hSw; (try dsimp only at hSw); (try have hlS := HLK.out _ hSw); obtain ⟨hcS, hfS⟩ := bcell hSw; clear hSw; go_simp; try with_reducible rfl)
            try simp only [Act.put, zA, zB, zC, zD, zE, zF]
            refine wpAnyH_ready (rs := [22]) (by kernel_rfl) (by simp) ?_
            refine AllReadyH.cons rfl (fun K hK => ?_) AllReadyH.nil
            go_simp
            ((go_at_call 57; refine (must_any _ _ _).mono ?_; rintro e w1 ⟨rfl, rfl⟩))
            (try dsimp only)
            refine hK.out _ _ ?_ (fun hNext => ?_)
            · try dsimp only
              exact (by repeat (first | exact Below.refl _ _ | assumption | refine Below.drew ?_ | refine Below.drewN ?_ _ | refine Below.allocT ?_ (Nat.le_refl _) _ | refine Below.setCell ?_ (by simp <;> omega) _ | refine Below.to ?_ (by assumption) (Nat.le_refl _)))
            clear hK K hHeld
            have hHeld := hNext
            clear hNext
            (try dsimp only at hHeld)
            try simp only [Act.put, zA, zB, zC, zD, zE, zF]
            refine wpAnyH_take (i := 23) (v := ?v5_23) rfl (by kernel_rfl) (by kernel_rfl) (by kernel_rfl) (fun _ _ _ h => h) (Or.inl ⟨by rfl, ?y5_23⟩) (by assumption) ?r5_23
            case' y5_23 => (intro w hSw; (try dsimp only at hSw); (try have hlS := HLK.out _ hSw); obtain ⟨hcS, hfS⟩ := bcell hSw; clear hSw; go_simp; try with_reducible rfl)
            try simp only [Act.put, zA, zB, zC, zD, zE, zF]
            refine wpAnyH_done (by kernel_rfl) ?_ _
            go_wp2_with fail
            go_ret
            exact ⟨ret_int (by rw [HR.out]), Below.to HB0.out hHeld (Nat.le_refl _)⟩
          | true =>
            have hnn : (ra != rb) = true := by simpa using hN
            rw [btw_iff] at hA hB hC hD
            obtain ⟨a1, a2⟩ := hA
            obtain ⟨b1, b2⟩ := hB
            obtain ⟨d1, d2⟩ := hC
            have HA : Hid (btw ra 0 ((l.ss.length : Int) - 1) = true) := btw_t a1 a2
            have HB : Hid (btw rb 0 ((l.ss.length : Int) - 1) = true) := btw_t b1 b2
            have HC : Hid (btw rl 1 1000000 = true) := btw_t d1 d2
            have HD : Hid (btw rr 0 1000000 = true) := btw_t hD.1 hD.2
            obtain ⟨ka, rfl⟩ := Int.eq_ofNat_of_zero_le a1
            obtain ⟨kb, rfl⟩ := Int.eq_ofNat_of_zero_le b1
            obtain ⟨bf, off, xa, HXA, rfl, hbb, hq, e0, e1, e2⟩ := H.out.sp (k := ka) (by omega)
            obtain ⟨bf', off', xb, HXB, he, hbb', hq', f0, f1, f2⟩ := H.out.sp (k := kb) (by omega)
            injection he with he
            injection he with he1 he2
            subst he1 he2
            have hxa : xa.ok = true := by rw [← HXA.out]; exact HOK.out _ (getD_mem2 (by omega))
            have hxb : xb.ok = true := by rw [← HXB.out]; exact HOK.out _ (getD_mem2 (by omega))
            have hsq := sqS_bd hxa hxb
            have hr : Ru.ok l.ss ⟨ka, kb, rl, rr⟩ = decide (sqS xa xb ≤ rl * rl) := by
              unfold Ru.ok
              simp only []
              rw [HA.out, HB.out, hN, HC.out, HD.out, Int.toNat_natCast, Int.toNat_natCast, HXA.out, HXB.out]
              simp
            have HR := hide hr
            have HXK := hide hxa
            have HXL := hide hxb
            have hll := sq_bd (x := rl) (c := 1000000) (by omega) (by omega) (by omega)
            obtain ⟨sq, hsq2⟩ : ∃ z, sqS xa xb = z := ⟨_, rfl⟩
            have HSQ := hide hsq2
            rw [hsq2] at hsq HR
            have ia : (ka : Int) < (l.ss.length : Int) := by omega
            have ib : (kb : Int) < (l.ss.length : Int) := by omega
            have iq : (l.ss.length : Int) ≤ (q2 : Int) := by omega
            clear hsq2 hr hN hxa hxb a1 a2 b1 b2 hD
            go_enter Try.func60, Try.ntmps60
            go_upto_region 1 with (fail)
            generalize hw0 : World.alloc _ _ = w0
            obtain ⟨hb0, hB0, hs0⟩ := alloc1 hw0
            have c0 := cellOf hb0 0
            have c1 := cellOf hb0 1
            have c2 := cellOf hb0 2
            have c3 := cellOf hb0 3
            have l0 : w.heap.size < w0.heap.size := by omega
            have HL := hide (HL1.out.to hB0)
            have s0 := cellOf (HS.out.to hB0) 0
            have lsb : sb < w0.heap.size := by have := box_lt HS.out; omega
            have HB0 := hide hB0
            have lb1 : bf < w0.heap.size := by omega
            have ll1 : lb < w0.heap.size := box_lt HL.out
            have lx1 := cellOf HL.out 1
            have lx2 := cellOf HL.out 2
            have g0 := (hB0.cell (p := ⟨bf, off + ka * 3, none⟩) hbb).trans e0
            have g1 := (hB0.cell (p := ⟨bf, off + ka * 3 + 1, none⟩) hbb).trans e1
            have g2 := (hB0.cell (p := ⟨bf, off + ka * 3 + 2, none⟩) hbb).trans e2
            have g3 := (hB0.cell (p := ⟨bf, off + kb * 3, none⟩) hbb).trans f0
            have g4 := (hB0.cell (p := ⟨bf, off + kb * 3 + 1, none⟩) hbb).trans f1
            have g5 := (hB0.cell (p := ⟨bf, off + kb * 3 + 2, none⟩) hbb).trans f2
            clear e0 e1 e2 f0 f1 f2
            clear hw0 hb0 hs0 hB0
            go_upto_region 2 with (first | (go_at_call 58; refine (spotN_any _ _ _ _ _ _ _ _ _ _ _ _ _ l lb _ hm HL.out _ (by first | exact HA.out | exact HB.out)).mono ?_; rintro e w1 ⟨rfl, rfl⟩) | (go_at_call 54; refine (withinB_any _ _ _ _ _ (by first | exact HC.out | exact HD.out)).mono ?_; rintro e w1 ⟨rfl, rfl⟩))
            refine wp_region_held_drew (S := (fun w' => Below w0.heap.size w0 w')) (by kernel_rfl) ?_ (fun hHeld => ?_)
            · try dsimp only
              exact (by repeat (first | exact Below.refl _ _ | assumption | refine Below.drew ?_ | refine Below.drewN ?_ _ | refine Below.allocT ?_ (Nat.le_refl _) _ | refine Below.setCell ?_ (by simp <;> omega) _ | refine Below.to ?_ (by assumption) (Nat.le_refl _)))
            refine wpAnyH_take (i := 0) (v := ?v6_0) rfl (by kernel_rfl) (by kernel_rfl) (by kernel_rfl) (fun _ _ _ h => h) (Or.inl ⟨by rfl, ?y6_0⟩) (by assumption) ?r6_0
            case' y6_0 => (intro w hSw; (try dsimp only at hSw); (try have hlS := HLK.out _ hSw); obtain ⟨hcS, hfS⟩ := bcell hSw; clear hSw; go_simp; try with_reducible rfl)
            try simp only [Act.put, zA, zB, zC, zD, zE, zF]
            refine wpAnyH_take (i := 1) (v := ?v6_1) rfl (by kernel_rfl) (by kernel_rfl) (by kernel_rfl) (fun _ _ _ h => h) (Or.inl ⟨by rfl, ?y6_1⟩) (by assumption) ?r6_1
            case' y6_1 => (intro w hSw; (try dsimp only at hSw); (try have hlS := HLK.out _ hSw); obtain ⟨hcS, hfS⟩ := bcell hSw; clear hSw; go_simp; try with_reducible rfl)
            try simp only [Act.put, zA, zB, zC, zD, zE, zF]
            refine wpAnyH_take (i := 2) (v := ?v6_2) rfl (by kernel_rfl) (by kernel_rfl) (by kernel_rfl) (fun _ _ _ h => h) (Or.inl ⟨by rfl, ?y6_2⟩) (by assumption) ?r6_2
            case' y6_2 => (intro w hSw; (try dsimp only at hSw); (try have hlS := HLK.out _ hSw); obtain ⟨hcS, hfS⟩ := bcell hSw; clear hSw; go_simp; try with_reducible rfl)
            try simp only [Act.put, zA, zB, zC, zD, zE, zF]
            refine wpAnyH_take (i := 3) (v := ?v6_3) rfl (by kernel_rfl) (by kernel_rfl) (by kernel_rfl) (fun _ _ _ h => h) (Or.inl ⟨by rfl, ?y6_3⟩) (by assumption) ?r6_3
            case' y6_3 => (intro w hSw; (try dsimp only at hSw); (try have hlS := HLK.out _ hSw); obtain ⟨hcS, hfS⟩ := bcell hSw; clear hSw; go_simp; try with_reducible rfl)
            try simp only [Act.put, zA, zB, zC, zD, zE, zF]
            refine wpAnyH_take (i := 4) (v := ?v6_4) rfl (by kernel_rfl) (by kernel_rfl) (by kernel_rfl) (fun _ _ _ h => h) (Or.inl ⟨by rfl, ?y6_4⟩) (by assumption) ?r6_4
            case' y6_4 => (intro w hSw; (try dsimp only at hSw); (try have hlS := HLK.out _ hSw); obtain ⟨hcS, hfS⟩ := bcell hSw; clear hSw; go_simp; try with_reducible rfl)
            try simp only [Act.put, zA, zB, zC, zD, zE, zF]
            refine wpAnyH_take (i := 5) (v := ?v6_5) rfl (by kernel_rfl) (by kernel_rfl) (by kernel_rfl) (fun _ _ _ h => h) (Or.inl ⟨by rfl, ?y6_5⟩) (by assumption) ?r6_5
            case' y6_5 => (intro w hSw; (try dsimp only at hSw); (try have hlS := HLK.out _ hSw); obtain ⟨hcS, hfS⟩ := bcell hSw; clear hSw; go_simp; try with_reducible rfl)
            try simp only [Act.put, zA, zB, zC, zD, zE, zF]
            refine wpAnyH_take (i := 6) (v := ?v6_6) rfl (by kernel_rfl) (by kernel_rfl) (by kernel_rfl) (fun _ _ _ h => h) (Or.inl ⟨by rfl, ?y6_6⟩) (by assumption) ?r6_6
            case' y6_6 => (intro w hSw; (try dsimp only at hSw); (try have hlS := HLK.out _ hSw); obtain ⟨hcS, hfS⟩ := bcell hSw; clear hSw; go_simp; try with_reducible rfl)
            try simp only [Act.put, zA, zB, zC, zD, zE, zF]
            refine wpAnyH_take (i := 7) (v := ?v6_7) rfl (by kernel_rfl) (by kernel_rfl) (by kernel_rfl) (fun _ _ _ h => h) (Or.inl ⟨by rfl, ?y6_7⟩) (by assumption) ?r6_7
            case' y6_7 => (intro w hSw; (try dsimp only at hSw); (try have hlS := HLK.out _ hSw); obtain ⟨hcS, hfS⟩ := bcell hSw; clear hSw; go_simp; try with_reducible rfl)
            try simp only [Act.put, zA, zB, zC, zD, zE, zF]
            refine wpAnyH_take (i := 8) (v := ?v6_8) rfl (by kernel_rfl) (by kernel_rfl) (by kernel_rfl) (fun _ _ _ h => h) (Or.inl ⟨by rfl, ?y6_8⟩) (by assumption) ?r6_8
            case' y6_8 => (intro w hSw; (try dsimp only at hSw); (try have hlS := HLK.out _ hSw); obtain ⟨hcS, hfS⟩ := bcell hSw; clear hSw; go_simp; try with_reducible rfl)
            try simp only [Act.put, zA, zB, zC, zD, zE, zF]
            refine wpAnyH_take (i := 9) (v := ?v6_9) rfl (by kernel_rfl) (by kernel_rfl) (by kernel_rfl) (fun _ _ _ h => h) (Or.inl ⟨by rfl, ?y6_9⟩) (by assumption) ?r6_9
            case' y6_9 => (intro w hSw; (try dsimp only at hSw); (try have hlS := HLK.out _ hSw); obtain ⟨hcS, hfS⟩ := bcell hSw; clear hSw; go_simp; try with_reducible rfl)
            try simp only [Act.put, zA, zB, zC, zD, zE, zF]
            refine wpAnyH_take (i := 10) (v := ?v6_10) rfl (by kernel_rfl) (by kernel_rfl) (by kernel_rfl) (fun _ _ _ h => h) (Or.inl ⟨by rfl, ?y6_10⟩) (by assumption) ?r6_10
            case' y6_10 => (intro w hSw; (try dsimp only at hSw); (try have hlS := HLK.out _ hSw); obtain ⟨hcS, hfS⟩ := bcell hSw; clear hSw; go_simp; try with_reducible rfl)
            try simp only [Act.put, zA, zB, zC, zD, zE, zF]
            refine wpAnyH_take (i := 11) (v := ?v6_11) rfl (by kernel_rfl) (by kernel_rfl) (by kernel_rfl) (fun _ _ _ h => h) (Or.inl ⟨by rfl, ?y6_11⟩) (by assumption) ?r6_11
            case' y6_11 => (intro w hSw; (try dsimp only at hSw); (try have hlS := HLK.out _ hSw); obtain ⟨hcS, hfS⟩ := bcell hSw; clear hSw; go_simp; try with_reducible rfl)
            try simp only [Act.put, zA, zB, zC, zD, zE, zF]
            refine wpAnyH_take (i := 12) (v := ?v6_12) rfl (by kernel_rfl) (by kernel_rfl) (by kernel_rfl) (fun _ _ _ h => h) (Or.inl ⟨by rfl, ?y6_12⟩) (by assumption) ?r6_12
            case' y6_12 => (intro w hSw; (try dsimp only at hSw); (try have hlS := HLK.out _ hSw); obtain ⟨hcS, hfS⟩ := bcell hSw; clear hSw; go_simp; try with_reducible rfl)
            try simp only [Act.put, zA, zB, zC, zD, zE, zF]
            refine wpAnyH_take (i := 13) (v := ?v6_13) rfl (by kernel_rfl) (by kernel_rfl) (by kernel_rfl) (fun _ _ _ h => h) (Or.inl ⟨by rfl, ?y6_13⟩) (by assumption) ?r6_13
            case' y6_13 => (intro w hSw; (try dsimp only at hSw); (try have hlS := HLK.out _ hSw); obtain ⟨hcS, hfS⟩ := bcell hSw; clear hSw; go_simp; try with_reducible rfl)
            try simp only [Act.put, zA, zB, zC, zD, zE, zF]
            refine wpAnyH_take (i := 14) (v := ?v6_14) rfl (by kernel_rfl) (by kernel_rfl) (by kernel_rfl) (fun _ _ _ h => h) (Or.inl ⟨by rfl, ?y6_14⟩) (by assumption) ?r6_14
            case' y6_14 => (intro w hSw; (try dsimp only at hSw); (try have hlS := HLK.out _ hSw); obtain ⟨hcS, hfS⟩ := bcell hSw; clear hSw; go_simp; try with_reducible rfl)
            try simp only [Act.put, zA, zB, zC, zD, zE, zF]
            refine wpAnyH_take (i := 15) (v := ?v6_15) rfl (by kernel_rfl) (by kernel_rfl) (by kernel_rfl) (fun _ _ _ h => h) (Or.inl ⟨by rfl, ?y6_15⟩) (by assumption) ?r6_15
            case' y6_15 => (intro w hSw; (try dsimp only at hSw); (try have hlS := HLK.out _ hSw); obtain ⟨hcS, hfS⟩ := bcell hSw; clear hSw; go_simp; try with_reducible rfl)
            try simp only [Act.put, zA, zB, zC, zD, zE, zF]
            refine wpAnyH_take (i := 16) (v := ?v6_16) rfl (by kernel_rfl) (by kernel_rfl) (by kernel_rfl) (fun _ _ _ h => h) (Or.inl ⟨by rfl, ?y6_16⟩) (by assumption) ?r6_16
            case' y6_16 => (intro w hSw; (try dsimp only at hSw); (try have hlS := HLK.out _ hSw); obtain ⟨hcS, hfS⟩ := bcell hSw; clear hSw; go_simp; try with_reducible rfl)
            try simp only [Act.put, zA, zB, zC, zD, zE, zF]
            refine wpAnyH_take (i := 17) (v := ?v6_17) rfl (by kernel_rfl) (by kernel_rfl) (by kernel_rfl) (fun _ _ _ h => h) (Or.inl ⟨by rfl, ?y6_17⟩) (by assumption) ?r6_17
            case' y6_17 => (intro w hSw; (try dsimp only at hSw); (try have hlS := HLK.out _ hSw); obtain ⟨hcS, hfS⟩ := bcell hSw; clear hSw; go_simp; try with_reducible rfl)
            try simp only [Act.put, zA, zB, zC, zD, zE, zF]
            refine wpAnyH_take (i := 18) (v := ?v6_18) rfl (by kernel_rfl) (by kernel_rfl) (by kernel_rfl) (fun _ _ _ h => h) (Or.inl ⟨by rfl, ?y6_18⟩) (by assumption) ?r6_18
            case' y6_18 => (intro w hSw; (try dsimp only at hSw); (try have hlS := HLK.out _ hSw); obtain ⟨hcS, hfS⟩ := bcell hSw; clear hSw; go_simp; try with_reducible rfl)
            try simp only [Act.put, zA, zB, zC, zD, zE, zF]
            refine wpAnyH_ready (rs := [19]) (by kernel_rfl) (by simp) ?_
            refine AllReadyH.cons rfl (fun K hK => ?_) AllReadyH.nil
            go_simp
            (first | (go_at_call 61; refine (square_any xa xb _ HXK.out HXL.out).mono ?_; rw [HSQ.out]; rintro e w2 ⟨rfl, hB2⟩) | (go_at_call 57; refine (must_any _ _ _).mono ?_; rintro e w1 ⟨rfl, rfl⟩))
            (try dsimp only)
            refine hK.out _ _ ?_ (fun hNext => ?_)
            · try dsimp only
              exact (by repeat (first | exact Below.refl _ _ | assumption | refine Below.drew ?_ | refine Below.drewN ?_ _ | refine Below.allocT ?_ (Nat.le_refl _) _ | refine Below.setCell ?_ (by simp <;> omega) _ | refine Below.to ?_ (by assumption) (Nat.le_refl _)))
            clear hK K hHeld
            have hHeld := hNext
            clear hNext
            (try dsimp only at hHeld)
            try simp only [Act.put, zA, zB, zC, zD, zE, zF]
            refine wpAnyH_take (i := 20) (v := ?v6_20) rfl (by kernel_rfl) (by kernel_rfl) (by kernel_rfl) (fun _ _ _ h => h) (Or.inl ⟨by rfl, ?y6_20⟩) (by assumption) ?r6_20
            case' y6_20 => (intro w hSw; (try dsimp only at hSw); (try have hlS := HLK.out _ hSw); obtain ⟨hcS, hfS⟩ := bcell hSw; clear hSw; go_simp; try with_reducible rfl)
            try simp only [Act.put, zA, zB, zC, zD, zE, zF]
            refine wpAnyH_take (i := 21) (v := ?v6_21) rfl (by kernel_rfl) (by kernel_rfl) (by kernel_rfl) (fun _ _ _ h => h) (Or.inl ⟨by rfl, ?y6_21⟩) (by assumption) ?r6_21
            case' y6_21 => (intro w hSw; (try dsimp only at hSw); (try have hlS := HLK.out _ hSw); obtain ⟨hcS, hfS⟩ := bcell hSw; clear hSw; go_simp; try with_reducible rfl)
            try simp only [Act.put, zA, zB, zC, zD, zE, zF]
            refine wpAnyH_ready (rs := [22]) (by kernel_rfl) (by simp) ?_
            refine AllReadyH.cons rfl (fun K hK => ?_) AllReadyH.nil
            go_simp
            (first | (go_at_call 61; refine (square_any xa xb _ HXK.out HXL.out).mono ?_; rw [HSQ.out]; rintro e w2 ⟨rfl, hB2⟩) | (go_at_call 57; refine (must_any _ _ _).mono ?_; rintro e w1 ⟨rfl, rfl⟩))
            (try dsimp only)
            refine hK.out _ _ ?_ (fun hNext => ?_)
            · try dsimp only
              exact (by repeat (first | exact Below.refl _ _ | assumption | refine Below.drew ?_ | refine Below.drewN ?_ _ | refine Below.allocT ?_ (Nat.le_refl _) _ | refine Below.setCell ?_ (by simp <;> omega) _ | refine Below.to ?_ (by assumption) (Nat.le_refl _)))
            clear hK K hHeld
            have hHeld := hNext
            clear hNext
            (try dsimp only at hHeld)
            try simp only [Act.put, zA, zB, zC, zD, zE, zF]
            refine wpAnyH_take (i := 23) (v := ?v6_23) rfl (by kernel_rfl) (by kernel_rfl) (by kernel_rfl) (fun _ _ _ h => h) (Or.inl ⟨by rfl, ?y6_23⟩) (by assumption) ?r6_23
            case' y6_23 => (intro w hSw; (try dsimp only at hSw); (try have hlS := HLK.out _ hSw); obtain ⟨hcS, hfS⟩ := bcell hSw; clear hSw; go_simp; try with_reducible rfl)
            try simp only [Act.put, zA, zB, zC, zD, zE, zF]
            refine wpAnyH_done (by kernel_rfl) ?_ _
            go_wp2_with fail
            go_ret
            exact ⟨ret_int (by rw [HR.out, IntWalk.i64_in _ (by omega)]), Below.to HB0.out hHeld (Nat.le_refl _)⟩
end Go.Proofs.Ytmabfnddedffoaa
/- Names of plugs and wires that occur twice: walks. -/
namespace Go.Proofs.Ytmabfnddedffoaa
open Go.RowKit
set_option linter.unusedVariables false
set_option linter.unusedSimpArgs false
theorem Pls.form {w : World} {B : Nat} {v : Value} {l : List Pl} (h : Pls w B v l) : ∃ A cap, v = .slice A l.length cap := Sl.form h
theorem Pls.below {w w' : World} {B : Nat} {v : Value} {l : List Pl} (h : Pls w B v l) (hb : Below B w w') : Pls w' B v l := Sl.below h hb
theorem Wis.form {w : World} {B : Nat} {v : Value} {l : List Wi} (h : Wis w B v l) : ∃ A cap, v = .slice A l.length cap := by
  obtain ⟨fv, h1, _⟩ := h
  exact Sl.form h1
theorem Pls.at {w : World} {B : Nat} {A : Option Addr} {n q : Nat} {l : List Pl} (h : Pls w B (.slice A n q) l) {k : Nat} (hk : k < l.length) : ∃ b off x, Hid (l.getD k Pl.o = x) ∧ A = some ⟨b, off, none⟩ ∧ b < B ∧ l.length ≤ q ∧
    w.cell? ⟨b, off + k * 3, none⟩ = some (.string x.name) ∧ w.cell? ⟨b, off + k * 3 + 1, none⟩ = some (.int .i64 x.spot) ∧ w.cell? ⟨b, off + k * 3 + 2, none⟩ = some (.int .i64 x.cav) := by
  obtain ⟨h1, h2, b, off, h3, h4, h5⟩ := sl_at h hk
  exact ⟨b, off, _, rfl, h3, h4, h1 ▸ h2, h5 0 (by omega), h5 1 (by omega), h5 2 (by omega)⟩
theorem Wis.at {w : World} {B : Nat} {A : Option Addr} {n q : Nat} {l : List Wi} (h : Wis w B (.slice A n q) l) {k : Nat} (hk : k < l.length) : ∃ b off x Af qf, Hid (l.getD k Wi.o = x) ∧ A = some ⟨b, off, none⟩ ∧ b < B ∧ l.length ≤ q ∧ Hid (Ints w B (.slice Af x.form.length qf) x.form) ∧
    w.cell? ⟨b, off + k * 7, none⟩ = some (.string x.name) ∧ w.cell? ⟨b, off + k * 7 + 1, none⟩ = some (.int .i64 x.fp) ∧ w.cell? ⟨b, off + k * 7 + 2, none⟩ = some (.int .i64 x.fc) ∧ w.cell? ⟨b, off + k * 7 + 3, none⟩ = some (.int .i64 x.tp) ∧
    w.cell? ⟨b, off + k * 7 + 4, none⟩ = some (.int .i64 x.tc) ∧ w.cell? ⟨b, off + k * 7 + 5, none⟩ = some (.int .i64 x.size) ∧ w.cell? ⟨b, off + k * 7 + 6, none⟩ = some (.slice Af x.form.length qf) := by
  obtain ⟨fv, hs, hf⟩ := h
  obtain ⟨h1, h2, b, off, h3, h4, h5⟩ := sl_at hs hk
  have h6 := hf k hk
  obtain ⟨Af, qf, e⟩ := Sl.form h6
  rw [e] at h6
  have h7 := h5 6 (by omega)
  rw [show wiC (l.getD k Wi.o) (fv k) 6 = fv k from rfl, e] at h7
  exact ⟨b, off, _, Af, qf, rfl, h3, h4, h1 ▸ h2, h6, h5 0 (by omega), h5 1 (by omega), h5 2 (by omega), h5 3 (by omega), h5 4 (by omega), h5 5 (by omega), h7⟩
theorem sl_take {w : World} {B sz n : Nat} {A : Option Addr} {m q : Nat} {f : Nat → Nat → Value} (h : Sl w B sz (.slice A m q) n f) {k : Nat} (hk : k ≤ n) : Sl w B sz (.slice A k q) k f := by
  obtain ⟨A', b, off, cap, h1, h2, h3, h4⟩ := h
  injection h1 with e1 e2 e3
  subst e1 e2 e3
  refine ⟨A, b, off, q, rfl, by omega, ?_, fun i j hi hj => h4 i j (by omega) hj⟩
  rcases h3 with h3 | h3
  · exact .inl h3
  · exact .inr (by omega)
theorem take_getD' {α : Type} {l : List α} {z : α} {k i : Nat} (hi : i < k) : (l.take k).getD i z = l.getD i z := by
  simp [List.getD_eq_getElem?_getD, List.getElem?_take, hi]
theorem Pls.take {w : World} {B : Nat} {A : Option Addr} {n q : Nat} {l : List Pl} (h : Pls w B (.slice A n q) l) {k : Nat} (hk : k ≤ l.length) : Pls w B (.slice A k q) (l.take k) := by
  have h1 := sl_take h hk
  have hl : (l.take k).length = k := by simp; omega
  unfold Pls
  rw [hl]
  exact Sl.congr h1 fun i j hi hj => by rw [take_getD' hi]
theorem Wis.take {w : World} {B : Nat} {A : Option Addr} {n q : Nat} {l : List Wi} (h : Wis w B (.slice A n q) l) {k : Nat} (hk : k ≤ l.length) : Wis w B (.slice A k q) (l.take k) := by
  obtain ⟨fv, hs, hf⟩ := h
  have h1 := sl_take hs hk
  have hl : (l.take k).length = k := by simp; omega
  refine ⟨fv, ?_, fun i hi => ?_⟩
  · rw [hl]
    exact Sl.congr h1 fun i j hi hj => by rw [take_getD' hi]
  · rw [hl] at hi
    rw [take_getD' hi]
    exact hf i (by omega)
set_option maxRecDepth 100000 in
theorem index_plugs (p : Pl → Bool) (c0 : Value) (v : Value) (gs : List Pl) (w : World) (hm : gs.length ≤ maxLen) (h : Pls w w.heap.size v gs)
    (hf : ∀ (i : Nat) (x : Pl)  (W : World), i < gs.length → gs.getD i Pl.o = x → Below w.heap.size w W → Calls Try.prog 66 #[.agg #[.string x.name, .int .i64 x.spot, .int .i64 x.cav], c0] W fun e w' => e = .returned (.bool (p x)) ∧ Below W.heap.size W w') :
    Calls Try.prog 131 #[v, .func (.func 66) #[] #[c0]] w fun e w' => e = .returned (.int .i64 (idxI p gs)) ∧ Below w.heap.size w w' := by
  unfold maxLen at hm
  obtain ⟨A, cap, rfl⟩ := Pls.form h
  have H := hide h; clear h
  have HF := hide hf; clear hf
  go_enter Try.func131, Try.ntmps131
  go_wp2
  go_loopw [5, 8] (fun _ i wr => ∃ k : Nat, k ≤ gs.length ∧ i = .int .i64 k ∧ Hid (∀ j, j < k → p (gs.getD j Pl.o) = false) ∧ Below w.heap.size w wr) (fun _ i _ => gs.length - (intOf i).toNat)
  case atStart => exact ⟨0, Nat.zero_le _, rfl, fun j hj => by omega, Below.refl _ _⟩
  case round =>
    obtain ⟨k, hk, rfl, hz, hB⟩ := hrel
    by_cases hlt : k < gs.length
    · obtain ⟨b, off, x, HX, rfl, hbb, hq, e0, e1, e2⟩ := Pls.at (H.out.below hB) hlt
      have hf := fun W (hW : Below w.heap.size w W) => HF.out k x  W hlt HX.out hW
      have HF2 := hide hf
      have HB := hide hB
      clear hf
      by_cases hp : p x = true
      · have HP := hide hp
        clear hp
        go_wp2_with (go_at_call 66; refine (HF2.out _ hB).mono ?_; rw [HP.out]; rintro e w1 ⟨rfl, hB1⟩)
        go_ret
        exact ⟨ret_int (idxI_at p Pl.o gs k hz.out hlt (by rw [HX.out]; exact HP.out)).symm, Below.to HB.out hB1 (Nat.le_refl _)⟩
      · have hp' : p x = false := by simpa using hp
        have HP := hide hp'
        clear hp hp'
        go_wp2_with (go_at_call 66; refine (HF2.out _ hB).mono ?_; rw [HP.out]; rintro e w1 ⟨rfl, hB1⟩)
        go_roundw
        case rel => exact ⟨k + 1, by omega, by go_num, fun j hj => by
            rcases Nat.lt_or_ge j k with h | h
            · exact hz.out j h
            · rw [show j = k from by omega, HX.out]; exact HP.out, Below.to HB.out hB1 (Nat.le_refl _)⟩
        case measure => simp [intOf]; omega
    · go_wp2
      go_ret
      exact ⟨ret_int (idxI_none p Pl.o gs (fun j hj => hz.out j (by omega))).symm, hB⟩
set_option maxRecDepth 100000 in
theorem contains_plugs (p : Pl → Bool) (c0 : Value) (v : Value) (gs : List Pl) (w : World) (hm : gs.length ≤ maxLen) (h : Pls w w.heap.size v gs)
    (hf : ∀ (i : Nat) (x : Pl)  (W : World), i < gs.length → gs.getD i Pl.o = x → Below w.heap.size w W → Calls Try.prog 66 #[.agg #[.string x.name, .int .i64 x.spot, .int .i64 x.cav], c0] W fun e w' => e = .returned (.bool (p x)) ∧ Below W.heap.size W w') :
    Calls Try.prog 65 #[v, .func (.func 66) #[] #[c0]] w fun e w' => e = .returned (.bool (gs.any p)) ∧ Below w.heap.size w w' := by
  have hc := index_plugs p c0 v gs w hm h hf
  have he := idxI_any p gs
  have hlo := idxI_lo p gs
  have hhi := idxI_hi p gs
  obtain ⟨z, hz⟩ : ∃ z, idxI p gs = z := ⟨_, rfl⟩
  rw [hz] at hc he hlo hhi
  obtain ⟨A, cap, rfl⟩ := Pls.form h
  have HC := hide hc
  have HE := hide he
  unfold maxLen at hm
  have hz2 : z ≤ 9223372036854775807 := by omega
  clear hc he hz h hf
  go_enter Try.func65, Try.ntmps65
  go_wp2_with (go_at_call 131; refine HC.out.mono ?_; rintro e w1 ⟨rfl, hB1⟩)
  go_ret
  exact ⟨ret_bool HE.out, hB1⟩

set_option maxRecDepth 100000 in
theorem index_wires (p : Wi → Bool) (c0 : Value) (v : Value) (gs : List Wi) (w : World) (hm : gs.length ≤ maxLen) (h : Wis w w.heap.size v gs)
    (hf : ∀ (i : Nat) (x : Wi) (Af : Option Addr) (qf : Nat) (W : World), i < gs.length → gs.getD i Wi.o = x → Below w.heap.size w W → Calls Try.prog 72 #[.agg #[.string x.name, .int .i64 x.fp, .int .i64 x.fc, .int .i64 x.tp, .int .i64 x.tc, .int .i64 x.size, .slice Af x.form.length qf], c0] W fun e w' => e = .returned (.bool (p x)) ∧ Below W.heap.size W w') :
    Calls Try.prog 132 #[v, .func (.func 72) #[] #[c0]] w fun e w' => e = .returned (.int .i64 (idxI p gs)) ∧ Below w.heap.size w w' := by
  unfold maxLen at hm
  obtain ⟨A, cap, rfl⟩ := Wis.form h
  have H := hide h; clear h
  have HF := hide hf; clear hf
  go_enter Try.func132, Try.ntmps132
  go_wp2
  go_loopw [5, 8] (fun _ i wr => ∃ k : Nat, k ≤ gs.length ∧ i = .int .i64 k ∧ Hid (∀ j, j < k → p (gs.getD j Wi.o) = false) ∧ Below w.heap.size w wr) (fun _ i _ => gs.length - (intOf i).toNat)
  case atStart => exact ⟨0, Nat.zero_le _, rfl, fun j hj => by omega, Below.refl _ _⟩
  case round =>
    obtain ⟨k, hk, rfl, hz, hB⟩ := hrel
    by_cases hlt : k < gs.length
    · obtain ⟨b, off, x, Af, qf, HX, rfl, hbb, hq, HFO, e0, e1, e2, e3, e4, e5, e6⟩ := Wis.at (H.out.below hB) hlt
      have hf := fun W (hW : Below w.heap.size w W) => HF.out k x Af qf W hlt HX.out hW
      have HF2 := hide hf
      have HB := hide hB
      clear hf
      by_cases hp : p x = true
      · have HP := hide hp
        clear hp
        go_wp2_with (go_at_call 72; refine (HF2.out _ hB).mono ?_; rw [HP.out]; rintro e w1 ⟨rfl, hB1⟩)
        go_ret
        exact ⟨ret_int (idxI_at p Wi.o gs k hz.out hlt (by rw [HX.out]; exact HP.out)).symm, Below.to HB.out hB1 (Nat.le_refl _)⟩
      · have hp' : p x = false := by simpa using hp
        have HP := hide hp'
        clear hp hp'
        go_wp2_with (go_at_call 72; refine (HF2.out _ hB).mono ?_; rw [HP.out]; rintro e w1 ⟨rfl, hB1⟩)
        go_roundw
        case rel => exact ⟨k + 1, by omega, by go_num, fun j hj => by
            rcases Nat.lt_or_ge j k with h | h
            · exact hz.out j h
            · rw [show j = k from by omega, HX.out]; exact HP.out, Below.to HB.out hB1 (Nat.le_refl _)⟩
        case measure => simp [intOf]; omega
    · go_wp2
      go_ret
      exact ⟨ret_int (idxI_none p Wi.o gs (fun j hj => hz.out j (by omega))).symm, hB⟩
set_option maxRecDepth 100000 in
theorem contains_wires (p : Wi → Bool) (c0 : Value) (v : Value) (gs : List Wi) (w : World) (hm : gs.length ≤ maxLen) (h : Wis w w.heap.size v gs)
    (hf : ∀ (i : Nat) (x : Wi) (Af : Option Addr) (qf : Nat) (W : World), i < gs.length → gs.getD i Wi.o = x → Below w.heap.size w W → Calls Try.prog 72 #[.agg #[.string x.name, .int .i64 x.fp, .int .i64 x.fc, .int .i64 x.tp, .int .i64 x.tc, .int .i64 x.size, .slice Af x.form.length qf], c0] W fun e w' => e = .returned (.bool (p x)) ∧ Below W.heap.size W w') :
    Calls Try.prog 71 #[v, .func (.func 72) #[] #[c0]] w fun e w' => e = .returned (.bool (gs.any p)) ∧ Below w.heap.size w w' := by
  have hc := index_wires p c0 v gs w hm h hf
  have he := idxI_any p gs
  have hlo := idxI_lo p gs
  have hhi := idxI_hi p gs
  obtain ⟨z, hz⟩ : ∃ z, idxI p gs = z := ⟨_, rfl⟩
  rw [hz] at hc he hlo hhi
  obtain ⟨A, cap, rfl⟩ := Wis.form h
  have HC := hide hc
  have HE := hide he
  unfold maxLen at hm
  have hz2 : z ≤ 9223372036854775807 := by omega
  clear hc he hz h hf
  go_enter Try.func71, Try.ntmps71
  go_wp2_with (go_at_call 132; refine HC.out.mono ?_; rintro e w1 ⟨rfl, hB1⟩)
  go_ret
  exact ⟨ret_bool HE.out, hB1⟩

set_option maxRecDepth 100000 in
theorem samePl_any (q x : Pl) (pb : Nat) (w : World) (h : w.heap[pb]? = some (.cells #[.string x.name, .int .i64 x.spot, .int .i64 x.cav] 63 (0, 0))) :
    Calls Try.prog 66 #[.agg #[.string q.name, .int .i64 q.spot, .int .i64 q.cav], .pointer (some ⟨pb, 0, none⟩)] w fun e w' => e = .returned (.bool (bytes q.name == bytes x.name)) ∧ Below w.heap.size w w' := by
  have c0 := cellOf h 0
  have hlb := box_lt h
  have hr : (bytes q.name == bytes x.name) = (q.name.toList == x.name.toList) := by unfold bytes; rw [ByteArray.toList_eq, ByteArray.toList_eq]
  rw [hr]
  clear h hr
  go_enter Try.func66, Try.ntmps66
  go_wp2_with fail
  go_ret
  exact ⟨rfl, (by repeat (first | exact Below.refl _ _ | assumption | refine Below.drew ?_ | refine Below.drewN ?_ _ | refine Below.allocT ?_ (Nat.le_refl _) _ | refine Below.setCell ?_ (by simp <;> omega) _ | refine Below.to ?_ (by assumption) (Nat.le_refl _)))⟩
set_option maxRecDepth 100000 in
theorem sameWi_any (q x : Wi) (Af Ag : Option Addr) (qf qg n m : Nat) (pb : Nat) (w : World) (h : w.heap[pb]? = some (.cells #[.string x.name, .int .i64 x.fp, .int .i64 x.fc, .int .i64 x.tp, .int .i64 x.tc, .int .i64 x.size, .slice Ag n qg] 68 (0, 0))) :
    Calls Try.prog 72 #[.agg #[.string q.name, .int .i64 q.fp, .int .i64 q.fc, .int .i64 q.tp, .int .i64 q.tc, .int .i64 q.size, .slice Af m qf], .pointer (some ⟨pb, 0, none⟩)] w fun e w' => e = .returned (.bool (bytes q.name == bytes x.name)) ∧ Below w.heap.size w w' := by
  have c0 := cellOf h 0
  have hlb := box_lt h
  have hr : (bytes q.name == bytes x.name) = (q.name.toList == x.name.toList) := by unfold bytes; rw [ByteArray.toList_eq, ByteArray.toList_eq]
  rw [hr]
  clear h hr
  go_enter Try.func72, Try.ntmps72
  go_wp2_with fail
  go_ret
  exact ⟨rfl, (by repeat (first | exact Below.refl _ _ | assumption | refine Below.drew ?_ | refine Below.drewN ?_ _ | refine Below.allocT ?_ (Nat.le_refl _) _ | refine Below.setCell ?_ (by simp <;> omega) _ | refine Below.to ?_ (by assumption) (Nat.le_refl _)))⟩
end Go.Proofs.Ytmabfnddedffoaa
/- The checks of a plug, a pin and a wire: walks. -/
namespace Go.Proofs.Ytmabfnddedffoaa
open Go.RowKit
set_option linter.unusedVariables false
set_option linter.unusedSimpArgs false
theorem sl_cap {w : World} {B sz n : Nat} {A : Option Addr} {m q : Nat} {f : Nat → Nat → Value} (h : Sl w B sz (.slice A m q) n f) : m = n ∧ n ≤ q := by
  obtain ⟨A', b, off, cap, h1, h2, _⟩ := h
  injection h1 with e1 e2 e3
  subst e2 e3
  exact ⟨rfl, h2⟩
set_option maxRecDepth 100000 in
set_option maxHeartbeats 8000000 in
theorem ckPlug_any (i : Nat) (x : Pl) (A0 A1 A2 A3 A4 A5 : Option Addr) (q0 q1 q2 q3 q4 q5 : Nat) (l : Lo) (lb sb : Nat) (w : World) (hi : i < l.ps.length) (hx : l.ps.getD i Pl.o = x) (hsz : x.name.size ≤ maxLen) (hm : l.ss.length ≤ maxLen) (hp : l.ps.length ≤ maxLen) (hL : LoBox w lb A0 A1 A2 A3 A4 A5 q0 q1 q2 q3 q4 q5 l) (hS : FnBox w sb 58 #[.pointer (some ⟨lb, 0, none⟩)] 94) (h : LoA w w.heap.size A0 A1 A2 A3 A4 A5 q0 q1 q2 q3 q4 q5 l) :
    Calls Try.prog 64 #[.int .i64 i, .agg #[.string x.name, .int .i64 x.spot, .int .i64 x.cav], .pointer (some ⟨lb, 0, none⟩), .pointer (some ⟨sb, 0, none⟩)] w fun e w' => e = .returned (.int .i64 (mustE (plOk l i) 62)) ∧ Below w.heap.size w w' := by
  have H := hide h
  have HL0 := hide hL
  have HSB := hide hS
  clear h hL hS
  cases hN : lowB (bytes x.name) with
  | false =>
    have hr : plOk l i = false := by unfold plOk; rw [hx]; rw [hN]; simp
    rw [hr]
    clear hr
    have HN := hide hN
    clear hN
    go_enter Try.func64, Try.ntmps64
    go_upto_region 1 with (fail)
    generalize hw0 : World.alloc _ _ = w0
    obtain ⟨hb0, hB0, hs0⟩ := alloc1 hw0
    have HP := hide hb0
    have HB0 := hide hB0
    have HL := hide (HL0.out.to hB0)
    have HS0 := hide (HSB.out.to hB0)
    have c0 := cellOf HL.out 4
    have hlb := box_lt HL.out
    have hct := contains_plugs (fun q => bytes q.name == bytes x.name) (.pointer (some ⟨w.heap.size, 0, none⟩)) (.slice A4 i q4) (l.ps.take i) w0 (by simp; omega) (Pls.take (H.out.up hB0).p (by omega)) (fun j y W _ _ hW => samePl_any y x _ W (box_to hb0 hW))
    have HCT := hide hct
    have hiq : (i : Int) ≤ (q4 : Int) := by have := sl_cap (H.out.up hB0).p; omega
    have hiq2 : (i : Int) ≤ (l.ps.length : Int) := by omega
    clear hb0 hB0 hs0 hw0 hct
    go_wp2_with (first | (go_at_call 65; refine HCT.out.mono ?_; rintro e w1 ⟨rfl, hB1⟩; have y0 := cellOf (HL.out.to hB1) 0; have y1 := cellOf (HL.out.to hB1) 1; have y2 := cellOf (HL.out.to hB1) 2; have y3 := cellOf (HL.out.to hB1) 3; have y4 := cellOf (HL.out.to hB1) 4; have y5 := cellOf (HL.out.to hB1) 5; have z0 := cellOf (box_to HP.out hB1) 0; have z1 := cellOf (box_to HP.out hB1) 1; have z2 := cellOf (box_to HP.out hB1) 2; have s0 := cellOf (HS0.out.to hB1) 0; have ly := box_lt (HL.out.to hB1); have lz := box_lt (box_to HP.out hB1); have ls := box_lt (HS0.out.to hB1); have HB1 := hide (Below.to HB0.out hB1 (Nat.le_refl _)); have HL1 := hide (HL.out.to hB1); clear hB1 c0) | (go_at_call 67; refine (low_any _ _ hsz).mono ?_; rw [show lowB x.name.data.toList = _ from HN.out]; rintro e w3 ⟨rfl, rfl⟩) | (go_at_call 57; refine (must_any _ _ _).mono ?_; rintro e w9 ⟨rfl, rfl⟩))
    go_ret
    exact ⟨rfl, HB1.out⟩
  | true =>
    cases hT : (l.ps.take i).any (fun q => bytes q.name == bytes x.name) with
    | true =>
      have hr : plOk l i = false := by unfold plOk; rw [hx]; rw [hN, hT]; simp
      rw [hr]
      clear hr
      have HN := hide hN
      have HT := hide hT
      clear hN hT
      go_enter Try.func64, Try.ntmps64
      go_upto_region 1 with (fail)
      generalize hw0 : World.alloc _ _ = w0
      obtain ⟨hb0, hB0, hs0⟩ := alloc1 hw0
      have HP := hide hb0
      have HB0 := hide hB0
      have HL := hide (HL0.out.to hB0)
      have HS0 := hide (HSB.out.to hB0)
      have c0 := cellOf HL.out 4
      have hlb := box_lt HL.out
      have hct := contains_plugs (fun q => bytes q.name == bytes x.name) (.pointer (some ⟨w.heap.size, 0, none⟩)) (.slice A4 i q4) (l.ps.take i) w0 (by simp; omega) (Pls.take (H.out.up hB0).p (by omega)) (fun j y W _ _ hW => samePl_any y x _ W (box_to hb0 hW))
      have HCT := hide hct
      have hiq : (i : Int) ≤ (q4 : Int) := by have := sl_cap (H.out.up hB0).p; omega
      have hiq2 : (i : Int) ≤ (l.ps.length : Int) := by omega
      clear hb0 hB0 hs0 hw0 hct
      go_wp2_with (first | (go_at_call 65; refine HCT.out.mono ?_; rw [HT.out]; rintro e w1 ⟨rfl, hB1⟩; have y0 := cellOf (HL.out.to hB1) 0; have y1 := cellOf (HL.out.to hB1) 1; have y2 := cellOf (HL.out.to hB1) 2; have y3 := cellOf (HL.out.to hB1) 3; have y4 := cellOf (HL.out.to hB1) 4; have y5 := cellOf (HL.out.to hB1) 5; have z0 := cellOf (box_to HP.out hB1) 0; have z1 := cellOf (box_to HP.out hB1) 1; have z2 := cellOf (box_to HP.out hB1) 2; have s0 := cellOf (HS0.out.to hB1) 0; have ly := box_lt (HL.out.to hB1); have lz := box_lt (box_to HP.out hB1); have ls := box_lt (HS0.out.to hB1); have HB1 := hide (Below.to HB0.out hB1 (Nat.le_refl _)); have HL1 := hide (HL.out.to hB1); clear hB1 c0) | (go_at_call 67; refine (low_any _ _ hsz).mono ?_; rw [show lowB x.name.data.toList = _ from HN.out]; rintro e w3 ⟨rfl, rfl⟩) | (go_at_call 57; refine (must_any _ _ _).mono ?_; rintro e w9 ⟨rfl, rfl⟩))
      go_ret
      exact ⟨rfl, HB1.out⟩
    | false =>
      cases hS : btw x.spot 0 ((l.ss.length : Int) - 1) with
      | false =>
        have hr : plOk l i = false := by unfold plOk; rw [hx]; rw [hN, hT, hS]; simp
        rw [hr]
        clear hr
        have HN := hide hN
        have HT := hide hT
        have HS := hide hS
        clear hN hT hS
        go_enter Try.func64, Try.ntmps64
        go_upto_region 1 with (fail)
        generalize hw0 : World.alloc _ _ = w0
        obtain ⟨hb0, hB0, hs0⟩ := alloc1 hw0
        have HP := hide hb0
        have HB0 := hide hB0
        have HL := hide (HL0.out.to hB0)
        have HS0 := hide (HSB.out.to hB0)
        have c0 := cellOf HL.out 4
        have hlb := box_lt HL.out
        have hct := contains_plugs (fun q => bytes q.name == bytes x.name) (.pointer (some ⟨w.heap.size, 0, none⟩)) (.slice A4 i q4) (l.ps.take i) w0 (by simp; omega) (Pls.take (H.out.up hB0).p (by omega)) (fun j y W _ _ hW => samePl_any y x _ W (box_to hb0 hW))
        have HCT := hide hct
        have hiq : (i : Int) ≤ (q4 : Int) := by have := sl_cap (H.out.up hB0).p; omega
        have hiq2 : (i : Int) ≤ (l.ps.length : Int) := by omega
        clear hb0 hB0 hs0 hw0 hct
        go_wp2_with (first | (go_at_call 65; refine HCT.out.mono ?_; rw [HT.out]; rintro e w1 ⟨rfl, hB1⟩; have y0 := cellOf (HL.out.to hB1) 0; have y1 := cellOf (HL.out.to hB1) 1; have y2 := cellOf (HL.out.to hB1) 2; have y3 := cellOf (HL.out.to hB1) 3; have y4 := cellOf (HL.out.to hB1) 4; have y5 := cellOf (HL.out.to hB1) 5; have z0 := cellOf (box_to HP.out hB1) 0; have z1 := cellOf (box_to HP.out hB1) 1; have z2 := cellOf (box_to HP.out hB1) 2; have s0 := cellOf (HS0.out.to hB1) 0; have ly := box_lt (HL.out.to hB1); have lz := box_lt (box_to HP.out hB1); have ls := box_lt (HS0.out.to hB1); have HB1 := hide (Below.to HB0.out hB1 (Nat.le_refl _)); have HL1 := hide (HL.out.to hB1); clear hB1 c0) | (go_at_call 67; refine (low_any _ _ hsz).mono ?_; rw [show lowB x.name.data.toList = _ from HN.out]; rintro e w3 ⟨rfl, rfl⟩) | (go_at_call 58; refine (spotN_any _ _ _ _ _ _ _ _ _ _ _ _ _ l lb _ hm HL1.out _ HS.out).mono ?_; rintro e w4 ⟨rfl, rfl⟩) | (go_at_call 57; refine (must_any _ _ _).mono ?_; rintro e w9 ⟨rfl, rfl⟩))
        go_ret
        exact ⟨rfl, HB1.out⟩
      | true =>
        cases hC : btw x.cav 1 40 with
        | false =>
          have hr : plOk l i = false := by unfold plOk; rw [hx]; rw [hN, hT, hS, hC]; simp
          rw [hr]
          clear hr
          have HN := hide hN
          have HT := hide hT
          have HS := hide hS
          have HC := hide hC
          clear hN hT hS hC
          go_enter Try.func64, Try.ntmps64
          go_upto_region 1 with (fail)
          generalize hw0 : World.alloc _ _ = w0
          obtain ⟨hb0, hB0, hs0⟩ := alloc1 hw0
          have HP := hide hb0
          have HB0 := hide hB0
          have HL := hide (HL0.out.to hB0)
          have HS0 := hide (HSB.out.to hB0)
          have c0 := cellOf HL.out 4
          have hlb := box_lt HL.out
          have hct := contains_plugs (fun q => bytes q.name == bytes x.name) (.pointer (some ⟨w.heap.size, 0, none⟩)) (.slice A4 i q4) (l.ps.take i) w0 (by simp; omega) (Pls.take (H.out.up hB0).p (by omega)) (fun j y W _ _ hW => samePl_any y x _ W (box_to hb0 hW))
          have HCT := hide hct
          have hiq : (i : Int) ≤ (q4 : Int) := by have := sl_cap (H.out.up hB0).p; omega
          have hiq2 : (i : Int) ≤ (l.ps.length : Int) := by omega
          clear hb0 hB0 hs0 hw0 hct
          go_wp2_with (first | (go_at_call 65; refine HCT.out.mono ?_; rw [HT.out]; rintro e w1 ⟨rfl, hB1⟩; have y0 := cellOf (HL.out.to hB1) 0; have y1 := cellOf (HL.out.to hB1) 1; have y2 := cellOf (HL.out.to hB1) 2; have y3 := cellOf (HL.out.to hB1) 3; have y4 := cellOf (HL.out.to hB1) 4; have y5 := cellOf (HL.out.to hB1) 5; have z0 := cellOf (box_to HP.out hB1) 0; have z1 := cellOf (box_to HP.out hB1) 1; have z2 := cellOf (box_to HP.out hB1) 2; have s0 := cellOf (HS0.out.to hB1) 0; have ly := box_lt (HL.out.to hB1); have lz := box_lt (box_to HP.out hB1); have ls := box_lt (HS0.out.to hB1); have HB1 := hide (Below.to HB0.out hB1 (Nat.le_refl _)); have HL1 := hide (HL.out.to hB1); clear hB1 c0) | (go_at_call 67; refine (low_any _ _ hsz).mono ?_; rw [show lowB x.name.data.toList = _ from HN.out]; rintro e w3 ⟨rfl, rfl⟩) | (go_at_call 58; refine (spotN_any _ _ _ _ _ _ _ _ _ _ _ _ _ l lb _ hm HL1.out _ HS.out).mono ?_; rintro e w4 ⟨rfl, rfl⟩) | (go_at_call 54; refine (withinB_any _ _ _ _ _ HC.out).mono ?_; rintro e w5 ⟨rfl, rfl⟩) | (go_at_call 57; refine (must_any _ _ _).mono ?_; rintro e w9 ⟨rfl, rfl⟩))
          go_ret
          exact ⟨rfl, HB1.out⟩
        | true =>
          have hr : plOk l i = true := by unfold plOk; rw [hx]; rw [hN, hT, hS, hC]; rfl
          rw [hr]
          clear hr
          have HN := hide hN
          have HT := hide hT
          have HS := hide hS
          have HC := hide hC
          clear hN hT hS hC
          go_enter Try.func64, Try.ntmps64
          go_upto_region 1 with (fail)
          generalize hw0 : World.alloc _ _ = w0
          obtain ⟨hb0, hB0, hs0⟩ := alloc1 hw0
          have HP := hide hb0
          have HB0 := hide hB0
          have HL := hide (HL0.out.to hB0)
          have HS0 := hide (HSB.out.to hB0)
          have c0 := cellOf HL.out 4
          have hlb := box_lt HL.out
          have hct := contains_plugs (fun q => bytes q.name == bytes x.name) (.pointer (some ⟨w.heap.size, 0, none⟩)) (.slice A4 i q4) (l.ps.take i) w0 (by simp; omega) (Pls.take (H.out.up hB0).p (by omega)) (fun j y W _ _ hW => samePl_any y x _ W (box_to hb0 hW))
          have HCT := hide hct
          have hiq : (i : Int) ≤ (q4 : Int) := by have := sl_cap (H.out.up hB0).p; omega
          have hiq2 : (i : Int) ≤ (l.ps.length : Int) := by omega
          clear hb0 hB0 hs0 hw0 hct
          go_wp2_with (first | (go_at_call 65; refine HCT.out.mono ?_; rw [HT.out]; rintro e w1 ⟨rfl, hB1⟩; have y0 := cellOf (HL.out.to hB1) 0; have y1 := cellOf (HL.out.to hB1) 1; have y2 := cellOf (HL.out.to hB1) 2; have y3 := cellOf (HL.out.to hB1) 3; have y4 := cellOf (HL.out.to hB1) 4; have y5 := cellOf (HL.out.to hB1) 5; have z0 := cellOf (box_to HP.out hB1) 0; have z1 := cellOf (box_to HP.out hB1) 1; have z2 := cellOf (box_to HP.out hB1) 2; have s0 := cellOf (HS0.out.to hB1) 0; have ly := box_lt (HL.out.to hB1); have lz := box_lt (box_to HP.out hB1); have ls := box_lt (HS0.out.to hB1); have HB1 := hide (Below.to HB0.out hB1 (Nat.le_refl _)); have HL1 := hide (HL.out.to hB1); clear hB1 c0) | (go_at_call 67; refine (low_any _ _ hsz).mono ?_; rw [show lowB x.name.data.toList = _ from HN.out]; rintro e w3 ⟨rfl, rfl⟩) | (go_at_call 58; refine (spotN_any _ _ _ _ _ _ _ _ _ _ _ _ _ l lb _ hm HL1.out _ HS.out).mono ?_; rintro e w4 ⟨rfl, rfl⟩) | (go_at_call 54; refine (withinB_any _ _ _ _ _ HC.out).mono ?_; rintro e w5 ⟨rfl, rfl⟩) | (go_at_call 57; refine (must_any _ _ _).mono ?_; rintro e w9 ⟨rfl, rfl⟩))
          go_ret
          exact ⟨rfl, HB1.out⟩
end Go.Proofs.Ytmabfnddedffoaa
/- The checks of a plug, a pin and a wire: walks. -/
namespace Go.Proofs.Ytmabfnddedffoaa
open Go.RowKit
set_option linter.unusedVariables false
set_option linter.unusedSimpArgs false
theorem plOk_cav {l : Lo} {k : Nat} (h : plOk l k = true) : 1 ≤ (l.ps.getD k Pl.o).cav ∧ (l.ps.getD k Pl.o).cav ≤ 40 := by
  unfold plOk at h
  simp only [Bool.and_eq_true, btw_iff] at h
  exact h.2
set_option maxRecDepth 100000 in
set_option maxHeartbeats 1000000 in
theorem pin_any (p c : Int) (A0 A1 A2 A3 A4 A5 : Option Addr) (q0 q1 q2 q3 q4 q5 : Nat) (l : Lo) (lb : Nat) (w : World) (hp : l.ps.length ≤ maxLen) (hL : LoBox w lb A0 A1 A2 A3 A4 A5 q0 q1 q2 q3 q4 q5 l) (h : LoA w w.heap.size A0 A1 A2 A3 A4 A5 q0 q1 q2 q3 q4 q5 l) (hok : ∀ k, k < l.ps.length → plOk l k = true) :
    Calls Try.prog 68 #[.agg #[.int .i64 p, .int .i64 c], .pointer (some ⟨lb, 0, none⟩)] w fun e w' => e = .returned (.bool (pinOk l p c)) ∧ Below w.heap.size w w' := by
  have H := hide h
  have HL0 := hide hL
  have HOK := hide hok
  unfold maxLen at hp
  have hwp : IntKind.i64.wrap ((l.ps.length : Int) - 1) = (l.ps.length : Int) - 1 := IntWalk.i64_in _ (by omega)
  clear h hL hok
  cases hb : btw p 0 ((l.ps.length : Int) - 1) with
  | false =>
    have hr : pinOk l p c = false := by unfold pinOk; rw [hb]; rfl
    rw [hr]
    have HB := hide hb
    clear hr hb
    go_enter Try.func68, Try.ntmps68
    go_upto_region 1 with (fail)
    generalize hw0 : World.alloc _ _ = w0
    obtain ⟨hb0, hB0, hs0⟩ := alloc1 hw0
    have HL := hide (HL0.out.to hB0)
    have HB0 := hide hB0
    have c0 := cellOf hb0 0
    have c1 := cellOf hb0 1
    have d4 := cellOf HL.out 4
    have l0 := box_lt hb0
    have l1 := box_lt HL.out
    clear hw0 hb0 hB0 hs0
    refine wp_region_held_drew (S := (fun w' => Below w0.heap.size w0 w')) (by kernel_rfl) ?_ (fun hHeld => ?_)
    · try dsimp only
      exact (by repeat (first | exact Below.refl _ _ | assumption | refine Below.drew ?_ | refine Below.drewN ?_ _ | refine Below.allocT ?_ (Nat.le_refl _) _ | refine Below.setCell ?_ (by simp <;> omega) _ | refine Below.to ?_ (by assumption) (Nat.le_refl _)))
    refine wpAnyH_take (i := 0) (v := ?v1_0) rfl (by kernel_rfl) (by kernel_rfl) (by kernel_rfl) (fun _ _ _ h => h) (Or.inl ⟨by rfl, ?y1_0⟩) (by assumption) ?r1_0
    case' y1_0 => (intro w hSw; (try dsimp only at hSw); (try have hlS := HLK.out _ hSw); obtain ⟨hcS, hfS⟩ := bcell hSw; clear hSw; go_simp; try with_reducible rfl)
    try simp only [Act.put, zA, zB, zC, zD, zE, zF]
    refine wpAnyH_take (i := 1) (v := ?v1_1) rfl (by kernel_rfl) (by kernel_rfl) (by kernel_rfl) (fun _ _ _ h => h) (Or.inl ⟨by rfl, ?y1_1⟩) (by assumption) ?r1_1
    case' y1_1 => (intro w hSw; (try dsimp only at hSw); (try have hlS := HLK.out _ hSw); obtain ⟨hcS, hfS⟩ := bcell hSw; clear hSw; go_simp; try with_reducible rfl)
    try simp only [Act.put, zA, zB, zC, zD, zE, zF]
    refine wpAnyH_take (i := 2) (v := ?v1_2) rfl (by kernel_rfl) (by kernel_rfl) (by kernel_rfl) (fun _ _ _ h => h) (Or.inl ⟨by rfl, ?y1_2⟩) (by assumption) ?r1_2
    case' y1_2 => (intro w hSw; (try dsimp only at hSw); (try have hlS := HLK.out _ hSw); obtain ⟨hcS, hfS⟩ := bcell hSw; clear hSw; go_simp; try with_reducible rfl)
    try simp only [Act.put, zA, zB, zC, zD, zE, zF]
    refine wpAnyH_take (i := 3) (v := ?v1_3) rfl (by kernel_rfl) (by kernel_rfl) (by kernel_rfl) (fun _ _ _ h => h) (Or.inl ⟨by rfl, ?y1_3⟩) (by assumption) ?r1_3
    case' y1_3 => (intro w hSw; (try dsimp only at hSw); (try have hlS := HLK.out _ hSw); obtain ⟨hcS, hfS⟩ := bcell hSw; clear hSw; go_simp; try with_reducible rfl)
    try simp only [Act.put, zA, zB, zC, zD, zE, zF]
    refine wpAnyH_take (i := 4) (v := ?v1_4) rfl (by kernel_rfl) (by kernel_rfl) (by kernel_rfl) (fun _ _ _ h => h) (Or.inl ⟨by rfl, ?y1_4⟩) (by assumption) ?r1_4
    case' y1_4 => (intro w hSw; (try dsimp only at hSw); (try have hlS := HLK.out _ hSw); obtain ⟨hcS, hfS⟩ := bcell hSw; clear hSw; go_simp; try with_reducible rfl)
    try simp only [Act.put, zA, zB, zC, zD, zE, zF]
    refine wpAnyH_take (i := 5) (v := ?v1_5) rfl (by kernel_rfl) (by kernel_rfl) (by kernel_rfl) (fun _ _ _ h => h) (Or.inl ⟨by rfl, ?y1_5⟩) (by assumption) ?r1_5
    case' y1_5 => (intro w hSw; (try dsimp only at hSw); (try have hlS := HLK.out _ hSw); obtain ⟨hcS, hfS⟩ := bcell hSw; clear hSw; go_simp; try with_reducible rfl)
    try simp only [Act.put, zA, zB, zC, zD, zE, zF]
    refine wpAnyH_ready (rs := [6]) (by kernel_rfl) (by simp) ?_
    refine AllReadyH.cons rfl (fun K hK => ?_) AllReadyH.nil
    go_simp
    ((go_at_call 54; refine (withinB_any _ _ _ _ _ HB.out).mono ?_; rintro e w5 ⟨rfl, rfl⟩))
    (try dsimp only)
    refine hK.out _ _ ?_ (fun hNext => ?_)
    · try dsimp only
      exact (by repeat (first | exact Below.refl _ _ | assumption | refine Below.drew ?_ | refine Below.drewN ?_ _ | refine Below.allocT ?_ (Nat.le_refl _) _ | refine Below.setCell ?_ (by simp <;> omega) _ | refine Below.to ?_ (by assumption) (Nat.le_refl _)))
    clear hK K hHeld
    have hHeld := hNext
    clear hNext
    (try dsimp only at hHeld)
    try simp only [Act.put, zA, zB, zC, zD, zE, zF]
    refine wpAnyH_take (i := 7) (v := ?v1_7) rfl (by kernel_rfl) (by kernel_rfl) (by kernel_rfl) (fun _ _ _ h => h) (Or.inl ⟨by rfl, ?y1_7⟩) (by assumption) ?r1_7
    case' y1_7 => (intro w hSw; (try dsimp only at hSw); (try have hlS := HLK.out _ hSw); obtain ⟨hcS, hfS⟩ := bcell hSw; clear hSw; go_simp; try with_reducible rfl)
    try simp only [Act.put, zA, zB, zC, zD, zE, zF]
    refine wpAnyH_take (i := 8) (v := undef) rfl (by kernel_rfl) (by kernel_rfl) (by kernel_rfl) (fun _ _ _ h => h) (Or.inr ⟨?w1_8, rfl⟩) (by assumption) ?r1_8
    case' w1_8 => first | rfl | (simp [Region.wanted, yielded, *]; done)
    try simp only [Act.put, zA, zB, zC, zD, zE, zF]
    refine wpAnyH_take (i := 9) (v := undef) rfl (by kernel_rfl) (by kernel_rfl) (by kernel_rfl) (fun _ _ _ h => h) (Or.inr ⟨?w1_9, rfl⟩) (by assumption) ?r1_9
    case' w1_9 => first | rfl | (simp [Region.wanted, yielded, *]; done)
    try simp only [Act.put, zA, zB, zC, zD, zE, zF]
    refine wpAnyH_take (i := 10) (v := undef) rfl (by kernel_rfl) (by kernel_rfl) (by kernel_rfl) (fun _ _ _ h => h) (Or.inr ⟨?w1_10, rfl⟩) (by assumption) ?r1_10
    case' w1_10 => first | rfl | (simp [Region.wanted, yielded, *]; done)
    try simp only [Act.put, zA, zB, zC, zD, zE, zF]
    refine wpAnyH_take (i := 11) (v := undef) rfl (by kernel_rfl) (by kernel_rfl) (by kernel_rfl) (fun _ _ _ h => h) (Or.inr ⟨?w1_11, rfl⟩) (by assumption) ?r1_11
    case' w1_11 => first | rfl | (simp [Region.wanted, yielded, *]; done)
    try simp only [Act.put, zA, zB, zC, zD, zE, zF]
    refine wpAnyH_take (i := 12) (v := undef) rfl (by kernel_rfl) (by kernel_rfl) (by kernel_rfl) (fun _ _ _ h => h) (Or.inr ⟨?w1_12, rfl⟩) (by assumption) ?r1_12
    case' w1_12 => first | rfl | (simp [Region.wanted, yielded, *]; done)
    try simp only [Act.put, zA, zB, zC, zD, zE, zF]
    refine wpAnyH_take (i := 13) (v := undef) rfl (by kernel_rfl) (by kernel_rfl) (by kernel_rfl) (fun _ _ _ h => h) (Or.inr ⟨?w1_13, rfl⟩) (by assumption) ?r1_13
    case' w1_13 => first | rfl | (simp [Region.wanted, yielded, *]; done)
    try simp only [Act.put, zA, zB, zC, zD, zE, zF]
    refine wpAnyH_take (i := 14) (v := undef) rfl (by kernel_rfl) (by kernel_rfl) (by kernel_rfl) (fun _ _ _ h => h) (Or.inr ⟨?w1_14, rfl⟩) (by assumption) ?r1_14
    case' w1_14 => first | rfl | (simp [Region.wanted, yielded, *]; done)
    try simp only [Act.put, zA, zB, zC, zD, zE, zF]
    refine wpAnyH_take (i := 15) (v := undef) rfl (by kernel_rfl) (by kernel_rfl) (by kernel_rfl) (fun _ _ _ h => h) (Or.inr ⟨?w1_15, rfl⟩) (by assumption) ?r1_15
    case' w1_15 => first | rfl | (simp [Region.wanted, yielded, *]; done)
    try simp only [Act.put, zA, zB, zC, zD, zE, zF]
    refine wpAnyH_take (i := 16) (v := undef) rfl (by kernel_rfl) (by kernel_rfl) (by kernel_rfl) (fun _ _ _ h => h) (Or.inr ⟨?w1_16, rfl⟩) (by assumption) ?r1_16
    case' w1_16 => first | rfl | (simp [Region.wanted, yielded, *]; done)
    try simp only [Act.put, zA, zB, zC, zD, zE, zF]
    refine wpAnyH_take (i := 17) (v := undef) rfl (by kernel_rfl) (by kernel_rfl) (by kernel_rfl) (fun _ _ _ h => h) (Or.inr ⟨?w1_17, rfl⟩) (by assumption) ?r1_17
    case' w1_17 => first | rfl | (simp [Region.wanted, yielded, *]; done)
    try simp only [Act.put, zA, zB, zC, zD, zE, zF]
    refine wpAnyH_take (i := 18) (v := undef) rfl (by kernel_rfl) (by kernel_rfl) (by kernel_rfl) (fun _ _ _ h => h) (Or.inr ⟨?w1_18, rfl⟩) (by assumption) ?r1_18
    case' w1_18 => first | rfl | (simp [Region.wanted, yielded, *]; done)
    try simp only [Act.put, zA, zB, zC, zD, zE, zF]
    refine wpAnyH_take (i := 19) (v := ?v1_19) rfl (by kernel_rfl) (by kernel_rfl) (by kernel_rfl) (fun _ _ _ h => h) (Or.inl ⟨by rfl, ?y1_19⟩) (by assumption) ?r1_19
    case' y1_19 => (intro w hSw; (try dsimp only at hSw); (try have hlS := HLK.out _ hSw); obtain ⟨hcS, hfS⟩ := bcell hSw; clear hSw; go_simp; try with_reducible rfl)
    try simp only [Act.put, zA, zB, zC, zD, zE, zF]
    refine wpAnyH_take (i := 20) (v := ?v1_20) rfl (by kernel_rfl) (by kernel_rfl) (by kernel_rfl) (fun _ _ _ h => h) (Or.inl ⟨by rfl, ?y1_20⟩) (by assumption) ?r1_20
    case' y1_20 => (intro w hSw; (try dsimp only at hSw); (try have hlS := HLK.out _ hSw); obtain ⟨hcS, hfS⟩ := bcell hSw; clear hSw; go_simp; try with_reducible rfl)
    try simp only [Act.put, zA, zB, zC, zD, zE, zF]
    refine wpAnyH_done (by kernel_rfl) ?_ _
    go_wp2_with fail
    go_ret
    exact ⟨rfl, Below.to HB0.out hHeld (Nat.le_refl _)⟩
  | true =>
    obtain ⟨p1, p2⟩ := btw_iff.1 hb
    obtain ⟨k, rfl⟩ := Int.eq_ofNat_of_zero_le p1
    have hk : k < l.ps.length := by omega
    obtain ⟨b, off, x, HX, rfl, hbb, hq, e0, e1, e2⟩ := H.out.pl hk
    have hcav := plOk_cav (HOK.out k hk)
    rw [HX.out] at hcav
    have hr : pinOk l k c = btw c 0 (x.cav - 1) := by unfold pinOk; rw [hb, Int.toNat_natCast, HX.out]; rfl
    obtain ⟨z, hz⟩ : ∃ z, btw c 0 (x.cav - 1) = z := ⟨_, rfl⟩
    rw [hr, hz]
    have HB := hide hb
    have HZ := hide hz
    have ik : (k : Int) < (l.ps.length : Int) := by omega
    have iq : (l.ps.length : Int) ≤ (q4 : Int) := by omega
    obtain ⟨v1, v2⟩ := hcav
    have hwc : IntKind.i64.wrap (x.cav - 1) = x.cav - 1 := IntWalk.i64_in _ (by omega)
    clear hr hb hz p2
    go_enter Try.func68, Try.ntmps68
    go_upto_region 1 with (fail)
    generalize hw0 : World.alloc _ _ = w0
    obtain ⟨hb0, hB0, hs0⟩ := alloc1 hw0
    have HL := hide (HL0.out.to hB0)
    have HB0 := hide hB0
    have c0 := cellOf hb0 0
    have c1 := cellOf hb0 1
    have d4 := cellOf HL.out 4
    have l0 := box_lt hb0
    have l1 := box_lt HL.out
    have l2 : b < w0.heap.size := by omega
    have g2 := (hB0.cell (p := ⟨b, off + k * 3 + 2, none⟩) hbb).trans e2
    clear hw0 hb0 hB0 hs0 e0 e1 e2
    refine wp_region_held_drew (S := (fun w' => Below w0.heap.size w0 w')) (by kernel_rfl) ?_ (fun hHeld => ?_)
    · try dsimp only
      exact (by repeat (first | exact Below.refl _ _ | assumption | refine Below.drew ?_ | refine Below.drewN ?_ _ | refine Below.allocT ?_ (Nat.le_refl _) _ | refine Below.setCell ?_ (by simp <;> omega) _ | refine Below.to ?_ (by assumption) (Nat.le_refl _)))
    refine wpAnyH_take (i := 0) (v := ?v2_0) rfl (by kernel_rfl) (by kernel_rfl) (by kernel_rfl) (fun _ _ _ h => h) (Or.inl ⟨by rfl, ?y2_0⟩) (by assumption) ?r2_0
    case' y2_0 => (intro w hSw; (try dsimp only at hSw); (try have hlS := HLK.out _ hSw); obtain ⟨hcS, hfS⟩ := bcell hSw; clear hSw; go_simp; try with_reducible rfl)
    try simp only [Act.put, zA, zB, zC, zD, zE, zF]
    refine wpAnyH_take (i := 1) (v := ?v2_1) rfl (by kernel_rfl) (by kernel_rfl) (by kernel_rfl) (fun _ _ _ h => h) (Or.inl ⟨by rfl, ?y2_1⟩) (by assumption) ?r2_1
    case' y2_1 => (intro w hSw; (try dsimp only at hSw); (try have hlS := HLK.out _ hSw); obtain ⟨hcS, hfS⟩ := bcell hSw; clear hSw; go_simp; try with_reducible rfl)
    try simp only [Act.put, zA, zB, zC, zD, zE, zF]
    refine wpAnyH_take (i := 2) (v := ?v2_2) rfl (by kernel_rfl) (by kernel_rfl) (by kernel_rfl) (fun _ _ _ h => h) (Or.inl ⟨by rfl, ?y2_2⟩) (by assumption) ?r2_2
    case' y2_2 => (intro w hSw; (try dsimp only at hSw); (try have hlS := HLK.out _ hSw); obtain ⟨hcS, hfS⟩ := bcell hSw; clear hSw; go_simp; try with_reducible rfl)
    try simp only [Act.put, zA, zB, zC, zD, zE, zF]
    refine wpAnyH_take (i := 3) (v := ?v2_3) rfl (by kernel_rfl) (by kernel_rfl) (by kernel_rfl) (fun _ _ _ h => h) (Or.inl ⟨by rfl, ?y2_3⟩) (by assumption) ?r2_3
    case' y2_3 => (intro w hSw; (try dsimp only at hSw); (try have hlS := HLK.out _ hSw); obtain ⟨hcS, hfS⟩ := bcell hSw; clear hSw; go_simp; try with_reducible rfl)
    try simp only [Act.put, zA, zB, zC, zD, zE, zF]
    refine wpAnyH_take (i := 4) (v := ?v2_4) rfl (by kernel_rfl) (by kernel_rfl) (by kernel_rfl) (fun _ _ _ h => h) (Or.inl ⟨by rfl, ?y2_4⟩) (by assumption) ?r2_4
    case' y2_4 => (intro w hSw; (try dsimp only at hSw); (try have hlS := HLK.out _ hSw); obtain ⟨hcS, hfS⟩ := bcell hSw; clear hSw; go_simp; try with_reducible rfl)
    try simp only [Act.put, zA, zB, zC, zD, zE, zF]
    refine wpAnyH_take (i := 5) (v := ?v2_5) rfl (by kernel_rfl) (by kernel_rfl) (by kernel_rfl) (fun _ _ _ h => h) (Or.inl ⟨by rfl, ?y2_5⟩) (by assumption) ?r2_5
    case' y2_5 => (intro w hSw; (try dsimp only at hSw); (try have hlS := HLK.out _ hSw); obtain ⟨hcS, hfS⟩ := bcell hSw; clear hSw; go_simp; try with_reducible rfl)
    try simp only [Act.put, zA, zB, zC, zD, zE, zF]
    refine wpAnyH_ready (rs := [6]) (by kernel_rfl) (by simp) ?_
    refine AllReadyH.cons rfl (fun K hK => ?_) AllReadyH.nil
    go_simp
    ((go_at_call 54; refine (withinB_any _ _ _ _ _ (by first | exact HB.out | exact HZ.out)).mono ?_; rintro e w5 ⟨rfl, rfl⟩))
    (try dsimp only)
    refine hK.out _ _ ?_ (fun hNext => ?_)
    · try dsimp only
      exact (by repeat (first | exact Below.refl _ _ | assumption | refine Below.drew ?_ | refine Below.drewN ?_ _ | refine Below.allocT ?_ (Nat.le_refl _) _ | refine Below.setCell ?_ (by simp <;> omega) _ | refine Below.to ?_ (by assumption) (Nat.le_refl _)))
    clear hK K hHeld
    have hHeld := hNext
    clear hNext
    (try dsimp only at hHeld)
    try simp only [Act.put, zA, zB, zC, zD, zE, zF]
    refine wpAnyH_take (i := 7) (v := ?v2_7) rfl (by kernel_rfl) (by kernel_rfl) (by kernel_rfl) (fun _ _ _ h => h) (Or.inl ⟨by rfl, ?y2_7⟩) (by assumption) ?r2_7
    case' y2_7 => (intro w hSw; (try dsimp only at hSw); (try have hlS := HLK.out _ hSw); obtain ⟨hcS, hfS⟩ := bcell hSw; clear hSw; go_simp; try with_reducible rfl)
    try simp only [Act.put, zA, zB, zC, zD, zE, zF]
    refine wpAnyH_take (i := 8) (v := ?v2_8) rfl (by kernel_rfl) (by kernel_rfl) (by kernel_rfl) (fun _ _ _ h => h) (Or.inl ⟨by rfl, ?y2_8⟩) (by assumption) ?r2_8
    case' y2_8 => (intro w hSw; (try dsimp only at hSw); (try have hlS := HLK.out _ hSw); obtain ⟨hcS, hfS⟩ := bcell hSw; clear hSw; go_simp; try with_reducible rfl)
    try simp only [Act.put, zA, zB, zC, zD, zE, zF]
    refine wpAnyH_take (i := 9) (v := ?v2_9) rfl (by kernel_rfl) (by kernel_rfl) (by kernel_rfl) (fun _ _ _ h => h) (Or.inl ⟨by rfl, ?y2_9⟩) (by assumption) ?r2_9
    case' y2_9 => (intro w hSw; (try dsimp only at hSw); (try have hlS := HLK.out _ hSw); obtain ⟨hcS, hfS⟩ := bcell hSw; clear hSw; go_simp; try with_reducible rfl)
    try simp only [Act.put, zA, zB, zC, zD, zE, zF]
    refine wpAnyH_take (i := 10) (v := ?v2_10) rfl (by kernel_rfl) (by kernel_rfl) (by kernel_rfl) (fun _ _ _ h => h) (Or.inl ⟨by rfl, ?y2_10⟩) (by assumption) ?r2_10
    case' y2_10 => (intro w hSw; (try dsimp only at hSw); (try have hlS := HLK.out _ hSw); obtain ⟨hcS, hfS⟩ := bcell hSw; clear hSw; go_simp; try with_reducible rfl)
    try simp only [Act.put, zA, zB, zC, zD, zE, zF]
    refine wpAnyH_take (i := 11) (v := ?v2_11) rfl (by kernel_rfl) (by kernel_rfl) (by kernel_rfl) (fun _ _ _ h => h) (Or.inl ⟨by rfl, ?y2_11⟩) (by assumption) ?r2_11
    case' y2_11 => (intro w hSw; (try dsimp only at hSw); (try have hlS := HLK.out _ hSw); obtain ⟨hcS, hfS⟩ := bcell hSw; clear hSw; go_simp; try with_reducible rfl)
    try simp only [Act.put, zA, zB, zC, zD, zE, zF]
    refine wpAnyH_take (i := 12) (v := ?v2_12) rfl (by kernel_rfl) (by kernel_rfl) (by kernel_rfl) (fun _ _ _ h => h) (Or.inl ⟨by rfl, ?y2_12⟩) (by assumption) ?r2_12
    case' y2_12 => (intro w hSw; (try dsimp only at hSw); (try have hlS := HLK.out _ hSw); obtain ⟨hcS, hfS⟩ := bcell hSw; clear hSw; go_simp; try with_reducible rfl)
    try simp only [Act.put, zA, zB, zC, zD, zE, zF]
    refine wpAnyH_take (i := 13) (v := ?v2_13) rfl (by kernel_rfl) (by kernel_rfl) (by kernel_rfl) (fun _ _ _ h => h) (Or.inl ⟨by rfl, ?y2_13⟩) (by assumption) ?r2_13
    case' y2_13 => (intro w hSw; (try dsimp only at hSw); (try have hlS := HLK.out _ hSw); obtain ⟨hcS, hfS⟩ := bcell hSw; clear hSw; go_simp; try with_reducible rfl)
    try simp only [Act.put, zA, zB, zC, zD, zE, zF]
    refine wpAnyH_take (i := 14) (v := ?v2_14) rfl (by kernel_rfl) (by kernel_rfl) (by kernel_rfl) (fun _ _ _ h => h) (Or.inl ⟨by rfl, ?y2_14⟩) (by assumption) ?r2_14
    case' y2_14 => (intro w hSw; (try dsimp only at hSw); (try have hlS := HLK.out _ hSw); obtain ⟨hcS, hfS⟩ := bcell hSw; clear hSw; go_simp; try with_reducible rfl)
    try simp only [Act.put, zA, zB, zC, zD, zE, zF]
    refine wpAnyH_take (i := 15) (v := ?v2_15) rfl (by kernel_rfl) (by kernel_rfl) (by kernel_rfl) (fun _ _ _ h => h) (Or.inl ⟨by rfl, ?y2_15⟩) (by assumption) ?r2_15
    case' y2_15 => (intro w hSw; (try dsimp only at hSw); (try have hlS := HLK.out _ hSw); obtain ⟨hcS, hfS⟩ := bcell hSw; clear hSw; go_simp; try with_reducible rfl)
    try simp only [Act.put, zA, zB, zC, zD, zE, zF]
    refine wpAnyH_take (i := 16) (v := ?v2_16) rfl (by kernel_rfl) (by kernel_rfl) (by kernel_rfl) (fun _ _ _ h => h) (Or.inl ⟨by rfl, ?y2_16⟩) (by assumption) ?r2_16
    case' y2_16 => (intro w hSw; (try dsimp only at hSw); (try have hlS := HLK.out _ hSw); obtain ⟨hcS, hfS⟩ := bcell hSw; clear hSw; go_simp; try with_reducible rfl)
    try simp only [Act.put, zA, zB, zC, zD, zE, zF]
    refine wpAnyH_take (i := 17) (v := ?v2_17) rfl (by kernel_rfl) (by kernel_rfl) (by kernel_rfl) (fun _ _ _ h => h) (Or.inl ⟨by rfl, ?y2_17⟩) (by assumption) ?r2_17
    case' y2_17 => (intro w hSw; (try dsimp only at hSw); (try have hlS := HLK.out _ hSw); obtain ⟨hcS, hfS⟩ := bcell hSw; clear hSw; go_simp; try with_reducible rfl)
    try simp only [Act.put, zA, zB, zC, zD, zE, zF]
    refine wpAnyH_ready (rs := [18]) (by kernel_rfl) (by simp) ?_
    refine AllReadyH.cons rfl (fun K hK => ?_) AllReadyH.nil
    go_simp
    ((go_at_call 54; refine (withinB_any _ _ _ _ _ (by first | exact HB.out | exact HZ.out)).mono ?_; rintro e w5 ⟨rfl, rfl⟩))
    (try dsimp only)
    refine hK.out _ _ ?_ (fun hNext => ?_)
    · try dsimp only
      exact (by repeat (first | exact Below.refl _ _ | assumption | refine Below.drew ?_ | refine Below.drewN ?_ _ | refine Below.allocT ?_ (Nat.le_refl _) _ | refine Below.setCell ?_ (by simp <;> omega) _ | refine Below.to ?_ (by assumption) (Nat.le_refl _)))
    clear hK K hHeld
    have hHeld := hNext
    clear hNext
    (try dsimp only at hHeld)
    try simp only [Act.put, zA, zB, zC, zD, zE, zF]
    refine wpAnyH_take (i := 19) (v := ?v2_19) rfl (by kernel_rfl) (by kernel_rfl) (by kernel_rfl) (fun _ _ _ h => h) (Or.inl ⟨by rfl, ?y2_19⟩) (by assumption) ?r2_19
    case' y2_19 => (intro w hSw; (try dsimp only at hSw); (try have hlS := HLK.out _ hSw); obtain ⟨hcS, hfS⟩ := bcell hSw; clear hSw; go_simp; try with_reducible rfl)
    try simp only [Act.put, zA, zB, zC, zD, zE, zF]
    refine wpAnyH_take (i := 20) (v := ?v2_20) rfl (by kernel_rfl) (by kernel_rfl) (by kernel_rfl) (fun _ _ _ h => h) (Or.inl ⟨by rfl, ?y2_20⟩) (by assumption) ?r2_20
    case' y2_20 => (intro w hSw; (try dsimp only at hSw); (try have hlS := HLK.out _ hSw); obtain ⟨hcS, hfS⟩ := bcell hSw; clear hSw; go_simp; try with_reducible rfl)
    try simp only [Act.put, zA, zB, zC, zD, zE, zF]
    refine wpAnyH_done (by kernel_rfl) ?_ _
    go_wp2_with fail
    go_ret
    exact ⟨rfl, Below.to HB0.out hHeld (Nat.le_refl _)⟩
end Go.Proofs.Ytmabfnddedffoaa
/- Names and valid formulas, as the elder program has them: walks. -/
namespace Go.Proofs.Ytmabfnddedffoaa
open Go.RowKit
set_option linter.unusedVariables false
set_option linter.unusedSimpArgs false
set_option maxRecDepth 100000 in
set_option maxHeartbeats 2000000 in
theorem rName_any (s : ByteArray) (w : World) (hs : s.size ≤ maxLen) :
    Calls Try.prog 134 #[.string s] w fun e w' => e = .returned (.bool (namedB s.data.toList)) ∧ w = w' := by
  have hl : s.data.toList.length = s.size := by simp
  by_cases h1 : s.size < 1
  · have hf : namedB s.data.toList = false := by
      unfold namedB; rw [hl]; simp; omega
    have HF := hide hf
    have h2 : (s.size : Int) < 1 := by omega
    clear hf hl h1
    go_enter Try.func134, Try.ntmps134
    go_wp2
    go_ret
    exact ⟨ret_bool HF.out.symm, rfl⟩
  by_cases h2 : 8 < s.size
  · have hf : namedB s.data.toList = false := by
      unfold namedB; rw [hl]; simp; omega
    have HF := hide hf
    have h3 : (8 : Int) < (s.size : Int) := by omega
    have h4 : ¬ (s.size : Int) < 1 := by omega
    clear hf hl h1 h2
    go_enter Try.func134, Try.ntmps134
    go_wp2
    go_ret
    exact ⟨ret_bool HF.out.symm, rfl⟩
  have h3 : ¬ (s.size : Int) < 1 := by omega
  have h4 : ¬ (8 : Int) < (s.size : Int) := by omega
  by_cases hy : s.data.toList = [121, 101, 115]
  · have hf : namedB s.data.toList = false := by unfold namedB; rw [hy]; rfl
    have HF := hide hf
    have hse : s = ⟨#[121, 101, 115]⟩ := by
      obtain ⟨d⟩ := s
      congr 1
      exact Array.toList_inj.1 hy
    subst hse
    clear hf hy hl
    go_enter Try.func134, Try.ntmps134
    go_wp2
    go_ret
    exact ⟨ret_bool HF.out.symm, rfl⟩
  by_cases hn : s.data.toList = [110, 111]
  · have hf : namedB s.data.toList = false := by unfold namedB; rw [hn]; rfl
    have HF := hide hf
    have hse : s = ⟨#[110, 111]⟩ := by
      obtain ⟨d⟩ := s
      congr 1
      exact Array.toList_inj.1 hn
    subst hse
    clear hf hy hn hl
    go_enter Try.func134, Try.ntmps134
    go_wp2
    go_ret
    exact ⟨ret_bool HF.out.symm, rfl⟩
  have hf : namedB s.data.toList = (smN (s.data.toList.getD 0 0) && decide (wordN s.data.toList = s.size)) := by
    unfold namedB
    rw [hl]
    have e1 : decide (1 ≤ s.size) = true := by simp; omega
    have e2 : decide (s.size ≤ 8) = true := by simp; omega
    have e3 : decide (s.data.toList ≠ [121, 101, 115]) = true := by simpa using hy
    have e4 : decide (s.data.toList ≠ [110, 111]) = true := by simpa using hn
    rw [e1, e2, e3, e4]
    simp only [Bool.and_true, Bool.true_and]
  have HF := hide hf
  obtain ⟨k1, _⟩ := str_ne hy
  obtain ⟨k2, _⟩ := str_ne hn
  have hs1 : 1 ≤ s.size := by omega
  have hs2 : s.size ≤ 8 := by omega
  have HL := hide hl
  clear hf hy hn hl h1 h2
  go_enter Try.func134, Try.ntmps134
  go_wp2
  go_loop [3] (fun i => ∃ k : Nat, k ≤ s.size ∧ i = .int .i64 k ∧ Hid (∀ j, j < k → alN (s.data.toList.getD j 0) = true) ∧ Hid (0 < k → smN (s.data.toList.getD 0 0) = true)) (fun i => s.size - (intOf i).toNat)
  case atStart => exact ⟨0, Nat.zero_le _, rfl, fun j hj => by omega, fun h => by omega⟩
  case round =>
    obtain ⟨k, hk, rfl, hall, hsm⟩ := hrel
    by_cases hlt : k < s.size
    · have hgd := getD_str s k hlt
      have hyes : alN s[k] = true → Hid (∀ j, j < k + 1 → alN (s.data.toList.getD j 0) = true) := fun h j hj => by
        rcases Nat.lt_or_ge j k with h1 | h1
        · exact hall.out j h1
        · rw [show j = k from by omega, hgd]; exact h
      have hno : alN s[k] = false → namedB s.data.toList = false := fun h => by
        have h5 := wordN_at s.data.toList k (by simpa using hlt) hall.out (by rw [hgd]; exact h)
        rw [HF.out, h5]
        simp; omega
      have HY := hide hyes
      have HN := hide hno
      have HG := hide hgd
      clear hgd hyes hno
      have hkz : k = 0 ∨ 0 < k := by omega
      by_cases h97 : (s[k].toNat : Int) < 97
      · have d1 : decide (97 ≤ (s[k].toNat : Int)) = false := by simp; omega
        by_cases h48 : (s[k].toNat : Int) < 48
        · have d3 : decide (48 ≤ (s[k].toNat : Int)) = false := by simp; omega
          have HC := hide (HN.out (alN_not (by omega)))
          rcases hkz with hz | hz
          · have h0 : ((k : Int) == 0) = true := by simp [hz]
            clear hz
            go_wp2
            go_ret
            exact ⟨ret_bool HC.out.symm, rfl⟩
          · have h0 : ((k : Int) == 0) = false := by simp; omega
            clear hz
            go_wp2
            go_ret
            exact ⟨ret_bool HC.out.symm, rfl⟩
        · have d3 : decide (48 ≤ (s[k].toNat : Int)) = true := by simp; omega
          by_cases h57 : (57 : Int) < (s[k].toNat : Int)
          · have d4 : decide ((s[k].toNat : Int) ≤ 57) = false := by simp; omega
            have HC := hide (HN.out (alN_not (by omega)))
            rcases hkz with hz | hz
            · have h0 : ((k : Int) == 0) = true := by simp [hz]
              clear hz
              go_wp2
              go_ret
              exact ⟨ret_bool HC.out.symm, rfl⟩
            · have h0 : ((k : Int) == 0) = false := by simp; omega
              clear hz
              go_wp2
              go_ret
              exact ⟨ret_bool HC.out.symm, rfl⟩
          · have d4 : decide ((s[k].toNat : Int) ≤ 57) = true := by simp; omega
            rcases hkz with hz | hz
            · have h0 : ((k : Int) == 0) = true := by simp [hz]
              have hc : namedB s.data.toList = false := by
                have h5 := HG.out
                rw [HF.out]
                subst hz
                rw [h5, smN_not (.inl h97)]
                rfl
              have HC := hide hc
              clear hz hc
              go_wp2
              go_ret
              exact ⟨ret_bool HC.out.symm, rfl⟩
            · have h0 : ((k : Int) == 0) = false := by simp; omega
              have HC := hide (HY.out (alN_of (.inr ⟨by omega, by omega⟩)))
              go_wp2
              go_round
              case rel => exact ⟨k + 1, by omega, by go_num, HC.out, fun _ => hsm.out hz⟩
              case measure => simp [intOf]; omega
      · have d1 : decide (97 ≤ (s[k].toNat : Int)) = true := by simp; omega
        have d3 : decide (48 ≤ (s[k].toNat : Int)) = true := by simp; omega
        have d4 : decide ((s[k].toNat : Int) ≤ 57) = false := by simp; omega
        by_cases h122 : (122 : Int) < (s[k].toNat : Int)
        · have d2 : decide ((s[k].toNat : Int) ≤ 122) = false := by simp; omega
          have HC := hide (HN.out (alN_not (by omega)))
          rcases hkz with hz | hz
          · have h0 : ((k : Int) == 0) = true := by simp [hz]
            clear hz
            go_wp2
            go_ret
            exact ⟨ret_bool HC.out.symm, rfl⟩
          · have h0 : ((k : Int) == 0) = false := by simp; omega
            clear hz
            go_wp2
            go_ret
            exact ⟨ret_bool HC.out.symm, rfl⟩
        · have d2 : decide ((s[k].toNat : Int) ≤ 122) = true := by simp; omega
          have HC := hide (HY.out (alN_of (.inl ⟨by omega, by omega⟩)))
          have hc : Hid (0 < k + 1 → smN (s.data.toList.getD 0 0) = true) := fun _ => by
            rcases hkz with hz | hz
            · subst hz
              rw [HG.out]; exact smN_of (by omega) (by omega)
            · exact hsm.out hz
          clear hkz
          go_wp2
          go_round
          case rel => exact ⟨k + 1, by omega, by go_num, HC.out, hc⟩
          case measure => simp [intOf]; omega
    · have : k = s.size := by omega
      subst this
      have hc : namedB s.data.toList = true := by
        rw [HF.out, hsm.out (by omega), wordN_all _ (by simpa using hall.out), HL.out]
        simp
      have HC := hide hc
      clear hc
      go_wp2
      go_ret
      exact ⟨ret_bool HC.out.symm, rfl⟩
end Go.Proofs.Ytmabfnddedffoaa
/- The end of a term, as the elder program has it: walk. -/
namespace Go.Proofs.Ytmabfnddedffoaa
open Go.RowKit
set_option linter.unusedVariables false
set_option linter.unusedSimpArgs false
/-- How many numbers of l belong to its first c terms. -/
def endN (N : Nat) : Nat → List Int → Option Nat
  | 0, _ => some 0
  | _ + 1, [] => none
  | c + 1, o :: r => if -6 ≤ o ∧ o < N then (endN N (c + arO o) r).map (· + 1) else none
def endR (p : Nat) : Option Nat → Int
  | none => -1
  | some q => (p + q : Nat)
theorem endN_zero (N : Nat) (l : List Int) : endN N 0 l = some 0 := by cases l <;> rfl
theorem endR_succ (p : Nat) (o : Option Nat) : endR p (o.map (· + 1)) = endR (p + 1) o := by
  cases o with
  | none => rfl
  | some q => simp only [Option.map_some, endR]; omega
theorem endN_vld (N : Nat) : ∀ (l : List Int) (c : Nat), (endN N c l == some l.length) = vld N c l
  | [], 0 => rfl
  | [], c + 1 => rfl
  | o :: r, 0 => by simp [endN, vld]
  | o :: r, c + 1 => by
    have ih := endN_vld N r (c + arO o)
    simp only [endN, vld]
    by_cases h : -6 ≤ o ∧ o < N
    · rw [if_pos h]
      have h1 : decide (-6 ≤ o) = true := by simp [h.1]
      have h2 : decide (o < N) = true := by simp [h.2]
      rw [h1, h2, ← ih, Bool.true_and, Bool.true_and]
      cases endN N (c + arO o) r with
      | none => rfl
      | some q => rw [Bool.eq_iff_iff]; simp
    · rw [if_neg h]
      have h1 : (decide (-6 ≤ o) && decide (o < N)) = false := by
        rw [Bool.eq_false_iff]
        intro h2
        apply h
        simpa using h2
      rw [h1, Bool.false_and]
      rfl
theorem endN_end (N : Nat) (l : List Int) : (endR 0 (endN N 1 l) == (l.length : Int)) = vld N 1 l := by
  rw [← endN_vld]
  cases endN N 1 l with
  | none => rw [Bool.eq_iff_iff]; simp [endR]
  | some q => rw [Bool.eq_iff_iff]; simp [endR]; omega
theorem endN_bad {N c : Nat} {o : Int} {r : List Int} (h : ¬ (-6 ≤ o ∧ o < N)) : endN N (c + 1) (o :: r) = none := by
  simp only [endN]; rw [if_neg h]
theorem endN_go {N c : Nat} {o : Int} {r : List Int} (h : -6 ≤ o ∧ o < N) (k : Nat) : endR k (endN N (c + 1) (o :: r)) = endR (k + 1) (endN N (c + arO o) r) := by
  simp only [endN]; rw [if_pos h, endR_succ]
set_option maxRecDepth 100000 in
set_option maxHeartbeats 2000000 in
theorem end_any (f : List Int) (p N : Nat) (v : Value) (B : Nat) (w : World) (hm : f.length ≤ 1000) (hp : p ≤ f.length) (h : Ints w B v f) :
    Calls Try.prog 160 #[v, .int .i64 p, .int .i64 N] w fun e w' => e = .returned (.int .i64 (endR p (endN N 1 (f.drop p)))) ∧ w = w' := by
  obtain ⟨A, b, off, cap, rfl, hnc, hA, hc⟩ := h
  have HC := hide hc
  have HA := hide hA
  clear hc hA
  go_enter Try.func160, Try.ntmps160
  go_wp2
  go_loop [1, 7] (fun i x => ∃ k c : Nat, p ≤ k ∧ k ≤ f.length ∧ c ≤ k + 1 ∧ i = .int .i64 k ∧ x = .int .i64 c ∧ Hid (endR p (endN N 1 (f.drop p)) = endR k (endN N c (f.drop k)))) (fun i _ => f.length - (intOf i).toNat)
  case atStart => exact ⟨p, 1, Nat.le_refl _, hp, by omega, rfl, rfl, rfl⟩
  case round =>
    obtain ⟨k, c, hpk, hk, hck, rfl, rfl, hv⟩ := hrel
    by_cases hlt : k < f.length
    · have j1 : (k : Int) < (f.length : Int) := by omega
      match c, hck, hv with
      | 0, hck, hv =>
        have HV : Hid (endR p (endN N 1 (f.drop p)) = ((k + 0 : Nat) : Int)) := by have h := hv.out; rw [endN_zero] at h; exact h
        clear hv
        go_wp2
        go_ret
        exact ⟨ret_int HV.out.symm, rfl⟩
      | c + 1, hck, hv =>
        obtain ⟨rfl, hbb⟩ : A = some ⟨b, off, none⟩ ∧ b < B := by
          rcases HA.out with h | h
          · exact h
          · omega
        obtain ⟨o, ho⟩ : ∃ o, f.getD k 0 = o := ⟨_, rfl⟩
        have c0 : w.cell? ⟨b, off + k, none⟩ = some (.int .i64 o) := by
          have h1 := HC.out k 0 hlt (by omega)
          rw [Nat.mul_one, Nat.add_zero, ho] at h1
          exact h1
        have j0 : (0 : Int) ≤ (k : Int) := by omega
        have j2 : (0 : Int) < ((c + 1 : Nat) : Int) := by omega
        have hv2 := hv.out
        rw [drop_getD hlt, ho] at hv2
        have HV := hide hv2
        clear hv2 hv ho
        by_cases hN : (N : Int) ≤ o
        · have HE := hide (HV.out.trans (by rw [endN_bad (by omega)]; rfl : _ = (-1 : Int)))
          have d1 : decide ((N : Int) ≤ o) = true := by simp; omega
          go_wp2
          go_ret
          exact ⟨ret_int HE.out.symm, rfl⟩
        · have d1 : decide ((N : Int) ≤ o) = false := by simp; omega
          by_cases h6 : o < -6
          · have HE := hide (HV.out.trans (by rw [endN_bad (by omega)]; rfl : _ = (-1 : Int)))
            have d2 : decide (o < -6) = true := by simp; omega
            go_wp2
            go_ret
            exact ⟨ret_int HE.out.symm, rfl⟩
          · have d2 : decide (o < -6) = false := by simp; omega
            have hg := HV.out.trans (endN_go (by omega) k)
            have HG := hide hg
            clear hg
            rcases (by omega : 0 ≤ o ∨ o = -1 ∨ o = -2 ∨ o = -3 ∨ (o = -4 ∨ o = -5 ∨ o = -6)) with h | h | h | h | h
            · have ha : arO o = 0 := by unfold arO; (repeat' split) <;> omega
              have HA0 := hide ha
              have d3 : decide (0 ≤ o) = true := by simp; omega
              clear ha
              go_wp2
              go_round
              case rel => exact ⟨k + 1, c, by omega, by omega, by omega, by go_num, by go_num, by rw [HG.out, HA0.out]; rfl⟩
              case measure => simp [intOf]; omega
            · have ha : arO o = 0 := by unfold arO; (repeat' split) <;> omega
              have HA0 := hide ha
              have d3 : decide (0 ≤ o) = false := by simp; omega
              have d4 : (o == -1) = true := by simp; omega
              clear ha
              go_wp2
              go_round
              case rel => exact ⟨k + 1, c, by omega, by omega, by omega, by go_num, by go_num, by rw [HG.out, HA0.out]; rfl⟩
              case measure => simp [intOf]; omega
            · have ha : arO o = 0 := by unfold arO; (repeat' split) <;> omega
              have HA0 := hide ha
              have d3 : decide (0 ≤ o) = false := by simp; omega
              have d4 : (o == -1) = false := by simp; omega
              have d5 : (o == -2) = true := by simp; omega
              clear ha
              go_wp2
              go_round
              case rel => exact ⟨k + 1, c, by omega, by omega, by omega, by go_num, by go_num, by rw [HG.out, HA0.out]; rfl⟩
              case measure => simp [intOf]; omega
            · have ha : arO o = 1 := by unfold arO; (repeat' split) <;> omega
              have HA0 := hide ha
              have d3 : decide (0 ≤ o) = false := by simp; omega
              have d4 : (o == -1) = false := by simp; omega
              have d5 : (o == -2) = false := by simp; omega
              have d6 : (!(o == -3)) = false := by simp; omega
              clear ha
              go_wp2
              go_round
              case rel => exact ⟨k + 1, c + 1, by omega, by omega, by omega, by go_num, by go_num, by rw [HG.out, HA0.out]; rfl⟩
              case measure => simp [intOf]; omega
            · have ha : arO o = 2 := by unfold arO; (repeat' split) <;> omega
              have HA0 := hide ha
              have d3 : decide (0 ≤ o) = false := by simp; omega
              have d4 : (o == -1) = false := by simp; omega
              have d5 : (o == -2) = false := by simp; omega
              have d6 : (!(o == -3)) = true := by simp; omega
              clear ha
              go_wp2
              go_round
              case rel => exact ⟨k + 1, c + 2, by omega, by omega, by omega, by go_num, by go_num, by rw [HG.out, HA0.out]; rfl⟩
              case measure => simp [intOf]; omega
    · obtain rfl : k = f.length := by omega
      have hv2 := hv.out
      rw [List.drop_length] at hv2
      have HV2 := hide hv2
      clear hv2 hv
      match c, hck, HV2 with
      | 0, hck, HV2 =>
        have HV := hide (HV2.out : endR p (endN N 1 (f.drop p)) = ((f.length + 0 : Nat) : Int))
        go_wp2
        go_ret
        exact ⟨ret_int HV.out.symm, rfl⟩
      | c + 1, hck, HV2 =>
        have HV := hide (HV2.out : endR p (endN N 1 (f.drop p)) = (-1 : Int))
        have j2 : (0 : Int) < ((c + 1 : Nat) : Int) := by omega
        go_wp2
        go_ret
        exact ⟨ret_int HV.out.symm, rfl⟩
set_option maxRecDepth 100000 in
set_option maxHeartbeats 1000000 in
theorem rValid_any (f : List Int) (N : Nat) (v : Value) (B : Nat) (w : World) (hm : f.length ≤ maxLen) (h : Ints w B v f) :
    Calls Try.prog 135 #[v, .int .i64 N] w fun e w' => e = .returned (.bool (validF N f)) ∧ w = w' := by
  have H := hide h
  obtain ⟨A, cap, rfl⟩ := Sl.form h
  clear h
  by_cases h100 : f.length ≤ 100
  · have d1 : decide ((f.length : Int) ≤ 100) = true := by simp; omega
    by_cases h0 : f.length = 0
    · have d2 : decide ((0 : Int) < (f.length : Int)) = false := decide_eq_false (by omega)
      have hf : validF N f = false := by
        obtain rfl := List.eq_nil_of_length_eq_zero h0
        rfl
      have HF := hide hf
      clear hf
      go_enter Try.func135, Try.ntmps135
      go_wp2_with fail
      go_ret
      exact ⟨ret_bool HF.out.symm, rfl⟩
    · have d2 : decide ((0 : Int) < (f.length : Int)) = true := decide_eq_true (by omega)
      have hf : validF N f = (endR 0 (endN N 1 f) == (f.length : Int)) := by
        rw [endN_end]
        unfold validF
        have : decide (f.length ≤ 100) = true := by simp [h100]
        rw [this, Bool.and_true]
      have he := end_any f 0 N (.slice A f.length cap) B w (by omega) (Nat.zero_le _) H.out
      rw [List.drop_zero] at he
      obtain ⟨z, hz⟩ : ∃ z, endR 0 (endN N 1 f) = z := ⟨_, rfl⟩
      rw [hz] at he hf
      have HF := hide hf
      have HE := hide he
      clear hf he hz
      go_enter Try.func135, Try.ntmps135
      go_wp2_with (go_at_call 160; refine HE.out.mono ?_; rintro e w1 ⟨rfl, rfl⟩)
      go_ret
      exact ⟨ret_bool (by rw [HF.out]), rfl⟩
  · have d1 : decide ((f.length : Int) ≤ 100) = false := by simp; omega
    have hf : validF N f = false := by
      unfold validF
      have : decide (f.length ≤ 100) = false := by simp; omega
      rw [this, Bool.and_false]
    have HF := hide hf
    clear hf
    go_enter Try.func135, Try.ntmps135
    go_wp2_with fail
    go_ret
    exact ⟨ret_bool HF.out.symm, rfl⟩
end Go.Proofs.Ytmabfnddedffoaa

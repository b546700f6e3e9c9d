/- Whether a knot may lead to a place: walks. -/
import Derived.Test.YtohofcmikfkilaaRows
import Derived.Test.YtohofcmikfkilaaF26
import Derived.Deep.RegionHeld3
import Derived.Deep.DrawnRows
namespace Go.Proofs.Ytohofcmikfkilaa
open Go.RowKit
set_option linter.unusedVariables false
set_option linter.unusedSimpArgs false
theorem goB_one (ks : List Kt) (k : Nat) (o : Int) : goB ks k o (-1) = true := rfl
theorem goB_two (ks : List Kt) (k : Nat) (o : Int) : goB ks k o (-2) = true := rfl
theorem goB_neg {ks : List Kt} {k : Nat} {o q : Int} (h1 : q ≠ -1) (h2 : q ≠ -2) (h : q < 0) : goB ks k o q = false := by
  unfold goB
  have a1 : (q == -1) = false := by simpa using h1
  have a2 : (q == -2) = false := by simpa using h2
  have a3 : decide (0 ≤ q) = false := by simp; omega
  rw [a1, a2, a3]; rfl
theorem goB_nat {ks : List Kt} {k t : Nat} {o : Int} : goB ks k o t = (decide ((t : Int) < k) && decide (o < (ks.getD t Kt.z).o)) := by
  unfold goB
  have a1 : ((t : Int) == -1) = false := by rw [beq_eq_false_iff_ne]; omega
  have a2 : ((t : Int) == -2) = false := by rw [beq_eq_false_iff_ne]; omega
  have a3 : decide (0 ≤ (t : Int)) = true := by simp
  rw [a1, a2, a3, Int.toNat_natCast]; simp
set_option maxRecDepth 100000 in
set_option maxHeartbeats 4000000 in
theorem leads_any (ks : List Kt) (i : Nat) (q : Int) (A Ar : Option Addr) (n cap nr capr : Nat) (kv : Value) (w : World) (hi : i < ks.length) (h : Kts w w.heap.size kv ks) :
    Calls Try.prog 77 #[.agg #[.slice A n cap, .slice Ar nr capr], kv, .int .i64 i, .int .i64 q] w fun e w' => e = .returned (.bool (goB ks i (ks.getD i Kt.z).o q)) ∧ Below w.heap.size w w' := by
  obtain ⟨Ak, b, off, capk, rfl, hnc, hA, hc⟩ := h
  obtain ⟨rfl, hb, p0, _, _⟩ := kAt hA hc hi
  obtain ⟨o, ho⟩ : ∃ o, (ks.getD i Kt.z).o = o := ⟨_, rfl⟩
  rw [ho] at p0 ⊢
  have HC := hide hc
  have HP := hide p0
  have i0 : (0 : Int) ≤ (i : Int) := by omega
  have i1 : (i : Int) < (ks.length : Int) := by omega
  clear hA hc ho p0
  by_cases h1 : q = -1
  · subst h1
    go_enter Try.func77, Try.ntmps77
    go_upto_region 1 with (fail)
    generalize hw0 : World.alloc _ _ = w0
    obtain ⟨hb0, hB0, hs0⟩ := alloc1 hw0
    clear hw0
    have HB0 := hide hB0
    clear hb0 hB0 hs0
    refine wp_region_held_drew (S := (fun w' => Below w0.heap.size w0 w')) (by kernel_rfl) ?_ (fun hHeld => ?_)
    · try dsimp only
      exact (by repeat (first | exact Below.refl _ _ | assumption | refine Below.drew ?_ | refine Below.drewN ?_ _ | refine Below.allocT ?_ (Nat.le_refl _) _ | refine Below.setCell ?_ (by simp <;> omega) _ | refine Below.to ?_ (by assumption) (Nat.le_refl _)))
    refine wpAnyH_take (i := 0) (v := ?v1_0) rfl (by kernel_rfl) (by kernel_rfl) (by kernel_rfl) (fun _ _ _ h => h) (Or.inl ⟨by rfl, ?y1_0⟩) (by assumption) ?r1_0
    case' y1_0 => (intro w hSw; (try dsimp only at hSw); (try have hlS := HLK.out _ hSw); obtain ⟨hcS, hfS⟩ := bcell hSw; clear hSw; go_simp; try with_reducible rfl)
    try simp only [Act.put, List.getElem_toArray, List.getElem_cons_succ, List.getElem_cons_zero, List.setIfInBounds_toArray, List.set_cons_zero, List.set_cons_succ]
    refine wpAnyH_take (i := 1) (v := ?v1_1) rfl (by kernel_rfl) (by kernel_rfl) (by kernel_rfl) (fun _ _ _ h => h) (Or.inl ⟨by rfl, ?y1_1⟩) (by assumption) ?r1_1
    case' y1_1 => (intro w hSw; (try dsimp only at hSw); (try have hlS := HLK.out _ hSw); obtain ⟨hcS, hfS⟩ := bcell hSw; clear hSw; go_simp; try with_reducible rfl)
    try simp only [Act.put, List.getElem_toArray, List.getElem_cons_succ, List.getElem_cons_zero, List.setIfInBounds_toArray, List.set_cons_zero, List.set_cons_succ]
    refine wpAnyH_take (i := 2) (v := ?v1_2) rfl (by kernel_rfl) (by kernel_rfl) (by kernel_rfl) (fun _ _ _ h => h) (Or.inl ⟨by rfl, ?y1_2⟩) (by assumption) ?r1_2
    case' y1_2 => (intro w hSw; (try dsimp only at hSw); (try have hlS := HLK.out _ hSw); obtain ⟨hcS, hfS⟩ := bcell hSw; clear hSw; go_simp; try with_reducible rfl)
    try simp only [Act.put, List.getElem_toArray, List.getElem_cons_succ, List.getElem_cons_zero, List.setIfInBounds_toArray, List.set_cons_zero, List.set_cons_succ]
    refine wpAnyH_take (i := 3) (v := undef) rfl (by kernel_rfl) (by kernel_rfl) (by kernel_rfl) (fun _ _ _ h => h) (Or.inr ⟨?w1_3, rfl⟩) (by assumption) ?r1_3
    case' w1_3 => first | rfl | (simp [Region.wanted, yielded, *]; done)
    try simp only [Act.put, List.getElem_toArray, List.getElem_cons_succ, List.getElem_cons_zero, List.setIfInBounds_toArray, List.set_cons_zero, List.set_cons_succ]
    refine wpAnyH_take (i := 4) (v := undef) rfl (by kernel_rfl) (by kernel_rfl) (by kernel_rfl) (fun _ _ _ h => h) (Or.inr ⟨?w1_4, rfl⟩) (by assumption) ?r1_4
    case' w1_4 => first | rfl | (simp [Region.wanted, yielded, *]; done)
    try simp only [Act.put, List.getElem_toArray, List.getElem_cons_succ, List.getElem_cons_zero, List.setIfInBounds_toArray, List.set_cons_zero, List.set_cons_succ]
    refine wpAnyH_take (i := 5) (v := ?v1_5) rfl (by kernel_rfl) (by kernel_rfl) (by kernel_rfl) (fun _ _ _ h => h) (Or.inl ⟨by rfl, ?y1_5⟩) (by assumption) ?r1_5
    case' y1_5 => (intro w hSw; (try dsimp only at hSw); (try have hlS := HLK.out _ hSw); obtain ⟨hcS, hfS⟩ := bcell hSw; clear hSw; go_simp; try with_reducible rfl)
    try simp only [Act.put, List.getElem_toArray, List.getElem_cons_succ, List.getElem_cons_zero, List.setIfInBounds_toArray, List.set_cons_zero, List.set_cons_succ]
    refine wpAnyH_take (i := 6) (v := ?v1_6) rfl (by kernel_rfl) (by kernel_rfl) (by kernel_rfl) (fun _ _ _ h => h) (Or.inl ⟨by rfl, ?y1_6⟩) (by assumption) ?r1_6
    case' y1_6 => (intro w hSw; (try dsimp only at hSw); (try have hlS := HLK.out _ hSw); obtain ⟨hcS, hfS⟩ := bcell hSw; clear hSw; go_simp; try with_reducible rfl)
    try simp only [Act.put, List.getElem_toArray, List.getElem_cons_succ, List.getElem_cons_zero, List.setIfInBounds_toArray, List.set_cons_zero, List.set_cons_succ]
    refine wpAnyH_take (i := 7) (v := undef) rfl (by kernel_rfl) (by kernel_rfl) (by kernel_rfl) (fun _ _ _ h => h) (Or.inr ⟨?w1_7, rfl⟩) (by assumption) ?r1_7
    case' w1_7 => first | rfl | (simp [Region.wanted, yielded, *]; done)
    try simp only [Act.put, List.getElem_toArray, List.getElem_cons_succ, List.getElem_cons_zero, List.setIfInBounds_toArray, List.set_cons_zero, List.set_cons_succ]
    refine wpAnyH_take (i := 8) (v := undef) rfl (by kernel_rfl) (by kernel_rfl) (by kernel_rfl) (fun _ _ _ h => h) (Or.inr ⟨?w1_8, rfl⟩) (by assumption) ?r1_8
    case' w1_8 => first | rfl | (simp [Region.wanted, yielded, *]; done)
    try simp only [Act.put, List.getElem_toArray, List.getElem_cons_succ, List.getElem_cons_zero, List.setIfInBounds_toArray, List.set_cons_zero, List.set_cons_succ]
    refine wpAnyH_take (i := 9) (v := undef) rfl (by kernel_rfl) (by kernel_rfl) (by kernel_rfl) (fun _ _ _ h => h) (Or.inr ⟨?w1_9, rfl⟩) (by assumption) ?r1_9
    case' w1_9 => first | rfl | (simp [Region.wanted, yielded, *]; done)
    try simp only [Act.put, List.getElem_toArray, List.getElem_cons_succ, List.getElem_cons_zero, List.setIfInBounds_toArray, List.set_cons_zero, List.set_cons_succ]
    refine wpAnyH_take (i := 10) (v := undef) rfl (by kernel_rfl) (by kernel_rfl) (by kernel_rfl) (fun _ _ _ h => h) (Or.inr ⟨?w1_10, rfl⟩) (by assumption) ?r1_10
    case' w1_10 => first | rfl | (simp [Region.wanted, yielded, *]; done)
    try simp only [Act.put, List.getElem_toArray, List.getElem_cons_succ, List.getElem_cons_zero, List.setIfInBounds_toArray, List.set_cons_zero, List.set_cons_succ]
    refine wpAnyH_take (i := 11) (v := undef) rfl (by kernel_rfl) (by kernel_rfl) (by kernel_rfl) (fun _ _ _ h => h) (Or.inr ⟨?w1_11, rfl⟩) (by assumption) ?r1_11
    case' w1_11 => first | rfl | (simp [Region.wanted, yielded, *]; done)
    try simp only [Act.put, List.getElem_toArray, List.getElem_cons_succ, List.getElem_cons_zero, List.setIfInBounds_toArray, List.set_cons_zero, List.set_cons_succ]
    refine wpAnyH_take (i := 12) (v := undef) rfl (by kernel_rfl) (by kernel_rfl) (by kernel_rfl) (fun _ _ _ h => h) (Or.inr ⟨?w1_12, rfl⟩) (by assumption) ?r1_12
    case' w1_12 => first | rfl | (simp [Region.wanted, yielded, *]; done)
    try simp only [Act.put, List.getElem_toArray, List.getElem_cons_succ, List.getElem_cons_zero, List.setIfInBounds_toArray, List.set_cons_zero, List.set_cons_succ]
    refine wpAnyH_take (i := 13) (v := undef) rfl (by kernel_rfl) (by kernel_rfl) (by kernel_rfl) (fun _ _ _ h => h) (Or.inr ⟨?w1_13, rfl⟩) (by assumption) ?r1_13
    case' w1_13 => first | rfl | (simp [Region.wanted, yielded, *]; done)
    try simp only [Act.put, List.getElem_toArray, List.getElem_cons_succ, List.getElem_cons_zero, List.setIfInBounds_toArray, List.set_cons_zero, List.set_cons_succ]
    refine wpAnyH_take (i := 14) (v := undef) rfl (by kernel_rfl) (by kernel_rfl) (by kernel_rfl) (fun _ _ _ h => h) (Or.inr ⟨?w1_14, rfl⟩) (by assumption) ?r1_14
    case' w1_14 => first | rfl | (simp [Region.wanted, yielded, *]; done)
    try simp only [Act.put, List.getElem_toArray, List.getElem_cons_succ, List.getElem_cons_zero, List.setIfInBounds_toArray, List.set_cons_zero, List.set_cons_succ]
    refine wpAnyH_take (i := 15) (v := undef) rfl (by kernel_rfl) (by kernel_rfl) (by kernel_rfl) (fun _ _ _ h => h) (Or.inr ⟨?w1_15, rfl⟩) (by assumption) ?r1_15
    case' w1_15 => first | rfl | (simp [Region.wanted, yielded, *]; done)
    try simp only [Act.put, List.getElem_toArray, List.getElem_cons_succ, List.getElem_cons_zero, List.setIfInBounds_toArray, List.set_cons_zero, List.set_cons_succ]
    refine wpAnyH_take (i := 16) (v := undef) rfl (by kernel_rfl) (by kernel_rfl) (by kernel_rfl) (fun _ _ _ h => h) (Or.inr ⟨?w1_16, rfl⟩) (by assumption) ?r1_16
    case' w1_16 => first | rfl | (simp [Region.wanted, yielded, *]; done)
    try simp only [Act.put, List.getElem_toArray, List.getElem_cons_succ, List.getElem_cons_zero, List.setIfInBounds_toArray, List.set_cons_zero, List.set_cons_succ]
    refine wpAnyH_take (i := 17) (v := undef) rfl (by kernel_rfl) (by kernel_rfl) (by kernel_rfl) (fun _ _ _ h => h) (Or.inr ⟨?w1_17, rfl⟩) (by assumption) ?r1_17
    case' w1_17 => first | rfl | (simp [Region.wanted, yielded, *]; done)
    try simp only [Act.put, List.getElem_toArray, List.getElem_cons_succ, List.getElem_cons_zero, List.setIfInBounds_toArray, List.set_cons_zero, List.set_cons_succ]
    refine wpAnyH_take (i := 18) (v := undef) rfl (by kernel_rfl) (by kernel_rfl) (by kernel_rfl) (fun _ _ _ h => h) (Or.inr ⟨?w1_18, rfl⟩) (by assumption) ?r1_18
    case' w1_18 => first | rfl | (simp [Region.wanted, yielded, *]; done)
    try simp only [Act.put, List.getElem_toArray, List.getElem_cons_succ, List.getElem_cons_zero, List.setIfInBounds_toArray, List.set_cons_zero, List.set_cons_succ]
    refine wpAnyH_take (i := 19) (v := undef) rfl (by kernel_rfl) (by kernel_rfl) (by kernel_rfl) (fun _ _ _ h => h) (Or.inr ⟨?w1_19, rfl⟩) (by assumption) ?r1_19
    case' w1_19 => first | rfl | (simp [Region.wanted, yielded, *]; done)
    try simp only [Act.put, List.getElem_toArray, List.getElem_cons_succ, List.getElem_cons_zero, List.setIfInBounds_toArray, List.set_cons_zero, List.set_cons_succ]
    refine wpAnyH_take (i := 20) (v := undef) rfl (by kernel_rfl) (by kernel_rfl) (by kernel_rfl) (fun _ _ _ h => h) (Or.inr ⟨?w1_20, rfl⟩) (by assumption) ?r1_20
    case' w1_20 => first | rfl | (simp [Region.wanted, yielded, *]; done)
    try simp only [Act.put, List.getElem_toArray, List.getElem_cons_succ, List.getElem_cons_zero, List.setIfInBounds_toArray, List.set_cons_zero, List.set_cons_succ]
    refine wpAnyH_take (i := 21) (v := undef) rfl (by kernel_rfl) (by kernel_rfl) (by kernel_rfl) (fun _ _ _ h => h) (Or.inr ⟨?w1_21, rfl⟩) (by assumption) ?r1_21
    case' w1_21 => first | rfl | (simp [Region.wanted, yielded, *]; done)
    try simp only [Act.put, List.getElem_toArray, List.getElem_cons_succ, List.getElem_cons_zero, List.setIfInBounds_toArray, List.set_cons_zero, List.set_cons_succ]
    refine wpAnyH_take (i := 22) (v := undef) rfl (by kernel_rfl) (by kernel_rfl) (by kernel_rfl) (fun _ _ _ h => h) (Or.inr ⟨?w1_22, rfl⟩) (by assumption) ?r1_22
    case' w1_22 => first | rfl | (simp [Region.wanted, yielded, *]; done)
    try simp only [Act.put, List.getElem_toArray, List.getElem_cons_succ, List.getElem_cons_zero, List.setIfInBounds_toArray, List.set_cons_zero, List.set_cons_succ]
    refine wpAnyH_take (i := 23) (v := undef) rfl (by kernel_rfl) (by kernel_rfl) (by kernel_rfl) (fun _ _ _ h => h) (Or.inr ⟨?w1_23, rfl⟩) (by assumption) ?r1_23
    case' w1_23 => first | rfl | (simp [Region.wanted, yielded, *]; done)
    try simp only [Act.put, List.getElem_toArray, List.getElem_cons_succ, List.getElem_cons_zero, List.setIfInBounds_toArray, List.set_cons_zero, List.set_cons_succ]
    refine wpAnyH_take (i := 24) (v := undef) rfl (by kernel_rfl) (by kernel_rfl) (by kernel_rfl) (fun _ _ _ h => h) (Or.inr ⟨?w1_24, rfl⟩) (by assumption) ?r1_24
    case' w1_24 => first | rfl | (simp [Region.wanted, yielded, *]; done)
    try simp only [Act.put, List.getElem_toArray, List.getElem_cons_succ, List.getElem_cons_zero, List.setIfInBounds_toArray, List.set_cons_zero, List.set_cons_succ]
    refine wpAnyH_take (i := 25) (v := undef) rfl (by kernel_rfl) (by kernel_rfl) (by kernel_rfl) (fun _ _ _ h => h) (Or.inr ⟨?w1_25, rfl⟩) (by assumption) ?r1_25
    case' w1_25 => first | rfl | (simp [Region.wanted, yielded, *]; done)
    try simp only [Act.put, List.getElem_toArray, List.getElem_cons_succ, List.getElem_cons_zero, List.setIfInBounds_toArray, List.set_cons_zero, List.set_cons_succ]
    refine wpAnyH_take (i := 26) (v := undef) rfl (by kernel_rfl) (by kernel_rfl) (by kernel_rfl) (fun _ _ _ h => h) (Or.inr ⟨?w1_26, rfl⟩) (by assumption) ?r1_26
    case' w1_26 => first | rfl | (simp [Region.wanted, yielded, *]; done)
    try simp only [Act.put, List.getElem_toArray, List.getElem_cons_succ, List.getElem_cons_zero, List.setIfInBounds_toArray, List.set_cons_zero, List.set_cons_succ]
    refine wpAnyH_take (i := 27) (v := ?v1_27) rfl (by kernel_rfl) (by kernel_rfl) (by kernel_rfl) (fun _ _ _ h => h) (Or.inl ⟨by rfl, ?y1_27⟩) (by assumption) ?r1_27
    case' y1_27 => (intro w hSw; (try dsimp only at hSw); (try have hlS := HLK.out _ hSw); obtain ⟨hcS, hfS⟩ := bcell hSw; clear hSw; go_simp; try with_reducible rfl)
    try simp only [Act.put, List.getElem_toArray, List.getElem_cons_succ, List.getElem_cons_zero, List.setIfInBounds_toArray, List.set_cons_zero, List.set_cons_succ]
    refine wpAnyH_take (i := 28) (v := ?v1_28) rfl (by kernel_rfl) (by kernel_rfl) (by kernel_rfl) (fun _ _ _ h => h) (Or.inl ⟨by rfl, ?y1_28⟩) (by assumption) ?r1_28
    case' y1_28 => (intro w hSw; (try dsimp only at hSw); (try have hlS := HLK.out _ hSw); obtain ⟨hcS, hfS⟩ := bcell hSw; clear hSw; go_simp; try with_reducible rfl)
    try simp only [Act.put, List.getElem_toArray, List.getElem_cons_succ, List.getElem_cons_zero, List.setIfInBounds_toArray, List.set_cons_zero, List.set_cons_succ]
    refine wpAnyH_done (by kernel_rfl) ?_ _
    go_wp2_with fail
    go_ret
    exact ⟨rfl, Below.to HB0.out hHeld (Nat.le_refl _)⟩
  by_cases h2 : q = -2
  · subst h2
    go_enter Try.func77, Try.ntmps77
    go_upto_region 1 with (fail)
    generalize hw0 : World.alloc _ _ = w0
    obtain ⟨hb0, hB0, hs0⟩ := alloc1 hw0
    clear hw0
    have HB0 := hide hB0
    clear hb0 hB0 hs0
    refine wp_region_held_drew (S := (fun w' => Below w0.heap.size w0 w')) (by kernel_rfl) ?_ (fun hHeld => ?_)
    · try dsimp only
      exact (by repeat (first | exact Below.refl _ _ | assumption | refine Below.drew ?_ | refine Below.drewN ?_ _ | refine Below.allocT ?_ (Nat.le_refl _) _ | refine Below.setCell ?_ (by simp <;> omega) _ | refine Below.to ?_ (by assumption) (Nat.le_refl _)))
    refine wpAnyH_take (i := 0) (v := ?v2_0) rfl (by kernel_rfl) (by kernel_rfl) (by kernel_rfl) (fun _ _ _ h => h) (Or.inl ⟨by rfl, ?y2_0⟩) (by assumption) ?r2_0
    case' y2_0 => (intro w hSw; (try dsimp only at hSw); (try have hlS := HLK.out _ hSw); obtain ⟨hcS, hfS⟩ := bcell hSw; clear hSw; go_simp; try with_reducible rfl)
    try simp only [Act.put, List.getElem_toArray, List.getElem_cons_succ, List.getElem_cons_zero, List.setIfInBounds_toArray, List.set_cons_zero, List.set_cons_succ]
    refine wpAnyH_take (i := 1) (v := ?v2_1) rfl (by kernel_rfl) (by kernel_rfl) (by kernel_rfl) (fun _ _ _ h => h) (Or.inl ⟨by rfl, ?y2_1⟩) (by assumption) ?r2_1
    case' y2_1 => (intro w hSw; (try dsimp only at hSw); (try have hlS := HLK.out _ hSw); obtain ⟨hcS, hfS⟩ := bcell hSw; clear hSw; go_simp; try with_reducible rfl)
    try simp only [Act.put, List.getElem_toArray, List.getElem_cons_succ, List.getElem_cons_zero, List.setIfInBounds_toArray, List.set_cons_zero, List.set_cons_succ]
    refine wpAnyH_take (i := 2) (v := ?v2_2) rfl (by kernel_rfl) (by kernel_rfl) (by kernel_rfl) (fun _ _ _ h => h) (Or.inl ⟨by rfl, ?y2_2⟩) (by assumption) ?r2_2
    case' y2_2 => (intro w hSw; (try dsimp only at hSw); (try have hlS := HLK.out _ hSw); obtain ⟨hcS, hfS⟩ := bcell hSw; clear hSw; go_simp; try with_reducible rfl)
    try simp only [Act.put, List.getElem_toArray, List.getElem_cons_succ, List.getElem_cons_zero, List.setIfInBounds_toArray, List.set_cons_zero, List.set_cons_succ]
    refine wpAnyH_take (i := 3) (v := ?v2_3) rfl (by kernel_rfl) (by kernel_rfl) (by kernel_rfl) (fun _ _ _ h => h) (Or.inl ⟨by rfl, ?y2_3⟩) (by assumption) ?r2_3
    case' y2_3 => (intro w hSw; (try dsimp only at hSw); (try have hlS := HLK.out _ hSw); obtain ⟨hcS, hfS⟩ := bcell hSw; clear hSw; go_simp; try with_reducible rfl)
    try simp only [Act.put, List.getElem_toArray, List.getElem_cons_succ, List.getElem_cons_zero, List.setIfInBounds_toArray, List.set_cons_zero, List.set_cons_succ]
    refine wpAnyH_take (i := 4) (v := ?v2_4) rfl (by kernel_rfl) (by kernel_rfl) (by kernel_rfl) (fun _ _ _ h => h) (Or.inl ⟨by rfl, ?y2_4⟩) (by assumption) ?r2_4
    case' y2_4 => (intro w hSw; (try dsimp only at hSw); (try have hlS := HLK.out _ hSw); obtain ⟨hcS, hfS⟩ := bcell hSw; clear hSw; go_simp; try with_reducible rfl)
    try simp only [Act.put, List.getElem_toArray, List.getElem_cons_succ, List.getElem_cons_zero, List.setIfInBounds_toArray, List.set_cons_zero, List.set_cons_succ]
    refine wpAnyH_take (i := 5) (v := ?v2_5) rfl (by kernel_rfl) (by kernel_rfl) (by kernel_rfl) (fun _ _ _ h => h) (Or.inl ⟨by rfl, ?y2_5⟩) (by assumption) ?r2_5
    case' y2_5 => (intro w hSw; (try dsimp only at hSw); (try have hlS := HLK.out _ hSw); obtain ⟨hcS, hfS⟩ := bcell hSw; clear hSw; go_simp; try with_reducible rfl)
    try simp only [Act.put, List.getElem_toArray, List.getElem_cons_succ, List.getElem_cons_zero, List.setIfInBounds_toArray, List.set_cons_zero, List.set_cons_succ]
    refine wpAnyH_take (i := 6) (v := ?v2_6) rfl (by kernel_rfl) (by kernel_rfl) (by kernel_rfl) (fun _ _ _ h => h) (Or.inl ⟨by rfl, ?y2_6⟩) (by assumption) ?r2_6
    case' y2_6 => (intro w hSw; (try dsimp only at hSw); (try have hlS := HLK.out _ hSw); obtain ⟨hcS, hfS⟩ := bcell hSw; clear hSw; go_simp; try with_reducible rfl)
    try simp only [Act.put, List.getElem_toArray, List.getElem_cons_succ, List.getElem_cons_zero, List.setIfInBounds_toArray, List.set_cons_zero, List.set_cons_succ]
    refine wpAnyH_take (i := 7) (v := undef) rfl (by kernel_rfl) (by kernel_rfl) (by kernel_rfl) (fun _ _ _ h => h) (Or.inr ⟨?w2_7, rfl⟩) (by assumption) ?r2_7
    case' w2_7 => first | rfl | (simp [Region.wanted, yielded, *]; done)
    try simp only [Act.put, List.getElem_toArray, List.getElem_cons_succ, List.getElem_cons_zero, List.setIfInBounds_toArray, List.set_cons_zero, List.set_cons_succ]
    refine wpAnyH_take (i := 8) (v := undef) rfl (by kernel_rfl) (by kernel_rfl) (by kernel_rfl) (fun _ _ _ h => h) (Or.inr ⟨?w2_8, rfl⟩) (by assumption) ?r2_8
    case' w2_8 => first | rfl | (simp [Region.wanted, yielded, *]; done)
    try simp only [Act.put, List.getElem_toArray, List.getElem_cons_succ, List.getElem_cons_zero, List.setIfInBounds_toArray, List.set_cons_zero, List.set_cons_succ]
    refine wpAnyH_take (i := 9) (v := undef) rfl (by kernel_rfl) (by kernel_rfl) (by kernel_rfl) (fun _ _ _ h => h) (Or.inr ⟨?w2_9, rfl⟩) (by assumption) ?r2_9
    case' w2_9 => first | rfl | (simp [Region.wanted, yielded, *]; done)
    try simp only [Act.put, List.getElem_toArray, List.getElem_cons_succ, List.getElem_cons_zero, List.setIfInBounds_toArray, List.set_cons_zero, List.set_cons_succ]
    refine wpAnyH_take (i := 10) (v := undef) rfl (by kernel_rfl) (by kernel_rfl) (by kernel_rfl) (fun _ _ _ h => h) (Or.inr ⟨?w2_10, rfl⟩) (by assumption) ?r2_10
    case' w2_10 => first | rfl | (simp [Region.wanted, yielded, *]; done)
    try simp only [Act.put, List.getElem_toArray, List.getElem_cons_succ, List.getElem_cons_zero, List.setIfInBounds_toArray, List.set_cons_zero, List.set_cons_succ]
    refine wpAnyH_take (i := 11) (v := undef) rfl (by kernel_rfl) (by kernel_rfl) (by kernel_rfl) (fun _ _ _ h => h) (Or.inr ⟨?w2_11, rfl⟩) (by assumption) ?r2_11
    case' w2_11 => first | rfl | (simp [Region.wanted, yielded, *]; done)
    try simp only [Act.put, List.getElem_toArray, List.getElem_cons_succ, List.getElem_cons_zero, List.setIfInBounds_toArray, List.set_cons_zero, List.set_cons_succ]
    refine wpAnyH_take (i := 12) (v := undef) rfl (by kernel_rfl) (by kernel_rfl) (by kernel_rfl) (fun _ _ _ h => h) (Or.inr ⟨?w2_12, rfl⟩) (by assumption) ?r2_12
    case' w2_12 => first | rfl | (simp [Region.wanted, yielded, *]; done)
    try simp only [Act.put, List.getElem_toArray, List.getElem_cons_succ, List.getElem_cons_zero, List.setIfInBounds_toArray, List.set_cons_zero, List.set_cons_succ]
    refine wpAnyH_take (i := 13) (v := undef) rfl (by kernel_rfl) (by kernel_rfl) (by kernel_rfl) (fun _ _ _ h => h) (Or.inr ⟨?w2_13, rfl⟩) (by assumption) ?r2_13
    case' w2_13 => first | rfl | (simp [Region.wanted, yielded, *]; done)
    try simp only [Act.put, List.getElem_toArray, List.getElem_cons_succ, List.getElem_cons_zero, List.setIfInBounds_toArray, List.set_cons_zero, List.set_cons_succ]
    refine wpAnyH_take (i := 14) (v := undef) rfl (by kernel_rfl) (by kernel_rfl) (by kernel_rfl) (fun _ _ _ h => h) (Or.inr ⟨?w2_14, rfl⟩) (by assumption) ?r2_14
    case' w2_14 => first | rfl | (simp [Region.wanted, yielded, *]; done)
    try simp only [Act.put, List.getElem_toArray, List.getElem_cons_succ, List.getElem_cons_zero, List.setIfInBounds_toArray, List.set_cons_zero, List.set_cons_succ]
    refine wpAnyH_take (i := 15) (v := undef) rfl (by kernel_rfl) (by kernel_rfl) (by kernel_rfl) (fun _ _ _ h => h) (Or.inr ⟨?w2_15, rfl⟩) (by assumption) ?r2_15
    case' w2_15 => first | rfl | (simp [Region.wanted, yielded, *]; done)
    try simp only [Act.put, List.getElem_toArray, List.getElem_cons_succ, List.getElem_cons_zero, List.setIfInBounds_toArray, List.set_cons_zero, List.set_cons_succ]
    refine wpAnyH_take (i := 16) (v := undef) rfl (by kernel_rfl) (by kernel_rfl) (by kernel_rfl) (fun _ _ _ h => h) (Or.inr ⟨?w2_16, rfl⟩) (by assumption) ?r2_16
    case' w2_16 => first | rfl | (simp [Region.wanted, yielded, *]; done)
    try simp only [Act.put, List.getElem_toArray, List.getElem_cons_succ, List.getElem_cons_zero, List.setIfInBounds_toArray, List.set_cons_zero, List.set_cons_succ]
    refine wpAnyH_take (i := 17) (v := undef) rfl (by kernel_rfl) (by kernel_rfl) (by kernel_rfl) (fun _ _ _ h => h) (Or.inr ⟨?w2_17, rfl⟩) (by assumption) ?r2_17
    case' w2_17 => first | rfl | (simp [Region.wanted, yielded, *]; done)
    try simp only [Act.put, List.getElem_toArray, List.getElem_cons_succ, List.getElem_cons_zero, List.setIfInBounds_toArray, List.set_cons_zero, List.set_cons_succ]
    refine wpAnyH_take (i := 18) (v := undef) rfl (by kernel_rfl) (by kernel_rfl) (by kernel_rfl) (fun _ _ _ h => h) (Or.inr ⟨?w2_18, rfl⟩) (by assumption) ?r2_18
    case' w2_18 => first | rfl | (simp [Region.wanted, yielded, *]; done)
    try simp only [Act.put, List.getElem_toArray, List.getElem_cons_succ, List.getElem_cons_zero, List.setIfInBounds_toArray, List.set_cons_zero, List.set_cons_succ]
    refine wpAnyH_take (i := 19) (v := undef) rfl (by kernel_rfl) (by kernel_rfl) (by kernel_rfl) (fun _ _ _ h => h) (Or.inr ⟨?w2_19, rfl⟩) (by assumption) ?r2_19
    case' w2_19 => first | rfl | (simp [Region.wanted, yielded, *]; done)
    try simp only [Act.put, List.getElem_toArray, List.getElem_cons_succ, List.getElem_cons_zero, List.setIfInBounds_toArray, List.set_cons_zero, List.set_cons_succ]
    refine wpAnyH_take (i := 20) (v := undef) rfl (by kernel_rfl) (by kernel_rfl) (by kernel_rfl) (fun _ _ _ h => h) (Or.inr ⟨?w2_20, rfl⟩) (by assumption) ?r2_20
    case' w2_20 => first | rfl | (simp [Region.wanted, yielded, *]; done)
    try simp only [Act.put, List.getElem_toArray, List.getElem_cons_succ, List.getElem_cons_zero, List.setIfInBounds_toArray, List.set_cons_zero, List.set_cons_succ]
    refine wpAnyH_take (i := 21) (v := undef) rfl (by kernel_rfl) (by kernel_rfl) (by kernel_rfl) (fun _ _ _ h => h) (Or.inr ⟨?w2_21, rfl⟩) (by assumption) ?r2_21
    case' w2_21 => first | rfl | (simp [Region.wanted, yielded, *]; done)
    try simp only [Act.put, List.getElem_toArray, List.getElem_cons_succ, List.getElem_cons_zero, List.setIfInBounds_toArray, List.set_cons_zero, List.set_cons_succ]
    refine wpAnyH_take (i := 22) (v := undef) rfl (by kernel_rfl) (by kernel_rfl) (by kernel_rfl) (fun _ _ _ h => h) (Or.inr ⟨?w2_22, rfl⟩) (by assumption) ?r2_22
    case' w2_22 => first | rfl | (simp [Region.wanted, yielded, *]; done)
    try simp only [Act.put, List.getElem_toArray, List.getElem_cons_succ, List.getElem_cons_zero, List.setIfInBounds_toArray, List.set_cons_zero, List.set_cons_succ]
    refine wpAnyH_take (i := 23) (v := undef) rfl (by kernel_rfl) (by kernel_rfl) (by kernel_rfl) (fun _ _ _ h => h) (Or.inr ⟨?w2_23, rfl⟩) (by assumption) ?r2_23
    case' w2_23 => first | rfl | (simp [Region.wanted, yielded, *]; done)
    try simp only [Act.put, List.getElem_toArray, List.getElem_cons_succ, List.getElem_cons_zero, List.setIfInBounds_toArray, List.set_cons_zero, List.set_cons_succ]
    refine wpAnyH_take (i := 24) (v := undef) rfl (by kernel_rfl) (by kernel_rfl) (by kernel_rfl) (fun _ _ _ h => h) (Or.inr ⟨?w2_24, rfl⟩) (by assumption) ?r2_24
    case' w2_24 => first | rfl | (simp [Region.wanted, yielded, *]; done)
    try simp only [Act.put, List.getElem_toArray, List.getElem_cons_succ, List.getElem_cons_zero, List.setIfInBounds_toArray, List.set_cons_zero, List.set_cons_succ]
    refine wpAnyH_take (i := 25) (v := undef) rfl (by kernel_rfl) (by kernel_rfl) (by kernel_rfl) (fun _ _ _ h => h) (Or.inr ⟨?w2_25, rfl⟩) (by assumption) ?r2_25
    case' w2_25 => first | rfl | (simp [Region.wanted, yielded, *]; done)
    try simp only [Act.put, List.getElem_toArray, List.getElem_cons_succ, List.getElem_cons_zero, List.setIfInBounds_toArray, List.set_cons_zero, List.set_cons_succ]
    refine wpAnyH_take (i := 26) (v := undef) rfl (by kernel_rfl) (by kernel_rfl) (by kernel_rfl) (fun _ _ _ h => h) (Or.inr ⟨?w2_26, rfl⟩) (by assumption) ?r2_26
    case' w2_26 => first | rfl | (simp [Region.wanted, yielded, *]; done)
    try simp only [Act.put, List.getElem_toArray, List.getElem_cons_succ, List.getElem_cons_zero, List.setIfInBounds_toArray, List.set_cons_zero, List.set_cons_succ]
    refine wpAnyH_take (i := 27) (v := ?v2_27) rfl (by kernel_rfl) (by kernel_rfl) (by kernel_rfl) (fun _ _ _ h => h) (Or.inl ⟨by rfl, ?y2_27⟩) (by assumption) ?r2_27
    case' y2_27 => (intro w hSw; (try dsimp only at hSw); (try have hlS := HLK.out _ hSw); obtain ⟨hcS, hfS⟩ := bcell hSw; clear hSw; go_simp; try with_reducible rfl)
    try simp only [Act.put, List.getElem_toArray, List.getElem_cons_succ, List.getElem_cons_zero, List.setIfInBounds_toArray, List.set_cons_zero, List.set_cons_succ]
    refine wpAnyH_take (i := 28) (v := ?v2_28) rfl (by kernel_rfl) (by kernel_rfl) (by kernel_rfl) (fun _ _ _ h => h) (Or.inl ⟨by rfl, ?y2_28⟩) (by assumption) ?r2_28
    case' y2_28 => (intro w hSw; (try dsimp only at hSw); (try have hlS := HLK.out _ hSw); obtain ⟨hcS, hfS⟩ := bcell hSw; clear hSw; go_simp; try with_reducible rfl)
    try simp only [Act.put, List.getElem_toArray, List.getElem_cons_succ, List.getElem_cons_zero, List.setIfInBounds_toArray, List.set_cons_zero, List.set_cons_succ]
    refine wpAnyH_done (by kernel_rfl) ?_ _
    go_wp2_with fail
    go_ret
    exact ⟨rfl, Below.to HB0.out hHeld (Nat.le_refl _)⟩
  have a1 : (q == -1) = false := by simpa using h1
  have a2 : (q == -2) = false := by simpa using h2
  by_cases h3 : q < 0
  · have a3 : decide (0 ≤ q) = false := by simp; omega
    have HG := hide (goB_neg (ks := ks) (k := i) (o := o) h1 h2 h3)
    clear h1 h2 h3
    go_enter Try.func77, Try.ntmps77
    go_upto_region 1 with (fail)
    generalize hw0 : World.alloc _ _ = w0
    obtain ⟨hb0, hB0, hs0⟩ := alloc1 hw0
    clear hw0
    have HB0 := hide hB0
    clear hb0 hB0 hs0
    refine wp_region_held_drew (S := (fun w' => Below w0.heap.size w0 w')) (by kernel_rfl) ?_ (fun hHeld => ?_)
    · try dsimp only
      exact (by repeat (first | exact Below.refl _ _ | assumption | refine Below.drew ?_ | refine Below.drewN ?_ _ | refine Below.allocT ?_ (Nat.le_refl _) _ | refine Below.setCell ?_ (by simp <;> omega) _ | refine Below.to ?_ (by assumption) (Nat.le_refl _)))
    refine wpAnyH_take (i := 0) (v := ?v3_0) rfl (by kernel_rfl) (by kernel_rfl) (by kernel_rfl) (fun _ _ _ h => h) (Or.inl ⟨by rfl, ?y3_0⟩) (by assumption) ?r3_0
    case' y3_0 => (intro w hSw; (try dsimp only at hSw); (try have hlS := HLK.out _ hSw); obtain ⟨hcS, hfS⟩ := bcell hSw; clear hSw; go_simp; try with_reducible rfl)
    try simp only [Act.put, List.getElem_toArray, List.getElem_cons_succ, List.getElem_cons_zero, List.setIfInBounds_toArray, List.set_cons_zero, List.set_cons_succ]
    refine wpAnyH_take (i := 1) (v := ?v3_1) rfl (by kernel_rfl) (by kernel_rfl) (by kernel_rfl) (fun _ _ _ h => h) (Or.inl ⟨by rfl, ?y3_1⟩) (by assumption) ?r3_1
    case' y3_1 => (intro w hSw; (try dsimp only at hSw); (try have hlS := HLK.out _ hSw); obtain ⟨hcS, hfS⟩ := bcell hSw; clear hSw; go_simp; try with_reducible rfl)
    try simp only [Act.put, List.getElem_toArray, List.getElem_cons_succ, List.getElem_cons_zero, List.setIfInBounds_toArray, List.set_cons_zero, List.set_cons_succ]
    refine wpAnyH_take (i := 2) (v := ?v3_2) rfl (by kernel_rfl) (by kernel_rfl) (by kernel_rfl) (fun _ _ _ h => h) (Or.inl ⟨by rfl, ?y3_2⟩) (by assumption) ?r3_2
    case' y3_2 => (intro w hSw; (try dsimp only at hSw); (try have hlS := HLK.out _ hSw); obtain ⟨hcS, hfS⟩ := bcell hSw; clear hSw; go_simp; try with_reducible rfl)
    try simp only [Act.put, List.getElem_toArray, List.getElem_cons_succ, List.getElem_cons_zero, List.setIfInBounds_toArray, List.set_cons_zero, List.set_cons_succ]
    refine wpAnyH_take (i := 3) (v := ?v3_3) rfl (by kernel_rfl) (by kernel_rfl) (by kernel_rfl) (fun _ _ _ h => h) (Or.inl ⟨by rfl, ?y3_3⟩) (by assumption) ?r3_3
    case' y3_3 => (intro w hSw; (try dsimp only at hSw); (try have hlS := HLK.out _ hSw); obtain ⟨hcS, hfS⟩ := bcell hSw; clear hSw; go_simp; try with_reducible rfl)
    try simp only [Act.put, List.getElem_toArray, List.getElem_cons_succ, List.getElem_cons_zero, List.setIfInBounds_toArray, List.set_cons_zero, List.set_cons_succ]
    refine wpAnyH_take (i := 4) (v := ?v3_4) rfl (by kernel_rfl) (by kernel_rfl) (by kernel_rfl) (fun _ _ _ h => h) (Or.inl ⟨by rfl, ?y3_4⟩) (by assumption) ?r3_4
    case' y3_4 => (intro w hSw; (try dsimp only at hSw); (try have hlS := HLK.out _ hSw); obtain ⟨hcS, hfS⟩ := bcell hSw; clear hSw; go_simp; try with_reducible rfl)
    try simp only [Act.put, List.getElem_toArray, List.getElem_cons_succ, List.getElem_cons_zero, List.setIfInBounds_toArray, List.set_cons_zero, List.set_cons_succ]
    refine wpAnyH_take (i := 5) (v := ?v3_5) rfl (by kernel_rfl) (by kernel_rfl) (by kernel_rfl) (fun _ _ _ h => h) (Or.inl ⟨by rfl, ?y3_5⟩) (by assumption) ?r3_5
    case' y3_5 => (intro w hSw; (try dsimp only at hSw); (try have hlS := HLK.out _ hSw); obtain ⟨hcS, hfS⟩ := bcell hSw; clear hSw; go_simp; try with_reducible rfl)
    try simp only [Act.put, List.getElem_toArray, List.getElem_cons_succ, List.getElem_cons_zero, List.setIfInBounds_toArray, List.set_cons_zero, List.set_cons_succ]
    refine wpAnyH_take (i := 6) (v := ?v3_6) rfl (by kernel_rfl) (by kernel_rfl) (by kernel_rfl) (fun _ _ _ h => h) (Or.inl ⟨by rfl, ?y3_6⟩) (by assumption) ?r3_6
    case' y3_6 => (intro w hSw; (try dsimp only at hSw); (try have hlS := HLK.out _ hSw); obtain ⟨hcS, hfS⟩ := bcell hSw; clear hSw; go_simp; try with_reducible rfl)
    try simp only [Act.put, List.getElem_toArray, List.getElem_cons_succ, List.getElem_cons_zero, List.setIfInBounds_toArray, List.set_cons_zero, List.set_cons_succ]
    refine wpAnyH_take (i := 7) (v := ?v3_7) rfl (by kernel_rfl) (by kernel_rfl) (by kernel_rfl) (fun _ _ _ h => h) (Or.inl ⟨by rfl, ?y3_7⟩) (by assumption) ?r3_7
    case' y3_7 => (intro w hSw; (try dsimp only at hSw); (try have hlS := HLK.out _ hSw); obtain ⟨hcS, hfS⟩ := bcell hSw; clear hSw; go_simp; try with_reducible rfl)
    try simp only [Act.put, List.getElem_toArray, List.getElem_cons_succ, List.getElem_cons_zero, List.setIfInBounds_toArray, List.set_cons_zero, List.set_cons_succ]
    refine wpAnyH_take (i := 8) (v := ?v3_8) rfl (by kernel_rfl) (by kernel_rfl) (by kernel_rfl) (fun _ _ _ h => h) (Or.inl ⟨by rfl, ?y3_8⟩) (by assumption) ?r3_8
    case' y3_8 => (intro w hSw; (try dsimp only at hSw); (try have hlS := HLK.out _ hSw); obtain ⟨hcS, hfS⟩ := bcell hSw; clear hSw; go_simp; try with_reducible rfl)
    try simp only [Act.put, List.getElem_toArray, List.getElem_cons_succ, List.getElem_cons_zero, List.setIfInBounds_toArray, List.set_cons_zero, List.set_cons_succ]
    refine wpAnyH_take (i := 9) (v := ?v3_9) rfl (by kernel_rfl) (by kernel_rfl) (by kernel_rfl) (fun _ _ _ h => h) (Or.inl ⟨by rfl, ?y3_9⟩) (by assumption) ?r3_9
    case' y3_9 => (intro w hSw; (try dsimp only at hSw); (try have hlS := HLK.out _ hSw); obtain ⟨hcS, hfS⟩ := bcell hSw; clear hSw; go_simp; try with_reducible rfl)
    try simp only [Act.put, List.getElem_toArray, List.getElem_cons_succ, List.getElem_cons_zero, List.setIfInBounds_toArray, List.set_cons_zero, List.set_cons_succ]
    refine wpAnyH_take (i := 10) (v := undef) rfl (by kernel_rfl) (by kernel_rfl) (by kernel_rfl) (fun _ _ _ h => h) (Or.inr ⟨?w3_10, rfl⟩) (by assumption) ?r3_10
    case' w3_10 => first | rfl | (simp [Region.wanted, yielded, *]; done)
    try simp only [Act.put, List.getElem_toArray, List.getElem_cons_succ, List.getElem_cons_zero, List.setIfInBounds_toArray, List.set_cons_zero, List.set_cons_succ]
    refine wpAnyH_take (i := 11) (v := undef) rfl (by kernel_rfl) (by kernel_rfl) (by kernel_rfl) (fun _ _ _ h => h) (Or.inr ⟨?w3_11, rfl⟩) (by assumption) ?r3_11
    case' w3_11 => first | rfl | (simp [Region.wanted, yielded, *]; done)
    try simp only [Act.put, List.getElem_toArray, List.getElem_cons_succ, List.getElem_cons_zero, List.setIfInBounds_toArray, List.set_cons_zero, List.set_cons_succ]
    refine wpAnyH_take (i := 12) (v := undef) rfl (by kernel_rfl) (by kernel_rfl) (by kernel_rfl) (fun _ _ _ h => h) (Or.inr ⟨?w3_12, rfl⟩) (by assumption) ?r3_12
    case' w3_12 => first | rfl | (simp [Region.wanted, yielded, *]; done)
    try simp only [Act.put, List.getElem_toArray, List.getElem_cons_succ, List.getElem_cons_zero, List.setIfInBounds_toArray, List.set_cons_zero, List.set_cons_succ]
    refine wpAnyH_take (i := 13) (v := ?v3_13) rfl (by kernel_rfl) (by kernel_rfl) (by kernel_rfl) (fun _ _ _ h => h) (Or.inl ⟨by rfl, ?y3_13⟩) (by assumption) ?r3_13
    case' y3_13 => (intro w hSw; (try dsimp only at hSw); (try have hlS := HLK.out _ hSw); obtain ⟨hcS, hfS⟩ := bcell hSw; clear hSw; go_simp; try with_reducible rfl)
    try simp only [Act.put, List.getElem_toArray, List.getElem_cons_succ, List.getElem_cons_zero, List.setIfInBounds_toArray, List.set_cons_zero, List.set_cons_succ]
    refine wpAnyH_take (i := 14) (v := ?v3_14) rfl (by kernel_rfl) (by kernel_rfl) (by kernel_rfl) (fun _ _ _ h => h) (Or.inl ⟨by rfl, ?y3_14⟩) (by assumption) ?r3_14
    case' y3_14 => (intro w hSw; (try dsimp only at hSw); (try have hlS := HLK.out _ hSw); obtain ⟨hcS, hfS⟩ := bcell hSw; clear hSw; go_simp; try with_reducible rfl)
    try simp only [Act.put, List.getElem_toArray, List.getElem_cons_succ, List.getElem_cons_zero, List.setIfInBounds_toArray, List.set_cons_zero, List.set_cons_succ]
    refine wpAnyH_take (i := 15) (v := undef) rfl (by kernel_rfl) (by kernel_rfl) (by kernel_rfl) (fun _ _ _ h => h) (Or.inr ⟨?w3_15, rfl⟩) (by assumption) ?r3_15
    case' w3_15 => first | rfl | (simp [Region.wanted, yielded, *]; done)
    try simp only [Act.put, List.getElem_toArray, List.getElem_cons_succ, List.getElem_cons_zero, List.setIfInBounds_toArray, List.set_cons_zero, List.set_cons_succ]
    refine wpAnyH_take (i := 16) (v := undef) rfl (by kernel_rfl) (by kernel_rfl) (by kernel_rfl) (fun _ _ _ h => h) (Or.inr ⟨?w3_16, rfl⟩) (by assumption) ?r3_16
    case' w3_16 => first | rfl | (simp [Region.wanted, yielded, *]; done)
    try simp only [Act.put, List.getElem_toArray, List.getElem_cons_succ, List.getElem_cons_zero, List.setIfInBounds_toArray, List.set_cons_zero, List.set_cons_succ]
    refine wpAnyH_take (i := 17) (v := undef) rfl (by kernel_rfl) (by kernel_rfl) (by kernel_rfl) (fun _ _ _ h => h) (Or.inr ⟨?w3_17, rfl⟩) (by assumption) ?r3_17
    case' w3_17 => first | rfl | (simp [Region.wanted, yielded, *]; done)
    try simp only [Act.put, List.getElem_toArray, List.getElem_cons_succ, List.getElem_cons_zero, List.setIfInBounds_toArray, List.set_cons_zero, List.set_cons_succ]
    refine wpAnyH_take (i := 18) (v := undef) rfl (by kernel_rfl) (by kernel_rfl) (by kernel_rfl) (fun _ _ _ h => h) (Or.inr ⟨?w3_18, rfl⟩) (by assumption) ?r3_18
    case' w3_18 => first | rfl | (simp [Region.wanted, yielded, *]; done)
    try simp only [Act.put, List.getElem_toArray, List.getElem_cons_succ, List.getElem_cons_zero, List.setIfInBounds_toArray, List.set_cons_zero, List.set_cons_succ]
    refine wpAnyH_take (i := 19) (v := undef) rfl (by kernel_rfl) (by kernel_rfl) (by kernel_rfl) (fun _ _ _ h => h) (Or.inr ⟨?w3_19, rfl⟩) (by assumption) ?r3_19
    case' w3_19 => first | rfl | (simp [Region.wanted, yielded, *]; done)
    try simp only [Act.put, List.getElem_toArray, List.getElem_cons_succ, List.getElem_cons_zero, List.setIfInBounds_toArray, List.set_cons_zero, List.set_cons_succ]
    refine wpAnyH_take (i := 20) (v := undef) rfl (by kernel_rfl) (by kernel_rfl) (by kernel_rfl) (fun _ _ _ h => h) (Or.inr ⟨?w3_20, rfl⟩) (by assumption) ?r3_20
    case' w3_20 => first | rfl | (simp [Region.wanted, yielded, *]; done)
    try simp only [Act.put, List.getElem_toArray, List.getElem_cons_succ, List.getElem_cons_zero, List.setIfInBounds_toArray, List.set_cons_zero, List.set_cons_succ]
    refine wpAnyH_take (i := 21) (v := undef) rfl (by kernel_rfl) (by kernel_rfl) (by kernel_rfl) (fun _ _ _ h => h) (Or.inr ⟨?w3_21, rfl⟩) (by assumption) ?r3_21
    case' w3_21 => first | rfl | (simp [Region.wanted, yielded, *]; done)
    try simp only [Act.put, List.getElem_toArray, List.getElem_cons_succ, List.getElem_cons_zero, List.setIfInBounds_toArray, List.set_cons_zero, List.set_cons_succ]
    refine wpAnyH_take (i := 22) (v := undef) rfl (by kernel_rfl) (by kernel_rfl) (by kernel_rfl) (fun _ _ _ h => h) (Or.inr ⟨?w3_22, rfl⟩) (by assumption) ?r3_22
    case' w3_22 => first | rfl | (simp [Region.wanted, yielded, *]; done)
    try simp only [Act.put, List.getElem_toArray, List.getElem_cons_succ, List.getElem_cons_zero, List.setIfInBounds_toArray, List.set_cons_zero, List.set_cons_succ]
    refine wpAnyH_take (i := 23) (v := undef) rfl (by kernel_rfl) (by kernel_rfl) (by kernel_rfl) (fun _ _ _ h => h) (Or.inr ⟨?w3_23, rfl⟩) (by assumption) ?r3_23
    case' w3_23 => first | rfl | (simp [Region.wanted, yielded, *]; done)
    try simp only [Act.put, List.getElem_toArray, List.getElem_cons_succ, List.getElem_cons_zero, List.setIfInBounds_toArray, List.set_cons_zero, List.set_cons_succ]
    refine wpAnyH_take (i := 24) (v := undef) rfl (by kernel_rfl) (by kernel_rfl) (by kernel_rfl) (fun _ _ _ h => h) (Or.inr ⟨?w3_24, rfl⟩) (by assumption) ?r3_24
    case' w3_24 => first | rfl | (simp [Region.wanted, yielded, *]; done)
    try simp only [Act.put, List.getElem_toArray, List.getElem_cons_succ, List.getElem_cons_zero, List.setIfInBounds_toArray, List.set_cons_zero, List.set_cons_succ]
    refine wpAnyH_take (i := 25) (v := undef) rfl (by kernel_rfl) (by kernel_rfl) (by kernel_rfl) (fun _ _ _ h => h) (Or.inr ⟨?w3_25, rfl⟩) (by assumption) ?r3_25
    case' w3_25 => first | rfl | (simp [Region.wanted, yielded, *]; done)
    try simp only [Act.put, List.getElem_toArray, List.getElem_cons_succ, List.getElem_cons_zero, List.setIfInBounds_toArray, List.set_cons_zero, List.set_cons_succ]
    refine wpAnyH_take (i := 26) (v := ?v3_26) rfl (by kernel_rfl) (by kernel_rfl) (by kernel_rfl) (fun _ _ _ h => h) (Or.inl ⟨by rfl, ?y3_26⟩) (by assumption) ?r3_26
    case' y3_26 => (intro w hSw; (try dsimp only at hSw); (try have hlS := HLK.out _ hSw); obtain ⟨hcS, hfS⟩ := bcell hSw; clear hSw; go_simp; try with_reducible rfl)
    try simp only [Act.put, List.getElem_toArray, List.getElem_cons_succ, List.getElem_cons_zero, List.setIfInBounds_toArray, List.set_cons_zero, List.set_cons_succ]
    refine wpAnyH_take (i := 27) (v := ?v3_27) rfl (by kernel_rfl) (by kernel_rfl) (by kernel_rfl) (fun _ _ _ h => h) (Or.inl ⟨by rfl, ?y3_27⟩) (by assumption) ?r3_27
    case' y3_27 => (intro w hSw; (try dsimp only at hSw); (try have hlS := HLK.out _ hSw); obtain ⟨hcS, hfS⟩ := bcell hSw; clear hSw; go_simp; try with_reducible rfl)
    try simp only [Act.put, List.getElem_toArray, List.getElem_cons_succ, List.getElem_cons_zero, List.setIfInBounds_toArray, List.set_cons_zero, List.set_cons_succ]
    refine wpAnyH_take (i := 28) (v := ?v3_28) rfl (by kernel_rfl) (by kernel_rfl) (by kernel_rfl) (fun _ _ _ h => h) (Or.inl ⟨by rfl, ?y3_28⟩) (by assumption) ?r3_28
    case' y3_28 => (intro w hSw; (try dsimp only at hSw); (try have hlS := HLK.out _ hSw); obtain ⟨hcS, hfS⟩ := bcell hSw; clear hSw; go_simp; try with_reducible rfl)
    try simp only [Act.put, List.getElem_toArray, List.getElem_cons_succ, List.getElem_cons_zero, List.setIfInBounds_toArray, List.set_cons_zero, List.set_cons_succ]
    refine wpAnyH_done (by kernel_rfl) ?_ _
    go_wp2_with fail
    go_ret
    exact ⟨ret_bool HG.out.symm, Below.to HB0.out hHeld (Nat.le_refl _)⟩
  · obtain ⟨t, rfl⟩ := Int.eq_ofNat_of_zero_le (by omega : 0 ≤ q)
    have a3 : decide ((0 : Int) ≤ (t : Int)) = true := by simp
    clear h1 h2 h3
    by_cases h4 : t < i
    · have a4 : decide ((t : Int) < (i : Int)) = true := by simp; omega
      have ht : t < ks.length := by omega
      have t0 : (0 : Int) ≤ (t : Int) := by omega
      have t1 : (t : Int) < (ks.length : Int) := by omega
      obtain ⟨o2, ho2⟩ : ∃ o, (ks.getD t Kt.z).o = o := ⟨_, rfl⟩
      have p2 : w.cell? ⟨b, off + t * 3, none⟩ = some (.int .i64 o2) := by
        have := HC.out t 0 ht (by omega)
        rw [← ho2]; exact this
      have HG : Hid (goB ks i o t = decide (o < o2)) := by
        have := goB_nat (ks := ks) (k := i) (t := t) (o := o)
        rw [a4, Bool.true_and, ho2] at this
        exact this
      have HP2 := hide p2
      clear p2 ho2
      go_enter Try.func77, Try.ntmps77
      go_upto_region 1 with (fail)
      generalize hw0 : World.alloc _ _ = w0
      obtain ⟨hb0, hB0, hs0⟩ := alloc1 hw0
      clear hw0
      have HB0 := hide hB0
      have q0 : w0.cell? ⟨b, off + i * 3, none⟩ = some (.int .i64 o) := (hB0.cell (p := ⟨b, off + i * 3, none⟩) hb).trans HP.out
      have q2 : w0.cell? ⟨b, off + t * 3, none⟩ = some (.int .i64 o2) := (hB0.cell (p := ⟨b, off + t * 3, none⟩) hb).trans HP2.out
      have lb : b < w0.heap.size := Nat.lt_of_lt_of_le hb hB0.size
      clear hb0 hB0 hs0
      refine wp_region_held_drew (S := (fun w' => Below w0.heap.size w0 w')) (by kernel_rfl) ?_ (fun hHeld => ?_)
      · try dsimp only
        exact (by repeat (first | exact Below.refl _ _ | assumption | refine Below.drew ?_ | refine Below.drewN ?_ _ | refine Below.allocT ?_ (Nat.le_refl _) _ | refine Below.setCell ?_ (by simp <;> omega) _ | refine Below.to ?_ (by assumption) (Nat.le_refl _)))
      refine wpAnyH_take (i := 0) (v := ?v4_0) rfl (by kernel_rfl) (by kernel_rfl) (by kernel_rfl) (fun _ _ _ h => h) (Or.inl ⟨by rfl, ?y4_0⟩) (by assumption) ?r4_0
      case' y4_0 => (intro w hSw; (try dsimp only at hSw); (try have hlS := HLK.out _ hSw); obtain ⟨hcS, hfS⟩ := bcell hSw; clear hSw; go_simp; try with_reducible rfl)
      try simp only [Act.put, List.getElem_toArray, List.getElem_cons_succ, List.getElem_cons_zero, List.setIfInBounds_toArray, List.set_cons_zero, List.set_cons_succ]
      refine wpAnyH_take (i := 1) (v := ?v4_1) rfl (by kernel_rfl) (by kernel_rfl) (by kernel_rfl) (fun _ _ _ h => h) (Or.inl ⟨by rfl, ?y4_1⟩) (by assumption) ?r4_1
      case' y4_1 => (intro w hSw; (try dsimp only at hSw); (try have hlS := HLK.out _ hSw); obtain ⟨hcS, hfS⟩ := bcell hSw; clear hSw; go_simp; try with_reducible rfl)
      try simp only [Act.put, List.getElem_toArray, List.getElem_cons_succ, List.getElem_cons_zero, List.setIfInBounds_toArray, List.set_cons_zero, List.set_cons_succ]
      refine wpAnyH_take (i := 2) (v := ?v4_2) rfl (by kernel_rfl) (by kernel_rfl) (by kernel_rfl) (fun _ _ _ h => h) (Or.inl ⟨by rfl, ?y4_2⟩) (by assumption) ?r4_2
      case' y4_2 => (intro w hSw; (try dsimp only at hSw); (try have hlS := HLK.out _ hSw); obtain ⟨hcS, hfS⟩ := bcell hSw; clear hSw; go_simp; try with_reducible rfl)
      try simp only [Act.put, List.getElem_toArray, List.getElem_cons_succ, List.getElem_cons_zero, List.setIfInBounds_toArray, List.set_cons_zero, List.set_cons_succ]
      refine wpAnyH_take (i := 3) (v := ?v4_3) rfl (by kernel_rfl) (by kernel_rfl) (by kernel_rfl) (fun _ _ _ h => h) (Or.inl ⟨by rfl, ?y4_3⟩) (by assumption) ?r4_3
      case' y4_3 => (intro w hSw; (try dsimp only at hSw); (try have hlS := HLK.out _ hSw); obtain ⟨hcS, hfS⟩ := bcell hSw; clear hSw; go_simp; try with_reducible rfl)
      try simp only [Act.put, List.getElem_toArray, List.getElem_cons_succ, List.getElem_cons_zero, List.setIfInBounds_toArray, List.set_cons_zero, List.set_cons_succ]
      refine wpAnyH_take (i := 4) (v := ?v4_4) rfl (by kernel_rfl) (by kernel_rfl) (by kernel_rfl) (fun _ _ _ h => h) (Or.inl ⟨by rfl, ?y4_4⟩) (by assumption) ?r4_4
      case' y4_4 => (intro w hSw; (try dsimp only at hSw); (try have hlS := HLK.out _ hSw); obtain ⟨hcS, hfS⟩ := bcell hSw; clear hSw; go_simp; try with_reducible rfl)
      try simp only [Act.put, List.getElem_toArray, List.getElem_cons_succ, List.getElem_cons_zero, List.setIfInBounds_toArray, List.set_cons_zero, List.set_cons_succ]
      refine wpAnyH_take (i := 5) (v := ?v4_5) rfl (by kernel_rfl) (by kernel_rfl) (by kernel_rfl) (fun _ _ _ h => h) (Or.inl ⟨by rfl, ?y4_5⟩) (by assumption) ?r4_5
      case' y4_5 => (intro w hSw; (try dsimp only at hSw); (try have hlS := HLK.out _ hSw); obtain ⟨hcS, hfS⟩ := bcell hSw; clear hSw; go_simp; try with_reducible rfl)
      try simp only [Act.put, List.getElem_toArray, List.getElem_cons_succ, List.getElem_cons_zero, List.setIfInBounds_toArray, List.set_cons_zero, List.set_cons_succ]
      refine wpAnyH_take (i := 6) (v := ?v4_6) rfl (by kernel_rfl) (by kernel_rfl) (by kernel_rfl) (fun _ _ _ h => h) (Or.inl ⟨by rfl, ?y4_6⟩) (by assumption) ?r4_6
      case' y4_6 => (intro w hSw; (try dsimp only at hSw); (try have hlS := HLK.out _ hSw); obtain ⟨hcS, hfS⟩ := bcell hSw; clear hSw; go_simp; try with_reducible rfl)
      try simp only [Act.put, List.getElem_toArray, List.getElem_cons_succ, List.getElem_cons_zero, List.setIfInBounds_toArray, List.set_cons_zero, List.set_cons_succ]
      refine wpAnyH_take (i := 7) (v := ?v4_7) rfl (by kernel_rfl) (by kernel_rfl) (by kernel_rfl) (fun _ _ _ h => h) (Or.inl ⟨by rfl, ?y4_7⟩) (by assumption) ?r4_7
      case' y4_7 => (intro w hSw; (try dsimp only at hSw); (try have hlS := HLK.out _ hSw); obtain ⟨hcS, hfS⟩ := bcell hSw; clear hSw; go_simp; try with_reducible rfl)
      try simp only [Act.put, List.getElem_toArray, List.getElem_cons_succ, List.getElem_cons_zero, List.setIfInBounds_toArray, List.set_cons_zero, List.set_cons_succ]
      refine wpAnyH_take (i := 8) (v := ?v4_8) rfl (by kernel_rfl) (by kernel_rfl) (by kernel_rfl) (fun _ _ _ h => h) (Or.inl ⟨by rfl, ?y4_8⟩) (by assumption) ?r4_8
      case' y4_8 => (intro w hSw; (try dsimp only at hSw); (try have hlS := HLK.out _ hSw); obtain ⟨hcS, hfS⟩ := bcell hSw; clear hSw; go_simp; try with_reducible rfl)
      try simp only [Act.put, List.getElem_toArray, List.getElem_cons_succ, List.getElem_cons_zero, List.setIfInBounds_toArray, List.set_cons_zero, List.set_cons_succ]
      refine wpAnyH_take (i := 9) (v := ?v4_9) rfl (by kernel_rfl) (by kernel_rfl) (by kernel_rfl) (fun _ _ _ h => h) (Or.inl ⟨by rfl, ?y4_9⟩) (by assumption) ?r4_9
      case' y4_9 => (intro w hSw; (try dsimp only at hSw); (try have hlS := HLK.out _ hSw); obtain ⟨hcS, hfS⟩ := bcell hSw; clear hSw; go_simp; try with_reducible rfl)
      try simp only [Act.put, List.getElem_toArray, List.getElem_cons_succ, List.getElem_cons_zero, List.setIfInBounds_toArray, List.set_cons_zero, List.set_cons_succ]
      refine wpAnyH_take (i := 10) (v := ?v4_10) rfl (by kernel_rfl) (by kernel_rfl) (by kernel_rfl) (fun _ _ _ h => h) (Or.inl ⟨by rfl, ?y4_10⟩) (by assumption) ?r4_10
      case' y4_10 => (intro w hSw; (try dsimp only at hSw); (try have hlS := HLK.out _ hSw); obtain ⟨hcS, hfS⟩ := bcell hSw; clear hSw; go_simp; try with_reducible rfl)
      try simp only [Act.put, List.getElem_toArray, List.getElem_cons_succ, List.getElem_cons_zero, List.setIfInBounds_toArray, List.set_cons_zero, List.set_cons_succ]
      refine wpAnyH_take (i := 11) (v := ?v4_11) rfl (by kernel_rfl) (by kernel_rfl) (by kernel_rfl) (fun _ _ _ h => h) (Or.inl ⟨by rfl, ?y4_11⟩) (by assumption) ?r4_11
      case' y4_11 => (intro w hSw; (try dsimp only at hSw); (try have hlS := HLK.out _ hSw); obtain ⟨hcS, hfS⟩ := bcell hSw; clear hSw; go_simp; try with_reducible rfl)
      try simp only [Act.put, List.getElem_toArray, List.getElem_cons_succ, List.getElem_cons_zero, List.setIfInBounds_toArray, List.set_cons_zero, List.set_cons_succ]
      refine wpAnyH_take (i := 12) (v := ?v4_12) rfl (by kernel_rfl) (by kernel_rfl) (by kernel_rfl) (fun _ _ _ h => h) (Or.inl ⟨by rfl, ?y4_12⟩) (by assumption) ?r4_12
      case' y4_12 => (intro w hSw; (try dsimp only at hSw); (try have hlS := HLK.out _ hSw); obtain ⟨hcS, hfS⟩ := bcell hSw; clear hSw; go_simp; try with_reducible rfl)
      try simp only [Act.put, List.getElem_toArray, List.getElem_cons_succ, List.getElem_cons_zero, List.setIfInBounds_toArray, List.set_cons_zero, List.set_cons_succ]
      refine wpAnyH_take (i := 13) (v := ?v4_13) rfl (by kernel_rfl) (by kernel_rfl) (by kernel_rfl) (fun _ _ _ h => h) (Or.inl ⟨by rfl, ?y4_13⟩) (by assumption) ?r4_13
      case' y4_13 => (intro w hSw; (try dsimp only at hSw); (try have hlS := HLK.out _ hSw); obtain ⟨hcS, hfS⟩ := bcell hSw; clear hSw; go_simp; try with_reducible rfl)
      try simp only [Act.put, List.getElem_toArray, List.getElem_cons_succ, List.getElem_cons_zero, List.setIfInBounds_toArray, List.set_cons_zero, List.set_cons_succ]
      refine wpAnyH_take (i := 14) (v := ?v4_14) rfl (by kernel_rfl) (by kernel_rfl) (by kernel_rfl) (fun _ _ _ h => h) (Or.inl ⟨by rfl, ?y4_14⟩) (by assumption) ?r4_14
      case' y4_14 => (intro w hSw; (try dsimp only at hSw); (try have hlS := HLK.out _ hSw); obtain ⟨hcS, hfS⟩ := bcell hSw; clear hSw; go_simp; try with_reducible rfl)
      try simp only [Act.put, List.getElem_toArray, List.getElem_cons_succ, List.getElem_cons_zero, List.setIfInBounds_toArray, List.set_cons_zero, List.set_cons_succ]
      refine wpAnyH_take (i := 15) (v := ?v4_15) rfl (by kernel_rfl) (by kernel_rfl) (by kernel_rfl) (fun _ _ _ h => h) (Or.inl ⟨by rfl, ?y4_15⟩) (by assumption) ?r4_15
      case' y4_15 => (intro w hSw; (try dsimp only at hSw); (try have hlS := HLK.out _ hSw); obtain ⟨hcS, hfS⟩ := bcell hSw; clear hSw; go_simp; try with_reducible rfl)
      try simp only [Act.put, List.getElem_toArray, List.getElem_cons_succ, List.getElem_cons_zero, List.setIfInBounds_toArray, List.set_cons_zero, List.set_cons_succ]
      refine wpAnyH_take (i := 16) (v := ?v4_16) rfl (by kernel_rfl) (by kernel_rfl) (by kernel_rfl) (fun _ _ _ h => h) (Or.inl ⟨by rfl, ?y4_16⟩) (by assumption) ?r4_16
      case' y4_16 => (intro w hSw; (try dsimp only at hSw); (try have hlS := HLK.out _ hSw); obtain ⟨hcS, hfS⟩ := bcell hSw; clear hSw; go_simp; try with_reducible rfl)
      try simp only [Act.put, List.getElem_toArray, List.getElem_cons_succ, List.getElem_cons_zero, List.setIfInBounds_toArray, List.set_cons_zero, List.set_cons_succ]
      refine wpAnyH_take (i := 17) (v := ?v4_17) rfl (by kernel_rfl) (by kernel_rfl) (by kernel_rfl) (fun _ _ _ h => h) (Or.inl ⟨by rfl, ?y4_17⟩) (by assumption) ?r4_17
      case' y4_17 => (intro w hSw; (try dsimp only at hSw); (try have hlS := HLK.out _ hSw); obtain ⟨hcS, hfS⟩ := bcell hSw; clear hSw; go_simp; try with_reducible rfl)
      try simp only [Act.put, List.getElem_toArray, List.getElem_cons_succ, List.getElem_cons_zero, List.setIfInBounds_toArray, List.set_cons_zero, List.set_cons_succ]
      refine wpAnyH_take (i := 18) (v := ?v4_18) rfl (by kernel_rfl) (by kernel_rfl) (by kernel_rfl) (fun _ _ _ h => h) (Or.inl ⟨by rfl, ?y4_18⟩) (by assumption) ?r4_18
      case' y4_18 => (intro w hSw; (try dsimp only at hSw); (try have hlS := HLK.out _ hSw); obtain ⟨hcS, hfS⟩ := bcell hSw; clear hSw; go_simp; try with_reducible rfl)
      try simp only [Act.put, List.getElem_toArray, List.getElem_cons_succ, List.getElem_cons_zero, List.setIfInBounds_toArray, List.set_cons_zero, List.set_cons_succ]
      refine wpAnyH_take (i := 19) (v := ?v4_19) rfl (by kernel_rfl) (by kernel_rfl) (by kernel_rfl) (fun _ _ _ h => h) (Or.inl ⟨by rfl, ?y4_19⟩) (by assumption) ?r4_19
      case' y4_19 => (intro w hSw; (try dsimp only at hSw); (try have hlS := HLK.out _ hSw); obtain ⟨hcS, hfS⟩ := bcell hSw; clear hSw; go_simp; try with_reducible rfl)
      try simp only [Act.put, List.getElem_toArray, List.getElem_cons_succ, List.getElem_cons_zero, List.setIfInBounds_toArray, List.set_cons_zero, List.set_cons_succ]
      refine wpAnyH_take (i := 20) (v := ?v4_20) rfl (by kernel_rfl) (by kernel_rfl) (by kernel_rfl) (fun _ _ _ h => h) (Or.inl ⟨by rfl, ?y4_20⟩) (by assumption) ?r4_20
      case' y4_20 => (intro w hSw; (try dsimp only at hSw); (try have hlS := HLK.out _ hSw); obtain ⟨hcS, hfS⟩ := bcell hSw; clear hSw; go_simp; try with_reducible rfl)
      try simp only [Act.put, List.getElem_toArray, List.getElem_cons_succ, List.getElem_cons_zero, List.setIfInBounds_toArray, List.set_cons_zero, List.set_cons_succ]
      refine wpAnyH_take (i := 21) (v := ?v4_21) rfl (by kernel_rfl) (by kernel_rfl) (by kernel_rfl) (fun _ _ _ h => h) (Or.inl ⟨by rfl, ?y4_21⟩) (by assumption) ?r4_21
      case' y4_21 => (intro w hSw; (try dsimp only at hSw); (try have hlS := HLK.out _ hSw); obtain ⟨hcS, hfS⟩ := bcell hSw; clear hSw; go_simp; try with_reducible rfl)
      try simp only [Act.put, List.getElem_toArray, List.getElem_cons_succ, List.getElem_cons_zero, List.setIfInBounds_toArray, List.set_cons_zero, List.set_cons_succ]
      refine wpAnyH_take (i := 22) (v := ?v4_22) rfl (by kernel_rfl) (by kernel_rfl) (by kernel_rfl) (fun _ _ _ h => h) (Or.inl ⟨by rfl, ?y4_22⟩) (by assumption) ?r4_22
      case' y4_22 => (intro w hSw; (try dsimp only at hSw); (try have hlS := HLK.out _ hSw); obtain ⟨hcS, hfS⟩ := bcell hSw; clear hSw; go_simp; try with_reducible rfl)
      try simp only [Act.put, List.getElem_toArray, List.getElem_cons_succ, List.getElem_cons_zero, List.setIfInBounds_toArray, List.set_cons_zero, List.set_cons_succ]
      refine wpAnyH_take (i := 23) (v := ?v4_23) rfl (by kernel_rfl) (by kernel_rfl) (by kernel_rfl) (fun _ _ _ h => h) (Or.inl ⟨by rfl, ?y4_23⟩) (by assumption) ?r4_23
      case' y4_23 => (intro w hSw; (try dsimp only at hSw); (try have hlS := HLK.out _ hSw); obtain ⟨hcS, hfS⟩ := bcell hSw; clear hSw; go_simp; try with_reducible rfl)
      try simp only [Act.put, List.getElem_toArray, List.getElem_cons_succ, List.getElem_cons_zero, List.setIfInBounds_toArray, List.set_cons_zero, List.set_cons_succ]
      refine wpAnyH_take (i := 24) (v := ?v4_24) rfl (by kernel_rfl) (by kernel_rfl) (by kernel_rfl) (fun _ _ _ h => h) (Or.inl ⟨by rfl, ?y4_24⟩) (by assumption) ?r4_24
      case' y4_24 => (intro w hSw; (try dsimp only at hSw); (try have hlS := HLK.out _ hSw); obtain ⟨hcS, hfS⟩ := bcell hSw; clear hSw; go_simp; try with_reducible rfl)
      try simp only [Act.put, List.getElem_toArray, List.getElem_cons_succ, List.getElem_cons_zero, List.setIfInBounds_toArray, List.set_cons_zero, List.set_cons_succ]
      refine wpAnyH_take (i := 25) (v := ?v4_25) rfl (by kernel_rfl) (by kernel_rfl) (by kernel_rfl) (fun _ _ _ h => h) (Or.inl ⟨by rfl, ?y4_25⟩) (by assumption) ?r4_25
      case' y4_25 => (intro w hSw; (try dsimp only at hSw); (try have hlS := HLK.out _ hSw); obtain ⟨hcS, hfS⟩ := bcell hSw; clear hSw; go_simp; try with_reducible rfl)
      try simp only [Act.put, List.getElem_toArray, List.getElem_cons_succ, List.getElem_cons_zero, List.setIfInBounds_toArray, List.set_cons_zero, List.set_cons_succ]
      refine wpAnyH_take (i := 26) (v := ?v4_26) rfl (by kernel_rfl) (by kernel_rfl) (by kernel_rfl) (fun _ _ _ h => h) (Or.inl ⟨by rfl, ?y4_26⟩) (by assumption) ?r4_26
      case' y4_26 => (intro w hSw; (try dsimp only at hSw); (try have hlS := HLK.out _ hSw); obtain ⟨hcS, hfS⟩ := bcell hSw; clear hSw; go_simp; try with_reducible rfl)
      try simp only [Act.put, List.getElem_toArray, List.getElem_cons_succ, List.getElem_cons_zero, List.setIfInBounds_toArray, List.set_cons_zero, List.set_cons_succ]
      refine wpAnyH_take (i := 27) (v := ?v4_27) rfl (by kernel_rfl) (by kernel_rfl) (by kernel_rfl) (fun _ _ _ h => h) (Or.inl ⟨by rfl, ?y4_27⟩) (by assumption) ?r4_27
      case' y4_27 => (intro w hSw; (try dsimp only at hSw); (try have hlS := HLK.out _ hSw); obtain ⟨hcS, hfS⟩ := bcell hSw; clear hSw; go_simp; try with_reducible rfl)
      try simp only [Act.put, List.getElem_toArray, List.getElem_cons_succ, List.getElem_cons_zero, List.setIfInBounds_toArray, List.set_cons_zero, List.set_cons_succ]
      refine wpAnyH_take (i := 28) (v := ?v4_28) rfl (by kernel_rfl) (by kernel_rfl) (by kernel_rfl) (fun _ _ _ h => h) (Or.inl ⟨by rfl, ?y4_28⟩) (by assumption) ?r4_28
      case' y4_28 => (intro w hSw; (try dsimp only at hSw); (try have hlS := HLK.out _ hSw); obtain ⟨hcS, hfS⟩ := bcell hSw; clear hSw; go_simp; try with_reducible rfl)
      try simp only [Act.put, List.getElem_toArray, List.getElem_cons_succ, List.getElem_cons_zero, List.setIfInBounds_toArray, List.set_cons_zero, List.set_cons_succ]
      refine wpAnyH_done (by kernel_rfl) ?_ _
      go_wp2_with fail
      go_ret
      exact ⟨ret_bool HG.out.symm, Below.to HB0.out hHeld (Nat.le_refl _)⟩
    · have a4 : decide ((t : Int) < (i : Int)) = false := by simp; omega
      have HG : Hid (goB ks i o t = false) := by
        have := goB_nat (ks := ks) (k := i) (t := t) (o := o)
        rw [a4, Bool.false_and] at this
        exact this
      go_enter Try.func77, Try.ntmps77
      go_upto_region 1 with (fail)
      generalize hw0 : World.alloc _ _ = w0
      obtain ⟨hb0, hB0, hs0⟩ := alloc1 hw0
      clear hw0
      have HB0 := hide hB0
      clear hb0 hB0 hs0
      refine wp_region_held_drew (S := (fun w' => Below w0.heap.size w0 w')) (by kernel_rfl) ?_ (fun hHeld => ?_)
      · try dsimp only
        exact (by repeat (first | exact Below.refl _ _ | assumption | refine Below.drew ?_ | refine Below.drewN ?_ _ | refine Below.allocT ?_ (Nat.le_refl _) _ | refine Below.setCell ?_ (by simp <;> omega) _ | refine Below.to ?_ (by assumption) (Nat.le_refl _)))
      refine wpAnyH_take (i := 0) (v := ?v5_0) rfl (by kernel_rfl) (by kernel_rfl) (by kernel_rfl) (fun _ _ _ h => h) (Or.inl ⟨by rfl, ?y5_0⟩) (by assumption) ?r5_0
      case' y5_0 => (intro w hSw; (try dsimp only at hSw); (try have hlS := HLK.out _ hSw); obtain ⟨hcS, hfS⟩ := bcell hSw; clear hSw; go_simp; try with_reducible rfl)
      try simp only [Act.put, List.getElem_toArray, List.getElem_cons_succ, List.getElem_cons_zero, List.setIfInBounds_toArray, List.set_cons_zero, List.set_cons_succ]
      refine wpAnyH_take (i := 1) (v := ?v5_1) rfl (by kernel_rfl) (by kernel_rfl) (by kernel_rfl) (fun _ _ _ h => h) (Or.inl ⟨by rfl, ?y5_1⟩) (by assumption) ?r5_1
      case' y5_1 => (intro w hSw; (try dsimp only at hSw); (try have hlS := HLK.out _ hSw); obtain ⟨hcS, hfS⟩ := bcell hSw; clear hSw; go_simp; try with_reducible rfl)
      try simp only [Act.put, List.getElem_toArray, List.getElem_cons_succ, List.getElem_cons_zero, List.setIfInBounds_toArray, List.set_cons_zero, List.set_cons_succ]
      refine wpAnyH_take (i := 2) (v := ?v5_2) rfl (by kernel_rfl) (by kernel_rfl) (by kernel_rfl) (fun _ _ _ h => h) (Or.inl ⟨by rfl, ?y5_2⟩) (by assumption) ?r5_2
      case' y5_2 => (intro w hSw; (try dsimp only at hSw); (try have hlS := HLK.out _ hSw); obtain ⟨hcS, hfS⟩ := bcell hSw; clear hSw; go_simp; try with_reducible rfl)
      try simp only [Act.put, List.getElem_toArray, List.getElem_cons_succ, List.getElem_cons_zero, List.setIfInBounds_toArray, List.set_cons_zero, List.set_cons_succ]
      refine wpAnyH_take (i := 3) (v := ?v5_3) rfl (by kernel_rfl) (by kernel_rfl) (by kernel_rfl) (fun _ _ _ h => h) (Or.inl ⟨by rfl, ?y5_3⟩) (by assumption) ?r5_3
      case' y5_3 => (intro w hSw; (try dsimp only at hSw); (try have hlS := HLK.out _ hSw); obtain ⟨hcS, hfS⟩ := bcell hSw; clear hSw; go_simp; try with_reducible rfl)
      try simp only [Act.put, List.getElem_toArray, List.getElem_cons_succ, List.getElem_cons_zero, List.setIfInBounds_toArray, List.set_cons_zero, List.set_cons_succ]
      refine wpAnyH_take (i := 4) (v := ?v5_4) rfl (by kernel_rfl) (by kernel_rfl) (by kernel_rfl) (fun _ _ _ h => h) (Or.inl ⟨by rfl, ?y5_4⟩) (by assumption) ?r5_4
      case' y5_4 => (intro w hSw; (try dsimp only at hSw); (try have hlS := HLK.out _ hSw); obtain ⟨hcS, hfS⟩ := bcell hSw; clear hSw; go_simp; try with_reducible rfl)
      try simp only [Act.put, List.getElem_toArray, List.getElem_cons_succ, List.getElem_cons_zero, List.setIfInBounds_toArray, List.set_cons_zero, List.set_cons_succ]
      refine wpAnyH_take (i := 5) (v := ?v5_5) rfl (by kernel_rfl) (by kernel_rfl) (by kernel_rfl) (fun _ _ _ h => h) (Or.inl ⟨by rfl, ?y5_5⟩) (by assumption) ?r5_5
      case' y5_5 => (intro w hSw; (try dsimp only at hSw); (try have hlS := HLK.out _ hSw); obtain ⟨hcS, hfS⟩ := bcell hSw; clear hSw; go_simp; try with_reducible rfl)
      try simp only [Act.put, List.getElem_toArray, List.getElem_cons_succ, List.getElem_cons_zero, List.setIfInBounds_toArray, List.set_cons_zero, List.set_cons_succ]
      refine wpAnyH_take (i := 6) (v := ?v5_6) rfl (by kernel_rfl) (by kernel_rfl) (by kernel_rfl) (fun _ _ _ h => h) (Or.inl ⟨by rfl, ?y5_6⟩) (by assumption) ?r5_6
      case' y5_6 => (intro w hSw; (try dsimp only at hSw); (try have hlS := HLK.out _ hSw); obtain ⟨hcS, hfS⟩ := bcell hSw; clear hSw; go_simp; try with_reducible rfl)
      try simp only [Act.put, List.getElem_toArray, List.getElem_cons_succ, List.getElem_cons_zero, List.setIfInBounds_toArray, List.set_cons_zero, List.set_cons_succ]
      refine wpAnyH_take (i := 7) (v := ?v5_7) rfl (by kernel_rfl) (by kernel_rfl) (by kernel_rfl) (fun _ _ _ h => h) (Or.inl ⟨by rfl, ?y5_7⟩) (by assumption) ?r5_7
      case' y5_7 => (intro w hSw; (try dsimp only at hSw); (try have hlS := HLK.out _ hSw); obtain ⟨hcS, hfS⟩ := bcell hSw; clear hSw; go_simp; try with_reducible rfl)
      try simp only [Act.put, List.getElem_toArray, List.getElem_cons_succ, List.getElem_cons_zero, List.setIfInBounds_toArray, List.set_cons_zero, List.set_cons_succ]
      refine wpAnyH_take (i := 8) (v := ?v5_8) rfl (by kernel_rfl) (by kernel_rfl) (by kernel_rfl) (fun _ _ _ h => h) (Or.inl ⟨by rfl, ?y5_8⟩) (by assumption) ?r5_8
      case' y5_8 => (intro w hSw; (try dsimp only at hSw); (try have hlS := HLK.out _ hSw); obtain ⟨hcS, hfS⟩ := bcell hSw; clear hSw; go_simp; try with_reducible rfl)
      try simp only [Act.put, List.getElem_toArray, List.getElem_cons_succ, List.getElem_cons_zero, List.setIfInBounds_toArray, List.set_cons_zero, List.set_cons_succ]
      refine wpAnyH_take (i := 9) (v := ?v5_9) rfl (by kernel_rfl) (by kernel_rfl) (by kernel_rfl) (fun _ _ _ h => h) (Or.inl ⟨by rfl, ?y5_9⟩) (by assumption) ?r5_9
      case' y5_9 => (intro w hSw; (try dsimp only at hSw); (try have hlS := HLK.out _ hSw); obtain ⟨hcS, hfS⟩ := bcell hSw; clear hSw; go_simp; try with_reducible rfl)
      try simp only [Act.put, List.getElem_toArray, List.getElem_cons_succ, List.getElem_cons_zero, List.setIfInBounds_toArray, List.set_cons_zero, List.set_cons_succ]
      refine wpAnyH_take (i := 10) (v := ?v5_10) rfl (by kernel_rfl) (by kernel_rfl) (by kernel_rfl) (fun _ _ _ h => h) (Or.inl ⟨by rfl, ?y5_10⟩) (by assumption) ?r5_10
      case' y5_10 => (intro w hSw; (try dsimp only at hSw); (try have hlS := HLK.out _ hSw); obtain ⟨hcS, hfS⟩ := bcell hSw; clear hSw; go_simp; try with_reducible rfl)
      try simp only [Act.put, List.getElem_toArray, List.getElem_cons_succ, List.getElem_cons_zero, List.setIfInBounds_toArray, List.set_cons_zero, List.set_cons_succ]
      refine wpAnyH_take (i := 11) (v := ?v5_11) rfl (by kernel_rfl) (by kernel_rfl) (by kernel_rfl) (fun _ _ _ h => h) (Or.inl ⟨by rfl, ?y5_11⟩) (by assumption) ?r5_11
      case' y5_11 => (intro w hSw; (try dsimp only at hSw); (try have hlS := HLK.out _ hSw); obtain ⟨hcS, hfS⟩ := bcell hSw; clear hSw; go_simp; try with_reducible rfl)
      try simp only [Act.put, List.getElem_toArray, List.getElem_cons_succ, List.getElem_cons_zero, List.setIfInBounds_toArray, List.set_cons_zero, List.set_cons_succ]
      refine wpAnyH_take (i := 12) (v := ?v5_12) rfl (by kernel_rfl) (by kernel_rfl) (by kernel_rfl) (fun _ _ _ h => h) (Or.inl ⟨by rfl, ?y5_12⟩) (by assumption) ?r5_12
      case' y5_12 => (intro w hSw; (try dsimp only at hSw); (try have hlS := HLK.out _ hSw); obtain ⟨hcS, hfS⟩ := bcell hSw; clear hSw; go_simp; try with_reducible rfl)
      try simp only [Act.put, List.getElem_toArray, List.getElem_cons_succ, List.getElem_cons_zero, List.setIfInBounds_toArray, List.set_cons_zero, List.set_cons_succ]
      refine wpAnyH_take (i := 13) (v := ?v5_13) rfl (by kernel_rfl) (by kernel_rfl) (by kernel_rfl) (fun _ _ _ h => h) (Or.inl ⟨by rfl, ?y5_13⟩) (by assumption) ?r5_13
      case' y5_13 => (intro w hSw; (try dsimp only at hSw); (try have hlS := HLK.out _ hSw); obtain ⟨hcS, hfS⟩ := bcell hSw; clear hSw; go_simp; try with_reducible rfl)
      try simp only [Act.put, List.getElem_toArray, List.getElem_cons_succ, List.getElem_cons_zero, List.setIfInBounds_toArray, List.set_cons_zero, List.set_cons_succ]
      refine wpAnyH_take (i := 14) (v := ?v5_14) rfl (by kernel_rfl) (by kernel_rfl) (by kernel_rfl) (fun _ _ _ h => h) (Or.inl ⟨by rfl, ?y5_14⟩) (by assumption) ?r5_14
      case' y5_14 => (intro w hSw; (try dsimp only at hSw); (try have hlS := HLK.out _ hSw); obtain ⟨hcS, hfS⟩ := bcell hSw; clear hSw; go_simp; try with_reducible rfl)
      try simp only [Act.put, List.getElem_toArray, List.getElem_cons_succ, List.getElem_cons_zero, List.setIfInBounds_toArray, List.set_cons_zero, List.set_cons_succ]
      refine wpAnyH_take (i := 15) (v := undef) rfl (by kernel_rfl) (by kernel_rfl) (by kernel_rfl) (fun _ _ _ h => h) (Or.inr ⟨?w5_15, rfl⟩) (by assumption) ?r5_15
      case' w5_15 => first | rfl | (simp [Region.wanted, yielded, *]; done)
      try simp only [Act.put, List.getElem_toArray, List.getElem_cons_succ, List.getElem_cons_zero, List.setIfInBounds_toArray, List.set_cons_zero, List.set_cons_succ]
      refine wpAnyH_take (i := 16) (v := undef) rfl (by kernel_rfl) (by kernel_rfl) (by kernel_rfl) (fun _ _ _ h => h) (Or.inr ⟨?w5_16, rfl⟩) (by assumption) ?r5_16
      case' w5_16 => first | rfl | (simp [Region.wanted, yielded, *]; done)
      try simp only [Act.put, List.getElem_toArray, List.getElem_cons_succ, List.getElem_cons_zero, List.setIfInBounds_toArray, List.set_cons_zero, List.set_cons_succ]
      refine wpAnyH_take (i := 17) (v := undef) rfl (by kernel_rfl) (by kernel_rfl) (by kernel_rfl) (fun _ _ _ h => h) (Or.inr ⟨?w5_17, rfl⟩) (by assumption) ?r5_17
      case' w5_17 => first | rfl | (simp [Region.wanted, yielded, *]; done)
      try simp only [Act.put, List.getElem_toArray, List.getElem_cons_succ, List.getElem_cons_zero, List.setIfInBounds_toArray, List.set_cons_zero, List.set_cons_succ]
      refine wpAnyH_take (i := 18) (v := undef) rfl (by kernel_rfl) (by kernel_rfl) (by kernel_rfl) (fun _ _ _ h => h) (Or.inr ⟨?w5_18, rfl⟩) (by assumption) ?r5_18
      case' w5_18 => first | rfl | (simp [Region.wanted, yielded, *]; done)
      try simp only [Act.put, List.getElem_toArray, List.getElem_cons_succ, List.getElem_cons_zero, List.setIfInBounds_toArray, List.set_cons_zero, List.set_cons_succ]
      refine wpAnyH_take (i := 19) (v := undef) rfl (by kernel_rfl) (by kernel_rfl) (by kernel_rfl) (fun _ _ _ h => h) (Or.inr ⟨?w5_19, rfl⟩) (by assumption) ?r5_19
      case' w5_19 => first | rfl | (simp [Region.wanted, yielded, *]; done)
      try simp only [Act.put, List.getElem_toArray, List.getElem_cons_succ, List.getElem_cons_zero, List.setIfInBounds_toArray, List.set_cons_zero, List.set_cons_succ]
      refine wpAnyH_take (i := 20) (v := undef) rfl (by kernel_rfl) (by kernel_rfl) (by kernel_rfl) (fun _ _ _ h => h) (Or.inr ⟨?w5_20, rfl⟩) (by assumption) ?r5_20
      case' w5_20 => first | rfl | (simp [Region.wanted, yielded, *]; done)
      try simp only [Act.put, List.getElem_toArray, List.getElem_cons_succ, List.getElem_cons_zero, List.setIfInBounds_toArray, List.set_cons_zero, List.set_cons_succ]
      refine wpAnyH_take (i := 21) (v := undef) rfl (by kernel_rfl) (by kernel_rfl) (by kernel_rfl) (fun _ _ _ h => h) (Or.inr ⟨?w5_21, rfl⟩) (by assumption) ?r5_21
      case' w5_21 => first | rfl | (simp [Region.wanted, yielded, *]; done)
      try simp only [Act.put, List.getElem_toArray, List.getElem_cons_succ, List.getElem_cons_zero, List.setIfInBounds_toArray, List.set_cons_zero, List.set_cons_succ]
      refine wpAnyH_take (i := 22) (v := undef) rfl (by kernel_rfl) (by kernel_rfl) (by kernel_rfl) (fun _ _ _ h => h) (Or.inr ⟨?w5_22, rfl⟩) (by assumption) ?r5_22
      case' w5_22 => first | rfl | (simp [Region.wanted, yielded, *]; done)
      try simp only [Act.put, List.getElem_toArray, List.getElem_cons_succ, List.getElem_cons_zero, List.setIfInBounds_toArray, List.set_cons_zero, List.set_cons_succ]
      refine wpAnyH_take (i := 23) (v := undef) rfl (by kernel_rfl) (by kernel_rfl) (by kernel_rfl) (fun _ _ _ h => h) (Or.inr ⟨?w5_23, rfl⟩) (by assumption) ?r5_23
      case' w5_23 => first | rfl | (simp [Region.wanted, yielded, *]; done)
      try simp only [Act.put, List.getElem_toArray, List.getElem_cons_succ, List.getElem_cons_zero, List.setIfInBounds_toArray, List.set_cons_zero, List.set_cons_succ]
      refine wpAnyH_take (i := 24) (v := undef) rfl (by kernel_rfl) (by kernel_rfl) (by kernel_rfl) (fun _ _ _ h => h) (Or.inr ⟨?w5_24, rfl⟩) (by assumption) ?r5_24
      case' w5_24 => first | rfl | (simp [Region.wanted, yielded, *]; done)
      try simp only [Act.put, List.getElem_toArray, List.getElem_cons_succ, List.getElem_cons_zero, List.setIfInBounds_toArray, List.set_cons_zero, List.set_cons_succ]
      refine wpAnyH_take (i := 25) (v := undef) rfl (by kernel_rfl) (by kernel_rfl) (by kernel_rfl) (fun _ _ _ h => h) (Or.inr ⟨?w5_25, rfl⟩) (by assumption) ?r5_25
      case' w5_25 => first | rfl | (simp [Region.wanted, yielded, *]; done)
      try simp only [Act.put, List.getElem_toArray, List.getElem_cons_succ, List.getElem_cons_zero, List.setIfInBounds_toArray, List.set_cons_zero, List.set_cons_succ]
      refine wpAnyH_take (i := 26) (v := ?v5_26) rfl (by kernel_rfl) (by kernel_rfl) (by kernel_rfl) (fun _ _ _ h => h) (Or.inl ⟨by rfl, ?y5_26⟩) (by assumption) ?r5_26
      case' y5_26 => (intro w hSw; (try dsimp only at hSw); (try have hlS := HLK.out _ hSw); obtain ⟨hcS, hfS⟩ := bcell hSw; clear hSw; go_simp; try with_reducible rfl)
      try simp only [Act.put, List.getElem_toArray, List.getElem_cons_succ, List.getElem_cons_zero, List.setIfInBounds_toArray, List.set_cons_zero, List.set_cons_succ]
      refine wpAnyH_take (i := 27) (v := ?v5_27) rfl (by kernel_rfl) (by kernel_rfl) (by kernel_rfl) (fun _ _ _ h => h) (Or.inl ⟨by rfl, ?y5_27⟩) (by assumption) ?r5_27
      case' y5_27 => (intro w hSw; (try dsimp only at hSw); (try have hlS := HLK.out _ hSw); obtain ⟨hcS, hfS⟩ := bcell hSw; clear hSw; go_simp; try with_reducible rfl)
      try simp only [Act.put, List.getElem_toArray, List.getElem_cons_succ, List.getElem_cons_zero, List.setIfInBounds_toArray, List.set_cons_zero, List.set_cons_succ]
      refine wpAnyH_take (i := 28) (v := ?v5_28) rfl (by kernel_rfl) (by kernel_rfl) (by kernel_rfl) (fun _ _ _ h => h) (Or.inl ⟨by rfl, ?y5_28⟩) (by assumption) ?r5_28
      case' y5_28 => (intro w hSw; (try dsimp only at hSw); (try have hlS := HLK.out _ hSw); obtain ⟨hcS, hfS⟩ := bcell hSw; clear hSw; go_simp; try with_reducible rfl)
      try simp only [Act.put, List.getElem_toArray, List.getElem_cons_succ, List.getElem_cons_zero, List.setIfInBounds_toArray, List.set_cons_zero, List.set_cons_succ]
      refine wpAnyH_done (by kernel_rfl) ?_ _
      go_wp2_with fail
      go_ret
      exact ⟨ret_bool HG.out.symm, Below.to HB0.out hHeld (Nat.le_refl _)⟩
set_option maxRecDepth 100000 in
set_option maxHeartbeats 4000000 in
theorem goes_any (ks : List Kt) (i : Nat) (o q : Int) (A Ar : Option Addr) (n cap nr capr : Nat) (kv : Value) (w : World) (hi : i ≤ ks.length) (h : Kts w w.heap.size kv ks) :
    Calls Try.prog 78 #[.agg #[.slice A n cap, .slice Ar nr capr], kv, .int .i64 i, .int .i64 o, .int .i64 q] w fun e w' => e = .returned (.bool (goB ks i o q)) ∧ Below w.heap.size w w' := by
  obtain ⟨Ak, b, off, capk, rfl, hnc, hA, hc⟩ := h
  have HC := hide hc
  have HA := hide hA
  clear hA hc
  by_cases h1 : q = -1
  · subst h1
    go_enter Try.func78, Try.ntmps78
    go_wp2_with fail
    go_ret
    exact ⟨rfl, (by repeat (first | exact Below.refl _ _ | assumption | refine Below.drew ?_ | refine Below.drewN ?_ _ | refine Below.allocT ?_ (Nat.le_refl _) _ | refine Below.setCell ?_ (by simp <;> omega) _ | refine Below.to ?_ (by assumption) (Nat.le_refl _)))⟩
  by_cases h2 : q = -2
  · subst h2
    go_enter Try.func78, Try.ntmps78
    go_wp2_with fail
    go_ret
    exact ⟨rfl, (by repeat (first | exact Below.refl _ _ | assumption | refine Below.drew ?_ | refine Below.drewN ?_ _ | refine Below.allocT ?_ (Nat.le_refl _) _ | refine Below.setCell ?_ (by simp <;> omega) _ | refine Below.to ?_ (by assumption) (Nat.le_refl _)))⟩
  have a1 : (q == -1) = false := by simpa using h1
  have a2 : (q == -2) = false := by simpa using h2
  by_cases h3 : q < 0
  · have a3 : decide (0 ≤ q) = false := by simp; omega
    have HG := hide (goB_neg (ks := ks) (k := i) (o := o) h1 h2 h3)
    clear h1 h2 h3
    go_enter Try.func78, Try.ntmps78
    go_wp2_with fail
    go_ret
    exact ⟨ret_bool HG.out.symm, (by repeat (first | exact Below.refl _ _ | assumption | refine Below.drew ?_ | refine Below.drewN ?_ _ | refine Below.allocT ?_ (Nat.le_refl _) _ | refine Below.setCell ?_ (by simp <;> omega) _ | refine Below.to ?_ (by assumption) (Nat.le_refl _)))⟩
  · obtain ⟨t, rfl⟩ := Int.eq_ofNat_of_zero_le (by omega : 0 ≤ q)
    have a3 : decide ((0 : Int) ≤ (t : Int)) = true := by simp
    clear h1 h2 h3
    by_cases h4 : t < i
    · have a4 : decide ((t : Int) < (i : Int)) = true := by simp; omega
      have ht : t < ks.length := by omega
      have t0 : (0 : Int) ≤ (t : Int) := by omega
      have t1 : (t : Int) < (ks.length : Int) := by omega
      obtain ⟨o2, ho2⟩ : ∃ o, (ks.getD t Kt.z).o = o := ⟨_, rfl⟩
      obtain ⟨rfl, hb, p2, _, _⟩ := kAt HA.out HC.out ht
      rw [ho2] at p2
      have HG : Hid (goB ks i o t = decide (o < o2)) := by
        have := goB_nat (ks := ks) (k := i) (t := t) (o := o)
        rw [a4, Bool.true_and, ho2] at this
        exact this
      have HP2 := hide p2
      clear p2 ho2
      go_enter Try.func78, Try.ntmps78
      go_upto_region 1 with (fail)
      generalize hw0 : World.alloc _ _ = w0
      obtain ⟨hb0, hB0, hs0⟩ := alloc1 hw0
      clear hw0
      have HB0 := hide hB0
      have q2 : w0.cell? ⟨b, off + t * 3, none⟩ = some (.int .i64 o2) := (hB0.cell (p := ⟨b, off + t * 3, none⟩) hb).trans HP2.out
      clear hb0 hB0 hs0
      go_wp2_with fail
      go_ret
      exact ⟨ret_bool HG.out.symm, HB0.out⟩
    · have a4 : decide ((t : Int) < (i : Int)) = false := by simp; omega
      have HG : Hid (goB ks i o t = false) := by
        have := goB_nat (ks := ks) (k := i) (t := t) (o := o)
        rw [a4, Bool.false_and] at this
        exact this
      go_enter Try.func78, Try.ntmps78
      go_wp2_with fail
      go_ret
      exact ⟨ret_bool HG.out.symm, (by repeat (first | exact Below.refl _ _ | assumption | refine Below.drew ?_ | refine Below.drewN ?_ _ | refine Below.allocT ?_ (Nat.le_refl _) _ | refine Below.setCell ?_ (by simp <;> omega) _ | refine Below.to ?_ (by assumption) (Nat.le_refl _)))⟩
end Go.Proofs.Ytohofcmikfkilaa

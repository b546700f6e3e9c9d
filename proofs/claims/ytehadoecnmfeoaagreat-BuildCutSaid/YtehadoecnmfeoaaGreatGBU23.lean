/- Part 23 of this claim's texts: walks and plain laws. -/
import Derived.Test.YtehadoecnmfeoaaGreatRows
import Derived.Test.YtehadoecnmfeoaaGreatGBU22
import Derived.Deep.RegionHeld3
import Derived.Deep.DrawnRows
import Derived.Test.YtehadoecnmfeoaaGreatGBU3
/- The checks of a plug, a pin and a wire: walks. -/
namespace Go.Proofs.YtehadoecnmfeoaaGreat
open Go.RowKit
set_option linter.unusedVariables false
set_option linter.unusedSimpArgs false
theorem plOk_cav {l : Lo} {k : Nat} (h : plOk l k = true) : 1 ≤ (l.ps.getD k Pl.o).cav ∧ (l.ps.getD k Pl.o).cav ≤ 40 := by
  unfold plOk at h
  simp only [Bool.and_eq_true, btw_iff] at h
  exact h.2
set_option maxRecDepth 100000 in
set_option maxHeartbeats 1000000 in
theorem pin_any (p c : Int) (A0 A1 A2 A3 A4 A5 : Option Addr) (q0 q1 q2 q3 q4 q5 : Nat) (l : Lo) (lb : Nat) (w : World) (hp : l.ps.length ≤ maxLen) (hL : LoBox w lb A0 A1 A2 A3 A4 A5 q0 q1 q2 q3 q4 q5 l) (h : LoA w w.heap.size A0 A1 A2 A3 A4 A5 q0 q1 q2 q3 q4 q5 l) (hok : ∀ k, k < l.ps.length → plOk l k = true) :
    Calls Tryz.prog 145 #[.agg #[.int .i64 p, .int .i64 c], .pointer (some ⟨lb, 0, none⟩)] w fun e w' => e = .returned (.bool (pinOk l p c)) ∧ Below w.heap.size w w' := by
  have H := hide h
  have HL0 := hide hL
  have HOK := hide hok
  unfold maxLen at hp
  have hwp : IntKind.i64.wrap ((l.ps.length : Int) - 1) = (l.ps.length : Int) - 1 := IntWalk.i64_in _ (by omega)
  clear h hL hok
  cases hb : btw p 0 ((l.ps.length : Int) - 1) with
  | false =>
    have hr : pinOk l p c = false := by unfold pinOk; rw [hb]; rfl
    rw [hr]
    have HB := hide hb
    clear hr hb
    go_enter Tryz.func145, Tryz.ntmps145
    go_upto_region 1 with (fail)
    generalize hw0 : World.alloc _ _ = w0
    obtain ⟨hb0, hB0, hs0⟩ := alloc1 hw0
    have HL := hide (HL0.out.to hB0)
    have HB0 := hide hB0
    have c0 := cellOf hb0 0
    have c1 := cellOf hb0 1
    have d4 := cellOf HL.out 4
    have l0 := box_lt hb0
    have l1 := box_lt HL.out
    clear hw0 hb0 hB0 hs0
    refine wp_region_held_drew (S := (fun w' => Below w0.heap.size w0 w')) (by kernel_rfl) ?_ (fun hHeld => ?_)
    · try dsimp only
      exact (by repeat (first | exact Below.refl _ _ | assumption | refine Below.drew ?_ | refine Below.drewN ?_ _ | refine Below.allocT ?_ (Nat.le_refl _) _ | refine Below.setCell ?_ (by simp <;> omega) _ | refine Below.to ?_ (by assumption) (Nat.le_refl _)))
    refine zT 0 rfl ?_
    try simp only [zX]
    refine zT 1 rfl ?_
    try simp only [zX]
    refine zT 2 rfl ?_
    try simp only [zX]
    refine zT 3 rfl ?_
    try simp only [zX]
    refine zT 4 rfl ?_
    try simp only [zX]
    refine zT 5 rfl ?_
    try simp only [zX]
    refine wpAnyH_ready (rs := [6]) (by kernel_rfl) (by simp) ?_
    refine AllReadyH.cons rfl (fun K hK => ?_) AllReadyH.nil
    go_simp
    ((go_at_call 106; refine (withinB_any _ _ _ _ _ HB.out).mono ?_; rintro e w5 ⟨rfl, rfl⟩))
    (try dsimp only)
    refine hK.out _ _ ?_ (fun hNext => ?_)
    · try dsimp only
      exact (by repeat (first | exact Below.refl _ _ | assumption | refine Below.drew ?_ | refine Below.drewN ?_ _ | refine Below.allocT ?_ (Nat.le_refl _) _ | refine Below.setCell ?_ (by simp <;> omega) _ | refine Below.to ?_ (by assumption) (Nat.le_refl _)))
    clear hK K hHeld
    have hHeld := hNext
    clear hNext
    (try dsimp only at hHeld)
    try simp only [zX]
    refine zT 7 rfl ?_
    try simp only [zX]
    refine wpAnyH_take (i := 8) (v := undef) rfl (by kernel_rfl) (by kernel_rfl) (by kernel_rfl) (fun _ _ _ h => h) (Or.inr ⟨?w1_8, rfl⟩) (by assumption) ?r1_8
    case' w1_8 => first | rfl | (simp [Region.wanted, yielded, *]; done)
    try simp only [zX]
    refine wpAnyH_take (i := 9) (v := undef) rfl (by kernel_rfl) (by kernel_rfl) (by kernel_rfl) (fun _ _ _ h => h) (Or.inr ⟨?w1_9, rfl⟩) (by assumption) ?r1_9
    case' w1_9 => first | rfl | (simp [Region.wanted, yielded, *]; done)
    try simp only [zX]
    refine wpAnyH_take (i := 10) (v := undef) rfl (by kernel_rfl) (by kernel_rfl) (by kernel_rfl) (fun _ _ _ h => h) (Or.inr ⟨?w1_10, rfl⟩) (by assumption) ?r1_10
    case' w1_10 => first | rfl | (simp [Region.wanted, yielded, *]; done)
    try simp only [zX]
    refine wpAnyH_take (i := 11) (v := undef) rfl (by kernel_rfl) (by kernel_rfl) (by kernel_rfl) (fun _ _ _ h => h) (Or.inr ⟨?w1_11, rfl⟩) (by assumption) ?r1_11
    case' w1_11 => first | rfl | (simp [Region.wanted, yielded, *]; done)
    try simp only [zX]
    refine wpAnyH_take (i := 12) (v := undef) rfl (by kernel_rfl) (by kernel_rfl) (by kernel_rfl) (fun _ _ _ h => h) (Or.inr ⟨?w1_12, rfl⟩) (by assumption) ?r1_12
    case' w1_12 => first | rfl | (simp [Region.wanted, yielded, *]; done)
    try simp only [zX]
    refine wpAnyH_take (i := 13) (v := undef) rfl (by kernel_rfl) (by kernel_rfl) (by kernel_rfl) (fun _ _ _ h => h) (Or.inr ⟨?w1_13, rfl⟩) (by assumption) ?r1_13
    case' w1_13 => first | rfl | (simp [Region.wanted, yielded, *]; done)
    try simp only [zX]
    refine wpAnyH_take (i := 14) (v := undef) rfl (by kernel_rfl) (by kernel_rfl) (by kernel_rfl) (fun _ _ _ h => h) (Or.inr ⟨?w1_14, rfl⟩) (by assumption) ?r1_14
    case' w1_14 => first | rfl | (simp [Region.wanted, yielded, *]; done)
    try simp only [zX]
    refine wpAnyH_take (i := 15) (v := undef) rfl (by kernel_rfl) (by kernel_rfl) (by kernel_rfl) (fun _ _ _ h => h) (Or.inr ⟨?w1_15, rfl⟩) (by assumption) ?r1_15
    case' w1_15 => first | rfl | (simp [Region.wanted, yielded, *]; done)
    try simp only [zX]
    refine wpAnyH_take (i := 16) (v := undef) rfl (by kernel_rfl) (by kernel_rfl) (by kernel_rfl) (fun _ _ _ h => h) (Or.inr ⟨?w1_16, rfl⟩) (by assumption) ?r1_16
    case' w1_16 => first | rfl | (simp [Region.wanted, yielded, *]; done)
    try simp only [zX]
    refine wpAnyH_take (i := 17) (v := undef) rfl (by kernel_rfl) (by kernel_rfl) (by kernel_rfl) (fun _ _ _ h => h) (Or.inr ⟨?w1_17, rfl⟩) (by assumption) ?r1_17
    case' w1_17 => first | rfl | (simp [Region.wanted, yielded, *]; done)
    try simp only [zX]
    refine wpAnyH_take (i := 18) (v := undef) rfl (by kernel_rfl) (by kernel_rfl) (by kernel_rfl) (fun _ _ _ h => h) (Or.inr ⟨?w1_18, rfl⟩) (by assumption) ?r1_18
    case' w1_18 => first | rfl | (simp [Region.wanted, yielded, *]; done)
    try simp only [zX]
    refine zT 19 rfl ?_
    try simp only [zX]
    refine zT 20 rfl ?_
    try simp only [zX]
    refine wpAnyH_done (by kernel_rfl) ?_ _
    go_wp2_with fail
    go_ret
    exact ⟨rfl, Below.to HB0.out hHeld (Nat.le_refl _)⟩
  | true =>
    obtain ⟨p1, p2⟩ := btw_iff.1 hb
    obtain ⟨k, rfl⟩ := Int.eq_ofNat_of_zero_le p1
    have hk : k < l.ps.length := by omega
    obtain ⟨b, off, x, HX, rfl, hbb, hq, e0, e1, e2⟩ := H.out.pl hk
    have hcav := plOk_cav (HOK.out k hk)
    rw [HX.out] at hcav
    have hr : pinOk l k c = btw c 0 (x.cav - 1) := by unfold pinOk; rw [hb, Int.toNat_natCast, HX.out]; rfl
    obtain ⟨z, hz⟩ : ∃ z, btw c 0 (x.cav - 1) = z := ⟨_, rfl⟩
    rw [hr, hz]
    have HB := hide hb
    have HZ := hide hz
    have ik : (k : Int) < (l.ps.length : Int) := by omega
    have iq : (l.ps.length : Int) ≤ (q4 : Int) := by omega
    obtain ⟨v1, v2⟩ := hcav
    have hwc : IntKind.i64.wrap (x.cav - 1) = x.cav - 1 := IntWalk.i64_in _ (by omega)
    clear hr hb hz p2
    go_enter Tryz.func145, Tryz.ntmps145
    go_upto_region 1 with (fail)
    generalize hw0 : World.alloc _ _ = w0
    obtain ⟨hb0, hB0, hs0⟩ := alloc1 hw0
    have HL := hide (HL0.out.to hB0)
    have HB0 := hide hB0
    have c0 := cellOf hb0 0
    have c1 := cellOf hb0 1
    have d4 := cellOf HL.out 4
    have l0 := box_lt hb0
    have l1 := box_lt HL.out
    have l2 : b < w0.heap.size := by omega
    have g2 := (hB0.cell (p := ⟨b, off + k * 3 + 2, none⟩) hbb).trans e2
    clear hw0 hb0 hB0 hs0 e0 e1 e2
    refine wp_region_held_drew (S := (fun w' => Below w0.heap.size w0 w')) (by kernel_rfl) ?_ (fun hHeld => ?_)
    · try dsimp only
      exact (by repeat (first | exact Below.refl _ _ | assumption | refine Below.drew ?_ | refine Below.drewN ?_ _ | refine Below.allocT ?_ (Nat.le_refl _) _ | refine Below.setCell ?_ (by simp <;> omega) _ | refine Below.to ?_ (by assumption) (Nat.le_refl _)))
    refine zT 0 rfl ?_
    try simp only [zX]
    refine zT 1 rfl ?_
    try simp only [zX]
    refine zT 2 rfl ?_
    try simp only [zX]
    refine zT 3 rfl ?_
    try simp only [zX]
    refine zT 4 rfl ?_
    try simp only [zX]
    refine zT 5 rfl ?_
    try simp only [zX]
    refine wpAnyH_ready (rs := [6]) (by kernel_rfl) (by simp) ?_
    refine AllReadyH.cons rfl (fun K hK => ?_) AllReadyH.nil
    go_simp
    ((go_at_call 106; refine (withinB_any _ _ _ _ _ (by first | exact HB.out | exact HZ.out)).mono ?_; rintro e w5 ⟨rfl, rfl⟩))
    (try dsimp only)
    refine hK.out _ _ ?_ (fun hNext => ?_)
    · try dsimp only
      exact (by repeat (first | exact Below.refl _ _ | assumption | refine Below.drew ?_ | refine Below.drewN ?_ _ | refine Below.allocT ?_ (Nat.le_refl _) _ | refine Below.setCell ?_ (by simp <;> omega) _ | refine Below.to ?_ (by assumption) (Nat.le_refl _)))
    clear hK K hHeld
    have hHeld := hNext
    clear hNext
    (try dsimp only at hHeld)
    try simp only [zX]
    refine zT 7 rfl ?_
    try simp only [zX]
    refine zT 8 rfl ?_
    try simp only [zX]
    refine zT 9 rfl ?_
    try simp only [zX]
    refine zT 10 rfl ?_
    try simp only [zX]
    refine zT 11 rfl ?_
    try simp only [zX]
    refine zT 12 rfl ?_
    try simp only [zX]
    refine zT 13 rfl ?_
    try simp only [zX]
    refine zT 14 rfl ?_
    try simp only [zX]
    refine zT 15 rfl ?_
    try simp only [zX]
    refine zT 16 rfl ?_
    try simp only [zX]
    refine zT 17 rfl ?_
    try simp only [zX]
    refine wpAnyH_ready (rs := [18]) (by kernel_rfl) (by simp) ?_
    refine AllReadyH.cons rfl (fun K hK => ?_) AllReadyH.nil
    go_simp
    ((go_at_call 106; refine (withinB_any _ _ _ _ _ (by first | exact HB.out | exact HZ.out)).mono ?_; rintro e w5 ⟨rfl, rfl⟩))
    (try dsimp only)
    refine hK.out _ _ ?_ (fun hNext => ?_)
    · try dsimp only
      exact (by repeat (first | exact Below.refl _ _ | assumption | refine Below.drew ?_ | refine Below.drewN ?_ _ | refine Below.allocT ?_ (Nat.le_refl _) _ | refine Below.setCell ?_ (by simp <;> omega) _ | refine Below.to ?_ (by assumption) (Nat.le_refl _)))
    clear hK K hHeld
    have hHeld := hNext
    clear hNext
    (try dsimp only at hHeld)
    try simp only [zX]
    refine zT 19 rfl ?_
    try simp only [zX]
    refine zT 20 rfl ?_
    try simp only [zX]
    refine wpAnyH_done (by kernel_rfl) ?_ _
    go_wp2_with fail
    go_ret
    exact ⟨rfl, Below.to HB0.out hHeld (Nat.le_refl _)⟩
end Go.Proofs.YtehadoecnmfeoaaGreat

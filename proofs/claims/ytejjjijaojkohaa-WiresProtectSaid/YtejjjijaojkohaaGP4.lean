/- Part 4 of this claim's texts: walks and plain laws. -/
import Derived.Test.YtejjjijaojkohaaRows
import Derived.Test.YtejjjijaojkohaaGP3
import Derived.Test.YtejjjijaojkohaaGP2
import Derived.Deep.RegionHeld3
import Derived.Test.YtejjjijaojkohaaGP1
import Derived.Test.YtejjjijaojkohaaGP0
/- Tables of gauges and fuses: the reference's check, the search by a function: walks. -/
namespace Go.Proofs.Ytejjjijaojkohaa
open Go.RowKit
set_option linter.unusedVariables false
set_option linter.unusedSimpArgs false

def Fu.z : Fu := ⟨0, 0⟩
def fuF (fs : List Fu) (i j : Nat) : Value := .int .i64 (if j = 0 then (fs.getD i Fu.z).rating else (fs.getD i Fu.z).melt)
/-- The slice value v holds the fuses fs, below block B. -/
def Fus (w : World) (B : Nat) (v : Value) (fs : List Fu) : Prop := Sl w B 2 v fs.length (fuF fs)

theorem gaAtB {w wr : World} {B b off : Nat} {A : Option Addr} {gs : List Ga} {k : Nat} (hB : Below B w wr) (hA : A = some ⟨b, off, none⟩ ∧ b < B ∨ gs.length = 0)
    (hc : ∀ i j, i < gs.length → j < 5 → w.cell? ⟨b, off + (i * 5 + j), none⟩ = some (gaF gs i j)) (hlt : k < gs.length) :
    ∃ g, Hid (gs.getD k Ga.z = g) ∧ A = some ⟨b, off, none⟩ ∧ b < B ∧ wr.cell? ⟨b, off + k * 5, none⟩ = some (.int .i64 g.area) ∧ wr.cell? ⟨b, off + k * 5 + 1, none⟩ = some (.int .i64 g.ohm) ∧ wr.cell? ⟨b, off + k * 5 + 2, none⟩ = some (.int .i64 g.heat) ∧ wr.cell? ⟨b, off + k * 5 + 3, none⟩ = some (.int .i64 g.cool) ∧ wr.cell? ⟨b, off + k * 5 + 4, none⟩ = some (.int .i64 g.limit) := by
  rcases hA with ⟨hA1, hA2⟩ | hA1
  · have hk : ∀ o, wr.cell? ⟨b, o, none⟩ = w.cell? ⟨b, o, none⟩ := fun o => hB.cell (p := ⟨b, o, none⟩) hA2
    exact ⟨_, rfl, hA1, hA2, (hk _).trans (hc k 0 hlt (by omega)), (hk _).trans (hc k 1 hlt (by omega)), (hk _).trans (hc k 2 hlt (by omega)), (hk _).trans (hc k 3 hlt (by omega)), (hk _).trans (hc k 4 hlt (by omega))⟩
  · omega
theorem fuAtB {w wr : World} {B b off : Nat} {A : Option Addr} {gs : List Fu} {k : Nat} (hB : Below B w wr) (hA : A = some ⟨b, off, none⟩ ∧ b < B ∨ gs.length = 0)
    (hc : ∀ i j, i < gs.length → j < 2 → w.cell? ⟨b, off + (i * 2 + j), none⟩ = some (fuF gs i j)) (hlt : k < gs.length) :
    ∃ g, Hid (gs.getD k Fu.z = g) ∧ A = some ⟨b, off, none⟩ ∧ b < B ∧ wr.cell? ⟨b, off + k * 2, none⟩ = some (.int .i64 g.rating) ∧ wr.cell? ⟨b, off + k * 2 + 1, none⟩ = some (.int .i64 g.melt) := by
  rcases hA with ⟨hA1, hA2⟩ | hA1
  · have hk : ∀ o, wr.cell? ⟨b, o, none⟩ = w.cell? ⟨b, o, none⟩ := fun o => hB.cell (p := ⟨b, o, none⟩) hA2
    exact ⟨_, rfl, hA1, hA2, (hk _).trans (hc k 0 hlt (by omega)), (hk _).trans (hc k 1 hlt (by omega))⟩
  · omega

set_option maxRecDepth 100000 in
set_option maxHeartbeats 2000000 in
theorem table_any (v : Value) (gs : List Ga) (w : World) (hm : gs.length ≤ maxLen) (h : Gas w w.heap.size v gs) :
    Calls Try.prog 80 #[v] w fun e w' => e = .returned (.bool (tableB gs)) ∧ Below w.heap.size w w' := by
  unfold maxLen at hm
  obtain ⟨A, b, off, cap, rfl, hnc, hA, hc⟩ := h
  have HC := hide hc; clear hc
  have HA := hide hA; clear hA
  go_enter Try.func80, Try.ntmps80
  go_wp2
  go_loopw [3] (fun i wr => ∃ k : Nat, k ≤ gs.length ∧ i = .int .i64 k ∧ Hid (∀ j, j < k → gstep gs j = true) ∧ Below w.heap.size w wr) (fun i _ => gs.length - (intOf i).toNat)
  case atStart => exact ⟨0, Nat.zero_le _, rfl, fun j hj => by omega, Below.refl _ _⟩
  case round =>
    obtain ⟨k, hk, rfl, hz, hB⟩ := hrel
    by_cases hlt : k < gs.length
    · rcases Nat.eq_zero_or_pos k with hk0 | hk0
      · subst hk0
        obtain ⟨g, HZ, hA1, hbw, h0, h1, h2, h3, h4⟩ := gaAtB hB HA.out HC.out hlt
        subst hA1
        have hlb : b < wr.heap.size := by have := hB.size; omega
        rw [show off + 0 * 5 = off by omega] at h0 h1 h2 h3 h4
        cases hok : g.ok with
        | false =>
          have HOK := hide hok
          have HS : Hid (gstep gs 0 = false) := by show _ = _; unfold gstep; rw [HZ.out, hok]; rfl
          clear hok
          go_wp2_with fail
          refine wp_region_held_drew (S := (fun w' => Below wr.heap.size wr w')) (by kernel_rfl) ?_ (fun hHeld => ?_)
          · try dsimp only
            exact (by repeat (first | exact Below.refl _ _ | assumption | refine Below.drew ?_ | refine Below.drewN ?_ _ | refine Below.allocT ?_ (Nat.le_refl _) _ | refine Below.setCell ?_ (by simp <;> omega) _ | refine Below.to ?_ (by assumption) (Nat.le_refl _)))
          refine wpAnyH_take (i := 0) (v := ?v1_0) rfl (by kernel_rfl) (by kernel_rfl) (by kernel_rfl) (fun _ _ _ h => h) (Or.inl ⟨by rfl, ?y1_0⟩) (by assumption) ?r1_0
          case' y1_0 => (intro w hSw; (try dsimp only at hSw); (try have hlS := HLK.out _ hSw); obtain ⟨hcS, hfS⟩ := bcell hSw; clear hSw; go_simp; try with_reducible rfl)
          try simp only [Act.put, List.getElem_toArray, List.getElem_cons_succ, List.getElem_cons_zero, List.setIfInBounds_toArray, List.set_cons_zero, List.set_cons_succ]
          refine wpAnyH_take (i := 1) (v := ?v1_1) rfl (by kernel_rfl) (by kernel_rfl) (by kernel_rfl) (fun _ _ _ h => h) (Or.inl ⟨by rfl, ?y1_1⟩) (by assumption) ?r1_1
          case' y1_1 => (intro w hSw; (try dsimp only at hSw); (try have hlS := HLK.out _ hSw); obtain ⟨hcS, hfS⟩ := bcell hSw; clear hSw; go_simp; try with_reducible rfl)
          try simp only [Act.put, List.getElem_toArray, List.getElem_cons_succ, List.getElem_cons_zero, List.setIfInBounds_toArray, List.set_cons_zero, List.set_cons_succ]
          refine wpAnyH_take (i := 2) (v := ?v1_2) rfl (by kernel_rfl) (by kernel_rfl) (by kernel_rfl) (fun _ _ _ h => h) (Or.inl ⟨by rfl, ?y1_2⟩) (by assumption) ?r1_2
          case' y1_2 => (intro w hSw; (try dsimp only at hSw); (try have hlS := HLK.out _ hSw); obtain ⟨hcS, hfS⟩ := bcell hSw; clear hSw; go_simp; try with_reducible rfl)
          try simp only [Act.put, List.getElem_toArray, List.getElem_cons_succ, List.getElem_cons_zero, List.setIfInBounds_toArray, List.set_cons_zero, List.set_cons_succ]
          refine wpAnyH_take (i := 3) (v := ?v1_3) rfl (by kernel_rfl) (by kernel_rfl) (by kernel_rfl) (fun _ _ _ h => h) (Or.inl ⟨by rfl, ?y1_3⟩) (by assumption) ?r1_3
          case' y1_3 => (intro w hSw; (try dsimp only at hSw); (try have hlS := HLK.out _ hSw); obtain ⟨hcS, hfS⟩ := bcell hSw; clear hSw; go_simp; try with_reducible rfl)
          try simp only [Act.put, List.getElem_toArray, List.getElem_cons_succ, List.getElem_cons_zero, List.setIfInBounds_toArray, List.set_cons_zero, List.set_cons_succ]
          refine wpAnyH_ready (rs := [4]) (by kernel_rfl) (by simp) ?_
          refine AllReadyH.cons rfl (fun K hK => ?_) AllReadyH.nil
          go_simp
          ((go_at_call 51; refine (gauge_any g _).mono ?_; rw [HOK.out]; rintro e w1 ⟨rfl, hB1⟩))
          (try dsimp only)
          refine hK.out _ _ ?_ (fun hNext => ?_)
          · try dsimp only
            exact (by repeat (first | exact Below.refl _ _ | assumption | refine Below.drew ?_ | refine Below.drewN ?_ _ | refine Below.allocT ?_ (Nat.le_refl _) _ | refine Below.setCell ?_ (by simp <;> omega) _ | refine Below.to ?_ (by assumption) (Nat.le_refl _)))
          clear hK K hHeld
          have hHeld := hNext
          clear hNext
          (try dsimp only at hHeld)
          try simp only [Act.put, List.getElem_toArray, List.getElem_cons_succ, List.getElem_cons_zero, List.setIfInBounds_toArray, List.set_cons_zero, List.set_cons_succ]
          refine wpAnyH_take (i := 5) (v := ?v1_5) rfl (by kernel_rfl) (by kernel_rfl) (by kernel_rfl) (fun _ _ _ h => h) (Or.inl ⟨by rfl, ?y1_5⟩) (by assumption) ?r1_5
          case' y1_5 => (intro w hSw; (try dsimp only at hSw); (try have hlS := HLK.out _ hSw); obtain ⟨hcS, hfS⟩ := bcell hSw; clear hSw; go_simp; try with_reducible rfl)
          try simp only [Act.put, List.getElem_toArray, List.getElem_cons_succ, List.getElem_cons_zero, List.setIfInBounds_toArray, List.set_cons_zero, List.set_cons_succ]
          refine wpAnyH_take (i := 6) (v := ?v1_6) rfl (by kernel_rfl) (by kernel_rfl) (by kernel_rfl) (fun _ _ _ h => h) (Or.inl ⟨by rfl, ?y1_6⟩) (by assumption) ?r1_6
          case' y1_6 => (intro w hSw; (try dsimp only at hSw); (try have hlS := HLK.out _ hSw); obtain ⟨hcS, hfS⟩ := bcell hSw; clear hSw; go_simp; try with_reducible rfl)
          try simp only [Act.put, List.getElem_toArray, List.getElem_cons_succ, List.getElem_cons_zero, List.setIfInBounds_toArray, List.set_cons_zero, List.set_cons_succ]
          refine wpAnyH_take (i := 7) (v := undef) rfl (by kernel_rfl) (by kernel_rfl) (by kernel_rfl) (fun _ _ _ h => h) (Or.inr ⟨?w1_7, rfl⟩) (by assumption) ?r1_7
          case' w1_7 => first | rfl | (simp [Region.wanted, yielded, *]; done)
          try simp only [Act.put, List.getElem_toArray, List.getElem_cons_succ, List.getElem_cons_zero, List.setIfInBounds_toArray, List.set_cons_zero, List.set_cons_succ]
          refine wpAnyH_take (i := 8) (v := undef) rfl (by kernel_rfl) (by kernel_rfl) (by kernel_rfl) (fun _ _ _ h => h) (Or.inr ⟨?w1_8, rfl⟩) (by assumption) ?r1_8
          case' w1_8 => first | rfl | (simp [Region.wanted, yielded, *]; done)
          try simp only [Act.put, List.getElem_toArray, List.getElem_cons_succ, List.getElem_cons_zero, List.setIfInBounds_toArray, List.set_cons_zero, List.set_cons_succ]
          refine wpAnyH_take (i := 9) (v := undef) rfl (by kernel_rfl) (by kernel_rfl) (by kernel_rfl) (fun _ _ _ h => h) (Or.inr ⟨?w1_9, rfl⟩) (by assumption) ?r1_9
          case' w1_9 => first | rfl | (simp [Region.wanted, yielded, *]; done)
          try simp only [Act.put, List.getElem_toArray, List.getElem_cons_succ, List.getElem_cons_zero, List.setIfInBounds_toArray, List.set_cons_zero, List.set_cons_succ]
          refine wpAnyH_take (i := 10) (v := undef) rfl (by kernel_rfl) (by kernel_rfl) (by kernel_rfl) (fun _ _ _ h => h) (Or.inr ⟨?w1_10, rfl⟩) (by assumption) ?r1_10
          case' w1_10 => first | rfl | (simp [Region.wanted, yielded, *]; done)
          try simp only [Act.put, List.getElem_toArray, List.getElem_cons_succ, List.getElem_cons_zero, List.setIfInBounds_toArray, List.set_cons_zero, List.set_cons_succ]
          refine wpAnyH_take (i := 11) (v := undef) rfl (by kernel_rfl) (by kernel_rfl) (by kernel_rfl) (fun _ _ _ h => h) (Or.inr ⟨?w1_11, rfl⟩) (by assumption) ?r1_11
          case' w1_11 => first | rfl | (simp [Region.wanted, yielded, *]; done)
          try simp only [Act.put, List.getElem_toArray, List.getElem_cons_succ, List.getElem_cons_zero, List.setIfInBounds_toArray, List.set_cons_zero, List.set_cons_succ]
          refine wpAnyH_take (i := 12) (v := undef) rfl (by kernel_rfl) (by kernel_rfl) (by kernel_rfl) (fun _ _ _ h => h) (Or.inr ⟨?w1_12, rfl⟩) (by assumption) ?r1_12
          case' w1_12 => first | rfl | (simp [Region.wanted, yielded, *]; done)
          try simp only [Act.put, List.getElem_toArray, List.getElem_cons_succ, List.getElem_cons_zero, List.setIfInBounds_toArray, List.set_cons_zero, List.set_cons_succ]
          refine wpAnyH_take (i := 13) (v := undef) rfl (by kernel_rfl) (by kernel_rfl) (by kernel_rfl) (fun _ _ _ h => h) (Or.inr ⟨?w1_13, rfl⟩) (by assumption) ?r1_13
          case' w1_13 => first | rfl | (simp [Region.wanted, yielded, *]; done)
          try simp only [Act.put, List.getElem_toArray, List.getElem_cons_succ, List.getElem_cons_zero, List.setIfInBounds_toArray, List.set_cons_zero, List.set_cons_succ]
          refine wpAnyH_take (i := 14) (v := undef) rfl (by kernel_rfl) (by kernel_rfl) (by kernel_rfl) (fun _ _ _ h => h) (Or.inr ⟨?w1_14, rfl⟩) (by assumption) ?r1_14
          case' w1_14 => first | rfl | (simp [Region.wanted, yielded, *]; done)
          try simp only [Act.put, List.getElem_toArray, List.getElem_cons_succ, List.getElem_cons_zero, List.setIfInBounds_toArray, List.set_cons_zero, List.set_cons_succ]
          refine wpAnyH_take (i := 15) (v := undef) rfl (by kernel_rfl) (by kernel_rfl) (by kernel_rfl) (fun _ _ _ h => h) (Or.inr ⟨?w1_15, rfl⟩) (by assumption) ?r1_15
          case' w1_15 => first | rfl | (simp [Region.wanted, yielded, *]; done)
          try simp only [Act.put, List.getElem_toArray, List.getElem_cons_succ, List.getElem_cons_zero, List.setIfInBounds_toArray, List.set_cons_zero, List.set_cons_succ]
          refine wpAnyH_take (i := 16) (v := undef) rfl (by kernel_rfl) (by kernel_rfl) (by kernel_rfl) (fun _ _ _ h => h) (Or.inr ⟨?w1_16, rfl⟩) (by assumption) ?r1_16
          case' w1_16 => first | rfl | (simp [Region.wanted, yielded, *]; done)
          try simp only [Act.put, List.getElem_toArray, List.getElem_cons_succ, List.getElem_cons_zero, List.setIfInBounds_toArray, List.set_cons_zero, List.set_cons_succ]
          refine wpAnyH_take (i := 17) (v := undef) rfl (by kernel_rfl) (by kernel_rfl) (by kernel_rfl) (fun _ _ _ h => h) (Or.inr ⟨?w1_17, rfl⟩) (by assumption) ?r1_17
          case' w1_17 => first | rfl | (simp [Region.wanted, yielded, *]; done)
          try simp only [Act.put, List.getElem_toArray, List.getElem_cons_succ, List.getElem_cons_zero, List.setIfInBounds_toArray, List.set_cons_zero, List.set_cons_succ]
          refine wpAnyH_take (i := 18) (v := undef) rfl (by kernel_rfl) (by kernel_rfl) (by kernel_rfl) (fun _ _ _ h => h) (Or.inr ⟨?w1_18, rfl⟩) (by assumption) ?r1_18
          case' w1_18 => first | rfl | (simp [Region.wanted, yielded, *]; done)
          try simp only [Act.put, List.getElem_toArray, List.getElem_cons_succ, List.getElem_cons_zero, List.setIfInBounds_toArray, List.set_cons_zero, List.set_cons_succ]
          refine wpAnyH_take (i := 19) (v := undef) rfl (by kernel_rfl) (by kernel_rfl) (by kernel_rfl) (fun _ _ _ h => h) (Or.inr ⟨?w1_19, rfl⟩) (by assumption) ?r1_19
          case' w1_19 => first | rfl | (simp [Region.wanted, yielded, *]; done)
          try simp only [Act.put, List.getElem_toArray, List.getElem_cons_succ, List.getElem_cons_zero, List.setIfInBounds_toArray, List.set_cons_zero, List.set_cons_succ]
          refine wpAnyH_take (i := 20) (v := undef) rfl (by kernel_rfl) (by kernel_rfl) (by kernel_rfl) (fun _ _ _ h => h) (Or.inr ⟨?w1_20, rfl⟩) (by assumption) ?r1_20
          case' w1_20 => first | rfl | (simp [Region.wanted, yielded, *]; done)
          try simp only [Act.put, List.getElem_toArray, List.getElem_cons_succ, List.getElem_cons_zero, List.setIfInBounds_toArray, List.set_cons_zero, List.set_cons_succ]
          refine wpAnyH_take (i := 21) (v := undef) rfl (by kernel_rfl) (by kernel_rfl) (by kernel_rfl) (fun _ _ _ h => h) (Or.inr ⟨?w1_21, rfl⟩) (by assumption) ?r1_21
          case' w1_21 => first | rfl | (simp [Region.wanted, yielded, *]; done)
          try simp only [Act.put, List.getElem_toArray, List.getElem_cons_succ, List.getElem_cons_zero, List.setIfInBounds_toArray, List.set_cons_zero, List.set_cons_succ]
          refine wpAnyH_take (i := 22) (v := undef) rfl (by kernel_rfl) (by kernel_rfl) (by kernel_rfl) (fun _ _ _ h => h) (Or.inr ⟨?w1_22, rfl⟩) (by assumption) ?r1_22
          case' w1_22 => first | rfl | (simp [Region.wanted, yielded, *]; done)
          try simp only [Act.put, List.getElem_toArray, List.getElem_cons_succ, List.getElem_cons_zero, List.setIfInBounds_toArray, List.set_cons_zero, List.set_cons_succ]
          refine wpAnyH_take (i := 23) (v := ?v1_23) rfl (by kernel_rfl) (by kernel_rfl) (by kernel_rfl) (fun _ _ _ h => h) (Or.inl ⟨by rfl, ?y1_23⟩) (by assumption) ?r1_23
          case' y1_23 => (intro w hSw; (try dsimp only at hSw); (try have hlS := HLK.out _ hSw); obtain ⟨hcS, hfS⟩ := bcell hSw; clear hSw; go_simp; try with_reducible rfl)
          try simp only [Act.put, List.getElem_toArray, List.getElem_cons_succ, List.getElem_cons_zero, List.setIfInBounds_toArray, List.set_cons_zero, List.set_cons_succ]
          refine wpAnyH_done (by kernel_rfl) ?_ _
          go_wp2_with fail
          go_ret
          exact ⟨ret_bool (tableB_at hlt HS.out).symm, (by repeat (first | exact Below.refl _ _ | assumption | refine Below.drew ?_ | refine Below.drewN ?_ _ | refine Below.allocT ?_ (Nat.le_refl _) _ | refine Below.setCell ?_ (by simp <;> omega) _ | refine Below.to ?_ (by assumption) (Nat.le_refl _)))⟩
        | true =>
          have HOK := hide hok
          have HS : Hid (gstep gs 0 = true) := by show _ = _; unfold gstep; rw [HZ.out, hok]; rfl
          clear hok
          go_wp2_with fail
          refine wp_region_held_drew (S := (fun w' => Below wr.heap.size wr w')) (by kernel_rfl) ?_ (fun hHeld => ?_)
          · try dsimp only
            exact (by repeat (first | exact Below.refl _ _ | assumption | refine Below.drew ?_ | refine Below.drewN ?_ _ | refine Below.allocT ?_ (Nat.le_refl _) _ | refine Below.setCell ?_ (by simp <;> omega) _ | refine Below.to ?_ (by assumption) (Nat.le_refl _)))
          refine wpAnyH_take (i := 0) (v := ?v2_0) rfl (by kernel_rfl) (by kernel_rfl) (by kernel_rfl) (fun _ _ _ h => h) (Or.inl ⟨by rfl, ?y2_0⟩) (by assumption) ?r2_0
          case' y2_0 => (intro w hSw; (try dsimp only at hSw); (try have hlS := HLK.out _ hSw); obtain ⟨hcS, hfS⟩ := bcell hSw; clear hSw; go_simp; try with_reducible rfl)
          try simp only [Act.put, List.getElem_toArray, List.getElem_cons_succ, List.getElem_cons_zero, List.setIfInBounds_toArray, List.set_cons_zero, List.set_cons_succ]
          refine wpAnyH_take (i := 1) (v := ?v2_1) rfl (by kernel_rfl) (by kernel_rfl) (by kernel_rfl) (fun _ _ _ h => h) (Or.inl ⟨by rfl, ?y2_1⟩) (by assumption) ?r2_1
          case' y2_1 => (intro w hSw; (try dsimp only at hSw); (try have hlS := HLK.out _ hSw); obtain ⟨hcS, hfS⟩ := bcell hSw; clear hSw; go_simp; try with_reducible rfl)
          try simp only [Act.put, List.getElem_toArray, List.getElem_cons_succ, List.getElem_cons_zero, List.setIfInBounds_toArray, List.set_cons_zero, List.set_cons_succ]
          refine wpAnyH_take (i := 2) (v := ?v2_2) rfl (by kernel_rfl) (by kernel_rfl) (by kernel_rfl) (fun _ _ _ h => h) (Or.inl ⟨by rfl, ?y2_2⟩) (by assumption) ?r2_2
          case' y2_2 => (intro w hSw; (try dsimp only at hSw); (try have hlS := HLK.out _ hSw); obtain ⟨hcS, hfS⟩ := bcell hSw; clear hSw; go_simp; try with_reducible rfl)
          try simp only [Act.put, List.getElem_toArray, List.getElem_cons_succ, List.getElem_cons_zero, List.setIfInBounds_toArray, List.set_cons_zero, List.set_cons_succ]
          refine wpAnyH_take (i := 3) (v := ?v2_3) rfl (by kernel_rfl) (by kernel_rfl) (by kernel_rfl) (fun _ _ _ h => h) (Or.inl ⟨by rfl, ?y2_3⟩) (by assumption) ?r2_3
          case' y2_3 => (intro w hSw; (try dsimp only at hSw); (try have hlS := HLK.out _ hSw); obtain ⟨hcS, hfS⟩ := bcell hSw; clear hSw; go_simp; try with_reducible rfl)
          try simp only [Act.put, List.getElem_toArray, List.getElem_cons_succ, List.getElem_cons_zero, List.setIfInBounds_toArray, List.set_cons_zero, List.set_cons_succ]
          refine wpAnyH_ready (rs := [4]) (by kernel_rfl) (by simp) ?_
          refine AllReadyH.cons rfl (fun K hK => ?_) AllReadyH.nil
          go_simp
          ((go_at_call 51; refine (gauge_any g _).mono ?_; rw [HOK.out]; rintro e w1 ⟨rfl, hB1⟩))
          (try dsimp only)
          refine hK.out _ _ ?_ (fun hNext => ?_)
          · try dsimp only
            exact (by repeat (first | exact Below.refl _ _ | assumption | refine Below.drew ?_ | refine Below.drewN ?_ _ | refine Below.allocT ?_ (Nat.le_refl _) _ | refine Below.setCell ?_ (by simp <;> omega) _ | refine Below.to ?_ (by assumption) (Nat.le_refl _)))
          clear hK K hHeld
          have hHeld := hNext
          clear hNext
          (try dsimp only at hHeld)
          try simp only [Act.put, List.getElem_toArray, List.getElem_cons_succ, List.getElem_cons_zero, List.setIfInBounds_toArray, List.set_cons_zero, List.set_cons_succ]
          refine wpAnyH_take (i := 5) (v := ?v2_5) rfl (by kernel_rfl) (by kernel_rfl) (by kernel_rfl) (fun _ _ _ h => h) (Or.inl ⟨by rfl, ?y2_5⟩) (by assumption) ?r2_5
          case' y2_5 => (intro w hSw; (try dsimp only at hSw); (try have hlS := HLK.out _ hSw); obtain ⟨hcS, hfS⟩ := bcell hSw; clear hSw; go_simp; try with_reducible rfl)
          try simp only [Act.put, List.getElem_toArray, List.getElem_cons_succ, List.getElem_cons_zero, List.setIfInBounds_toArray, List.set_cons_zero, List.set_cons_succ]
          refine wpAnyH_take (i := 6) (v := ?v2_6) rfl (by kernel_rfl) (by kernel_rfl) (by kernel_rfl) (fun _ _ _ h => h) (Or.inl ⟨by rfl, ?y2_6⟩) (by assumption) ?r2_6
          case' y2_6 => (intro w hSw; (try dsimp only at hSw); (try have hlS := HLK.out _ hSw); obtain ⟨hcS, hfS⟩ := bcell hSw; clear hSw; go_simp; try with_reducible rfl)
          try simp only [Act.put, List.getElem_toArray, List.getElem_cons_succ, List.getElem_cons_zero, List.setIfInBounds_toArray, List.set_cons_zero, List.set_cons_succ]
          refine wpAnyH_take (i := 7) (v := ?v2_7) rfl (by kernel_rfl) (by kernel_rfl) (by kernel_rfl) (fun _ _ _ h => h) (Or.inl ⟨by rfl, ?y2_7⟩) (by assumption) ?r2_7
          case' y2_7 => (intro w hSw; (try dsimp only at hSw); (try have hlS := HLK.out _ hSw); obtain ⟨hcS, hfS⟩ := bcell hSw; clear hSw; go_simp; try with_reducible rfl)
          try simp only [Act.put, List.getElem_toArray, List.getElem_cons_succ, List.getElem_cons_zero, List.setIfInBounds_toArray, List.set_cons_zero, List.set_cons_succ]
          refine wpAnyH_take (i := 8) (v := ?v2_8) rfl (by kernel_rfl) (by kernel_rfl) (by kernel_rfl) (fun _ _ _ h => h) (Or.inl ⟨by rfl, ?y2_8⟩) (by assumption) ?r2_8
          case' y2_8 => (intro w hSw; (try dsimp only at hSw); (try have hlS := HLK.out _ hSw); obtain ⟨hcS, hfS⟩ := bcell hSw; clear hSw; go_simp; try with_reducible rfl)
          try simp only [Act.put, List.getElem_toArray, List.getElem_cons_succ, List.getElem_cons_zero, List.setIfInBounds_toArray, List.set_cons_zero, List.set_cons_succ]
          refine wpAnyH_take (i := 9) (v := ?v2_9) rfl (by kernel_rfl) (by kernel_rfl) (by kernel_rfl) (fun _ _ _ h => h) (Or.inl ⟨by rfl, ?y2_9⟩) (by assumption) ?r2_9
          case' y2_9 => (intro w hSw; (try dsimp only at hSw); (try have hlS := HLK.out _ hSw); obtain ⟨hcS, hfS⟩ := bcell hSw; clear hSw; go_simp; try with_reducible rfl)
          try simp only [Act.put, List.getElem_toArray, List.getElem_cons_succ, List.getElem_cons_zero, List.setIfInBounds_toArray, List.set_cons_zero, List.set_cons_succ]
          refine wpAnyH_take (i := 10) (v := undef) rfl (by kernel_rfl) (by kernel_rfl) (by kernel_rfl) (fun _ _ _ h => h) (Or.inr ⟨?w2_10, rfl⟩) (by assumption) ?r2_10
          case' w2_10 => first | rfl | (simp [Region.wanted, yielded, *]; done)
          try simp only [Act.put, List.getElem_toArray, List.getElem_cons_succ, List.getElem_cons_zero, List.setIfInBounds_toArray, List.set_cons_zero, List.set_cons_succ]
          refine wpAnyH_take (i := 11) (v := undef) rfl (by kernel_rfl) (by kernel_rfl) (by kernel_rfl) (fun _ _ _ h => h) (Or.inr ⟨?w2_11, rfl⟩) (by assumption) ?r2_11
          case' w2_11 => first | rfl | (simp [Region.wanted, yielded, *]; done)
          try simp only [Act.put, List.getElem_toArray, List.getElem_cons_succ, List.getElem_cons_zero, List.setIfInBounds_toArray, List.set_cons_zero, List.set_cons_succ]
          refine wpAnyH_take (i := 12) (v := undef) rfl (by kernel_rfl) (by kernel_rfl) (by kernel_rfl) (fun _ _ _ h => h) (Or.inr ⟨?w2_12, rfl⟩) (by assumption) ?r2_12
          case' w2_12 => first | rfl | (simp [Region.wanted, yielded, *]; done)
          try simp only [Act.put, List.getElem_toArray, List.getElem_cons_succ, List.getElem_cons_zero, List.setIfInBounds_toArray, List.set_cons_zero, List.set_cons_succ]
          refine wpAnyH_take (i := 13) (v := undef) rfl (by kernel_rfl) (by kernel_rfl) (by kernel_rfl) (fun _ _ _ h => h) (Or.inr ⟨?w2_13, rfl⟩) (by assumption) ?r2_13
          case' w2_13 => first | rfl | (simp [Region.wanted, yielded, *]; done)
          try simp only [Act.put, List.getElem_toArray, List.getElem_cons_succ, List.getElem_cons_zero, List.setIfInBounds_toArray, List.set_cons_zero, List.set_cons_succ]
          refine wpAnyH_take (i := 14) (v := undef) rfl (by kernel_rfl) (by kernel_rfl) (by kernel_rfl) (fun _ _ _ h => h) (Or.inr ⟨?w2_14, rfl⟩) (by assumption) ?r2_14
          case' w2_14 => first | rfl | (simp [Region.wanted, yielded, *]; done)
          try simp only [Act.put, List.getElem_toArray, List.getElem_cons_succ, List.getElem_cons_zero, List.setIfInBounds_toArray, List.set_cons_zero, List.set_cons_succ]
          refine wpAnyH_take (i := 15) (v := undef) rfl (by kernel_rfl) (by kernel_rfl) (by kernel_rfl) (fun _ _ _ h => h) (Or.inr ⟨?w2_15, rfl⟩) (by assumption) ?r2_15
          case' w2_15 => first | rfl | (simp [Region.wanted, yielded, *]; done)
          try simp only [Act.put, List.getElem_toArray, List.getElem_cons_succ, List.getElem_cons_zero, List.setIfInBounds_toArray, List.set_cons_zero, List.set_cons_succ]
          refine wpAnyH_take (i := 16) (v := undef) rfl (by kernel_rfl) (by kernel_rfl) (by kernel_rfl) (fun _ _ _ h => h) (Or.inr ⟨?w2_16, rfl⟩) (by assumption) ?r2_16
          case' w2_16 => first | rfl | (simp [Region.wanted, yielded, *]; done)
          try simp only [Act.put, List.getElem_toArray, List.getElem_cons_succ, List.getElem_cons_zero, List.setIfInBounds_toArray, List.set_cons_zero, List.set_cons_succ]
          refine wpAnyH_take (i := 17) (v := undef) rfl (by kernel_rfl) (by kernel_rfl) (by kernel_rfl) (fun _ _ _ h => h) (Or.inr ⟨?w2_17, rfl⟩) (by assumption) ?r2_17
          case' w2_17 => first | rfl | (simp [Region.wanted, yielded, *]; done)
          try simp only [Act.put, List.getElem_toArray, List.getElem_cons_succ, List.getElem_cons_zero, List.setIfInBounds_toArray, List.set_cons_zero, List.set_cons_succ]
          refine wpAnyH_take (i := 18) (v := undef) rfl (by kernel_rfl) (by kernel_rfl) (by kernel_rfl) (fun _ _ _ h => h) (Or.inr ⟨?w2_18, rfl⟩) (by assumption) ?r2_18
          case' w2_18 => first | rfl | (simp [Region.wanted, yielded, *]; done)
          try simp only [Act.put, List.getElem_toArray, List.getElem_cons_succ, List.getElem_cons_zero, List.setIfInBounds_toArray, List.set_cons_zero, List.set_cons_succ]
          refine wpAnyH_take (i := 19) (v := undef) rfl (by kernel_rfl) (by kernel_rfl) (by kernel_rfl) (fun _ _ _ h => h) (Or.inr ⟨?w2_19, rfl⟩) (by assumption) ?r2_19
          case' w2_19 => first | rfl | (simp [Region.wanted, yielded, *]; done)
          try simp only [Act.put, List.getElem_toArray, List.getElem_cons_succ, List.getElem_cons_zero, List.setIfInBounds_toArray, List.set_cons_zero, List.set_cons_succ]
          refine wpAnyH_take (i := 20) (v := undef) rfl (by kernel_rfl) (by kernel_rfl) (by kernel_rfl) (fun _ _ _ h => h) (Or.inr ⟨?w2_20, rfl⟩) (by assumption) ?r2_20
          case' w2_20 => first | rfl | (simp [Region.wanted, yielded, *]; done)
          try simp only [Act.put, List.getElem_toArray, List.getElem_cons_succ, List.getElem_cons_zero, List.setIfInBounds_toArray, List.set_cons_zero, List.set_cons_succ]
          refine wpAnyH_take (i := 21) (v := undef) rfl (by kernel_rfl) (by kernel_rfl) (by kernel_rfl) (fun _ _ _ h => h) (Or.inr ⟨?w2_21, rfl⟩) (by assumption) ?r2_21
          case' w2_21 => first | rfl | (simp [Region.wanted, yielded, *]; done)
          try simp only [Act.put, List.getElem_toArray, List.getElem_cons_succ, List.getElem_cons_zero, List.setIfInBounds_toArray, List.set_cons_zero, List.set_cons_succ]
          refine wpAnyH_take (i := 22) (v := ?v2_22) rfl (by kernel_rfl) (by kernel_rfl) (by kernel_rfl) (fun _ _ _ h => h) (Or.inl ⟨by rfl, ?y2_22⟩) (by assumption) ?r2_22
          case' y2_22 => (intro w hSw; (try dsimp only at hSw); (try have hlS := HLK.out _ hSw); obtain ⟨hcS, hfS⟩ := bcell hSw; clear hSw; go_simp; try with_reducible rfl)
          try simp only [Act.put, List.getElem_toArray, List.getElem_cons_succ, List.getElem_cons_zero, List.setIfInBounds_toArray, List.set_cons_zero, List.set_cons_succ]
          refine wpAnyH_take (i := 23) (v := ?v2_23) rfl (by kernel_rfl) (by kernel_rfl) (by kernel_rfl) (fun _ _ _ h => h) (Or.inl ⟨by rfl, ?y2_23⟩) (by assumption) ?r2_23
          case' y2_23 => (intro w hSw; (try dsimp only at hSw); (try have hlS := HLK.out _ hSw); obtain ⟨hcS, hfS⟩ := bcell hSw; clear hSw; go_simp; try with_reducible rfl)
          try simp only [Act.put, List.getElem_toArray, List.getElem_cons_succ, List.getElem_cons_zero, List.setIfInBounds_toArray, List.set_cons_zero, List.set_cons_succ]
          refine wpAnyH_done (by kernel_rfl) ?_ _
          go_wp2_with fail
          go_roundw
          case rel => exact ⟨0 + 1, by omega, by go_num, fun j hj => by rw [show j = 0 by omega]; exact HS.out, (by repeat (first | exact Below.refl _ _ | assumption | refine Below.drew ?_ | refine Below.drewN ?_ _ | refine Below.allocT ?_ (Nat.le_refl _) _ | refine Below.setCell ?_ (by simp <;> omega) _ | refine Below.to ?_ (by assumption) (Nat.le_refl _)))⟩
          case measure => simp [intOf]; omega
      · obtain ⟨m, rfl⟩ : ∃ m, k = m + 1 := ⟨k - 1, by omega⟩
        obtain ⟨g, HZ, hA1, hbw, h0, h1, h2, h3, h4⟩ := gaAtB hB HA.out HC.out hlt
        obtain ⟨g', HZ', _, _, e0, _⟩ := gaAtB hB HA.out HC.out (show m < gs.length by omega)
        subst hA1
        have hlb : b < wr.heap.size := by have := hB.size; omega
        have hlt' : m < gs.length := by omega
        have hi0 : (0 : Int) ≤ (m : Int) := by omega
        have hwm : IntKind.i64.wrap (m : Int) = (m : Int) := IntWalk.i64_in _ (by omega)
        have hi1 : (m : Int) < (gs.length : Int) := by omega
        have hi2 : (0 : Int) ≤ (m : Int) + 1 := by omega
        have hi3 : (m : Int) + 1 < (gs.length : Int) := by omega
        have hti : ((m : Int) + 1).toNat = m + 1 := by omega
        cases hok : g.ok with
        | false =>
          have HOK := hide hok
          have HS : Hid (gstep gs (m + 1) = false) := by show _ = _; unfold gstep; rw [HZ.out, hok]; rfl
          clear hok
          go_wp2_with fail
          refine wp_region_held_drew (S := (fun w' => Below wr.heap.size wr w')) (by kernel_rfl) ?_ (fun hHeld => ?_)
          · try dsimp only
            exact (by repeat (first | exact Below.refl _ _ | assumption | refine Below.drew ?_ | refine Below.drewN ?_ _ | refine Below.allocT ?_ (Nat.le_refl _) _ | refine Below.setCell ?_ (by simp <;> omega) _ | refine Below.to ?_ (by assumption) (Nat.le_refl _)))
          refine wpAnyH_take (i := 0) (v := ?v3_0) rfl (by kernel_rfl) (by kernel_rfl) (by kernel_rfl) (fun _ _ _ h => h) (Or.inl ⟨by rfl, ?y3_0⟩) (by assumption) ?r3_0
          case' y3_0 => (intro w hSw; (try dsimp only at hSw); (try have hlS := HLK.out _ hSw); obtain ⟨hcS, hfS⟩ := bcell hSw; clear hSw; go_simp; try with_reducible rfl)
          try simp only [Act.put, List.getElem_toArray, List.getElem_cons_succ, List.getElem_cons_zero, List.setIfInBounds_toArray, List.set_cons_zero, List.set_cons_succ]
          refine wpAnyH_take (i := 1) (v := ?v3_1) rfl (by kernel_rfl) (by kernel_rfl) (by kernel_rfl) (fun _ _ _ h => h) (Or.inl ⟨by rfl, ?y3_1⟩) (by assumption) ?r3_1
          case' y3_1 => (intro w hSw; (try dsimp only at hSw); (try have hlS := HLK.out _ hSw); obtain ⟨hcS, hfS⟩ := bcell hSw; clear hSw; go_simp; try with_reducible rfl)
          try simp only [Act.put, List.getElem_toArray, List.getElem_cons_succ, List.getElem_cons_zero, List.setIfInBounds_toArray, List.set_cons_zero, List.set_cons_succ]
          refine wpAnyH_take (i := 2) (v := ?v3_2) rfl (by kernel_rfl) (by kernel_rfl) (by kernel_rfl) (fun _ _ _ h => h) (Or.inl ⟨by rfl, ?y3_2⟩) (by assumption) ?r3_2
          case' y3_2 => (intro w hSw; (try dsimp only at hSw); (try have hlS := HLK.out _ hSw); obtain ⟨hcS, hfS⟩ := bcell hSw; clear hSw; go_simp; try with_reducible rfl)
          try simp only [Act.put, List.getElem_toArray, List.getElem_cons_succ, List.getElem_cons_zero, List.setIfInBounds_toArray, List.set_cons_zero, List.set_cons_succ]
          refine wpAnyH_take (i := 3) (v := ?v3_3) rfl (by kernel_rfl) (by kernel_rfl) (by kernel_rfl) (fun _ _ _ h => h) (Or.inl ⟨by rfl, ?y3_3⟩) (by assumption) ?r3_3
          case' y3_3 => (intro w hSw; (try dsimp only at hSw); (try have hlS := HLK.out _ hSw); obtain ⟨hcS, hfS⟩ := bcell hSw; clear hSw; go_simp; try with_reducible rfl)
          try simp only [Act.put, List.getElem_toArray, List.getElem_cons_succ, List.getElem_cons_zero, List.setIfInBounds_toArray, List.set_cons_zero, List.set_cons_succ]
          refine wpAnyH_ready (rs := [4]) (by kernel_rfl) (by simp) ?_
          refine AllReadyH.cons rfl (fun K hK => ?_) AllReadyH.nil
          go_simp
          ((go_at_call 51; refine (gauge_any g _).mono ?_; rw [HOK.out]; rintro e w1 ⟨rfl, hB1⟩))
          (try dsimp only)
          refine hK.out _ _ ?_ (fun hNext => ?_)
          · try dsimp only
            exact (by repeat (first | exact Below.refl _ _ | assumption | refine Below.drew ?_ | refine Below.drewN ?_ _ | refine Below.allocT ?_ (Nat.le_refl _) _ | refine Below.setCell ?_ (by simp <;> omega) _ | refine Below.to ?_ (by assumption) (Nat.le_refl _)))
          clear hK K hHeld
          have hHeld := hNext
          clear hNext
          (try dsimp only at hHeld)
          try simp only [Act.put, List.getElem_toArray, List.getElem_cons_succ, List.getElem_cons_zero, List.setIfInBounds_toArray, List.set_cons_zero, List.set_cons_succ]
          refine wpAnyH_take (i := 5) (v := ?v3_5) rfl (by kernel_rfl) (by kernel_rfl) (by kernel_rfl) (fun _ _ _ h => h) (Or.inl ⟨by rfl, ?y3_5⟩) (by assumption) ?r3_5
          case' y3_5 => (intro w hSw; (try dsimp only at hSw); (try have hlS := HLK.out _ hSw); obtain ⟨hcS, hfS⟩ := bcell hSw; clear hSw; go_simp; try with_reducible rfl)
          try simp only [Act.put, List.getElem_toArray, List.getElem_cons_succ, List.getElem_cons_zero, List.setIfInBounds_toArray, List.set_cons_zero, List.set_cons_succ]
          refine wpAnyH_take (i := 6) (v := ?v3_6) rfl (by kernel_rfl) (by kernel_rfl) (by kernel_rfl) (fun _ _ _ h => h) (Or.inl ⟨by rfl, ?y3_6⟩) (by assumption) ?r3_6
          case' y3_6 => (intro w hSw; (try dsimp only at hSw); (try have hlS := HLK.out _ hSw); obtain ⟨hcS, hfS⟩ := bcell hSw; clear hSw; go_simp; try with_reducible rfl)
          try simp only [Act.put, List.getElem_toArray, List.getElem_cons_succ, List.getElem_cons_zero, List.setIfInBounds_toArray, List.set_cons_zero, List.set_cons_succ]
          refine wpAnyH_take (i := 7) (v := undef) rfl (by kernel_rfl) (by kernel_rfl) (by kernel_rfl) (fun _ _ _ h => h) (Or.inr ⟨?w3_7, rfl⟩) (by assumption) ?r3_7
          case' w3_7 => first | rfl | (simp [Region.wanted, yielded, *]; done)
          try simp only [Act.put, List.getElem_toArray, List.getElem_cons_succ, List.getElem_cons_zero, List.setIfInBounds_toArray, List.set_cons_zero, List.set_cons_succ]
          refine wpAnyH_take (i := 8) (v := undef) rfl (by kernel_rfl) (by kernel_rfl) (by kernel_rfl) (fun _ _ _ h => h) (Or.inr ⟨?w3_8, rfl⟩) (by assumption) ?r3_8
          case' w3_8 => first | rfl | (simp [Region.wanted, yielded, *]; done)
          try simp only [Act.put, List.getElem_toArray, List.getElem_cons_succ, List.getElem_cons_zero, List.setIfInBounds_toArray, List.set_cons_zero, List.set_cons_succ]
          refine wpAnyH_take (i := 9) (v := undef) rfl (by kernel_rfl) (by kernel_rfl) (by kernel_rfl) (fun _ _ _ h => h) (Or.inr ⟨?w3_9, rfl⟩) (by assumption) ?r3_9
          case' w3_9 => first | rfl | (simp [Region.wanted, yielded, *]; done)
          try simp only [Act.put, List.getElem_toArray, List.getElem_cons_succ, List.getElem_cons_zero, List.setIfInBounds_toArray, List.set_cons_zero, List.set_cons_succ]
          refine wpAnyH_take (i := 10) (v := undef) rfl (by kernel_rfl) (by kernel_rfl) (by kernel_rfl) (fun _ _ _ h => h) (Or.inr ⟨?w3_10, rfl⟩) (by assumption) ?r3_10
          case' w3_10 => first | rfl | (simp [Region.wanted, yielded, *]; done)
          try simp only [Act.put, List.getElem_toArray, List.getElem_cons_succ, List.getElem_cons_zero, List.setIfInBounds_toArray, List.set_cons_zero, List.set_cons_succ]
          refine wpAnyH_take (i := 11) (v := undef) rfl (by kernel_rfl) (by kernel_rfl) (by kernel_rfl) (fun _ _ _ h => h) (Or.inr ⟨?w3_11, rfl⟩) (by assumption) ?r3_11
          case' w3_11 => first | rfl | (simp [Region.wanted, yielded, *]; done)
          try simp only [Act.put, List.getElem_toArray, List.getElem_cons_succ, List.getElem_cons_zero, List.setIfInBounds_toArray, List.set_cons_zero, List.set_cons_succ]
          refine wpAnyH_take (i := 12) (v := undef) rfl (by kernel_rfl) (by kernel_rfl) (by kernel_rfl) (fun _ _ _ h => h) (Or.inr ⟨?w3_12, rfl⟩) (by assumption) ?r3_12
          case' w3_12 => first | rfl | (simp [Region.wanted, yielded, *]; done)
          try simp only [Act.put, List.getElem_toArray, List.getElem_cons_succ, List.getElem_cons_zero, List.setIfInBounds_toArray, List.set_cons_zero, List.set_cons_succ]
          refine wpAnyH_take (i := 13) (v := undef) rfl (by kernel_rfl) (by kernel_rfl) (by kernel_rfl) (fun _ _ _ h => h) (Or.inr ⟨?w3_13, rfl⟩) (by assumption) ?r3_13
          case' w3_13 => first | rfl | (simp [Region.wanted, yielded, *]; done)
          try simp only [Act.put, List.getElem_toArray, List.getElem_cons_succ, List.getElem_cons_zero, List.setIfInBounds_toArray, List.set_cons_zero, List.set_cons_succ]
          refine wpAnyH_take (i := 14) (v := undef) rfl (by kernel_rfl) (by kernel_rfl) (by kernel_rfl) (fun _ _ _ h => h) (Or.inr ⟨?w3_14, rfl⟩) (by assumption) ?r3_14
          case' w3_14 => first | rfl | (simp [Region.wanted, yielded, *]; done)
          try simp only [Act.put, List.getElem_toArray, List.getElem_cons_succ, List.getElem_cons_zero, List.setIfInBounds_toArray, List.set_cons_zero, List.set_cons_succ]
          refine wpAnyH_take (i := 15) (v := undef) rfl (by kernel_rfl) (by kernel_rfl) (by kernel_rfl) (fun _ _ _ h => h) (Or.inr ⟨?w3_15, rfl⟩) (by assumption) ?r3_15
          case' w3_15 => first | rfl | (simp [Region.wanted, yielded, *]; done)
          try simp only [Act.put, List.getElem_toArray, List.getElem_cons_succ, List.getElem_cons_zero, List.setIfInBounds_toArray, List.set_cons_zero, List.set_cons_succ]
          refine wpAnyH_take (i := 16) (v := undef) rfl (by kernel_rfl) (by kernel_rfl) (by kernel_rfl) (fun _ _ _ h => h) (Or.inr ⟨?w3_16, rfl⟩) (by assumption) ?r3_16
          case' w3_16 => first | rfl | (simp [Region.wanted, yielded, *]; done)
          try simp only [Act.put, List.getElem_toArray, List.getElem_cons_succ, List.getElem_cons_zero, List.setIfInBounds_toArray, List.set_cons_zero, List.set_cons_succ]
          refine wpAnyH_take (i := 17) (v := undef) rfl (by kernel_rfl) (by kernel_rfl) (by kernel_rfl) (fun _ _ _ h => h) (Or.inr ⟨?w3_17, rfl⟩) (by assumption) ?r3_17
          case' w3_17 => first | rfl | (simp [Region.wanted, yielded, *]; done)
          try simp only [Act.put, List.getElem_toArray, List.getElem_cons_succ, List.getElem_cons_zero, List.setIfInBounds_toArray, List.set_cons_zero, List.set_cons_succ]
          refine wpAnyH_take (i := 18) (v := undef) rfl (by kernel_rfl) (by kernel_rfl) (by kernel_rfl) (fun _ _ _ h => h) (Or.inr ⟨?w3_18, rfl⟩) (by assumption) ?r3_18
          case' w3_18 => first | rfl | (simp [Region.wanted, yielded, *]; done)
          try simp only [Act.put, List.getElem_toArray, List.getElem_cons_succ, List.getElem_cons_zero, List.setIfInBounds_toArray, List.set_cons_zero, List.set_cons_succ]
          refine wpAnyH_take (i := 19) (v := undef) rfl (by kernel_rfl) (by kernel_rfl) (by kernel_rfl) (fun _ _ _ h => h) (Or.inr ⟨?w3_19, rfl⟩) (by assumption) ?r3_19
          case' w3_19 => first | rfl | (simp [Region.wanted, yielded, *]; done)
          try simp only [Act.put, List.getElem_toArray, List.getElem_cons_succ, List.getElem_cons_zero, List.setIfInBounds_toArray, List.set_cons_zero, List.set_cons_succ]
          refine wpAnyH_take (i := 20) (v := undef) rfl (by kernel_rfl) (by kernel_rfl) (by kernel_rfl) (fun _ _ _ h => h) (Or.inr ⟨?w3_20, rfl⟩) (by assumption) ?r3_20
          case' w3_20 => first | rfl | (simp [Region.wanted, yielded, *]; done)
          try simp only [Act.put, List.getElem_toArray, List.getElem_cons_succ, List.getElem_cons_zero, List.setIfInBounds_toArray, List.set_cons_zero, List.set_cons_succ]
          refine wpAnyH_take (i := 21) (v := undef) rfl (by kernel_rfl) (by kernel_rfl) (by kernel_rfl) (fun _ _ _ h => h) (Or.inr ⟨?w3_21, rfl⟩) (by assumption) ?r3_21
          case' w3_21 => first | rfl | (simp [Region.wanted, yielded, *]; done)
          try simp only [Act.put, List.getElem_toArray, List.getElem_cons_succ, List.getElem_cons_zero, List.setIfInBounds_toArray, List.set_cons_zero, List.set_cons_succ]
          refine wpAnyH_take (i := 22) (v := undef) rfl (by kernel_rfl) (by kernel_rfl) (by kernel_rfl) (fun _ _ _ h => h) (Or.inr ⟨?w3_22, rfl⟩) (by assumption) ?r3_22
          case' w3_22 => first | rfl | (simp [Region.wanted, yielded, *]; done)
          try simp only [Act.put, List.getElem_toArray, List.getElem_cons_succ, List.getElem_cons_zero, List.setIfInBounds_toArray, List.set_cons_zero, List.set_cons_succ]
          refine wpAnyH_take (i := 23) (v := ?v3_23) rfl (by kernel_rfl) (by kernel_rfl) (by kernel_rfl) (fun _ _ _ h => h) (Or.inl ⟨by rfl, ?y3_23⟩) (by assumption) ?r3_23
          case' y3_23 => (intro w hSw; (try dsimp only at hSw); (try have hlS := HLK.out _ hSw); obtain ⟨hcS, hfS⟩ := bcell hSw; clear hSw; go_simp; try with_reducible rfl)
          try simp only [Act.put, List.getElem_toArray, List.getElem_cons_succ, List.getElem_cons_zero, List.setIfInBounds_toArray, List.set_cons_zero, List.set_cons_succ]
          refine wpAnyH_done (by kernel_rfl) ?_ _
          go_wp2_with fail
          go_ret
          exact ⟨ret_bool (tableB_at hlt HS.out).symm, (by repeat (first | exact Below.refl _ _ | assumption | refine Below.drew ?_ | refine Below.drewN ?_ _ | refine Below.allocT ?_ (Nat.le_refl _) _ | refine Below.setCell ?_ (by simp <;> omega) _ | refine Below.to ?_ (by assumption) (Nat.le_refl _)))⟩
        | true =>
          have HOK := hide hok
          have hst : gstep gs (m + 1) = decide (g'.area < g.area) := by unfold gstep; rw [HZ.out, hok, show m + 1 - 1 = m by omega, HZ'.out]; simp
          clear hok
          go_wp2_with fail
          by_cases hgt : g.area ≤ g'.area
          · have hc1 : decide (g.area ≤ g'.area) = true := by simpa using hgt
            have HS : Hid (gstep gs (m + 1) = false) := by show _ = _; rw [hst]; simp; omega
            clear hst hgt
            refine wp_region_held_drew (S := (fun w' => Below wr.heap.size wr w')) (by kernel_rfl) ?_ (fun hHeld => ?_)
            · try dsimp only
              exact (by repeat (first | exact Below.refl _ _ | assumption | refine Below.drew ?_ | refine Below.drewN ?_ _ | refine Below.allocT ?_ (Nat.le_refl _) _ | refine Below.setCell ?_ (by simp <;> omega) _ | refine Below.to ?_ (by assumption) (Nat.le_refl _)))
            refine wpAnyH_take (i := 0) (v := ?v4_0) rfl (by kernel_rfl) (by kernel_rfl) (by kernel_rfl) (fun _ _ _ h => h) (Or.inl ⟨by rfl, ?y4_0⟩) (by assumption) ?r4_0
            case' y4_0 => (intro w hSw; (try dsimp only at hSw); (try have hlS := HLK.out _ hSw); obtain ⟨hcS, hfS⟩ := bcell hSw; clear hSw; go_simp; try with_reducible rfl)
            try simp only [Act.put, List.getElem_toArray, List.getElem_cons_succ, List.getElem_cons_zero, List.setIfInBounds_toArray, List.set_cons_zero, List.set_cons_succ]
            refine wpAnyH_take (i := 1) (v := ?v4_1) rfl (by kernel_rfl) (by kernel_rfl) (by kernel_rfl) (fun _ _ _ h => h) (Or.inl ⟨by rfl, ?y4_1⟩) (by assumption) ?r4_1
            case' y4_1 => (intro w hSw; (try dsimp only at hSw); (try have hlS := HLK.out _ hSw); obtain ⟨hcS, hfS⟩ := bcell hSw; clear hSw; go_simp; try with_reducible rfl)
            try simp only [Act.put, List.getElem_toArray, List.getElem_cons_succ, List.getElem_cons_zero, List.setIfInBounds_toArray, List.set_cons_zero, List.set_cons_succ]
            refine wpAnyH_take (i := 2) (v := ?v4_2) rfl (by kernel_rfl) (by kernel_rfl) (by kernel_rfl) (fun _ _ _ h => h) (Or.inl ⟨by rfl, ?y4_2⟩) (by assumption) ?r4_2
            case' y4_2 => (intro w hSw; (try dsimp only at hSw); (try have hlS := HLK.out _ hSw); obtain ⟨hcS, hfS⟩ := bcell hSw; clear hSw; go_simp; try with_reducible rfl)
            try simp only [Act.put, List.getElem_toArray, List.getElem_cons_succ, List.getElem_cons_zero, List.setIfInBounds_toArray, List.set_cons_zero, List.set_cons_succ]
            refine wpAnyH_take (i := 3) (v := ?v4_3) rfl (by kernel_rfl) (by kernel_rfl) (by kernel_rfl) (fun _ _ _ h => h) (Or.inl ⟨by rfl, ?y4_3⟩) (by assumption) ?r4_3
            case' y4_3 => (intro w hSw; (try dsimp only at hSw); (try have hlS := HLK.out _ hSw); obtain ⟨hcS, hfS⟩ := bcell hSw; clear hSw; go_simp; try with_reducible rfl)
            try simp only [Act.put, List.getElem_toArray, List.getElem_cons_succ, List.getElem_cons_zero, List.setIfInBounds_toArray, List.set_cons_zero, List.set_cons_succ]
            refine wpAnyH_ready (rs := [4]) (by kernel_rfl) (by simp) ?_
            refine AllReadyH.cons rfl (fun K hK => ?_) AllReadyH.nil
            go_simp
            ((go_at_call 51; refine (gauge_any g _).mono ?_; rw [HOK.out]; rintro e w1 ⟨rfl, hB1⟩))
            (try dsimp only)
            refine hK.out _ _ ?_ (fun hNext => ?_)
            · try dsimp only
              exact (by repeat (first | exact Below.refl _ _ | assumption | refine Below.drew ?_ | refine Below.drewN ?_ _ | refine Below.allocT ?_ (Nat.le_refl _) _ | refine Below.setCell ?_ (by simp <;> omega) _ | refine Below.to ?_ (by assumption) (Nat.le_refl _)))
            clear hK K hHeld
            have hHeld := hNext
            clear hNext
            (try dsimp only at hHeld)
            try simp only [Act.put, List.getElem_toArray, List.getElem_cons_succ, List.getElem_cons_zero, List.setIfInBounds_toArray, List.set_cons_zero, List.set_cons_succ]
            refine wpAnyH_take (i := 5) (v := ?v4_5) rfl (by kernel_rfl) (by kernel_rfl) (by kernel_rfl) (fun _ _ _ h => h) (Or.inl ⟨by rfl, ?y4_5⟩) (by assumption) ?r4_5
            case' y4_5 => (intro w hSw; (try dsimp only at hSw); (try have hlS := HLK.out _ hSw); obtain ⟨hcS, hfS⟩ := bcell hSw; clear hSw; go_simp; try with_reducible rfl)
            try simp only [Act.put, List.getElem_toArray, List.getElem_cons_succ, List.getElem_cons_zero, List.setIfInBounds_toArray, List.set_cons_zero, List.set_cons_succ]
            refine wpAnyH_take (i := 6) (v := ?v4_6) rfl (by kernel_rfl) (by kernel_rfl) (by kernel_rfl) (fun _ _ _ h => h) (Or.inl ⟨by rfl, ?y4_6⟩) (by assumption) ?r4_6
            case' y4_6 => (intro w hSw; (try dsimp only at hSw); (try have hlS := HLK.out _ hSw); obtain ⟨hcS, hfS⟩ := bcell hSw; clear hSw; go_simp; try with_reducible rfl)
            try simp only [Act.put, List.getElem_toArray, List.getElem_cons_succ, List.getElem_cons_zero, List.setIfInBounds_toArray, List.set_cons_zero, List.set_cons_succ]
            refine wpAnyH_take (i := 7) (v := ?v4_7) rfl (by kernel_rfl) (by kernel_rfl) (by kernel_rfl) (fun _ _ _ h => h) (Or.inl ⟨by rfl, ?y4_7⟩) (by assumption) ?r4_7
            case' y4_7 => (intro w hSw; (try dsimp only at hSw); (try have hlS := HLK.out _ hSw); obtain ⟨hcS, hfS⟩ := bcell hSw; clear hSw; go_simp; try with_reducible rfl)
            try simp only [Act.put, List.getElem_toArray, List.getElem_cons_succ, List.getElem_cons_zero, List.setIfInBounds_toArray, List.set_cons_zero, List.set_cons_succ]
            refine wpAnyH_take (i := 8) (v := ?v4_8) rfl (by kernel_rfl) (by kernel_rfl) (by kernel_rfl) (fun _ _ _ h => h) (Or.inl ⟨by rfl, ?y4_8⟩) (by assumption) ?r4_8
            case' y4_8 => (intro w hSw; (try dsimp only at hSw); (try have hlS := HLK.out _ hSw); obtain ⟨hcS, hfS⟩ := bcell hSw; clear hSw; go_simp; try with_reducible rfl)
            try simp only [Act.put, List.getElem_toArray, List.getElem_cons_succ, List.getElem_cons_zero, List.setIfInBounds_toArray, List.set_cons_zero, List.set_cons_succ]
            refine wpAnyH_take (i := 9) (v := ?v4_9) rfl (by kernel_rfl) (by kernel_rfl) (by kernel_rfl) (fun _ _ _ h => h) (Or.inl ⟨by rfl, ?y4_9⟩) (by assumption) ?r4_9
            case' y4_9 => (intro w hSw; (try dsimp only at hSw); (try have hlS := HLK.out _ hSw); obtain ⟨hcS, hfS⟩ := bcell hSw; clear hSw; go_simp; try with_reducible rfl)
            try simp only [Act.put, List.getElem_toArray, List.getElem_cons_succ, List.getElem_cons_zero, List.setIfInBounds_toArray, List.set_cons_zero, List.set_cons_succ]
            refine wpAnyH_take (i := 10) (v := ?v4_10) rfl (by kernel_rfl) (by kernel_rfl) (by kernel_rfl) (fun _ _ _ h => h) (Or.inl ⟨by rfl, ?y4_10⟩) (by assumption) ?r4_10
            case' y4_10 => (intro w hSw; (try dsimp only at hSw); (try have hlS := HLK.out _ hSw); obtain ⟨hcS, hfS⟩ := bcell hSw; clear hSw; go_simp; try with_reducible rfl)
            try simp only [Act.put, List.getElem_toArray, List.getElem_cons_succ, List.getElem_cons_zero, List.setIfInBounds_toArray, List.set_cons_zero, List.set_cons_succ]
            refine wpAnyH_take (i := 11) (v := ?v4_11) rfl (by kernel_rfl) (by kernel_rfl) (by kernel_rfl) (fun _ _ _ h => h) (Or.inl ⟨by rfl, ?y4_11⟩) (by assumption) ?r4_11
            case' y4_11 => (intro w hSw; (try dsimp only at hSw); (try have hlS := HLK.out _ hSw); obtain ⟨hcS, hfS⟩ := bcell hSw; clear hSw; go_simp; try with_reducible rfl)
            try simp only [Act.put, List.getElem_toArray, List.getElem_cons_succ, List.getElem_cons_zero, List.setIfInBounds_toArray, List.set_cons_zero, List.set_cons_succ]
            refine wpAnyH_take (i := 12) (v := ?v4_12) rfl (by kernel_rfl) (by kernel_rfl) (by kernel_rfl) (fun _ _ _ h => h) (Or.inl ⟨by rfl, ?y4_12⟩) (by assumption) ?r4_12
            case' y4_12 => (intro w hSw; (try dsimp only at hSw); (try have hlS := HLK.out _ hSw); obtain ⟨hcS, hfS⟩ := bcell hSw; clear hSw; go_simp; try with_reducible rfl)
            try simp only [Act.put, List.getElem_toArray, List.getElem_cons_succ, List.getElem_cons_zero, List.setIfInBounds_toArray, List.set_cons_zero, List.set_cons_succ]
            refine wpAnyH_take (i := 13) (v := ?v4_13) rfl (by kernel_rfl) (by kernel_rfl) (by kernel_rfl) (fun _ _ _ h => h) (Or.inl ⟨by rfl, ?y4_13⟩) (by assumption) ?r4_13
            case' y4_13 => (intro w hSw; (try dsimp only at hSw); (try have hlS := HLK.out _ hSw); obtain ⟨hcS, hfS⟩ := bcell hSw; clear hSw; go_simp; try with_reducible rfl)
            try simp only [Act.put, List.getElem_toArray, List.getElem_cons_succ, List.getElem_cons_zero, List.setIfInBounds_toArray, List.set_cons_zero, List.set_cons_succ]
            refine wpAnyH_take (i := 14) (v := ?v4_14) rfl (by kernel_rfl) (by kernel_rfl) (by kernel_rfl) (fun _ _ _ h => h) (Or.inl ⟨by rfl, ?y4_14⟩) (by assumption) ?r4_14
            case' y4_14 => (intro w hSw; (try dsimp only at hSw); (try have hlS := HLK.out _ hSw); obtain ⟨hcS, hfS⟩ := bcell hSw; clear hSw; go_simp; try with_reducible rfl)
            try simp only [Act.put, List.getElem_toArray, List.getElem_cons_succ, List.getElem_cons_zero, List.setIfInBounds_toArray, List.set_cons_zero, List.set_cons_succ]
            refine wpAnyH_take (i := 15) (v := ?v4_15) rfl (by kernel_rfl) (by kernel_rfl) (by kernel_rfl) (fun _ _ _ h => h) (Or.inl ⟨by rfl, ?y4_15⟩) (by assumption) ?r4_15
            case' y4_15 => (intro w hSw; (try dsimp only at hSw); (try have hlS := HLK.out _ hSw); obtain ⟨hcS, hfS⟩ := bcell hSw; clear hSw; go_simp; try with_reducible rfl)
            try simp only [Act.put, List.getElem_toArray, List.getElem_cons_succ, List.getElem_cons_zero, List.setIfInBounds_toArray, List.set_cons_zero, List.set_cons_succ]
            refine wpAnyH_take (i := 16) (v := ?v4_16) rfl (by kernel_rfl) (by kernel_rfl) (by kernel_rfl) (fun _ _ _ h => h) (Or.inl ⟨by rfl, ?y4_16⟩) (by assumption) ?r4_16
            case' y4_16 => (intro w hSw; (try dsimp only at hSw); (try have hlS := HLK.out _ hSw); obtain ⟨hcS, hfS⟩ := bcell hSw; clear hSw; go_simp; try with_reducible rfl)
            try simp only [Act.put, List.getElem_toArray, List.getElem_cons_succ, List.getElem_cons_zero, List.setIfInBounds_toArray, List.set_cons_zero, List.set_cons_succ]
            refine wpAnyH_take (i := 17) (v := ?v4_17) rfl (by kernel_rfl) (by kernel_rfl) (by kernel_rfl) (fun _ _ _ h => h) (Or.inl ⟨by rfl, ?y4_17⟩) (by assumption) ?r4_17
            case' y4_17 => (intro w hSw; (try dsimp only at hSw); (try have hlS := HLK.out _ hSw); obtain ⟨hcS, hfS⟩ := bcell hSw; clear hSw; go_simp; try with_reducible rfl)
            try simp only [Act.put, List.getElem_toArray, List.getElem_cons_succ, List.getElem_cons_zero, List.setIfInBounds_toArray, List.set_cons_zero, List.set_cons_succ]
            refine wpAnyH_take (i := 18) (v := ?v4_18) rfl (by kernel_rfl) (by kernel_rfl) (by kernel_rfl) (fun _ _ _ h => h) (Or.inl ⟨by rfl, ?y4_18⟩) (by assumption) ?r4_18
            case' y4_18 => (intro w hSw; (try dsimp only at hSw); (try have hlS := HLK.out _ hSw); obtain ⟨hcS, hfS⟩ := bcell hSw; clear hSw; go_simp; try with_reducible rfl)
            try simp only [Act.put, List.getElem_toArray, List.getElem_cons_succ, List.getElem_cons_zero, List.setIfInBounds_toArray, List.set_cons_zero, List.set_cons_succ]
            refine wpAnyH_take (i := 19) (v := ?v4_19) rfl (by kernel_rfl) (by kernel_rfl) (by kernel_rfl) (fun _ _ _ h => h) (Or.inl ⟨by rfl, ?y4_19⟩) (by assumption) ?r4_19
            case' y4_19 => (intro w hSw; (try dsimp only at hSw); (try have hlS := HLK.out _ hSw); obtain ⟨hcS, hfS⟩ := bcell hSw; clear hSw; go_simp; try with_reducible rfl)
            try simp only [Act.put, List.getElem_toArray, List.getElem_cons_succ, List.getElem_cons_zero, List.setIfInBounds_toArray, List.set_cons_zero, List.set_cons_succ]
            refine wpAnyH_take (i := 20) (v := ?v4_20) rfl (by kernel_rfl) (by kernel_rfl) (by kernel_rfl) (fun _ _ _ h => h) (Or.inl ⟨by rfl, ?y4_20⟩) (by assumption) ?r4_20
            case' y4_20 => (intro w hSw; (try dsimp only at hSw); (try have hlS := HLK.out _ hSw); obtain ⟨hcS, hfS⟩ := bcell hSw; clear hSw; go_simp; try with_reducible rfl)
            try simp only [Act.put, List.getElem_toArray, List.getElem_cons_succ, List.getElem_cons_zero, List.setIfInBounds_toArray, List.set_cons_zero, List.set_cons_succ]
            refine wpAnyH_take (i := 21) (v := ?v4_21) rfl (by kernel_rfl) (by kernel_rfl) (by kernel_rfl) (fun _ _ _ h => h) (Or.inl ⟨by rfl, ?y4_21⟩) (by assumption) ?r4_21
            case' y4_21 => (intro w hSw; (try dsimp only at hSw); (try have hlS := HLK.out _ hSw); obtain ⟨hcS, hfS⟩ := bcell hSw; clear hSw; go_simp; try with_reducible rfl)
            try simp only [Act.put, List.getElem_toArray, List.getElem_cons_succ, List.getElem_cons_zero, List.setIfInBounds_toArray, List.set_cons_zero, List.set_cons_succ]
            refine wpAnyH_take (i := 22) (v := ?v4_22) rfl (by kernel_rfl) (by kernel_rfl) (by kernel_rfl) (fun _ _ _ h => h) (Or.inl ⟨by rfl, ?y4_22⟩) (by assumption) ?r4_22
            case' y4_22 => (intro w hSw; (try dsimp only at hSw); (try have hlS := HLK.out _ hSw); obtain ⟨hcS, hfS⟩ := bcell hSw; clear hSw; go_simp; try with_reducible rfl)
            try simp only [Act.put, List.getElem_toArray, List.getElem_cons_succ, List.getElem_cons_zero, List.setIfInBounds_toArray, List.set_cons_zero, List.set_cons_succ]
            refine wpAnyH_take (i := 23) (v := ?v4_23) rfl (by kernel_rfl) (by kernel_rfl) (by kernel_rfl) (fun _ _ _ h => h) (Or.inl ⟨by rfl, ?y4_23⟩) (by assumption) ?r4_23
            case' y4_23 => (intro w hSw; (try dsimp only at hSw); (try have hlS := HLK.out _ hSw); obtain ⟨hcS, hfS⟩ := bcell hSw; clear hSw; go_simp; try with_reducible rfl)
            try simp only [Act.put, List.getElem_toArray, List.getElem_cons_succ, List.getElem_cons_zero, List.setIfInBounds_toArray, List.set_cons_zero, List.set_cons_succ]
            refine wpAnyH_done (by kernel_rfl) ?_ _
            go_wp2_with fail
            go_ret
            exact ⟨ret_bool (tableB_at hlt HS.out).symm, (by repeat (first | exact Below.refl _ _ | assumption | refine Below.drew ?_ | refine Below.drewN ?_ _ | refine Below.allocT ?_ (Nat.le_refl _) _ | refine Below.setCell ?_ (by simp <;> omega) _ | refine Below.to ?_ (by assumption) (Nat.le_refl _)))⟩
          · have hc1 : decide (g.area ≤ g'.area) = false := by simpa using hgt
            have HS : Hid (gstep gs (m + 1) = true) := by show _ = _; rw [hst]; simp; omega
            clear hst hgt
            refine wp_region_held_drew (S := (fun w' => Below wr.heap.size wr w')) (by kernel_rfl) ?_ (fun hHeld => ?_)
            · try dsimp only
              exact (by repeat (first | exact Below.refl _ _ | assumption | refine Below.drew ?_ | refine Below.drewN ?_ _ | refine Below.allocT ?_ (Nat.le_refl _) _ | refine Below.setCell ?_ (by simp <;> omega) _ | refine Below.to ?_ (by assumption) (Nat.le_refl _)))
            refine wpAnyH_take (i := 0) (v := ?v5_0) rfl (by kernel_rfl) (by kernel_rfl) (by kernel_rfl) (fun _ _ _ h => h) (Or.inl ⟨by rfl, ?y5_0⟩) (by assumption) ?r5_0
            case' y5_0 => (intro w hSw; (try dsimp only at hSw); (try have hlS := HLK.out _ hSw); obtain ⟨hcS, hfS⟩ := bcell hSw; clear hSw; go_simp; try with_reducible rfl)
            try simp only [Act.put, List.getElem_toArray, List.getElem_cons_succ, List.getElem_cons_zero, List.setIfInBounds_toArray, List.set_cons_zero, List.set_cons_succ]
            refine wpAnyH_take (i := 1) (v := ?v5_1) rfl (by kernel_rfl) (by kernel_rfl) (by kernel_rfl) (fun _ _ _ h => h) (Or.inl ⟨by rfl, ?y5_1⟩) (by assumption) ?r5_1
            case' y5_1 => (intro w hSw; (try dsimp only at hSw); (try have hlS := HLK.out _ hSw); obtain ⟨hcS, hfS⟩ := bcell hSw; clear hSw; go_simp; try with_reducible rfl)
            try simp only [Act.put, List.getElem_toArray, List.getElem_cons_succ, List.getElem_cons_zero, List.setIfInBounds_toArray, List.set_cons_zero, List.set_cons_succ]
            refine wpAnyH_take (i := 2) (v := ?v5_2) rfl (by kernel_rfl) (by kernel_rfl) (by kernel_rfl) (fun _ _ _ h => h) (Or.inl ⟨by rfl, ?y5_2⟩) (by assumption) ?r5_2
            case' y5_2 => (intro w hSw; (try dsimp only at hSw); (try have hlS := HLK.out _ hSw); obtain ⟨hcS, hfS⟩ := bcell hSw; clear hSw; go_simp; try with_reducible rfl)
            try simp only [Act.put, List.getElem_toArray, List.getElem_cons_succ, List.getElem_cons_zero, List.setIfInBounds_toArray, List.set_cons_zero, List.set_cons_succ]
            refine wpAnyH_take (i := 3) (v := ?v5_3) rfl (by kernel_rfl) (by kernel_rfl) (by kernel_rfl) (fun _ _ _ h => h) (Or.inl ⟨by rfl, ?y5_3⟩) (by assumption) ?r5_3
            case' y5_3 => (intro w hSw; (try dsimp only at hSw); (try have hlS := HLK.out _ hSw); obtain ⟨hcS, hfS⟩ := bcell hSw; clear hSw; go_simp; try with_reducible rfl)
            try simp only [Act.put, List.getElem_toArray, List.getElem_cons_succ, List.getElem_cons_zero, List.setIfInBounds_toArray, List.set_cons_zero, List.set_cons_succ]
            refine wpAnyH_ready (rs := [4]) (by kernel_rfl) (by simp) ?_
            refine AllReadyH.cons rfl (fun K hK => ?_) AllReadyH.nil
            go_simp
            ((go_at_call 51; refine (gauge_any g _).mono ?_; rw [HOK.out]; rintro e w1 ⟨rfl, hB1⟩))
            (try dsimp only)
            refine hK.out _ _ ?_ (fun hNext => ?_)
            · try dsimp only
              exact (by repeat (first | exact Below.refl _ _ | assumption | refine Below.drew ?_ | refine Below.drewN ?_ _ | refine Below.allocT ?_ (Nat.le_refl _) _ | refine Below.setCell ?_ (by simp <;> omega) _ | refine Below.to ?_ (by assumption) (Nat.le_refl _)))
            clear hK K hHeld
            have hHeld := hNext
            clear hNext
            (try dsimp only at hHeld)
            try simp only [Act.put, List.getElem_toArray, List.getElem_cons_succ, List.getElem_cons_zero, List.setIfInBounds_toArray, List.set_cons_zero, List.set_cons_succ]
            refine wpAnyH_take (i := 5) (v := ?v5_5) rfl (by kernel_rfl) (by kernel_rfl) (by kernel_rfl) (fun _ _ _ h => h) (Or.inl ⟨by rfl, ?y5_5⟩) (by assumption) ?r5_5
            case' y5_5 => (intro w hSw; (try dsimp only at hSw); (try have hlS := HLK.out _ hSw); obtain ⟨hcS, hfS⟩ := bcell hSw; clear hSw; go_simp; try with_reducible rfl)
            try simp only [Act.put, List.getElem_toArray, List.getElem_cons_succ, List.getElem_cons_zero, List.setIfInBounds_toArray, List.set_cons_zero, List.set_cons_succ]
            refine wpAnyH_take (i := 6) (v := ?v5_6) rfl (by kernel_rfl) (by kernel_rfl) (by kernel_rfl) (fun _ _ _ h => h) (Or.inl ⟨by rfl, ?y5_6⟩) (by assumption) ?r5_6
            case' y5_6 => (intro w hSw; (try dsimp only at hSw); (try have hlS := HLK.out _ hSw); obtain ⟨hcS, hfS⟩ := bcell hSw; clear hSw; go_simp; try with_reducible rfl)
            try simp only [Act.put, List.getElem_toArray, List.getElem_cons_succ, List.getElem_cons_zero, List.setIfInBounds_toArray, List.set_cons_zero, List.set_cons_succ]
            refine wpAnyH_take (i := 7) (v := ?v5_7) rfl (by kernel_rfl) (by kernel_rfl) (by kernel_rfl) (fun _ _ _ h => h) (Or.inl ⟨by rfl, ?y5_7⟩) (by assumption) ?r5_7
            case' y5_7 => (intro w hSw; (try dsimp only at hSw); (try have hlS := HLK.out _ hSw); obtain ⟨hcS, hfS⟩ := bcell hSw; clear hSw; go_simp; try with_reducible rfl)
            try simp only [Act.put, List.getElem_toArray, List.getElem_cons_succ, List.getElem_cons_zero, List.setIfInBounds_toArray, List.set_cons_zero, List.set_cons_succ]
            refine wpAnyH_take (i := 8) (v := ?v5_8) rfl (by kernel_rfl) (by kernel_rfl) (by kernel_rfl) (fun _ _ _ h => h) (Or.inl ⟨by rfl, ?y5_8⟩) (by assumption) ?r5_8
            case' y5_8 => (intro w hSw; (try dsimp only at hSw); (try have hlS := HLK.out _ hSw); obtain ⟨hcS, hfS⟩ := bcell hSw; clear hSw; go_simp; try with_reducible rfl)
            try simp only [Act.put, List.getElem_toArray, List.getElem_cons_succ, List.getElem_cons_zero, List.setIfInBounds_toArray, List.set_cons_zero, List.set_cons_succ]
            refine wpAnyH_take (i := 9) (v := ?v5_9) rfl (by kernel_rfl) (by kernel_rfl) (by kernel_rfl) (fun _ _ _ h => h) (Or.inl ⟨by rfl, ?y5_9⟩) (by assumption) ?r5_9
            case' y5_9 => (intro w hSw; (try dsimp only at hSw); (try have hlS := HLK.out _ hSw); obtain ⟨hcS, hfS⟩ := bcell hSw; clear hSw; go_simp; try with_reducible rfl)
            try simp only [Act.put, List.getElem_toArray, List.getElem_cons_succ, List.getElem_cons_zero, List.setIfInBounds_toArray, List.set_cons_zero, List.set_cons_succ]
            refine wpAnyH_take (i := 10) (v := ?v5_10) rfl (by kernel_rfl) (by kernel_rfl) (by kernel_rfl) (fun _ _ _ h => h) (Or.inl ⟨by rfl, ?y5_10⟩) (by assumption) ?r5_10
            case' y5_10 => (intro w hSw; (try dsimp only at hSw); (try have hlS := HLK.out _ hSw); obtain ⟨hcS, hfS⟩ := bcell hSw; clear hSw; go_simp; try with_reducible rfl)
            try simp only [Act.put, List.getElem_toArray, List.getElem_cons_succ, List.getElem_cons_zero, List.setIfInBounds_toArray, List.set_cons_zero, List.set_cons_succ]
            refine wpAnyH_take (i := 11) (v := ?v5_11) rfl (by kernel_rfl) (by kernel_rfl) (by kernel_rfl) (fun _ _ _ h => h) (Or.inl ⟨by rfl, ?y5_11⟩) (by assumption) ?r5_11
            case' y5_11 => (intro w hSw; (try dsimp only at hSw); (try have hlS := HLK.out _ hSw); obtain ⟨hcS, hfS⟩ := bcell hSw; clear hSw; go_simp; try with_reducible rfl)
            try simp only [Act.put, List.getElem_toArray, List.getElem_cons_succ, List.getElem_cons_zero, List.setIfInBounds_toArray, List.set_cons_zero, List.set_cons_succ]
            refine wpAnyH_take (i := 12) (v := ?v5_12) rfl (by kernel_rfl) (by kernel_rfl) (by kernel_rfl) (fun _ _ _ h => h) (Or.inl ⟨by rfl, ?y5_12⟩) (by assumption) ?r5_12
            case' y5_12 => (intro w hSw; (try dsimp only at hSw); (try have hlS := HLK.out _ hSw); obtain ⟨hcS, hfS⟩ := bcell hSw; clear hSw; go_simp; try with_reducible rfl)
            try simp only [Act.put, List.getElem_toArray, List.getElem_cons_succ, List.getElem_cons_zero, List.setIfInBounds_toArray, List.set_cons_zero, List.set_cons_succ]
            refine wpAnyH_take (i := 13) (v := ?v5_13) rfl (by kernel_rfl) (by kernel_rfl) (by kernel_rfl) (fun _ _ _ h => h) (Or.inl ⟨by rfl, ?y5_13⟩) (by assumption) ?r5_13
            case' y5_13 => (intro w hSw; (try dsimp only at hSw); (try have hlS := HLK.out _ hSw); obtain ⟨hcS, hfS⟩ := bcell hSw; clear hSw; go_simp; try with_reducible rfl)
            try simp only [Act.put, List.getElem_toArray, List.getElem_cons_succ, List.getElem_cons_zero, List.setIfInBounds_toArray, List.set_cons_zero, List.set_cons_succ]
            refine wpAnyH_take (i := 14) (v := ?v5_14) rfl (by kernel_rfl) (by kernel_rfl) (by kernel_rfl) (fun _ _ _ h => h) (Or.inl ⟨by rfl, ?y5_14⟩) (by assumption) ?r5_14
            case' y5_14 => (intro w hSw; (try dsimp only at hSw); (try have hlS := HLK.out _ hSw); obtain ⟨hcS, hfS⟩ := bcell hSw; clear hSw; go_simp; try with_reducible rfl)
            try simp only [Act.put, List.getElem_toArray, List.getElem_cons_succ, List.getElem_cons_zero, List.setIfInBounds_toArray, List.set_cons_zero, List.set_cons_succ]
            refine wpAnyH_take (i := 15) (v := ?v5_15) rfl (by kernel_rfl) (by kernel_rfl) (by kernel_rfl) (fun _ _ _ h => h) (Or.inl ⟨by rfl, ?y5_15⟩) (by assumption) ?r5_15
            case' y5_15 => (intro w hSw; (try dsimp only at hSw); (try have hlS := HLK.out _ hSw); obtain ⟨hcS, hfS⟩ := bcell hSw; clear hSw; go_simp; try with_reducible rfl)
            try simp only [Act.put, List.getElem_toArray, List.getElem_cons_succ, List.getElem_cons_zero, List.setIfInBounds_toArray, List.set_cons_zero, List.set_cons_succ]
            refine wpAnyH_take (i := 16) (v := ?v5_16) rfl (by kernel_rfl) (by kernel_rfl) (by kernel_rfl) (fun _ _ _ h => h) (Or.inl ⟨by rfl, ?y5_16⟩) (by assumption) ?r5_16
            case' y5_16 => (intro w hSw; (try dsimp only at hSw); (try have hlS := HLK.out _ hSw); obtain ⟨hcS, hfS⟩ := bcell hSw; clear hSw; go_simp; try with_reducible rfl)
            try simp only [Act.put, List.getElem_toArray, List.getElem_cons_succ, List.getElem_cons_zero, List.setIfInBounds_toArray, List.set_cons_zero, List.set_cons_succ]
            refine wpAnyH_take (i := 17) (v := ?v5_17) rfl (by kernel_rfl) (by kernel_rfl) (by kernel_rfl) (fun _ _ _ h => h) (Or.inl ⟨by rfl, ?y5_17⟩) (by assumption) ?r5_17
            case' y5_17 => (intro w hSw; (try dsimp only at hSw); (try have hlS := HLK.out _ hSw); obtain ⟨hcS, hfS⟩ := bcell hSw; clear hSw; go_simp; try with_reducible rfl)
            try simp only [Act.put, List.getElem_toArray, List.getElem_cons_succ, List.getElem_cons_zero, List.setIfInBounds_toArray, List.set_cons_zero, List.set_cons_succ]
            refine wpAnyH_take (i := 18) (v := ?v5_18) rfl (by kernel_rfl) (by kernel_rfl) (by kernel_rfl) (fun _ _ _ h => h) (Or.inl ⟨by rfl, ?y5_18⟩) (by assumption) ?r5_18
            case' y5_18 => (intro w hSw; (try dsimp only at hSw); (try have hlS := HLK.out _ hSw); obtain ⟨hcS, hfS⟩ := bcell hSw; clear hSw; go_simp; try with_reducible rfl)
            try simp only [Act.put, List.getElem_toArray, List.getElem_cons_succ, List.getElem_cons_zero, List.setIfInBounds_toArray, List.set_cons_zero, List.set_cons_succ]
            refine wpAnyH_take (i := 19) (v := ?v5_19) rfl (by kernel_rfl) (by kernel_rfl) (by kernel_rfl) (fun _ _ _ h => h) (Or.inl ⟨by rfl, ?y5_19⟩) (by assumption) ?r5_19
            case' y5_19 => (intro w hSw; (try dsimp only at hSw); (try have hlS := HLK.out _ hSw); obtain ⟨hcS, hfS⟩ := bcell hSw; clear hSw; go_simp; try with_reducible rfl)
            try simp only [Act.put, List.getElem_toArray, List.getElem_cons_succ, List.getElem_cons_zero, List.setIfInBounds_toArray, List.set_cons_zero, List.set_cons_succ]
            refine wpAnyH_take (i := 20) (v := ?v5_20) rfl (by kernel_rfl) (by kernel_rfl) (by kernel_rfl) (fun _ _ _ h => h) (Or.inl ⟨by rfl, ?y5_20⟩) (by assumption) ?r5_20
            case' y5_20 => (intro w hSw; (try dsimp only at hSw); (try have hlS := HLK.out _ hSw); obtain ⟨hcS, hfS⟩ := bcell hSw; clear hSw; go_simp; try with_reducible rfl)
            try simp only [Act.put, List.getElem_toArray, List.getElem_cons_succ, List.getElem_cons_zero, List.setIfInBounds_toArray, List.set_cons_zero, List.set_cons_succ]
            refine wpAnyH_take (i := 21) (v := ?v5_21) rfl (by kernel_rfl) (by kernel_rfl) (by kernel_rfl) (fun _ _ _ h => h) (Or.inl ⟨by rfl, ?y5_21⟩) (by assumption) ?r5_21
            case' y5_21 => (intro w hSw; (try dsimp only at hSw); (try have hlS := HLK.out _ hSw); obtain ⟨hcS, hfS⟩ := bcell hSw; clear hSw; go_simp; try with_reducible rfl)
            try simp only [Act.put, List.getElem_toArray, List.getElem_cons_succ, List.getElem_cons_zero, List.setIfInBounds_toArray, List.set_cons_zero, List.set_cons_succ]
            refine wpAnyH_take (i := 22) (v := ?v5_22) rfl (by kernel_rfl) (by kernel_rfl) (by kernel_rfl) (fun _ _ _ h => h) (Or.inl ⟨by rfl, ?y5_22⟩) (by assumption) ?r5_22
            case' y5_22 => (intro w hSw; (try dsimp only at hSw); (try have hlS := HLK.out _ hSw); obtain ⟨hcS, hfS⟩ := bcell hSw; clear hSw; go_simp; try with_reducible rfl)
            try simp only [Act.put, List.getElem_toArray, List.getElem_cons_succ, List.getElem_cons_zero, List.setIfInBounds_toArray, List.set_cons_zero, List.set_cons_succ]
            refine wpAnyH_take (i := 23) (v := ?v5_23) rfl (by kernel_rfl) (by kernel_rfl) (by kernel_rfl) (fun _ _ _ h => h) (Or.inl ⟨by rfl, ?y5_23⟩) (by assumption) ?r5_23
            case' y5_23 => (intro w hSw; (try dsimp only at hSw); (try have hlS := HLK.out _ hSw); obtain ⟨hcS, hfS⟩ := bcell hSw; clear hSw; go_simp; try with_reducible rfl)
            try simp only [Act.put, List.getElem_toArray, List.getElem_cons_succ, List.getElem_cons_zero, List.setIfInBounds_toArray, List.set_cons_zero, List.set_cons_succ]
            refine wpAnyH_done (by kernel_rfl) ?_ _
            go_wp2_with fail
            go_roundw
            case rel => exact ⟨m + 1 + 1, by omega, by go_num, fun j hj => by
                rcases Nat.lt_or_ge j (m + 1) with h | h
                · exact hz.out j h
                · rw [show j = m + 1 from by omega]; exact HS.out, (by repeat (first | exact Below.refl _ _ | assumption | refine Below.drew ?_ | refine Below.drewN ?_ _ | refine Below.allocT ?_ (Nat.le_refl _) _ | refine Below.setCell ?_ (by simp <;> omega) _ | refine Below.to ?_ (by assumption) (Nat.le_refl _)))⟩
            case measure => simp [intOf]; omega
    · go_wp2
      go_ret
      exact ⟨ret_bool (tableB_all (fun j hj => hz.out j (by omega))).symm, (by repeat (first | exact Below.refl _ _ | assumption | refine Below.drew ?_ | refine Below.drewN ?_ _ | refine Below.allocT ?_ (Nat.le_refl _) _ | refine Below.setCell ?_ (by simp <;> omega) _ | refine Below.to ?_ (by assumption) (Nat.le_refl _)))⟩


set_option maxRecDepth 100000 in
theorem index_choose (p : Ga → Bool) (c0 : Value) (v : Value) (gs : List Ga) (w : World) (hm : gs.length ≤ maxLen) (h : Gas w w.heap.size v gs)
    (hf : ∀ (i : Nat) (g : Ga) (W : World), i < gs.length → gs.getD i Ga.z = g → Below w.heap.size w W → Calls Try.prog 79 #[.agg #[.int .i64 g.area, .int .i64 g.ohm, .int .i64 g.heat, .int .i64 g.cool, .int .i64 g.limit], c0] W fun e w' => e = .returned (.bool (p g)) ∧ Below W.heap.size W w') :
    Calls Try.prog 78 #[v, .func (.func 79) #[] #[c0]] w fun e w' => e = .returned (.int .i64 (idxI p gs)) ∧ Below w.heap.size w w' := by
  unfold maxLen at hm
  obtain ⟨A, b, off, cap, rfl, hnc, hA, hc⟩ := h
  have HC := hide hc; clear hc
  have HA := hide hA; clear hA
  have HF := hide hf; clear hf
  go_enter Try.func78, Try.ntmps78
  go_wp2
  go_loopw [5, 8] (fun _ i wr => ∃ k : Nat, k ≤ gs.length ∧ i = .int .i64 k ∧ Hid (∀ j, j < k → p (gs.getD j Ga.z) = false) ∧ Below w.heap.size w wr) (fun _ i _ => gs.length - (intOf i).toNat)
  case atStart => exact ⟨0, Nat.zero_le _, rfl, fun j hj => by omega, Below.refl _ _⟩
  case round =>
    obtain ⟨k, hk, rfl, hz, hB⟩ := hrel
    by_cases hlt : k < gs.length
    · obtain ⟨g, HZ, hA1, hbw, h0, h1, h2, h3, h4⟩ := gaAtB hB HA.out HC.out hlt
      subst hA1
      by_cases hp : p g = true
      · have HP := hide hp
        clear hp
        go_wp2_with (go_at_call 79; refine (HF.out k g _ hlt HZ.out hB).mono ?_; rw [HP.out]; rintro e w1 ⟨rfl, hB1⟩)
        go_ret
        exact ⟨ret_int (idxI_at p Ga.z gs k hz.out hlt (by rw [HZ.out]; exact HP.out)).symm, (by repeat (first | exact Below.refl _ _ | assumption | refine Below.drew ?_ | refine Below.drewN ?_ _ | refine Below.allocT ?_ (Nat.le_refl _) _ | refine Below.setCell ?_ (by simp <;> omega) _ | refine Below.to ?_ (by assumption) (Nat.le_refl _)))⟩
      · have hp' : p g = false := by simpa using hp
        have HP := hide hp'
        clear hp hp'
        go_wp2_with (go_at_call 79; refine (HF.out k g _ hlt HZ.out hB).mono ?_; rw [HP.out]; rintro e w1 ⟨rfl, hB1⟩)
        go_roundw
        case rel => exact ⟨k + 1, by omega, by go_num, fun j hj => by
            rcases Nat.lt_or_ge j k with h | h
            · exact hz.out j h
            · rw [show j = k from by omega, HZ.out]; exact HP.out, (by repeat (first | exact Below.refl _ _ | assumption | refine Below.drew ?_ | refine Below.drewN ?_ _ | refine Below.allocT ?_ (Nat.le_refl _) _ | refine Below.setCell ?_ (by simp <;> omega) _ | refine Below.to ?_ (by assumption) (Nat.le_refl _)))⟩
        case measure => simp [intOf]; omega
    · go_wp2
      go_ret
      exact ⟨ret_int (idxI_none p Ga.z gs (fun j hj => hz.out j (by omega))).symm, (by repeat (first | exact Below.refl _ _ | assumption | refine Below.drew ?_ | refine Below.drewN ?_ _ | refine Below.allocT ?_ (Nat.le_refl _) _ | refine Below.setCell ?_ (by simp <;> omega) _ | refine Below.to ?_ (by assumption) (Nat.le_refl _)))⟩


set_option maxRecDepth 100000 in
theorem index_checkFuses (p : Fu → Bool)  (v : Value) (gs : List Fu) (w : World) (hm : gs.length ≤ maxLen) (h : Fus w w.heap.size v gs)
    (hf : ∀ (i : Nat) (g : Fu) (W : World), i < gs.length → gs.getD i Fu.z = g → Below w.heap.size w W → Calls Try.prog 105 #[.agg #[.int .i64 g.rating, .int .i64 g.melt]] W fun e w' => e = .returned (.bool (p g)) ∧ Below W.heap.size W w') :
    Calls Try.prog 85 #[v, .func (.func 105) #[] #[]] w fun e w' => e = .returned (.int .i64 (idxI p gs)) ∧ Below w.heap.size w w' := by
  unfold maxLen at hm
  obtain ⟨A, b, off, cap, rfl, hnc, hA, hc⟩ := h
  have HC := hide hc; clear hc
  have HA := hide hA; clear hA
  have HF := hide hf; clear hf
  go_enter Try.func85, Try.ntmps85
  go_wp2
  go_loopw [5, 8] (fun _ i wr => ∃ k : Nat, k ≤ gs.length ∧ i = .int .i64 k ∧ Hid (∀ j, j < k → p (gs.getD j Fu.z) = false) ∧ Below w.heap.size w wr) (fun _ i _ => gs.length - (intOf i).toNat)
  case atStart => exact ⟨0, Nat.zero_le _, rfl, fun j hj => by omega, Below.refl _ _⟩
  case round =>
    obtain ⟨k, hk, rfl, hz, hB⟩ := hrel
    by_cases hlt : k < gs.length
    · obtain ⟨g, HZ, hA1, hbw, h0, h1⟩ := fuAtB hB HA.out HC.out hlt
      subst hA1
      by_cases hp : p g = true
      · have HP := hide hp
        clear hp
        go_wp2_with (go_at_call 105; refine (HF.out k g _ hlt HZ.out hB).mono ?_; rw [HP.out]; rintro e w1 ⟨rfl, hB1⟩)
        go_ret
        exact ⟨ret_int (idxI_at p Fu.z gs k hz.out hlt (by rw [HZ.out]; exact HP.out)).symm, (by repeat (first | exact Below.refl _ _ | assumption | refine Below.drew ?_ | refine Below.drewN ?_ _ | refine Below.allocT ?_ (Nat.le_refl _) _ | refine Below.setCell ?_ (by simp <;> omega) _ | refine Below.to ?_ (by assumption) (Nat.le_refl _)))⟩
      · have hp' : p g = false := by simpa using hp
        have HP := hide hp'
        clear hp hp'
        go_wp2_with (go_at_call 105; refine (HF.out k g _ hlt HZ.out hB).mono ?_; rw [HP.out]; rintro e w1 ⟨rfl, hB1⟩)
        go_roundw
        case rel => exact ⟨k + 1, by omega, by go_num, fun j hj => by
            rcases Nat.lt_or_ge j k with h | h
            · exact hz.out j h
            · rw [show j = k from by omega, HZ.out]; exact HP.out, (by repeat (first | exact Below.refl _ _ | assumption | refine Below.drew ?_ | refine Below.drewN ?_ _ | refine Below.allocT ?_ (Nat.le_refl _) _ | refine Below.setCell ?_ (by simp <;> omega) _ | refine Below.to ?_ (by assumption) (Nat.le_refl _)))⟩
        case measure => simp [intOf]; omega
    · go_wp2
      go_ret
      exact ⟨ret_int (idxI_none p Fu.z gs (fun j hj => hz.out j (by omega))).symm, (by repeat (first | exact Below.refl _ _ | assumption | refine Below.drew ?_ | refine Below.drewN ?_ _ | refine Below.allocT ?_ (Nat.le_refl _) _ | refine Below.setCell ?_ (by simp <;> omega) _ | refine Below.to ?_ (by assumption) (Nat.le_refl _)))⟩


set_option maxRecDepth 100000 in
theorem index_pick (p : Fu → Bool) (c0 c1 c2 : Value) (v : Value) (gs : List Fu) (w : World) (hm : gs.length ≤ maxLen) (h : Fus w w.heap.size v gs)
    (hf : ∀ (i : Nat) (g : Fu) (W : World), i < gs.length → gs.getD i Fu.z = g → Below w.heap.size w W → Calls Try.prog 86 #[.agg #[.int .i64 g.rating, .int .i64 g.melt], c0, c1, c2] W fun e w' => e = .returned (.bool (p g)) ∧ Below W.heap.size W w') :
    Calls Try.prog 85 #[v, .func (.func 86) #[] #[c0, c1, c2]] w fun e w' => e = .returned (.int .i64 (idxI p gs)) ∧ Below w.heap.size w w' := by
  unfold maxLen at hm
  obtain ⟨A, b, off, cap, rfl, hnc, hA, hc⟩ := h
  have HC := hide hc; clear hc
  have HA := hide hA; clear hA
  have HF := hide hf; clear hf
  go_enter Try.func85, Try.ntmps85
  go_wp2
  go_loopw [5, 8] (fun _ i wr => ∃ k : Nat, k ≤ gs.length ∧ i = .int .i64 k ∧ Hid (∀ j, j < k → p (gs.getD j Fu.z) = false) ∧ Below w.heap.size w wr) (fun _ i _ => gs.length - (intOf i).toNat)
  case atStart => exact ⟨0, Nat.zero_le _, rfl, fun j hj => by omega, Below.refl _ _⟩
  case round =>
    obtain ⟨k, hk, rfl, hz, hB⟩ := hrel
    by_cases hlt : k < gs.length
    · obtain ⟨g, HZ, hA1, hbw, h0, h1⟩ := fuAtB hB HA.out HC.out hlt
      subst hA1
      by_cases hp : p g = true
      · have HP := hide hp
        clear hp
        go_wp2_with (go_at_call 86; refine (HF.out k g _ hlt HZ.out hB).mono ?_; rw [HP.out]; rintro e w1 ⟨rfl, hB1⟩)
        go_ret
        exact ⟨ret_int (idxI_at p Fu.z gs k hz.out hlt (by rw [HZ.out]; exact HP.out)).symm, (by repeat (first | exact Below.refl _ _ | assumption | refine Below.drew ?_ | refine Below.drewN ?_ _ | refine Below.allocT ?_ (Nat.le_refl _) _ | refine Below.setCell ?_ (by simp <;> omega) _ | refine Below.to ?_ (by assumption) (Nat.le_refl _)))⟩
      · have hp' : p g = false := by simpa using hp
        have HP := hide hp'
        clear hp hp'
        go_wp2_with (go_at_call 86; refine (HF.out k g _ hlt HZ.out hB).mono ?_; rw [HP.out]; rintro e w1 ⟨rfl, hB1⟩)
        go_roundw
        case rel => exact ⟨k + 1, by omega, by go_num, fun j hj => by
            rcases Nat.lt_or_ge j k with h | h
            · exact hz.out j h
            · rw [show j = k from by omega, HZ.out]; exact HP.out, (by repeat (first | exact Below.refl _ _ | assumption | refine Below.drew ?_ | refine Below.drewN ?_ _ | refine Below.allocT ?_ (Nat.le_refl _) _ | refine Below.setCell ?_ (by simp <;> omega) _ | refine Below.to ?_ (by assumption) (Nat.le_refl _)))⟩
        case measure => simp [intOf]; omega
    · go_wp2
      go_ret
      exact ⟨ret_int (idxI_none p Fu.z gs (fun j hj => hz.out j (by omega))).symm, (by repeat (first | exact Below.refl _ _ | assumption | refine Below.drew ?_ | refine Below.drewN ?_ _ | refine Below.allocT ?_ (Nat.le_refl _) _ | refine Below.setCell ?_ (by simp <;> omega) _ | refine Below.to ?_ (by assumption) (Nat.le_refl _)))⟩

end Go.Proofs.Ytejjjijaojkohaa
/- Choose: both walks. -/
namespace Go.Proofs.Ytejjjijaojkohaa
open Go.RowKit
set_option linter.unusedVariables false
set_option linter.unusedSimpArgs false

theorem chooseF_any (g : Ga) (n : Ne) (nb : Nat) (v : Value) (cs : List Cu) (w : World) (hg : g.Ok) (hk : NeOk n cs) (hN : NeedAt w nb v n) (h : Cyc w w.heap.size v cs) :
    Calls Try.prog 79 #[.agg #[.int .i64 g.area, .int .i64 g.ohm, .int .i64 g.heat, .int .i64 g.cool, .int .i64 g.limit], .pointer (some ⟨nb, 0, none⟩)] w fun e w' => e = .returned (.bool (fitsB g n cs)) ∧ Below w.heap.size w w' := by
  have hl := box_lt hN
  have H := hide h
  obtain ⟨A0, cap0, rfl⟩ := h.form
  clear h
  have HN := hide hN
  obtain ⟨k0, k1, k2, k3, _⟩ := need4 hN (Below.refl _ w)
  clear hN
  have HK := hide hk
  have HG := hide hg
  clear hk hg
  go_enter Try.func79, Try.ntmps79
  go_wp2_with (go_at_call 73; refine (fits_any g n _ cs _ HG.out HK.out (H.out.up (by repeat (first | exact Below.refl _ _ | assumption | refine Below.drew ?_ | refine Below.drewN ?_ _ | refine Below.allocT ?_ (Nat.le_refl _) _ | refine Below.setCell ?_ (by simp <;> omega) _ | refine Below.to ?_ (by assumption) (Nat.le_refl _))))).mono ?_; rintro e w1 ⟨rfl, hB1⟩)
  go_ret
  exact ⟨rfl, (by repeat (first | exact Below.refl _ _ | assumption | refine Below.drew ?_ | refine Below.drewN ?_ _ | refine Below.allocT ?_ (Nat.le_refl _) _ | refine Below.setCell ?_ (by simp <;> omega) _ | refine Below.to ?_ (by assumption) (Nat.le_refl _)))⟩

def chooseIx (gs : List Ga) (n : Ne) (cs : List Cu) : Int := idxI (fun g => fitsB g n cs) gs
def chooseErr (gs : List Ga) (n : Ne) (cs : List Cu) : Int := if 20 < gs.length then 2 else if tableB gs then if needOk n cs then if chooseIx gs n cs < 0 then 3 else 0 else 71 else 70
def chooseVal (gs : List Ga) (n : Ne) (cs : List Cu) : Int := if 20 < gs.length then 0 else if tableB gs then if needOk n cs then if chooseIx gs n cs < 0 then 0 else chooseIx gs n cs else 0 else 0

set_option maxRecDepth 100000 in
theorem Choose_any (gs : List Ga) (n : Ne) (gv v : Value) (cs : List Cu) (w : World) (hm : gs.length ≤ maxLen) (hn : cs.length ≤ 20) (hG : Gas w w.heap.size gv gs) (h : Cyc w w.heap.size v cs) :
    Calls Try.prog 35 #[gv, .agg #[v, .int .i64 n.len, .int .i64 n.drop, .int .i64 n.amb]] w fun e w' => e = .returned (.tuple #[.int .i64 (chooseVal gs n cs), .int .i64 (chooseErr gs n cs)]) ∧ Below w.heap.size w w' := by
  have H := hide h
  obtain ⟨A0, cap0, rfl⟩ := h.form
  clear h
  have HGS := hide hG
  obtain ⟨A1, cap1, rfl⟩ := Sl.form hG
  clear hG
  have HM := hide hm
  unfold maxLen at hm
  obtain ⟨x, hx⟩ : ∃ x : Int, (if decide (20 < gs.length) then (2 : Int) else 0) = x := ⟨_, rfl⟩
  obtain ⟨y, hy⟩ : ∃ y, gasErr gs = y := ⟨_, rfl⟩
  obtain ⟨z, hz⟩ : ∃ z, needErr n cs = z := ⟨_, rfl⟩
  obtain ⟨u, hu⟩ : ∃ u : Int, (if x = 0 then if y = 0 then z else y else x) = u := ⟨_, rfl⟩
  obtain ⟨ix, hix⟩ : ∃ i : Int, chooseIx gs n cs = i := ⟨_, rfl⟩
  obtain ⟨d, hd⟩ : ∃ d : Bool, decide (20 < gs.length) = d := ⟨_, rfl⟩
  have HD := hide hd
  have HX : Hid ((if d then (2 : Int) else 0) = x) := by show _ = _; rw [← hd]; exact hx
  have HY := hide hy
  have HZ := hide hz
  have HU := hide hu
  have HIX := hide hix
  have hE0 : u = 0 → tableB gs = true ∧ needOk n cs = true ∧ chooseErr gs n cs = (if ix < 0 then 3 else 0) ∧ chooseVal gs n cs = (if ix < 0 then 0 else ix) := by
    intro h0
    rw [← hu, ← hx, ← hy, ← hz] at h0
    unfold chooseErr chooseVal
    rw [hix]
    unfold gasErr needErr at h0
    by_cases h20 : 20 < gs.length
    · simp [h20] at h0
    · cases ht : tableB gs <;> cases hn2 : needOk n cs <;> simp [h20, ht, hn2] at h0 ⊢
  have hE1 : u ≠ 0 → chooseErr gs n cs = u ∧ chooseVal gs n cs = 0 := by
    intro h0
    rw [← hu, ← hx, ← hy, ← hz] at h0 ⊢
    unfold chooseErr chooseVal
    unfold gasErr needErr at h0 ⊢
    by_cases h20 : 20 < gs.length
    · simp [h20]
    · cases ht : tableB gs <;> cases hn2 : needOk n cs <;> simp [h20, ht, hn2] at h0 ⊢
  have HE0 := hide hE0
  have HE1 := hide hE1
  clear hx hy hz hu hix hE0 hE1
  go_enter Try.func35, Try.ntmps35
  go_wp2_with fail
  generalize hw0 : World.alloc _ _ = w0
  obtain ⟨hb0, hB0, hs0⟩ := alloc1 hw0
  clear hw0
  have HN0 : Hid (NeedAt w0 w.heap.size (.slice A0 cs.length cap0) n) := hb0
  have k0 := cellOf hb0 0
  have k1 := cellOf hb0 1
  have k2 := cellOf hb0 2
  have k3 := cellOf hb0 3
  have hl0 : w.heap.size < w0.heap.size := by omega
  clear hs0
  have hd2 : decide ((20 : Int) < (gs.length : Int)) = d := by rw [← hd]; rw [decide_eq_decide]; omega
  clear hd
  refine wp_region_held_drew (S := (fun w' => Below w0.heap.size w0 w')) (by kernel_rfl) ?_ (fun hHeld => ?_)
  · try dsimp only
    exact (by repeat (first | exact Below.refl _ _ | assumption | refine Below.drew ?_ | refine Below.drewN ?_ _ | refine Below.allocT ?_ (Nat.le_refl _) _ | refine Below.setCell ?_ (by simp <;> omega) _ | refine Below.to ?_ (by assumption) (Nat.le_refl _)))
  refine wpAnyH_take (i := 0) (v := ?v1_0) rfl (by kernel_rfl) (by kernel_rfl) (by kernel_rfl) (fun _ _ _ h => h) (Or.inl ⟨by rfl, ?y1_0⟩) (by assumption) ?r1_0
  case' y1_0 => (intro w hSw; (try dsimp only at hSw); (try have hlS := HLK.out _ hSw); obtain ⟨hcS, hfS⟩ := bcell hSw; clear hSw; go_simp; try with_reducible rfl)
  try simp only [Act.put, List.getElem_toArray, List.getElem_cons_succ, List.getElem_cons_zero, List.setIfInBounds_toArray, List.set_cons_zero, List.set_cons_succ]
  refine wpAnyH_take (i := 1) (v := ?v1_1) rfl (by kernel_rfl) (by kernel_rfl) (by kernel_rfl) (fun _ _ _ h => h) (Or.inl ⟨by rfl, ?y1_1⟩) (by assumption) ?r1_1
  case' y1_1 => (intro w hSw; (try dsimp only at hSw); (try have hlS := HLK.out _ hSw); obtain ⟨hcS, hfS⟩ := bcell hSw; clear hSw; go_simp; try with_reducible rfl)
  try simp only [Act.put, List.getElem_toArray, List.getElem_cons_succ, List.getElem_cons_zero, List.setIfInBounds_toArray, List.set_cons_zero, List.set_cons_succ]
  refine wpAnyH_take (i := 2) (v := ?v1_2) rfl (by kernel_rfl) (by kernel_rfl) (by kernel_rfl) (fun _ _ _ h => h) (Or.inl ⟨by rfl, ?y1_2⟩) (by assumption) ?r1_2
  case' y1_2 => (intro w hSw; (try dsimp only at hSw); (try have hlS := HLK.out _ hSw); obtain ⟨hcS, hfS⟩ := bcell hSw; clear hSw; go_simp; try with_reducible rfl)
  try simp only [Act.put, List.getElem_toArray, List.getElem_cons_succ, List.getElem_cons_zero, List.setIfInBounds_toArray, List.set_cons_zero, List.set_cons_succ]
  refine wpAnyH_take (i := 4) (v := ?v1_4) rfl (by kernel_rfl) (by kernel_rfl) (by kernel_rfl) (fun _ _ _ h => h) (Or.inl ⟨by rfl, ?y1_4⟩) (by assumption) ?r1_4
  case' y1_4 => (intro w hSw; (try dsimp only at hSw); (try have hlS := HLK.out _ hSw); obtain ⟨hcS, hfS⟩ := bcell hSw; clear hSw; go_simp; try with_reducible rfl)
  try simp only [Act.put, List.getElem_toArray, List.getElem_cons_succ, List.getElem_cons_zero, List.setIfInBounds_toArray, List.set_cons_zero, List.set_cons_succ]
  refine wpAnyH_take (i := 6) (v := ?v1_6) rfl (by kernel_rfl) (by kernel_rfl) (by kernel_rfl) (fun _ _ _ h => h) (Or.inl ⟨by rfl, ?y1_6⟩) (by assumption) ?r1_6
  case' y1_6 => (intro w hSw; (try dsimp only at hSw); (try have hlS := HLK.out _ hSw); obtain ⟨hcS, hfS⟩ := bcell hSw; clear hSw; go_simp; try with_reducible rfl)
  try simp only [Act.put, List.getElem_toArray, List.getElem_cons_succ, List.getElem_cons_zero, List.setIfInBounds_toArray, List.set_cons_zero, List.set_cons_succ]
  refine wpAnyH_ready (rs := [3]) (by kernel_rfl) (by simp) ?_
  refine AllReadyH.cons rfl (fun K hK => ?_) AllReadyH.nil
  go_simp
  (first | (go_at_call 76; refine (many_any _ _).mono ?_; rw [HX.out]; rintro e w1 ⟨rfl, rfl⟩) | (go_at_call 77; refine (checkGauges_any _ gs _ HM.out ((HGS.out.below (by repeat (first | exact Below.refl _ _ | assumption | refine Below.drew ?_ | refine Below.drewN ?_ _ | refine Below.allocT ?_ (Nat.le_refl _) _ | refine Below.setCell ?_ (by simp <;> omega) _ | refine Below.to ?_ (by assumption) (Nat.le_refl _)))).more (Below.size (by repeat (first | exact Below.refl _ _ | assumption | refine Below.drew ?_ | refine Below.drewN ?_ _ | refine Below.allocT ?_ (Nat.le_refl _) _ | refine Below.setCell ?_ (by simp <;> omega) _ | refine Below.to ?_ (by assumption) (Nat.le_refl _)))))).mono ?_; rw [HY.out]; rintro e w2 ⟨rfl, hB2⟩) | (go_at_call 72; refine (checkNeed_any n _ cs _ hn ((H.out.below (by repeat (first | exact Below.refl _ _ | assumption | refine Below.drew ?_ | refine Below.drewN ?_ _ | refine Below.allocT ?_ (Nat.le_refl _) _ | refine Below.setCell ?_ (by simp <;> omega) _ | refine Below.to ?_ (by assumption) (Nat.le_refl _)))).more (Below.size (by repeat (first | exact Below.refl _ _ | assumption | refine Below.drew ?_ | refine Below.drewN ?_ _ | refine Below.allocT ?_ (Nat.le_refl _) _ | refine Below.setCell ?_ (by simp <;> omega) _ | refine Below.to ?_ (by assumption) (Nat.le_refl _)))))).mono ?_; rw [HZ.out]; rintro e w3 ⟨rfl, hB3⟩) | (go_at_call 58; refine (errors3v _ x y z u _ (by simp) (by simp) (by simp) HU.out).mono ?_; rintro e w4 ⟨rfl, rfl⟩))
  (try dsimp only)
  refine hK.out _ _ ?_ (fun hNext => ?_)
  · try dsimp only
    exact (by repeat (first | exact Below.refl _ _ | assumption | refine Below.drew ?_ | refine Below.drewN ?_ _ | refine Below.allocT ?_ (Nat.le_refl _) _ | refine Below.setCell ?_ (by simp <;> omega) _ | refine Below.to ?_ (by assumption) (Nat.le_refl _)))
  clear hK K hHeld
  have hHeld := hNext
  clear hNext
  (try dsimp only at hHeld)
  try simp only [Act.put, List.getElem_toArray, List.getElem_cons_succ, List.getElem_cons_zero, List.setIfInBounds_toArray, List.set_cons_zero, List.set_cons_succ]
  refine wpAnyH_ready (rs := [5]) (by kernel_rfl) (by simp) ?_
  refine AllReadyH.cons rfl (fun K hK => ?_) AllReadyH.nil
  go_simp
  (first | (go_at_call 76; refine (many_any _ _).mono ?_; rw [HX.out]; rintro e w1 ⟨rfl, rfl⟩) | (go_at_call 77; refine (checkGauges_any _ gs _ HM.out ((HGS.out.below (by repeat (first | exact Below.refl _ _ | assumption | refine Below.drew ?_ | refine Below.drewN ?_ _ | refine Below.allocT ?_ (Nat.le_refl _) _ | refine Below.setCell ?_ (by simp <;> omega) _ | refine Below.to ?_ (by assumption) (Nat.le_refl _)))).more (Below.size (by repeat (first | exact Below.refl _ _ | assumption | refine Below.drew ?_ | refine Below.drewN ?_ _ | refine Below.allocT ?_ (Nat.le_refl _) _ | refine Below.setCell ?_ (by simp <;> omega) _ | refine Below.to ?_ (by assumption) (Nat.le_refl _)))))).mono ?_; rw [HY.out]; rintro e w2 ⟨rfl, hB2⟩) | (go_at_call 72; refine (checkNeed_any n _ cs _ hn ((H.out.below (by repeat (first | exact Below.refl _ _ | assumption | refine Below.drew ?_ | refine Below.drewN ?_ _ | refine Below.allocT ?_ (Nat.le_refl _) _ | refine Below.setCell ?_ (by simp <;> omega) _ | refine Below.to ?_ (by assumption) (Nat.le_refl _)))).more (Below.size (by repeat (first | exact Below.refl _ _ | assumption | refine Below.drew ?_ | refine Below.drewN ?_ _ | refine Below.allocT ?_ (Nat.le_refl _) _ | refine Below.setCell ?_ (by simp <;> omega) _ | refine Below.to ?_ (by assumption) (Nat.le_refl _)))))).mono ?_; rw [HZ.out]; rintro e w3 ⟨rfl, hB3⟩) | (go_at_call 58; refine (errors3v _ x y z u _ (by simp) (by simp) (by simp) HU.out).mono ?_; rintro e w4 ⟨rfl, rfl⟩))
  (try dsimp only)
  refine hK.out _ _ ?_ (fun hNext => ?_)
  · try dsimp only
    exact (by repeat (first | exact Below.refl _ _ | assumption | refine Below.drew ?_ | refine Below.drewN ?_ _ | refine Below.allocT ?_ (Nat.le_refl _) _ | refine Below.setCell ?_ (by simp <;> omega) _ | refine Below.to ?_ (by assumption) (Nat.le_refl _)))
  clear hK K hHeld
  have hHeld := hNext
  clear hNext
  (try dsimp only at hHeld)
  try simp only [Act.put, List.getElem_toArray, List.getElem_cons_succ, List.getElem_cons_zero, List.setIfInBounds_toArray, List.set_cons_zero, List.set_cons_succ]
  refine wpAnyH_ready (rs := [7]) (by kernel_rfl) (by simp) ?_
  refine AllReadyH.cons rfl (fun K hK => ?_) AllReadyH.nil
  go_simp
  (first | (go_at_call 76; refine (many_any _ _).mono ?_; rw [HX.out]; rintro e w1 ⟨rfl, rfl⟩) | (go_at_call 77; refine (checkGauges_any _ gs _ HM.out ((HGS.out.below (by repeat (first | exact Below.refl _ _ | assumption | refine Below.drew ?_ | refine Below.drewN ?_ _ | refine Below.allocT ?_ (Nat.le_refl _) _ | refine Below.setCell ?_ (by simp <;> omega) _ | refine Below.to ?_ (by assumption) (Nat.le_refl _)))).more (Below.size (by repeat (first | exact Below.refl _ _ | assumption | refine Below.drew ?_ | refine Below.drewN ?_ _ | refine Below.allocT ?_ (Nat.le_refl _) _ | refine Below.setCell ?_ (by simp <;> omega) _ | refine Below.to ?_ (by assumption) (Nat.le_refl _)))))).mono ?_; rw [HY.out]; rintro e w2 ⟨rfl, hB2⟩) | (go_at_call 72; refine (checkNeed_any n _ cs _ hn ((H.out.below (by repeat (first | exact Below.refl _ _ | assumption | refine Below.drew ?_ | refine Below.drewN ?_ _ | refine Below.allocT ?_ (Nat.le_refl _) _ | refine Below.setCell ?_ (by simp <;> omega) _ | refine Below.to ?_ (by assumption) (Nat.le_refl _)))).more (Below.size (by repeat (first | exact Below.refl _ _ | assumption | refine Below.drew ?_ | refine Below.drewN ?_ _ | refine Below.allocT ?_ (Nat.le_refl _) _ | refine Below.setCell ?_ (by simp <;> omega) _ | refine Below.to ?_ (by assumption) (Nat.le_refl _)))))).mono ?_; rw [HZ.out]; rintro e w3 ⟨rfl, hB3⟩) | (go_at_call 58; refine (errors3v _ x y z u _ (by simp) (by simp) (by simp) HU.out).mono ?_; rintro e w4 ⟨rfl, rfl⟩))
  (try dsimp only)
  refine hK.out _ _ ?_ (fun hNext => ?_)
  · try dsimp only
    exact (by repeat (first | exact Below.refl _ _ | assumption | refine Below.drew ?_ | refine Below.drewN ?_ _ | refine Below.allocT ?_ (Nat.le_refl _) _ | refine Below.setCell ?_ (by simp <;> omega) _ | refine Below.to ?_ (by assumption) (Nat.le_refl _)))
  clear hK K hHeld
  have hHeld := hNext
  clear hNext
  (try dsimp only at hHeld)
  try simp only [Act.put, List.getElem_toArray, List.getElem_cons_succ, List.getElem_cons_zero, List.setIfInBounds_toArray, List.set_cons_zero, List.set_cons_succ]
  refine wpAnyH_ready (rs := [8]) (by kernel_rfl) (by simp) ?_
  refine AllReadyH.cons rfl (fun K hK => ?_) AllReadyH.nil
  go_simp
  refine hK.out _ _ ?_ (fun hNext => ?_)
  · try dsimp only
    exact (by repeat (first | exact Below.refl _ _ | assumption | refine Below.drew ?_ | refine Below.drewN ?_ _ | refine Below.allocT ?_ (Nat.le_refl _) _ | refine Below.setCell ?_ (by simp <;> omega) _ | refine Below.to ?_ (by assumption) (Nat.le_refl _)))
  clear hK K hHeld
  have hHeld := hNext
  clear hNext
  (try dsimp only at hHeld)
  try simp only [Act.put, List.getElem_toArray, List.getElem_cons_succ, List.getElem_cons_zero, List.setIfInBounds_toArray, List.set_cons_zero, List.set_cons_succ]
  refine wpAnyH_ready (rs := [9]) (by kernel_rfl) (by simp) ?_
  refine AllReadyH.cons rfl (fun K hK => ?_) AllReadyH.nil
  go_simp
  (first | (go_at_call 76; refine (many_any _ _).mono ?_; rw [HX.out]; rintro e w1 ⟨rfl, rfl⟩) | (go_at_call 77; refine (checkGauges_any _ gs _ HM.out ((HGS.out.below (by repeat (first | exact Below.refl _ _ | assumption | refine Below.drew ?_ | refine Below.drewN ?_ _ | refine Below.allocT ?_ (Nat.le_refl _) _ | refine Below.setCell ?_ (by simp <;> omega) _ | refine Below.to ?_ (by assumption) (Nat.le_refl _)))).more (Below.size (by repeat (first | exact Below.refl _ _ | assumption | refine Below.drew ?_ | refine Below.drewN ?_ _ | refine Below.allocT ?_ (Nat.le_refl _) _ | refine Below.setCell ?_ (by simp <;> omega) _ | refine Below.to ?_ (by assumption) (Nat.le_refl _)))))).mono ?_; rw [HY.out]; rintro e w2 ⟨rfl, hB2⟩) | (go_at_call 72; refine (checkNeed_any n _ cs _ hn ((H.out.below (by repeat (first | exact Below.refl _ _ | assumption | refine Below.drew ?_ | refine Below.drewN ?_ _ | refine Below.allocT ?_ (Nat.le_refl _) _ | refine Below.setCell ?_ (by simp <;> omega) _ | refine Below.to ?_ (by assumption) (Nat.le_refl _)))).more (Below.size (by repeat (first | exact Below.refl _ _ | assumption | refine Below.drew ?_ | refine Below.drewN ?_ _ | refine Below.allocT ?_ (Nat.le_refl _) _ | refine Below.setCell ?_ (by simp <;> omega) _ | refine Below.to ?_ (by assumption) (Nat.le_refl _)))))).mono ?_; rw [HZ.out]; rintro e w3 ⟨rfl, hB3⟩) | (go_at_call 58; refine (errors3v _ x y z u _ (by simp) (by simp) (by simp) HU.out).mono ?_; rintro e w4 ⟨rfl, rfl⟩))
  (try dsimp only)
  refine hK.out _ _ ?_ (fun hNext => ?_)
  · try dsimp only
    exact (by repeat (first | exact Below.refl _ _ | assumption | refine Below.drew ?_ | refine Below.drewN ?_ _ | refine Below.allocT ?_ (Nat.le_refl _) _ | refine Below.setCell ?_ (by simp <;> omega) _ | refine Below.to ?_ (by assumption) (Nat.le_refl _)))
  clear hK K hHeld
  have hHeld := hNext
  clear hNext
  (try dsimp only at hHeld)
  try simp only [Act.put, List.getElem_toArray, List.getElem_cons_succ, List.getElem_cons_zero, List.setIfInBounds_toArray, List.set_cons_zero, List.set_cons_succ]
  refine wpAnyH_take (i := 10) (v := ?v1_10) rfl (by kernel_rfl) (by kernel_rfl) (by kernel_rfl) (fun _ _ _ h => h) (Or.inl ⟨by rfl, ?y1_10⟩) (by assumption) ?r1_10
  case' y1_10 => (intro w hSw; (try dsimp only at hSw); (try have hlS := HLK.out _ hSw); obtain ⟨hcS, hfS⟩ := bcell hSw; clear hSw; go_simp; try with_reducible rfl)
  try simp only [Act.put, List.getElem_toArray, List.getElem_cons_succ, List.getElem_cons_zero, List.setIfInBounds_toArray, List.set_cons_zero, List.set_cons_succ]
  refine wpAnyH_done (by kernel_rfl) ?_ _
  by_cases hu0 : u = 0
  · obtain ⟨ht, hnk, he, hv⟩ := HE0.out hu0
    have HT := hide ht
    have HNK := hide (needOk_iff.1 hnk)
    have HE := hide he
    have HV := hide hv
    clear ht hnk he hv
    have hu1 : (u != 0) = false := by simp [hu0]
    have HU0 := hide hu0
    clear hu0
    go_wp2_with (go_at_call 78; refine (index_choose (fun g => fitsB g n cs) _ _ gs _ HM.out ((HGS.out.below (by repeat (first | exact Below.refl _ _ | assumption | refine Below.drew ?_ | refine Below.drewN ?_ _ | refine Below.allocT ?_ (Nat.le_refl _) _ | refine Below.setCell ?_ (by simp <;> omega) _ | refine Below.to ?_ (by assumption) (Nat.le_refl _)))).more (Below.size (by repeat (first | exact Below.refl _ _ | assumption | refine Below.drew ?_ | refine Below.drewN ?_ _ | refine Below.allocT ?_ (Nat.le_refl _) _ | refine Below.setCell ?_ (by simp <;> omega) _ | refine Below.to ?_ (by assumption) (Nat.le_refl _))))) (fun i g W hi hg hBW => chooseF_any g n w.heap.size _ cs W (Ga.ok_iff.1 (by rw [← hg]; exact tableB_get HT.out hi)) HNK.out (box_to HN0.out (show Below w0.heap.size w0 W from Below.to hHeld hBW (Nat.le_refl _))) ((H.out.below (show Below w.heap.size w W from Below.to (by repeat (first | exact Below.refl _ _ | assumption | refine Below.drew ?_ | refine Below.drewN ?_ _ | refine Below.allocT ?_ (Nat.le_refl _) _ | refine Below.setCell ?_ (by simp <;> omega) _ | refine Below.to ?_ (by assumption) (Nat.le_refl _))) hBW (Nat.le_refl _))).more (Below.size (show Below w.heap.size w W from Below.to (by repeat (first | exact Below.refl _ _ | assumption | refine Below.drew ?_ | refine Below.drewN ?_ _ | refine Below.allocT ?_ (Nat.le_refl _) _ | refine Below.setCell ?_ (by simp <;> omega) _ | refine Below.to ?_ (by assumption) (Nat.le_refl _))) hBW (Nat.le_refl _)))))).mono ?_; rw [show idxI (fun g => fitsB g n cs) gs = ix from HIX.out]; rintro e w5 ⟨rfl, hB5⟩)
    all_goals
      go_ret2
      exact ⟨by rw [HE.out, HV.out]; simp [*]; try omega, (by repeat (first | exact Below.refl _ _ | assumption | refine Below.drew ?_ | refine Below.drewN ?_ _ | refine Below.allocT ?_ (Nat.le_refl _) _ | refine Below.setCell ?_ (by simp <;> omega) _ | refine Below.to ?_ (by assumption) (Nat.le_refl _)))⟩
  · obtain ⟨he, hv⟩ := HE1.out hu0
    have hu1 : (u != 0) = true := by simp [hu0]
    have HE := hide he
    have HV := hide hv
    clear he hv hu0
    go_wp2_with fail
    go_ret2
    exact ⟨by rw [HE.out, HV.out]; rfl, (by repeat (first | exact Below.refl _ _ | assumption | refine Below.drew ?_ | refine Below.drewN ?_ _ | refine Below.allocT ?_ (Nat.le_refl _) _ | refine Below.setCell ?_ (by simp <;> omega) _ | refine Below.to ?_ (by assumption) (Nat.le_refl _)))⟩

set_option maxRecDepth 100000 in
theorem rChoose_any (gs : List Ga) (n : Ne) (gv v : Value) (cs : List Cu) (w : World) (hm : gs.length ≤ maxLen) (hn : cs.length ≤ 20) (hG : Gas w w.heap.size gv gs) (h : Cyc w w.heap.size v cs) :
    Calls Try.prog 36 #[gv, .agg #[v, .int .i64 n.len, .int .i64 n.drop, .int .i64 n.amb]] w fun e w' => e = .returned (.tuple #[.int .i64 (chooseVal gs n cs), .int .i64 (chooseErr gs n cs)]) ∧ Below w.heap.size w w' := by
  have H := hide h
  obtain ⟨A0, cap0, rfl⟩ := h.form
  clear h
  have HGS := hide hG
  obtain ⟨A1, b, off, cap1, rfl, hnc, hA, hc⟩ := hG
  have HC := hide hc; clear hc
  have HA := hide hA; clear hA
  have HM := hide hm
  unfold maxLen at hm
  obtain ⟨d, hd⟩ : ∃ d : Bool, tableB gs = d := ⟨_, rfl⟩
  obtain ⟨nk, hnk⟩ : ∃ d : Bool, needOk n cs = d := ⟨_, rfl⟩
  have HD := hide hd
  have HNK := hide hnk
  clear hd hnk
  by_cases h20 : 20 < gs.length
  · go_enter Try.func36, Try.ntmps36
    go_wp2_with fail
    go_ret2
    exact ⟨by simp [chooseVal, chooseErr, h20], (by repeat (first | exact Below.refl _ _ | assumption | refine Below.drew ?_ | refine Below.drewN ?_ _ | refine Below.allocT ?_ (Nat.le_refl _) _ | refine Below.setCell ?_ (by simp <;> omega) _ | refine Below.to ?_ (by assumption) (Nat.le_refl _)))⟩
  · have H20 := hide h20
    have h20' : gs.length ≤ 20 := by omega
    clear h20
    go_enter Try.func36, Try.ntmps36
    go_wp2_with fail
    generalize hw0 : World.alloc _ _ = w0
    obtain ⟨hb0, hB0, hs0⟩ := alloc1 hw0
    clear hw0
    have HN0 : Hid (NeedAt w0 w.heap.size (.slice A0 cs.length cap0) n) := hb0
    have hl0 : w.heap.size < w0.heap.size := by omega
    clear hs0 hb0
    refine (table_any _ gs _ HM.out ((HGS.out.below (by repeat (first | exact Below.refl _ _ | assumption | refine Below.drew ?_ | refine Below.drewN ?_ _ | refine Below.allocT ?_ (Nat.le_refl _) _ | refine Below.setCell ?_ (by simp <;> omega) _ | refine Below.to ?_ (by assumption) (Nat.le_refl _)))).more (Below.size (by repeat (first | exact Below.refl _ _ | assumption | refine Below.drew ?_ | refine Below.drewN ?_ _ | refine Below.allocT ?_ (Nat.le_refl _) _ | refine Below.setCell ?_ (by simp <;> omega) _ | refine Below.to ?_ (by assumption) (Nat.le_refl _)))))).mono ?_
    rw [HD.out]
    rintro e w1 ⟨rfl, hB1⟩
    cases d with
    | false =>
      go_wp2_with fail
      go_ret2
      exact ⟨by simp [chooseVal, chooseErr, H20.out, HD.out], (by repeat (first | exact Below.refl _ _ | assumption | refine Below.drew ?_ | refine Below.drewN ?_ _ | refine Below.allocT ?_ (Nat.le_refl _) _ | refine Below.setCell ?_ (by simp <;> omega) _ | refine Below.to ?_ (by assumption) (Nat.le_refl _)))⟩
    | true =>
      obtain ⟨k0, k1, k2, k3, _⟩ := need4 (w1 := w1) HN0.out (by repeat (first | exact Below.refl _ _ | assumption | refine Below.drew ?_ | refine Below.drewN ?_ _ | refine Below.allocT ?_ (Nat.le_refl _) _ | refine Below.setCell ?_ (by simp <;> omega) _ | refine Below.to ?_ (by assumption) (Nat.le_refl _)))
      go_wp2_with fail
      refine (rneed_any n _ cs _ hn ((H.out.below (by repeat (first | exact Below.refl _ _ | assumption | refine Below.drew ?_ | refine Below.drewN ?_ _ | refine Below.allocT ?_ (Nat.le_refl _) _ | refine Below.setCell ?_ (by simp <;> omega) _ | refine Below.to ?_ (by assumption) (Nat.le_refl _)))).more (Below.size (by repeat (first | exact Below.refl _ _ | assumption | refine Below.drew ?_ | refine Below.drewN ?_ _ | refine Below.allocT ?_ (Nat.le_refl _) _ | refine Below.setCell ?_ (by simp <;> omega) _ | refine Below.to ?_ (by assumption) (Nat.le_refl _)))))).mono ?_
      rw [HNK.out]
      rintro e w2 ⟨rfl, hB2⟩
      clear k0 k1 k2 k3
      cases nk with
      | false =>
        go_wp2_with fail
        go_ret2
        exact ⟨by simp [chooseVal, chooseErr, H20.out, HD.out, HNK.out], (by repeat (first | exact Below.refl _ _ | assumption | refine Below.drew ?_ | refine Below.drewN ?_ _ | refine Below.allocT ?_ (Nat.le_refl _) _ | refine Below.setCell ?_ (by simp <;> omega) _ | refine Below.to ?_ (by assumption) (Nat.le_refl _)))⟩
      | true =>
        have HB2 : Hid (Below w0.heap.size w0 w2) := (by repeat (first | exact Below.refl _ _ | assumption | refine Below.drew ?_ | refine Below.drewN ?_ _ | refine Below.allocT ?_ (Nat.le_refl _) _ | refine Below.setCell ?_ (by simp <;> omega) _ | refine Below.to ?_ (by assumption) (Nat.le_refl _)))
        clear hB1 hB2
        go_wp2
        go_loopw [6] (fun i wr => ∃ k : Nat, k ≤ gs.length ∧ i = .int .i64 k ∧ Hid (∀ j, j < k → fitsB (gs.getD j Ga.z) n cs = false) ∧ Below w2.heap.size w2 wr) (fun i _ => gs.length - (intOf i).toNat)
        case atStart => exact ⟨0, Nat.zero_le _, rfl, fun j hj => by omega, Below.refl _ _⟩
        case round =>
          obtain ⟨k, hk, rfl, hz, hB⟩ := hrel
          have HB3 : Hid (Below w0.heap.size w0 wr) := Below.to HB2.out hB (Nat.le_refl _)
          have HB4 : Hid (Below w.heap.size w wr) := Below.to hB0 HB3.out (Nat.le_refl _)
          by_cases hlt : k < gs.length
          · obtain ⟨g, HZ, hA1, hbw, h0, h1, h2, h3, h4⟩ := gaAtB HB4.out HA.out HC.out hlt
            subst hA1
            obtain ⟨k0, k1, k2, k3, _⟩ := need4 HN0.out HB3.out
            have hlb : b < wr.heap.size := by have := HB4.out.size; omega
            have hlw : w.heap.size < wr.heap.size := by have := HB3.out.size; omega
            have hi0 : (0 : Int) ≤ (k : Int) := by omega
            have hi1 : (k : Int) < (gs.length : Int) := by omega
            have hgk : g.Ok := Ga.ok_iff.1 (by rw [← HZ.out]; exact tableB_get HD.out hlt)
            have HGK := hide hgk
            clear hgk
            obtain ⟨fb, hfb⟩ : ∃ x, fitsB g n cs = x := ⟨_, rfl⟩
            have HFB := hide hfb
            clear hfb
            go_wp2_with fail
            refine wp_region_held_drew (S := (fun w' => Below wr.heap.size wr w')) (by kernel_rfl) ?_ (fun hHeld => ?_)
            · try dsimp only
              exact (by repeat (first | exact Below.refl _ _ | assumption | refine Below.drew ?_ | refine Below.drewN ?_ _ | refine Below.allocT ?_ (Nat.le_refl _) _ | refine Below.setCell ?_ (by simp <;> omega) _ | refine Below.to ?_ (by assumption) (Nat.le_refl _)))
            refine wpAnyH_take (i := 0) (v := ?v2_0) rfl (by kernel_rfl) (by kernel_rfl) (by kernel_rfl) (fun _ _ _ h => h) (Or.inl ⟨by rfl, ?y2_0⟩) (by assumption) ?r2_0
            case' y2_0 => (intro w hSw; (try dsimp only at hSw); (try have hlS := HLK.out _ hSw); obtain ⟨hcS, hfS⟩ := bcell hSw; clear hSw; go_simp; try with_reducible rfl)
            try simp only [Act.put, List.getElem_toArray, List.getElem_cons_succ, List.getElem_cons_zero, List.setIfInBounds_toArray, List.set_cons_zero, List.set_cons_succ]
            refine wpAnyH_take (i := 1) (v := ?v2_1) rfl (by kernel_rfl) (by kernel_rfl) (by kernel_rfl) (fun _ _ _ h => h) (Or.inl ⟨by rfl, ?y2_1⟩) (by assumption) ?r2_1
            case' y2_1 => (intro w hSw; (try dsimp only at hSw); (try have hlS := HLK.out _ hSw); obtain ⟨hcS, hfS⟩ := bcell hSw; clear hSw; go_simp; try with_reducible rfl)
            try simp only [Act.put, List.getElem_toArray, List.getElem_cons_succ, List.getElem_cons_zero, List.setIfInBounds_toArray, List.set_cons_zero, List.set_cons_succ]
            refine wpAnyH_take (i := 2) (v := ?v2_2) rfl (by kernel_rfl) (by kernel_rfl) (by kernel_rfl) (fun _ _ _ h => h) (Or.inl ⟨by rfl, ?y2_2⟩) (by assumption) ?r2_2
            case' y2_2 => (intro w hSw; (try dsimp only at hSw); (try have hlS := HLK.out _ hSw); obtain ⟨hcS, hfS⟩ := bcell hSw; clear hSw; go_simp; try with_reducible rfl)
            try simp only [Act.put, List.getElem_toArray, List.getElem_cons_succ, List.getElem_cons_zero, List.setIfInBounds_toArray, List.set_cons_zero, List.set_cons_succ]
            refine wpAnyH_take (i := 3) (v := ?v2_3) rfl (by kernel_rfl) (by kernel_rfl) (by kernel_rfl) (fun _ _ _ h => h) (Or.inl ⟨by rfl, ?y2_3⟩) (by assumption) ?r2_3
            case' y2_3 => (intro w hSw; (try dsimp only at hSw); (try have hlS := HLK.out _ hSw); obtain ⟨hcS, hfS⟩ := bcell hSw; clear hSw; go_simp; try with_reducible rfl)
            try simp only [Act.put, List.getElem_toArray, List.getElem_cons_succ, List.getElem_cons_zero, List.setIfInBounds_toArray, List.set_cons_zero, List.set_cons_succ]
            refine wpAnyH_take (i := 4) (v := ?v2_4) rfl (by kernel_rfl) (by kernel_rfl) (by kernel_rfl) (fun _ _ _ h => h) (Or.inl ⟨by rfl, ?y2_4⟩) (by assumption) ?r2_4
            case' y2_4 => (intro w hSw; (try dsimp only at hSw); (try have hlS := HLK.out _ hSw); obtain ⟨hcS, hfS⟩ := bcell hSw; clear hSw; go_simp; try with_reducible rfl)
            try simp only [Act.put, List.getElem_toArray, List.getElem_cons_succ, List.getElem_cons_zero, List.setIfInBounds_toArray, List.set_cons_zero, List.set_cons_succ]
            refine wpAnyH_ready (rs := [5]) (by kernel_rfl) (by simp) ?_
            refine AllReadyH.cons rfl (fun K hK => ?_) AllReadyH.nil
            go_simp
            ((go_at_call 75; refine (rfits_any g n _ cs _ HGK.out (needOk_iff.1 HNK.out) ((H.out.below (Below.to HB4.out (by repeat (first | exact Below.refl _ _ | assumption | refine Below.drew ?_ | refine Below.drewN ?_ _ | refine Below.allocT ?_ (Nat.le_refl _) _ | refine Below.setCell ?_ (by simp <;> omega) _ | refine Below.to ?_ (by assumption) (Nat.le_refl _))) (Nat.le_refl _))).more (Below.size (Below.to HB4.out (by repeat (first | exact Below.refl _ _ | assumption | refine Below.drew ?_ | refine Below.drewN ?_ _ | refine Below.allocT ?_ (Nat.le_refl _) _ | refine Below.setCell ?_ (by simp <;> omega) _ | refine Below.to ?_ (by assumption) (Nat.le_refl _))) (Nat.le_refl _))))).mono ?_; rw [HFB.out]; rintro e w3 ⟨rfl, hB3⟩))
            (try dsimp only)
            refine hK.out _ _ ?_ (fun hNext => ?_)
            · try dsimp only
              exact (by repeat (first | exact Below.refl _ _ | assumption | refine Below.drew ?_ | refine Below.drewN ?_ _ | refine Below.allocT ?_ (Nat.le_refl _) _ | refine Below.setCell ?_ (by simp <;> omega) _ | refine Below.to ?_ (by assumption) (Nat.le_refl _)))
            clear hK K hHeld
            have hHeld := hNext
            clear hNext
            (try dsimp only at hHeld)
            try simp only [Act.put, List.getElem_toArray, List.getElem_cons_succ, List.getElem_cons_zero, List.setIfInBounds_toArray, List.set_cons_zero, List.set_cons_succ]
            refine wpAnyH_done (by kernel_rfl) ?_ _
            cases fb with
            | true =>
              go_wp2_with fail
              go_ret2
              have hix : chooseIx gs n cs = k := idxI_at _ Ga.z gs k hz.out hlt (by rw [HZ.out]; exact HFB.out)
              exact ⟨by simp [chooseVal, chooseErr, H20.out, HD.out, HNK.out, hix]; omega, Below.to HB4.out hHeld (Nat.le_refl _)⟩
            | false =>
              go_wp2_with fail
              go_roundw
              case rel => exact ⟨k + 1, by omega, by go_num, fun j hj => by
                  rcases Nat.lt_or_ge j k with h | h
                  · exact hz.out j h
                  · rw [show j = k from by omega, HZ.out]; exact HFB.out, (by repeat (first | exact Below.refl _ _ | assumption | refine Below.drew ?_ | refine Below.drewN ?_ _ | refine Below.allocT ?_ (Nat.le_refl _) _ | refine Below.setCell ?_ (by simp <;> omega) _ | refine Below.to ?_ (by assumption) (Nat.le_refl _)))⟩
              case measure => simp [intOf]; omega
          · go_wp2
            go_ret2
            have hix : chooseIx gs n cs = -1 := idxI_none _ Ga.z gs (fun j hj => hz.out j (by omega))
            exact ⟨by simp [chooseVal, chooseErr, H20.out, HD.out, HNK.out, hix], HB4.out⟩
end Go.Proofs.Ytejjjijaojkohaa
/- The arguments of the laws about gauges, fuses and needs, opened; tables copied: no condition. -/
namespace Go.Proofs.Ytejjjijaojkohaa
open Go.Joins Go.ChangeShapes Go.WideShapes Go.ChangeAt Go.RowKit Go.Deep
set_option maxRecDepth 100000
section
variable {H : Type} {enc : TypeId × Value → H} {W : World} {base b0 : Nat} {r : Reach} {spare : Nat → Bool} {held : Bool} {v : Value} {d : DataW H} {p : List MemPlace}

instance : Inhabited Ga := ⟨Ga.z⟩
instance : Inhabited Fu := ⟨Fu.z⟩
theorem cycle_cell {n : Nat} {c : Value} {y : DataW H × List MemPlace} (h : DataW.trod enc Try.prog W base spare held n 31 [c] = some y) :
    ∃ cs : List Cu, Cyc W W.heap.size c cs ∧ cs.length ≤ maxLen ∧ ∀ x ∈ cs, I64 x.amps ∧ I64 x.secs := by
  rcases open_slice_fields Try.underlying31 Try.underlying54 (by kernel_rfl) (by kernel_rfl) h with ⟨hcs, _⟩ | ⟨a, len', cap', m, D, Pl, hcs, _, hl, hm, hmm, _, hel⟩
  · simp at hcs
    subst hcs
    exact ⟨[], Sl.nil _ _ _ _, by simp, by simp⟩
  · simp at hcs
    subst hcs
    have hlm : len' ≤ m := by rw [hmm]; split <;> omega
    have hel2 : ∀ i, i < len' → ∃ c : Cu, W.cell? (a.add (i * 2 + 0)) = some (.int .i64 c.amps) ∧ W.cell? (a.add (i * 2 + 1)) = some (.int .i64 c.secs) ∧ I64 c.amps ∧ I64 c.secs := by
      intro i hi
      obtain ⟨ys, n, _, _, _, hfd⟩ := hel i (by omega)
      obtain ⟨u0, y0, hc0, _, ht0⟩ := hfd 0 _ rfl
      obtain ⟨u1, y1, hc1, _, ht1⟩ := hfd 1 _ rfl
      obtain ⟨x0, rfl, w0⟩ := int_cell ht0
      obtain ⟨x1, rfl, w1⟩ := int_cell ht1
      exact ⟨⟨x0, x1⟩, hc0, hc1, w0, w1⟩
    obtain ⟨F, hF⟩ := choose_lt (α := Cu) hel2
    refine ⟨(List.range len').map F, ?_, by simp; omega, ?_⟩
    · have hlen : ((List.range len').map F).length = len' := by simp
      have hget : ∀ i, i < len' → ((List.range len').map F).getD i Cu.z = F i := fun i hi => by simp [hi]
      unfold Cyc
      rw [hlen]
      rcases Nat.eq_zero_or_pos len' with h0 | h0
      · exact ⟨_, 0, 0, _, rfl, hl, .inr h0, fun i j hi => absurd hi (by omega)⟩
      · obtain ⟨hs, hb⟩ := cell_addr0 (hF 0 h0).1
        refine ⟨_, a.block, a.off, _, rfl, hl, .inl ⟨by rw [← hs], hb⟩, fun i j hi hj => ?_⟩
        have h2 := hF i hi
        unfold cyF
        rw [hget i hi]
        match j, hj with
        | 0, _ => exact cell_addr hs h2.1
        | 1, _ => exact cell_addr hs h2.2.1
    · intro c hc
      obtain ⟨i, hi, rfl⟩ := List.mem_map.1 hc
      have := hF i (by simpa using hi)
      exact this.2.2
theorem open_need (hv : Value.okWide Try.prog W r b0 48 v) (h : DataW.Trod enc Try.prog W base spare held 48 v d p) :
    ∃ (c : Value) (cs : List Cu) (n : Ne), v = .agg #[c, .int .i64 n.len, .int .i64 n.drop, .int .i64 n.amb] ∧ Cyc W W.heap.size c cs ∧ cs.length ≤ maxLen ∧ (∀ x ∈ cs, I64 x.amps ∧ I64 x.secs) ∧ I64 n.len ∧ I64 n.drop ∧ I64 n.amb := by
  obtain ⟨c0, c1, c2, c3, y0, y1, y2, y3, m, rfl, _, _, hy0, hy1, hy2, hy3⟩ := open_agg4 Try.underlying48 (by kernel_rfl) (by kernel_rfl) hv h
  obtain ⟨a1, rfl, w1⟩ := int_cell hy1
  obtain ⟨a2, rfl, w2⟩ := int_cell hy2
  obtain ⟨a3, rfl, w3⟩ := int_cell hy3
  obtain ⟨cs, hc, hl, hx⟩ := cycle_cell hy0
  exact ⟨c0, cs, ⟨a1, a2, a3⟩, rfl, hc, hl, hx, w1, w2, w3⟩
theorem gauges_cell {n : Nat} {c : Value} {y : DataW H × List MemPlace} (h : DataW.trod enc Try.prog W base spare held n 57 [c] = some y) :
    ∃ gs : List Ga, Gas W W.heap.size c gs ∧ gs.length ≤ maxLen := by
  rcases open_slice_fields Try.underlying57 Try.underlying23 (by kernel_rfl) (by kernel_rfl) h with ⟨hcs, _⟩ | ⟨a, len', cap', m, D, Pl, hcs, _, hl, hm, hmm, _, hel⟩
  · simp at hcs
    subst hcs
    exact ⟨[], Sl.nil _ _ _ _, by simp⟩
  · simp at hcs
    subst hcs
    have hlm : len' ≤ m := by rw [hmm]; split <;> omega
    have hel2 : ∀ i, i < len' → ∃ c : Ga, ∀ j, j < 5 → W.cell? (a.add (i * 5 + j)) = some (.int .i64 (gaC c j)) := by
      intro i hi
      obtain ⟨ys, n, _, _, _, hfd⟩ := hel i (by omega)
      obtain ⟨u0, y0, hc0, _, ht0⟩ := hfd 0 _ rfl
      obtain ⟨u1, y1, hc1, _, ht1⟩ := hfd 1 _ rfl
      obtain ⟨u2, y2, hc2, _, ht2⟩ := hfd 2 _ rfl
      obtain ⟨u3, y3, hc3, _, ht3⟩ := hfd 3 _ rfl
      obtain ⟨u4, y4, hc4, _, ht4⟩ := hfd 4 _ rfl
      obtain ⟨x0, rfl, w0⟩ := int_cell ht0
      obtain ⟨x1, rfl, w1⟩ := int_cell ht1
      obtain ⟨x2, rfl, w2⟩ := int_cell ht2
      obtain ⟨x3, rfl, w3⟩ := int_cell ht3
      obtain ⟨x4, rfl, w4⟩ := int_cell ht4
      refine ⟨⟨x0, x1, x2, x3, x4⟩, fun j hj => ?_⟩
      match j, hj with
      | 0, _ => exact hc0
      | 1, _ => exact hc1
      | 2, _ => exact hc2
      | 3, _ => exact hc3
      | 4, _ => exact hc4
    obtain ⟨F, hF⟩ := choose_lt (α := Ga) hel2
    refine ⟨(List.range len').map F, ?_, by simp; omega⟩
    have hlen : ((List.range len').map F).length = len' := by simp
    have hget : ∀ i, i < len' → ((List.range len').map F).getD i Ga.z = F i := fun i hi => by simp [hi]
    unfold Gas
    rw [hlen]
    rcases Nat.eq_zero_or_pos len' with h0 | h0
    · exact ⟨_, 0, 0, _, rfl, hl, .inr h0, fun i j hi => absurd hi (by omega)⟩
    · obtain ⟨hs, hb⟩ := cell_addr0 (hF 0 h0 0 (by omega))
      refine ⟨_, a.block, a.off, _, rfl, hl, .inl ⟨by rw [← hs], hb⟩, fun i j hi hj => ?_⟩
      unfold gaF
      rw [hget i hi]
      exact cell_addr hs (hF i hi j hj)
theorem fuses_cell {n : Nat} {c : Value} {y : DataW H × List MemPlace} (h : DataW.trod enc Try.prog W base spare held n 60 [c] = some y) :
    ∃ fs : List Fu, Fus W W.heap.size c fs ∧ fs.length ≤ maxLen := by
  rcases open_slice_fields Try.underlying60 Try.underlying30 (by kernel_rfl) (by kernel_rfl) h with ⟨hcs, _⟩ | ⟨a, len', cap', m, D, Pl, hcs, _, hl, hm, hmm, _, hel⟩
  · simp at hcs
    subst hcs
    exact ⟨[], Sl.nil _ _ _ _, by simp⟩
  · simp at hcs
    subst hcs
    have hlm : len' ≤ m := by rw [hmm]; split <;> omega
    have hel2 : ∀ i, i < len' → ∃ c : Fu, ∀ j, j < 2 → W.cell? (a.add (i * 2 + j)) = some (.int .i64 (if j = 0 then c.rating else c.melt)) := by
      intro i hi
      obtain ⟨ys, n, _, _, _, hfd⟩ := hel i (by omega)
      obtain ⟨u0, y0, hc0, _, ht0⟩ := hfd 0 _ rfl
      obtain ⟨u1, y1, hc1, _, ht1⟩ := hfd 1 _ rfl
      obtain ⟨x0, rfl, w0⟩ := int_cell ht0
      obtain ⟨x1, rfl, w1⟩ := int_cell ht1
      refine ⟨⟨x0, x1⟩, fun j hj => ?_⟩
      match j, hj with
      | 0, _ => exact hc0
      | 1, _ => exact hc1
    obtain ⟨F, hF⟩ := choose_lt (α := Fu) hel2
    refine ⟨(List.range len').map F, ?_, by simp; omega⟩
    have hlen : ((List.range len').map F).length = len' := by simp
    have hget : ∀ i, i < len' → ((List.range len').map F).getD i Fu.z = F i := fun i hi => by simp [hi]
    unfold Fus
    rw [hlen]
    rcases Nat.eq_zero_or_pos len' with h0 | h0
    · exact ⟨_, 0, 0, _, rfl, hl, .inr h0, fun i j hi => absurd hi (by omega)⟩
    · obtain ⟨hs, hb⟩ := cell_addr0 (hF 0 h0 0 (by omega))
      refine ⟨_, a.block, a.off, _, rfl, hl, .inl ⟨by rw [← hs], hb⟩, fun i j hi hj => ?_⟩
      unfold fuF
      rw [hget i hi]
      exact cell_addr hs (hF i hi j hj)
theorem cells_slice {t e : TypeId} (ht : Try.prog.underlying t = some (.slice e)) (hv : Value.okWide Try.prog W r b0 t v) : v.cells = #[v] := by
  obtain ⟨a0, len, cap, rfl⟩ := okWide_slice ht hv
  rfl
theorem open_gauges (hv : Value.okWide Try.prog W r b0 57 v) (h : DataW.Trod enc Try.prog W base spare held 57 v d p) :
    ∃ gs : List Ga, Gas W W.heap.size v gs ∧ gs.length ≤ maxLen := by
  obtain ⟨fuel, hf⟩ := h
  rw [cells_slice Try.underlying57 hv] at hf
  exact gauges_cell hf
theorem open_fuses (hv : Value.okWide Try.prog W r b0 60 v) (h : DataW.Trod enc Try.prog W base spare held 60 v d p) :
    ∃ gs : List Fu, Fus W W.heap.size v gs ∧ gs.length ≤ maxLen := by
  obtain ⟨fuel, hf⟩ := h
  rw [cells_slice Try.underlying60 hv] at hf
  exact fuses_cell hf
end
theorem infoGa : (Try.prog.info? 23).map (fun i => (i.zero, i.size, i.bytes)) = some (some (.agg #[.int .i64 0, .int .i64 0, .int .i64 0, .int .i64 0, .int .i64 0]), 5, 40) := by kernel_rfl
theorem infoFu : (Try.prog.info? 30).map (fun i => (i.zero, i.size, i.bytes)) = some (some (.agg #[.int .i64 0, .int .i64 0]), 2, 16) := by kernel_rfl
theorem gaF_one (gs : List Ga) (i j : Nat) : (gaF gs i j).oneCell' = true := rfl
theorem fuF_one (gs : List Fu) (i j : Nat) : (fuF gs i j).oneCell' = true := rfl
end Go.Proofs.Ytejjjijaojkohaa
/- Fuses: the check of a table: walks. -/
namespace Go.Proofs.Ytejjjijaojkohaa
open Go.RowKit
set_option linter.unusedVariables false
set_option linter.unusedSimpArgs false

theorem badFuse_any (f : Fu) (w : World) :
    Calls Try.prog 105 #[.agg #[.int .i64 f.rating, .int .i64 f.melt]] w fun e w' => e = .returned (.bool (!f.ok)) ∧ Below w.heap.size w w' := by
  cases hf : f.ok
  all_goals
    have HF := hide hf
    clear hf
    go_enter Try.func105, Try.ntmps105
    go_wp2_with (go_at_call 54; refine (checkFuse_any _ _).mono ?_; rw [HF.out]; rintro e w' ⟨rfl, hB⟩)
    go_ret
    exact ⟨rfl, (by repeat (first | exact Below.refl _ _ | assumption | refine Below.drew ?_ | refine Below.drewN ?_ _ | refine Below.allocT ?_ (Nat.le_refl _) _ | refine Below.setCell ?_ (by simp <;> omega) _ | refine Below.to ?_ (by assumption) (Nat.le_refl _)))⟩
def fusB (fs : List Fu) : Bool := !(fs.any fun f => !f.ok)
def fusErr (fs : List Fu) : Int := if fusB fs then 0 else 72
theorem fusB_get {fs : List Fu} (h : fusB fs = true) {k : Nat} (hk : k < fs.length) : (fs.getD k Fu.z).ok = true := by
  unfold fusB at h
  have hm : fs.getD k Fu.z ∈ fs := by
    rw [List.getD_eq_getElem?_getD, List.getElem?_eq_getElem hk]
    exact List.getElem_mem _
  simp only [Bool.not_eq_true', List.any_eq_false] at h
  have := h _ hm
  simpa using this

theorem containsFu_any (v : Value) (fs : List Fu) (w : World) (hm : fs.length ≤ maxLen) (h : Fus w w.heap.size v fs) :
    Calls Try.prog 104 #[v, .func (.func 105) #[] #[]] w
      fun e w' => e = .returned (.bool (fs.any (fun f => !f.ok))) ∧ Below w.heap.size w w' := by
  have hl := idxI_lo (fun f : Fu => !f.ok) fs
  have hany := hide (idxI_any (fun f : Fu => !f.ok) fs)
  have H := hide h
  obtain ⟨A, cap, rfl⟩ := Sl.form h
  clear h
  go_enter Try.func104, Try.ntmps104
  go_wp2_with (go_at_call 85; refine (index_checkFuses (fun f => !f.ok) _ fs _ hm H.out (fun i g W _ _ _ => badFuse_any g W)).mono ?_; rintro e w' ⟨rfl, hB⟩)
  go_ret
  exact ⟨ret_bool hany.out, hB⟩

theorem checkFuses_any (v : Value) (fs : List Fu) (w : World) (hm : fs.length ≤ maxLen) (h : Fus w w.heap.size v fs) :
    Calls Try.prog 84 #[v] w fun e w' => e = .returned (.int .i64 (fusErr fs)) ∧ Below w.heap.size w w' := by
  have H := hide h
  obtain ⟨A, cap, rfl⟩ := Sl.form h
  clear h
  cases hf : fs.any (fun f => !f.ok)
  all_goals
    have HF := hide hf
    clear hf
    go_enter Try.func84, Try.ntmps84
    go_wp2_with (go_at_call 104; refine (containsFu_any _ fs _ hm H.out).mono ?_; rw [HF.out]; rintro e w' ⟨rfl, hB⟩)
    go_ret
    exact ⟨ret_int (by unfold fusErr fusB; rw [HF.out]; rfl), (by repeat (first | exact Below.refl _ _ | assumption | refine Below.drew ?_ | refine Below.drewN ?_ _ | refine Below.allocT ?_ (Nat.le_refl _) _ | refine Below.setCell ?_ (by simp <;> omega) _ | refine Below.to ?_ (by assumption) (Nat.le_refl _)))⟩
end Go.Proofs.Ytejjjijaojkohaa
/- Feeders and wirings in memory; the checks of a wiring: walks. -/
namespace Go.Proofs.Ytejjjijaojkohaa
open Go.RowKit
set_option linter.unusedVariables false
set_option linter.unusedSimpArgs false

structure Fe where
  par : Int
  gauge : Int
  fuse : Int
  n : Ne
  cs : List Cu
def Fe.z : Fe := ⟨0, 0, 0, ⟨0, 0, 0⟩, []⟩
def feC (f : Fe) (c : Value) : Nat → Value
  | 0 => .int .i64 f.par
  | 1 => .int .i64 f.gauge
  | 2 => .int .i64 f.fuse
  | 3 => c
  | 4 => .int .i64 f.n.len
  | 5 => .int .i64 f.n.drop
  | _ => .int .i64 f.n.amb
/-- The slice value v holds the feeders es, below block B. -/
def Fes (w : World) (B : Nat) (v : Value) (es : List Fe) : Prop :=
  ∃ cv : Nat → Value, Sl w B 7 v es.length (fun i j => feC (es.getD i Fe.z) (cv i) j) ∧ ∀ i, i < es.length → Cyc w B (cv i) (es.getD i Fe.z).cs
theorem Fes.below {w w' : World} {B : Nat} {v : Value} {es : List Fe} (h : Fes w B v es) (hb : Below B w w') : Fes w' B v es := by
  obtain ⟨cv, h1, h2⟩ := h
  exact ⟨cv, Sl.below h1 hb, fun i hi => Sl.below (h2 i hi) hb⟩
theorem Fes.more {w : World} {B B' : Nat} {v : Value} {es : List Fe} (h : Fes w B v es) (hB : B ≤ B') : Fes w B' v es := by
  obtain ⟨cv, h1, h2⟩ := h
  exact ⟨cv, Sl.more h1 hB, fun i hi => Sl.more (h2 i hi) hB⟩
theorem Fes.form {w : World} {B : Nat} {v : Value} {es : List Fe} (h : Fes w B v es) : ∃ A cap, v = .slice A es.length cap := by
  obtain ⟨cv, h1, _⟩ := h
  exact Sl.form h1
/-- The three slices of a wiring. -/
structure Wir (w : World) (B : Nat) (gv fv ev : Value) (gs : List Ga) (fs : List Fu) (es : List Fe) : Prop where
  g : Gas w B gv gs
  f : Fus w B fv fs
  e : Fes w B ev es
theorem Wir.below {w w' : World} {B : Nat} {gv fv ev : Value} {gs : List Ga} {fs : List Fu} {es : List Fe} (h : Wir w B gv fv ev gs fs es) (hb : Below B w w') : Wir w' B gv fv ev gs fs es :=
  ⟨Sl.below h.g hb, Sl.below h.f hb, h.e.below hb⟩
theorem Wir.more {w : World} {B B' : Nat} {gv fv ev : Value} {gs : List Ga} {fs : List Fu} {es : List Fe} (h : Wir w B gv fv ev gs fs es) (hB : B ≤ B') : Wir w B' gv fv ev gs fs es :=
  ⟨Sl.more h.g hB, Sl.more h.f hB, h.e.more hB⟩
theorem Wir.up {w w' : World} {gv fv ev : Value} {gs : List Ga} {fs : List Fu} {es : List Fe} (h : Wir w w.heap.size gv fv ev gs fs es) (hb : Below w.heap.size w w') : Wir w' w'.heap.size gv fv ev gs fs es :=
  (h.below hb).more hb.size
/-- Sizes that a statement looks at. -/
structure WSz (gs : List Ga) (fs : List Fu) (es : List Fe) : Prop where
  g : gs.length ≤ 30
  f : fs.length ≤ 30
  e : es.length ≤ 30
  c : ∀ i, i < es.length → (es.getD i Fe.z).cs.length ≤ 20

theorem feAtB {w wr : World} {B b off : Nat} {A : Option Addr} {es : List Fe} {cv : Nat → Value} {k : Nat} (hB : Below B w wr) (hA : A = some ⟨b, off, none⟩ ∧ b < B ∨ es.length = 0)
    (hc : ∀ i j, i < es.length → j < 7 → w.cell? ⟨b, off + (i * 7 + j), none⟩ = some (feC (es.getD i Fe.z) (cv i) j)) (hcy : ∀ i, i < es.length → Cyc w B (cv i) (es.getD i Fe.z).cs) (hlt : k < es.length) :
    ∃ (f : Fe) (C : Option Addr) (cap : Nat), Hid (es.getD k Fe.z = f) ∧ A = some ⟨b, off, none⟩ ∧ b < B ∧ wr.cell? ⟨b, off + k * 7, none⟩ = some (.int .i64 f.par) ∧ wr.cell? ⟨b, off + k * 7 + 1, none⟩ = some (.int .i64 f.gauge) ∧ wr.cell? ⟨b, off + k * 7 + 2, none⟩ = some (.int .i64 f.fuse) ∧ wr.cell? ⟨b, off + k * 7 + 3, none⟩ = some (.slice C f.cs.length cap) ∧
      wr.cell? ⟨b, off + k * 7 + 4, none⟩ = some (.int .i64 f.n.len) ∧ wr.cell? ⟨b, off + k * 7 + 5, none⟩ = some (.int .i64 f.n.drop) ∧ wr.cell? ⟨b, off + k * 7 + 6, none⟩ = some (.int .i64 f.n.amb) ∧ Hid (Cyc wr B (.slice C f.cs.length cap) f.cs) := by
  rcases hA with ⟨hA1, hA2⟩ | hA1
  · have hk : ∀ o, wr.cell? ⟨b, o, none⟩ = w.cell? ⟨b, o, none⟩ := fun o => hB.cell (p := ⟨b, o, none⟩) hA2
    have hy := hcy k hlt
    obtain ⟨C, cap, hv⟩ := Sl.form hy
    rw [hv] at hy
    have h3 := hc k 3 hlt (by omega)
    rw [show feC (es.getD k Fe.z) (cv k) 3 = cv k from rfl, hv] at h3
    exact ⟨_, C, cap, rfl, hA1, hA2, (hk _).trans (hc k 0 hlt (by omega)), (hk _).trans (hc k 1 hlt (by omega)), (hk _).trans (hc k 2 hlt (by omega)), (hk _).trans h3, (hk _).trans (hc k 4 hlt (by omega)), (hk _).trans (hc k 5 hlt (by omega)), (hk _).trans (hc k 6 hlt (by omega)), Sl.below hy hB⟩
  · omega

/-- A feeder of a wiring is right. -/
def feOk (gs : List Ga) (fs : List Fu) (es : List Fe) (i : Nat) : Bool :=
  fromB (es.getD i Fe.z).par (-1) (i - 1) && fromB (es.getD i Fe.z).gauge 0 (gs.length - 1) && fromB (es.getD i Fe.z).fuse 0 (fs.length - 1) && needOk (es.getD i Fe.z).n (es.getD i Fe.z).cs
def bigB (gs : List Ga) (fs : List Fu) (es : List Fe) : Bool := decide (20 < gs.length) || decide (20 < fs.length) || decide (20 < es.length)
def fesB (gs : List Ga) (fs : List Fu) (es : List Fe) : Bool := (List.range es.length).all (feOk gs fs es)
def chkErr (gs : List Ga) (fs : List Fu) (es : List Fe) : Int := if bigB gs fs es then 2 else if tableB gs then if fusB fs then if fesB gs fs es then 0 else 71 else 72 else 70
theorem fesB_all {gs : List Ga} {fs : List Fu} {es : List Fe} (h : ∀ j, j < es.length → feOk gs fs es j = true) : fesB gs fs es = true := by
  unfold fesB; rw [List.all_eq_true]; intro x hx; exact h x (by simpa using hx)
theorem fesB_get {gs : List Ga} {fs : List Fu} {es : List Fe} (h : fesB gs fs es = true) {j : Nat} (hj : j < es.length) : feOk gs fs es j = true := by
  unfold fesB at h; rw [List.all_eq_true] at h; exact h j (by simpa using hj)
theorem fesB_at {gs : List Ga} {fs : List Fu} {es : List Fe} {k : Nat} (hk : k < es.length) (h : feOk gs fs es k = false) : fesB gs fs es = false := by
  cases ht : fesB gs fs es with
  | false => rfl
  | true => rw [fesB_get ht hk] at h; cases h

/-- A wiring without an error. -/
structure WOk (gs : List Ga) (fs : List Fu) (es : List Fe) : Prop where
  g20 : gs.length ≤ 20
  f20 : fs.length ≤ 20
  e20 : es.length ≤ 20
  tab : tableB gs = true
  fus : fusB fs = true
  fes : fesB gs fs es = true
theorem chk_iff {gs : List Ga} {fs : List Fu} {es : List Fe} : chkErr gs fs es = 0 ↔ WOk gs fs es := by
  unfold chkErr
  constructor
  · intro h
    cases hb : bigB gs fs es
    · cases ht : tableB gs <;> cases hf : fusB fs <;> cases he : fesB gs fs es <;> simp [hb, ht, hf, he] at h
      simp only [bigB, Bool.or_eq_false_iff, decide_eq_false_iff_not] at hb
      exact ⟨by omega, by omega, by omega, ht, hf, he⟩
    · simp [hb] at h
  · intro h
    have hb : bigB gs fs es = false := by
      simp only [bigB, Bool.or_eq_false_iff, decide_eq_false_iff_not]
      exact ⟨⟨by have := h.g20; omega, by have := h.f20; omega⟩, by have := h.e20; omega⟩
    simp [hb, h.tab, h.fus, h.fes]
structure FeOk (gs : List Ga) (fs : List Fu) (f : Fe) (i : Nat) : Prop where
  par0 : -1 ≤ f.par
  par1 : f.par ≤ i - 1
  ga0 : 0 ≤ f.gauge
  ga1 : f.gauge ≤ gs.length - 1
  fu0 : 0 ≤ f.fuse
  fu1 : f.fuse ≤ fs.length - 1
  need : NeOk f.n f.cs
theorem WOk.at {gs : List Ga} {fs : List Fu} {es : List Fe} (h : WOk gs fs es) {i : Nat} (hi : i < es.length) {f : Fe} (hf : es.getD i Fe.z = f) : FeOk gs fs f i := by
  have h1 := fesB_get h.fes hi
  unfold feOk at h1
  rw [hf] at h1
  simp only [Bool.and_eq_true, fromB_iff] at h1
  obtain ⟨⟨⟨⟨a, b⟩, c, d⟩, e, g⟩, k⟩ := h1
  exact ⟨a, b, c, d, e, g, needOk_iff.1 k⟩

def WiAt (w : World) (b : Nat) (gv fv ev : Value) : Prop := w.heap[b]? = some (.cells #[gv, fv, ev] 63 (0, 0))
theorem wi3 {w0 w1 : World} {b : Nat} {gv fv ev : Value} (h : WiAt w0 b gv fv ev) (hB : Below w0.heap.size w0 w1) :
    w1.cell? ⟨b, 0, none⟩ = some gv ∧ w1.cell? ⟨b, 1, none⟩ = some fv ∧ w1.cell? ⟨b, 2, none⟩ = some ev ∧ Hid (Below w0.heap.size w0 w1) :=
  ⟨cellOf (box_to h hB) 0, cellOf (box_to h hB) 1, cellOf (box_to h hB) 2, hB⟩
end Go.Proofs.Ytejjjijaojkohaa
/- A wiring's argument opened; the size of a wiring: no condition. -/
namespace Go.Proofs.Ytejjjijaojkohaa
open Go.Joins Go.ChangeShapes Go.WideShapes Go.ChangeAt Go.RowKit Go.Deep
set_option maxRecDepth 100000
set_option linter.unusedVariables false
set_option linter.unusedSimpArgs false
section
variable {H : Type} {enc : TypeId × Value → H} {W : World} {base b0 : Nat} {r : Reach} {spare : Nat → Bool} {held : Bool} {v : Value} {d : DataW H} {p : List MemPlace}
theorem cellsInt : Try.prog.cellsOf 3 = 1 := by kernel_rfl
theorem cellsCus : Try.prog.cellsOf 31 = 1 := by kernel_rfl
theorem cellsNeed : Try.prog.cellsOf 48 = 4 := by kernel_rfl
theorem cellsFe : Try.prog.cellsOf 74 = 7 := by kernel_rfl

theorem need_cells {n : Nat} {c0 c1 c2 c3 : Value} {y : DataW H × List MemPlace} (h : DataW.trod enc Try.prog W base spare held n 48 [c0, c1, c2, c3] = some y) :
    ∃ (cs : List Cu) (m : Ne), Cyc W W.heap.size c0 cs ∧ cs.length ≤ maxLen ∧ c1 = .int .i64 m.len ∧ c2 = .int .i64 m.drop ∧ c3 = .int .i64 m.amb := by
  obtain ⟨xs, n', _, _, _, hlen, hf⟩ := DataW.trod_struct Try.underlying48 h
  have g0 := hf 0 _ rfl
  have g1 := hf 1 _ rfl
  have g2 := hf 2 _ rfl
  have g3 := hf 3 _ rfl
  match xs, hlen with
  | [y0, y1, y2, y3], _ =>
    obtain ⟨a1, rfl, _⟩ := int_cell (y := y1) (by simpa [cellsInt] using g1)
    obtain ⟨a2, rfl, _⟩ := int_cell (y := y2) (by simpa [cellsInt] using g2)
    obtain ⟨a3, rfl, _⟩ := int_cell (y := y3) (by simpa [cellsInt] using g3)
    obtain ⟨cs, hc, hl, _⟩ := cycle_cell (y := y0) (by simpa [cellsCus] using g0)
    exact ⟨cs, ⟨a1, a2, a3⟩, hc, hl, rfl, rfl, rfl⟩

theorem feeders_cell {n : Nat} {c : Value} {y : DataW H × List MemPlace} (h : DataW.trod enc Try.prog W base spare held n 61 [c] = some y) :
    ∃ es : List Fe, Fes W W.heap.size c es ∧ es.length ≤ maxLen ∧ ∀ i, i < es.length → (es.getD i Fe.z).cs.length ≤ maxLen := by
  obtain ⟨xs, hsl, hl, hR⟩ := open_rows (α := Fe × Value) (Fe.z, .slice none 0 0) (fun x j => feC x.1 x.2 j) (fun x => Cyc W W.heap.size x.2 x.1.cs ∧ x.1.cs.length ≤ maxLen) Try.underlying61 cellsFe (by omega) (by
    intro n cs' y hlen ht
    match cs', hlen with
    | [c0, c1, c2, c3, c4, c5, c6], _ =>
      obtain ⟨xs, n', _, _, _, hlen, hf⟩ := DataW.trod_struct Try.underlying74 ht
      have g0 := hf 0 _ rfl
      have g1 := hf 1 _ rfl
      have g2 := hf 2 _ rfl
      have g3 := hf 3 _ rfl
      match xs, hlen with
      | [y0, y1, y2, y3], _ =>
        obtain ⟨a0, rfl, _⟩ := int_cell (y := y0) (by simpa [cellsInt] using g0)
        obtain ⟨a1, rfl, _⟩ := int_cell (y := y1) (by simpa [cellsInt] using g1)
        obtain ⟨a2, rfl, _⟩ := int_cell (y := y2) (by simpa [cellsInt] using g2)
        obtain ⟨cs, m, hc, hcl, rfl, rfl, rfl⟩ := need_cells (y := y3) (by simpa [cellsNeed] using g3)
        refine ⟨(⟨a0, a1, a2, m, cs⟩, c3), fun j hj => ?_, hc, hcl⟩
        match j, hj with
        | 0, _ => rfl
        | 1, _ => rfl
        | 2, _ => rfl
        | 3, _ => rfl
        | 4, _ => rfl
        | 5, _ => rfl
        | 6, _ => rfl) h
  have hg : ∀ i, i < xs.length → (xs.map (·.1)).getD i Fe.z = (xs.getD i (Fe.z, .slice none 0 0)).1 := fun i hi => by simp [hi]
  refine ⟨xs.map (·.1), ⟨fun i => (xs.getD i (Fe.z, .slice none 0 0)).2, ?_, fun i hi => ?_⟩, by simpa using hl, fun i hi => ?_⟩
  · rw [List.length_map]
    exact Sl.congr hsl fun i j hi hj => by rw [hg i hi]
  · rw [List.length_map] at hi
    rw [hg i hi]
    exact (hR i hi).1
  · rw [List.length_map] at hi
    rw [hg i hi]
    exact (hR i hi).2

theorem open_wiring (hv : Value.okWide Try.prog W r b0 63 v) (h : DataW.Trod enc Try.prog W base spare held 63 v d p) :
    ∃ (gv fv ev : Value) (gs : List Ga) (fs : List Fu) (es : List Fe), v = .agg #[gv, fv, ev] ∧ Wir W W.heap.size gv fv ev gs fs es ∧ gs.length ≤ maxLen ∧ fs.length ≤ maxLen ∧ es.length ≤ maxLen ∧ ∀ i, i < es.length → (es.getD i Fe.z).cs.length ≤ maxLen := by
  obtain ⟨c0, c1, c2, y0, y1, y2, m, rfl, _, _, hy0, hy1, hy2⟩ := open_agg3 Try.underlying63 (by kernel_rfl) (by kernel_rfl) hv h
  obtain ⟨gs, hg, hgl⟩ := gauges_cell hy0
  obtain ⟨fs, hf, hfl⟩ := fuses_cell hy1
  obtain ⟨es, he, hel, hcl⟩ := feeders_cell hy2
  exact ⟨c0, c1, c2, gs, fs, es, rfl, ⟨hg, hf, he⟩, hgl, hfl, hel, hcl⟩
end
/-- A wiring is larger than a statement looks at. -/
def largeB (gs : List Ga) (fs : List Fu) (es : List Fe) : Bool := decide (30 < gs.length) || decide (30 < fs.length) || decide (30 < es.length) || es.any fun f => decide (20 < f.cs.length)
theorem largeB_no {gs : List Ga} {fs : List Fu} {es : List Fe} (h : largeB gs fs es = false) : WSz gs fs es := by
  unfold largeB at h
  simp only [Bool.or_eq_false_iff, decide_eq_false_iff_not, List.any_eq_false, decide_eq_true_eq] at h
  obtain ⟨⟨⟨a, b⟩, c⟩, e⟩ := h
  refine ⟨by omega, by omega, by omega, fun i hi => ?_⟩
  have hm : es.getD i Fe.z ∈ es := by
    rw [List.getD_eq_getElem?_getD, List.getElem?_eq_getElem hi]
    exact List.getElem_mem _
  have := e _ hm
  omega
theorem Cyc.len {w : World} {B : Nat} {v : Value} {cs : List Cu} (h : Cyc w B v cs) (hc : ∀ A cap, v = .slice A cs.length cap → cap ≤ maxLen) : cs.length ≤ maxLen := by
  obtain ⟨A, b, off, cap, hv, hn, _⟩ := h
  exact Nat.le_trans hn (hc A cap hv)

set_option maxHeartbeats 2000000 in
theorem Large_any (gs : List Ga) (fs : List Fu) (es : List Fe) (gv fv ev : Value) (w : World) (hg : gs.length ≤ maxLen) (hf : fs.length ≤ maxLen) (he : es.length ≤ maxLen) (hcl : ∀ i, i < es.length → (es.getD i Fe.z).cs.length ≤ maxLen) (h : Wir w w.heap.size gv fv ev gs fs es) :
    Calls Try.prog 37 #[.agg #[gv, fv, ev]] w fun e w' => e = .returned (.bool (largeB gs fs es)) ∧ Below w.heap.size w w' := by
  have hg2 : gs.length ≤ 9223372036854775807 := hg
  have hf2 : fs.length ≤ 9223372036854775807 := hf
  have he2 : es.length ≤ 9223372036854775807 := he
  obtain ⟨A0, cap0, rfl⟩ := Sl.form h.g
  obtain ⟨A1, cap1, rfl⟩ := Sl.form h.f
  obtain ⟨cv, hsl, hcy⟩ := h.e
  obtain ⟨A, b, off, cap, rfl, hnc, hA, hc⟩ := hsl
  have HC := hide hc
  have HA := hide hA
  have HCY := hide hcy
  have HCL := hide hcl
  clear h hc hA hcy hcl hg hf he
  by_cases h1 : 30 < gs.length
  · have hd : largeB gs fs es = true := by simp [largeB, h1]
    have HD := hide hd
    have h1' : (30 : Int) < (gs.length : Int) := by omega
    clear hd
    go_enter Try.func37, Try.ntmps37
    go_wp2_with fail
    go_ret
    exact ⟨ret_bool HD.out.symm, (by repeat (first | exact Below.refl _ _ | assumption | refine Below.drew ?_ | refine Below.drewN ?_ _ | refine Below.allocT ?_ (Nat.le_refl _) _ | refine Below.setCell ?_ (by simp <;> omega) _ | refine Below.to ?_ (by assumption) (Nat.le_refl _)))⟩
  · have h1' : ¬ (30 : Int) < (gs.length : Int) := by omega
    by_cases h2 : 30 < fs.length
    · have hd : largeB gs fs es = true := by simp [largeB, h2]
      have HD := hide hd
      have h2' : (30 : Int) < (fs.length : Int) := by omega
      clear hd
      go_enter Try.func37, Try.ntmps37
      go_wp2_with fail
      go_ret
      exact ⟨ret_bool HD.out.symm, (by repeat (first | exact Below.refl _ _ | assumption | refine Below.drew ?_ | refine Below.drewN ?_ _ | refine Below.allocT ?_ (Nat.le_refl _) _ | refine Below.setCell ?_ (by simp <;> omega) _ | refine Below.to ?_ (by assumption) (Nat.le_refl _)))⟩
    · have h2' : ¬ (30 : Int) < (fs.length : Int) := by omega
      by_cases h3 : 30 < es.length
      · have hd : largeB gs fs es = true := by simp [largeB, h3]
        have HD := hide hd
        have h3' : (30 : Int) < (es.length : Int) := by omega
        clear hd
        go_enter Try.func37, Try.ntmps37
        go_wp2_with fail
        go_ret
        exact ⟨ret_bool HD.out.symm, (by repeat (first | exact Below.refl _ _ | assumption | refine Below.drew ?_ | refine Below.drewN ?_ _ | refine Below.allocT ?_ (Nat.le_refl _) _ | refine Below.setCell ?_ (by simp <;> omega) _ | refine Below.to ?_ (by assumption) (Nat.le_refl _)))⟩
      · have h3' : ¬ (30 : Int) < (es.length : Int) := by omega
        have HL : Hid (largeB gs fs es = es.any fun f => decide (20 < f.cs.length)) := by show _ = _; simp [largeB, h1, h2, h3]
        clear h1 h2 h3
        go_enter Try.func37, Try.ntmps37
        go_wp2_with fail
        generalize hw0 : World.alloc _ _ = w0
        obtain ⟨hb0, hB0, hs0⟩ := alloc1 hw0
        clear hw0
        have j2 := cellOf hb0 2
        clear hb0
        have hlt0 : w.heap.size < w0.heap.size := by omega
        clear hs0
        go_loop [3] (fun i => ∃ k : Nat, k ≤ es.length ∧ i = .int .i64 k ∧ Hid (∀ j, j < k → (fun f : Fe => decide (20 < f.cs.length)) (es.getD j Fe.z) = false)) (fun i => es.length - (intOf i).toNat)
        case atStart => exact ⟨0, Nat.zero_le _, rfl, fun j hj => by omega⟩
        case round =>
          obtain ⟨k, hk, rfl, hz⟩ := hrel
          by_cases hlt : k < es.length
          · obtain ⟨f, C, cp, HZ, hA1, hbw, g0, g1, g2, g3, g4, g5, g6, hy⟩ := feAtB hB0 HA.out HC.out HCY.out hlt
            subst hA1
            have hcm : Hid (f.cs.length ≤ maxLen) := by show _; have := HCL.out k hlt; rw [HZ.out] at this; exact this
            cases hd : decide (20 < f.cs.length)
            · have HD := hide hd
              clear hd
              go_wp2_with (go_at_call 18; refine (far_any _ _ _ _ _ rfl hcm.out).mono ?_; rw [HD.out]; rintro e w1 ⟨rfl, rfl⟩)
              go_round
              case rel => exact ⟨k + 1, by omega, by go_num, fun j hj => by
                  rcases Nat.lt_or_ge j k with h | h
                  · exact hz.out j h
                  · rw [show j = k from by omega, HZ.out]; exact HD.out⟩
              case measure => simp [intOf]; omega
            · have HD := hide hd
              clear hd
              go_wp2_with (go_at_call 18; refine (far_any _ _ _ _ _ rfl hcm.out).mono ?_; rw [HD.out]; rintro e w1 ⟨rfl, rfl⟩)
              go_ret
              exact ⟨ret_bool (by rw [HL.out, any_at _ Fe.z es k hlt (by rw [HZ.out]; exact HD.out)]), hB0⟩
          · go_wp2
            go_ret
            exact ⟨ret_bool (by rw [HL.out, any_none _ Fe.z es (fun j hj => hz.out j (by omega))]), hB0⟩
end Go.Proofs.Ytejjjijaojkohaa

/- Part 2 of this claim's texts: walks and plain laws. -/
import Derived.Test.YtejjjijaojkohaaRows
import Derived.Test.YtejjjijaojkohaaGP1
import Derived.Deep.RegionHeld3
import Derived.Deep.DrawnRows
import Derived.Test.YtejjjijaojkohaaGP0
import Derived.Deep.RegionWith
/- A gauge that fits a need: both walks. -/
namespace Go.Proofs.Ytejjjijaojkohaa
open Go.RowKit
set_option linter.unusedVariables false
set_option linter.unusedSimpArgs false

/-- A gauge fits a need. -/
def fitsB (g : Ga) (n : Ne) (cs : List Cu) : Bool := decide (peakI g cs g.limit + n.amb ≤ g.limit) && decide (dropI g (gtI cs) n.len ≤ n.drop)
theorem nega {w0 w1 : World} {b c : Nat} {v : Value} {n : Ne} {g : Ga} (h : GaugeAt w0 b g) (hn : NeedAt w0 c v n) (hB : Below w0.heap.size w0 w1) :
    w1.cell? ⟨b, 0, none⟩ = some (.int .i64 g.area) ∧ w1.cell? ⟨b, 1, none⟩ = some (.int .i64 g.ohm) ∧ w1.cell? ⟨b, 2, none⟩ = some (.int .i64 g.heat) ∧ w1.cell? ⟨b, 3, none⟩ = some (.int .i64 g.cool) ∧ w1.cell? ⟨b, 4, none⟩ = some (.int .i64 g.limit) ∧
    w1.cell? ⟨c, 0, none⟩ = some v ∧ w1.cell? ⟨c, 1, none⟩ = some (.int .i64 n.len) ∧ w1.cell? ⟨c, 2, none⟩ = some (.int .i64 n.drop) ∧ w1.cell? ⟨c, 3, none⟩ = some (.int .i64 n.amb) ∧ Below w0.heap.size w0 w1 :=
  ⟨cellOf (box_to h hB) 0, cellOf (box_to h hB) 1, cellOf (box_to h hB) 2, cellOf (box_to h hB) 3, cellOf (box_to h hB) 4, cellOf (box_to hn hB) 0, cellOf (box_to hn hB) 1, cellOf (box_to hn hB) 2, cellOf (box_to hn hB) 3, hB⟩

set_option maxRecDepth 100000 in
set_option maxHeartbeats 2000000 in
theorem fits_any (g : Ga) (n : Ne) (v : Value) (cs : List Cu) (w : World) (hg : g.Ok) (hk : NeOk n cs) (h : Cyc w w.heap.size v cs) :
    Calls Try.prog 73 #[.agg #[.int .i64 g.area, .int .i64 g.ohm, .int .i64 g.heat, .int .i64 g.cool, .int .i64 g.limit], .agg #[v, .int .i64 n.len, .int .i64 n.drop, .int .i64 n.amb]] w fun e w' => e = .returned (.bool (fitsB g n cs)) ∧ Below w.heap.size w w' := by
  have H := hide h
  obtain ⟨A0, cap0, rfl⟩ := h.form
  clear h
  have HG := hide hg
  have HK := hide hk
  have hgt := gtI_range hk.cyc
  have hpr := peak_range hg hk.cyc hg.limit0
  have hl0 := hg.limit0
  have hl1 := hg.limit1
  have ham0 := hk.amb0
  have ham1 := hk.amb1
  obtain ⟨pk, hpk⟩ : ∃ x, peakI g cs g.limit = x := ⟨_, rfl⟩
  obtain ⟨dr, hdr⟩ : ∃ x, dropI g (gtI cs) n.len = x := ⟨_, rfl⟩
  obtain ⟨gt, hgt2⟩ : ∃ x, gtI cs = x := ⟨_, rfl⟩
  have HF : Hid (fitsB g n cs = (decide (pk + n.amb ≤ g.limit) && decide (dr ≤ n.drop))) := by
    show _ = _
    rw [← hpk, ← hdr]; rfl
  rw [hpk] at hpr
  have HPK := hide hpk
  have HDR : Hid (dropI g gt n.len = dr) := by show _ = _; rw [← hgt2]; exact hdr
  rw [hgt2] at hgt
  have HGT := hide hgt2
  clear hg hk hpk hdr hgt2
  obtain ⟨hp0, hp1⟩ := hpr
  obtain ⟨hg0, hg1⟩ := hgt
  go_enter Try.func73, Try.ntmps73
  go_wp2_with fail
  obtain ⟨w0, hw0⟩ : ∃ w0 : World, (w.alloc (.cells #[.int .i64 g.area, .int .i64 g.ohm, .int .i64 g.heat, .int .i64 g.cool, .int .i64 g.limit] 23)).alloc (.cells #[(.slice A0 cs.length cap0), .int .i64 n.len, .int .i64 n.drop, .int .i64 n.amb] 48) = w0 := ⟨_, rfl⟩
  have hga : GaugeAt w0 w.heap.size g := by unfold GaugeAt; rw [← hw0, heap_old _ _ _ (by simp <;> omega), heap_new _ _ _ rfl]
  have hne : NeedAt w0 (w.heap.size + 1) (.slice A0 cs.length cap0) n := by unfold NeedAt; rw [← hw0, heap_new _ _ _ (by simp)]
  have hB0 : Below w.heap.size w w0 := by rw [← hw0]; exact (by repeat (first | exact Below.refl _ _ | assumption | refine Below.drew ?_ | refine Below.drewN ?_ _ | refine Below.allocT ?_ (Nat.le_refl _) _ | refine Below.setCell ?_ (by simp <;> omega) _ | refine Below.to ?_ (by assumption) (Nat.le_refl _)))
  have HGA := hide hga
  have HNE := hide hne
  have HB0 := hide hB0
  have HC0 : Hid (Cyc w0 w0.heap.size (.slice A0 cs.length cap0) cs) := (H.out.below hB0).more hB0.size
  rw [hw0]
  obtain ⟨k0, k1, k2, k3, k4, k5, k6, k7, k8, _⟩ := nega hga hne (Below.refl _ w0)
  clear hga hne hw0 hB0
  by_cases hc : g.limit < n.amb
  · have hc1 : decide (g.limit < n.amb) = true := by simpa using hc
    refine wp_region_held_drew (S := (fun w' => w'.cell? ⟨w.heap.size, 0, none⟩ = some (.int .i64 g.area) ∧ w'.cell? ⟨w.heap.size, 1, none⟩ = some (.int .i64 g.ohm) ∧ w'.cell? ⟨w.heap.size, 2, none⟩ = some (.int .i64 g.heat) ∧ w'.cell? ⟨w.heap.size, 3, none⟩ = some (.int .i64 g.cool) ∧ w'.cell? ⟨w.heap.size, 4, none⟩ = some (.int .i64 g.limit) ∧ w'.cell? ⟨w.heap.size + 1, 0, none⟩ = some (.slice A0 cs.length cap0) ∧ w'.cell? ⟨w.heap.size + 1, 1, none⟩ = some (.int .i64 n.len) ∧ w'.cell? ⟨w.heap.size + 1, 2, none⟩ = some (.int .i64 n.drop) ∧ w'.cell? ⟨w.heap.size + 1, 3, none⟩ = some (.int .i64 n.amb) ∧ Below w0.heap.size w0 w')) (by kernel_rfl) ?_ (fun hHeld => ?_)
    · try dsimp only
      exact nega HGA.out HNE.out (by repeat (first | exact Below.refl _ _ | assumption | refine Below.drew ?_ | refine Below.drewN ?_ _ | refine Below.allocT ?_ (Nat.le_refl _) _ | refine Below.setCell ?_ (by simp <;> omega) _ | refine Below.to ?_ (by assumption) (Nat.le_refl _)))
    refine wpAnyH_take (i := 0) (v := ?v1_0) rfl (by kernel_rfl) (by kernel_rfl) (by kernel_rfl) (fun _ _ _ h => h) (Or.inl ⟨by rfl, ?y1_0⟩) (by assumption) ?r1_0
    case' y1_0 => (intro w hSw; (try dsimp only at hSw); go_simp; try with_reducible rfl)
    try simp only [Act.put, List.getElem_toArray, List.getElem_cons_succ, List.getElem_cons_zero, List.setIfInBounds_toArray, List.set_cons_zero, List.set_cons_succ]
    refine wpAnyH_take (i := 1) (v := ?v1_1) rfl (by kernel_rfl) (by kernel_rfl) (by kernel_rfl) (fun _ _ _ h => h) (Or.inl ⟨by rfl, ?y1_1⟩) (by assumption) ?r1_1
    case' y1_1 => (intro w hSw; (try dsimp only at hSw); go_simp; try with_reducible rfl)
    try simp only [Act.put, List.getElem_toArray, List.getElem_cons_succ, List.getElem_cons_zero, List.setIfInBounds_toArray, List.set_cons_zero, List.set_cons_succ]
    refine wpAnyH_take (i := 2) (v := ?v1_2) rfl (by kernel_rfl) (by kernel_rfl) (by kernel_rfl) (fun _ _ _ h => h) (Or.inl ⟨by rfl, ?y1_2⟩) (by assumption) ?r1_2
    case' y1_2 => (intro w hSw; (try dsimp only at hSw); go_simp; try with_reducible rfl)
    try simp only [Act.put, List.getElem_toArray, List.getElem_cons_succ, List.getElem_cons_zero, List.setIfInBounds_toArray, List.set_cons_zero, List.set_cons_succ]
    refine wpAnyH_take (i := 3) (v := ?v1_3) rfl (by kernel_rfl) (by kernel_rfl) (by kernel_rfl) (fun _ _ _ h => h) (Or.inl ⟨by rfl, ?y1_3⟩) (by assumption) ?r1_3
    case' y1_3 => (intro w hSw; (try dsimp only at hSw); go_simp; try with_reducible rfl)
    try simp only [Act.put, List.getElem_toArray, List.getElem_cons_succ, List.getElem_cons_zero, List.setIfInBounds_toArray, List.set_cons_zero, List.set_cons_succ]
    refine wpAnyH_take (i := 4) (v := ?v1_4) rfl (by kernel_rfl) (by kernel_rfl) (by kernel_rfl) (fun _ _ _ h => h) (Or.inl ⟨by rfl, ?y1_4⟩) (by assumption) ?r1_4
    case' y1_4 => (intro w hSw; (try dsimp only at hSw); go_simp; try with_reducible rfl)
    try simp only [Act.put, List.getElem_toArray, List.getElem_cons_succ, List.getElem_cons_zero, List.setIfInBounds_toArray, List.set_cons_zero, List.set_cons_succ]
    refine wpAnyH_take (i := 5) (v := ?v1_5) rfl (by kernel_rfl) (by kernel_rfl) (by kernel_rfl) (fun _ _ _ h => h) (Or.inl ⟨by rfl, ?y1_5⟩) (by assumption) ?r1_5
    case' y1_5 => (intro w hSw; (try dsimp only at hSw); go_simp; try with_reducible rfl)
    try simp only [Act.put, List.getElem_toArray, List.getElem_cons_succ, List.getElem_cons_zero, List.setIfInBounds_toArray, List.set_cons_zero, List.set_cons_succ]
    refine wpAnyH_take (i := 6) (v := undef) rfl (by kernel_rfl) (by kernel_rfl) (by kernel_rfl) (fun _ _ _ h => h) (Or.inr ⟨?w1_6, rfl⟩) (by assumption) ?r1_6
    case' w1_6 => first | rfl | (simp [Region.wanted, yielded, *]; done)
    try simp only [Act.put, List.getElem_toArray, List.getElem_cons_succ, List.getElem_cons_zero, List.setIfInBounds_toArray, List.set_cons_zero, List.set_cons_succ]
    refine wpAnyH_take (i := 7) (v := undef) rfl (by kernel_rfl) (by kernel_rfl) (by kernel_rfl) (fun _ _ _ h => h) (Or.inr ⟨?w1_7, rfl⟩) (by assumption) ?r1_7
    case' w1_7 => first | rfl | (simp [Region.wanted, yielded, *]; done)
    try simp only [Act.put, List.getElem_toArray, List.getElem_cons_succ, List.getElem_cons_zero, List.setIfInBounds_toArray, List.set_cons_zero, List.set_cons_succ]
    refine wpAnyH_take (i := 8) (v := undef) rfl (by kernel_rfl) (by kernel_rfl) (by kernel_rfl) (fun _ _ _ h => h) (Or.inr ⟨?w1_8, rfl⟩) (by assumption) ?r1_8
    case' w1_8 => first | rfl | (simp [Region.wanted, yielded, *]; done)
    try simp only [Act.put, List.getElem_toArray, List.getElem_cons_succ, List.getElem_cons_zero, List.setIfInBounds_toArray, List.set_cons_zero, List.set_cons_succ]
    refine wpAnyH_take (i := 9) (v := undef) rfl (by kernel_rfl) (by kernel_rfl) (by kernel_rfl) (fun _ _ _ h => h) (Or.inr ⟨?w1_9, rfl⟩) (by assumption) ?r1_9
    case' w1_9 => first | rfl | (simp [Region.wanted, yielded, *]; done)
    try simp only [Act.put, List.getElem_toArray, List.getElem_cons_succ, List.getElem_cons_zero, List.setIfInBounds_toArray, List.set_cons_zero, List.set_cons_succ]
    refine wpAnyH_take (i := 10) (v := undef) rfl (by kernel_rfl) (by kernel_rfl) (by kernel_rfl) (fun _ _ _ h => h) (Or.inr ⟨?w1_10, rfl⟩) (by assumption) ?r1_10
    case' w1_10 => first | rfl | (simp [Region.wanted, yielded, *]; done)
    try simp only [Act.put, List.getElem_toArray, List.getElem_cons_succ, List.getElem_cons_zero, List.setIfInBounds_toArray, List.set_cons_zero, List.set_cons_succ]
    refine wpAnyH_take (i := 11) (v := undef) rfl (by kernel_rfl) (by kernel_rfl) (by kernel_rfl) (fun _ _ _ h => h) (Or.inr ⟨?w1_11, rfl⟩) (by assumption) ?r1_11
    case' w1_11 => first | rfl | (simp [Region.wanted, yielded, *]; done)
    try simp only [Act.put, List.getElem_toArray, List.getElem_cons_succ, List.getElem_cons_zero, List.setIfInBounds_toArray, List.set_cons_zero, List.set_cons_succ]
    refine wpAnyH_take (i := 12) (v := undef) rfl (by kernel_rfl) (by kernel_rfl) (by kernel_rfl) (fun _ _ _ h => h) (Or.inr ⟨?w1_12, rfl⟩) (by assumption) ?r1_12
    case' w1_12 => first | rfl | (simp [Region.wanted, yielded, *]; done)
    try simp only [Act.put, List.getElem_toArray, List.getElem_cons_succ, List.getElem_cons_zero, List.setIfInBounds_toArray, List.set_cons_zero, List.set_cons_succ]
    refine wpAnyH_take (i := 13) (v := undef) rfl (by kernel_rfl) (by kernel_rfl) (by kernel_rfl) (fun _ _ _ h => h) (Or.inr ⟨?w1_13, rfl⟩) (by assumption) ?r1_13
    case' w1_13 => first | rfl | (simp [Region.wanted, yielded, *]; done)
    try simp only [Act.put, List.getElem_toArray, List.getElem_cons_succ, List.getElem_cons_zero, List.setIfInBounds_toArray, List.set_cons_zero, List.set_cons_succ]
    refine wpAnyH_take (i := 14) (v := undef) rfl (by kernel_rfl) (by kernel_rfl) (by kernel_rfl) (fun _ _ _ h => h) (Or.inr ⟨?w1_14, rfl⟩) (by assumption) ?r1_14
    case' w1_14 => first | rfl | (simp [Region.wanted, yielded, *]; done)
    try simp only [Act.put, List.getElem_toArray, List.getElem_cons_succ, List.getElem_cons_zero, List.setIfInBounds_toArray, List.set_cons_zero, List.set_cons_succ]
    refine wpAnyH_take (i := 15) (v := undef) rfl (by kernel_rfl) (by kernel_rfl) (by kernel_rfl) (fun _ _ _ h => h) (Or.inr ⟨?w1_15, rfl⟩) (by assumption) ?r1_15
    case' w1_15 => first | rfl | (simp [Region.wanted, yielded, *]; done)
    try simp only [Act.put, List.getElem_toArray, List.getElem_cons_succ, List.getElem_cons_zero, List.setIfInBounds_toArray, List.set_cons_zero, List.set_cons_succ]
    refine wpAnyH_take (i := 16) (v := ?v1_16) rfl (by kernel_rfl) (by kernel_rfl) (by kernel_rfl) (fun _ _ _ h => h) (Or.inl ⟨by rfl, ?y1_16⟩) (by assumption) ?r1_16
    case' y1_16 => (intro w hSw; (try dsimp only at hSw); go_simp; try with_reducible rfl)
    try simp only [Act.put, List.getElem_toArray, List.getElem_cons_succ, List.getElem_cons_zero, List.setIfInBounds_toArray, List.set_cons_zero, List.set_cons_succ]
    refine wpAnyH_done (by kernel_rfl) ?_ _
    go_wp2_with fail
    go_ret
    exact ⟨ret_bool (by rw [HF.out, show decide (pk + n.amb ≤ g.limit) = false from by simp; omega]; rfl), (by repeat (first | exact Below.refl _ _ | assumption | refine Below.drew ?_ | refine Below.drewN ?_ _ | refine Below.allocT ?_ (Nat.le_refl _) _ | refine Below.setCell ?_ (by simp <;> omega) _ | refine Below.to ?_ (by assumption) (Nat.le_refl _)))⟩
  · have hc1 : decide (g.limit < n.amb) = false := by simpa using hc
    refine wp_region_held_drew (S := (fun w' => w'.cell? ⟨w.heap.size, 0, none⟩ = some (.int .i64 g.area) ∧ w'.cell? ⟨w.heap.size, 1, none⟩ = some (.int .i64 g.ohm) ∧ w'.cell? ⟨w.heap.size, 2, none⟩ = some (.int .i64 g.heat) ∧ w'.cell? ⟨w.heap.size, 3, none⟩ = some (.int .i64 g.cool) ∧ w'.cell? ⟨w.heap.size, 4, none⟩ = some (.int .i64 g.limit) ∧ w'.cell? ⟨w.heap.size + 1, 0, none⟩ = some (.slice A0 cs.length cap0) ∧ w'.cell? ⟨w.heap.size + 1, 1, none⟩ = some (.int .i64 n.len) ∧ w'.cell? ⟨w.heap.size + 1, 2, none⟩ = some (.int .i64 n.drop) ∧ w'.cell? ⟨w.heap.size + 1, 3, none⟩ = some (.int .i64 n.amb) ∧ Below w0.heap.size w0 w')) (by kernel_rfl) ?_ (fun hHeld => ?_)
    · try dsimp only
      exact nega HGA.out HNE.out (by repeat (first | exact Below.refl _ _ | assumption | refine Below.drew ?_ | refine Below.drewN ?_ _ | refine Below.allocT ?_ (Nat.le_refl _) _ | refine Below.setCell ?_ (by simp <;> omega) _ | refine Below.to ?_ (by assumption) (Nat.le_refl _)))
    refine wpAnyH_take (i := 0) (v := ?v2_0) rfl (by kernel_rfl) (by kernel_rfl) (by kernel_rfl) (fun _ _ _ h => h) (Or.inl ⟨by rfl, ?y2_0⟩) (by assumption) ?r2_0
    case' y2_0 => (intro w hSw; (try dsimp only at hSw); go_simp; try with_reducible rfl)
    try simp only [Act.put, List.getElem_toArray, List.getElem_cons_succ, List.getElem_cons_zero, List.setIfInBounds_toArray, List.set_cons_zero, List.set_cons_succ]
    refine wpAnyH_take (i := 1) (v := ?v2_1) rfl (by kernel_rfl) (by kernel_rfl) (by kernel_rfl) (fun _ _ _ h => h) (Or.inl ⟨by rfl, ?y2_1⟩) (by assumption) ?r2_1
    case' y2_1 => (intro w hSw; (try dsimp only at hSw); go_simp; try with_reducible rfl)
    try simp only [Act.put, List.getElem_toArray, List.getElem_cons_succ, List.getElem_cons_zero, List.setIfInBounds_toArray, List.set_cons_zero, List.set_cons_succ]
    refine wpAnyH_take (i := 2) (v := ?v2_2) rfl (by kernel_rfl) (by kernel_rfl) (by kernel_rfl) (fun _ _ _ h => h) (Or.inl ⟨by rfl, ?y2_2⟩) (by assumption) ?r2_2
    case' y2_2 => (intro w hSw; (try dsimp only at hSw); go_simp; try with_reducible rfl)
    try simp only [Act.put, List.getElem_toArray, List.getElem_cons_succ, List.getElem_cons_zero, List.setIfInBounds_toArray, List.set_cons_zero, List.set_cons_succ]
    refine wpAnyH_take (i := 3) (v := ?v2_3) rfl (by kernel_rfl) (by kernel_rfl) (by kernel_rfl) (fun _ _ _ h => h) (Or.inl ⟨by rfl, ?y2_3⟩) (by assumption) ?r2_3
    case' y2_3 => (intro w hSw; (try dsimp only at hSw); go_simp; try with_reducible rfl)
    try simp only [Act.put, List.getElem_toArray, List.getElem_cons_succ, List.getElem_cons_zero, List.setIfInBounds_toArray, List.set_cons_zero, List.set_cons_succ]
    refine wpAnyH_take (i := 4) (v := ?v2_4) rfl (by kernel_rfl) (by kernel_rfl) (by kernel_rfl) (fun _ _ _ h => h) (Or.inl ⟨by rfl, ?y2_4⟩) (by assumption) ?r2_4
    case' y2_4 => (intro w hSw; (try dsimp only at hSw); go_simp; try with_reducible rfl)
    try simp only [Act.put, List.getElem_toArray, List.getElem_cons_succ, List.getElem_cons_zero, List.setIfInBounds_toArray, List.set_cons_zero, List.set_cons_succ]
    refine wpAnyH_take (i := 5) (v := ?v2_5) rfl (by kernel_rfl) (by kernel_rfl) (by kernel_rfl) (fun _ _ _ h => h) (Or.inl ⟨by rfl, ?y2_5⟩) (by assumption) ?r2_5
    case' y2_5 => (intro w hSw; (try dsimp only at hSw); go_simp; try with_reducible rfl)
    try simp only [Act.put, List.getElem_toArray, List.getElem_cons_succ, List.getElem_cons_zero, List.setIfInBounds_toArray, List.set_cons_zero, List.set_cons_succ]
    refine wpAnyH_take (i := 6) (v := ?v2_6) rfl (by kernel_rfl) (by kernel_rfl) (by kernel_rfl) (fun _ _ _ h => h) (Or.inl ⟨by rfl, ?y2_6⟩) (by assumption) ?r2_6
    case' y2_6 => (intro w hSw; (try dsimp only at hSw); go_simp; try with_reducible rfl)
    try simp only [Act.put, List.getElem_toArray, List.getElem_cons_succ, List.getElem_cons_zero, List.setIfInBounds_toArray, List.set_cons_zero, List.set_cons_succ]
    refine wpAnyH_take (i := 7) (v := ?v2_7) rfl (by kernel_rfl) (by kernel_rfl) (by kernel_rfl) (fun _ _ _ h => h) (Or.inl ⟨by rfl, ?y2_7⟩) (by assumption) ?r2_7
    case' y2_7 => (intro w hSw; (try dsimp only at hSw); go_simp; try with_reducible rfl)
    try simp only [Act.put, List.getElem_toArray, List.getElem_cons_succ, List.getElem_cons_zero, List.setIfInBounds_toArray, List.set_cons_zero, List.set_cons_succ]
    refine wpAnyH_take (i := 8) (v := ?v2_8) rfl (by kernel_rfl) (by kernel_rfl) (by kernel_rfl) (fun _ _ _ h => h) (Or.inl ⟨by rfl, ?y2_8⟩) (by assumption) ?r2_8
    case' y2_8 => (intro w hSw; (try dsimp only at hSw); go_simp; try with_reducible rfl)
    try simp only [Act.put, List.getElem_toArray, List.getElem_cons_succ, List.getElem_cons_zero, List.setIfInBounds_toArray, List.set_cons_zero, List.set_cons_succ]
    refine wpAnyH_take (i := 10) (v := ?v2_10) rfl (by kernel_rfl) (by kernel_rfl) (by kernel_rfl) (fun _ _ _ h => h) (Or.inl ⟨by rfl, ?y2_10⟩) (by assumption) ?r2_10
    case' y2_10 => (intro w hSw; (try dsimp only at hSw); go_simp; try with_reducible rfl)
    try simp only [Act.put, List.getElem_toArray, List.getElem_cons_succ, List.getElem_cons_zero, List.setIfInBounds_toArray, List.set_cons_zero, List.set_cons_succ]
    refine wpAnyH_take (i := 11) (v := ?v2_11) rfl (by kernel_rfl) (by kernel_rfl) (by kernel_rfl) (fun _ _ _ h => h) (Or.inl ⟨by rfl, ?y2_11⟩) (by assumption) ?r2_11
    case' y2_11 => (intro w hSw; (try dsimp only at hSw); go_simp; try with_reducible rfl)
    try simp only [Act.put, List.getElem_toArray, List.getElem_cons_succ, List.getElem_cons_zero, List.setIfInBounds_toArray, List.set_cons_zero, List.set_cons_succ]
    refine wpAnyH_take (i := 13) (v := ?v2_13) rfl (by kernel_rfl) (by kernel_rfl) (by kernel_rfl) (fun _ _ _ h => h) (Or.inl ⟨by rfl, ?y2_13⟩) (by assumption) ?r2_13
    case' y2_13 => (intro w hSw; (try dsimp only at hSw); go_simp; try with_reducible rfl)
    try simp only [Act.put, List.getElem_toArray, List.getElem_cons_succ, List.getElem_cons_zero, List.setIfInBounds_toArray, List.set_cons_zero, List.set_cons_succ]
    refine wpAnyH_take (i := 14) (v := ?v2_14) rfl (by kernel_rfl) (by kernel_rfl) (by kernel_rfl) (fun _ _ _ h => h) (Or.inl ⟨by rfl, ?y2_14⟩) (by assumption) ?r2_14
    case' y2_14 => (intro w hSw; (try dsimp only at hSw); go_simp; try with_reducible rfl)
    try simp only [Act.put, List.getElem_toArray, List.getElem_cons_succ, List.getElem_cons_zero, List.setIfInBounds_toArray, List.set_cons_zero, List.set_cons_succ]
    refine wpAnyH_ready (rs := [9]) (by kernel_rfl) (by simp) ?_
    refine AllReadyH.cons rfl (fun K hK => ?_) AllReadyH.nil
    go_simp
    (first | (go_at_call 82; refine (greatest_any _ cs _ HK.out.cyc (HC0.out.up (by repeat (first | exact Below.refl _ _ | assumption | refine Below.drew ?_ | refine Below.drewN ?_ _ | refine Below.allocT ?_ (Nat.le_refl _) _ | refine Below.setCell ?_ (by simp <;> omega) _ | refine Below.to ?_ (by assumption) (Nat.le_refl _))))).mono ?_; rw [HGT.out]; rintro e w1 ⟨rfl, hB1⟩) | (go_at_call 50; refine (drop_any g gt n.len _ hg0 hg1 HK.out.len0 HK.out.len1 HG.out.ohm0 HG.out.ohm1).mono ?_; rw [HDR.out]; rintro e w2 ⟨rfl, hB2⟩))
    (try dsimp only)
    refine hK.out _ _ ?_ (fun hNext => ?_)
    · try dsimp only
      exact nega HGA.out HNE.out (by repeat (first | exact Below.refl _ _ | assumption | refine Below.drew ?_ | refine Below.drewN ?_ _ | refine Below.allocT ?_ (Nat.le_refl _) _ | refine Below.setCell ?_ (by simp <;> omega) _ | refine Below.to ?_ (by assumption) (Nat.le_refl _)))
    clear hK K hHeld
    have hHeld := hNext
    clear hNext
    (try dsimp only at hHeld)
    try simp only [Act.put, List.getElem_toArray, List.getElem_cons_succ, List.getElem_cons_zero, List.setIfInBounds_toArray, List.set_cons_zero, List.set_cons_succ]
    refine wpAnyH_ready (rs := [12]) (by kernel_rfl) (by simp) ?_
    refine AllReadyH.cons rfl (fun K hK => ?_) AllReadyH.nil
    go_simp
    (first | (go_at_call 82; refine (greatest_any _ cs _ HK.out.cyc (HC0.out.up (by repeat (first | exact Below.refl _ _ | assumption | refine Below.drew ?_ | refine Below.drewN ?_ _ | refine Below.allocT ?_ (Nat.le_refl _) _ | refine Below.setCell ?_ (by simp <;> omega) _ | refine Below.to ?_ (by assumption) (Nat.le_refl _))))).mono ?_; rw [HGT.out]; rintro e w1 ⟨rfl, hB1⟩) | (go_at_call 50; refine (drop_any g gt n.len _ hg0 hg1 HK.out.len0 HK.out.len1 HG.out.ohm0 HG.out.ohm1).mono ?_; rw [HDR.out]; rintro e w2 ⟨rfl, hB2⟩))
    (try dsimp only)
    refine hK.out _ _ ?_ (fun hNext => ?_)
    · try dsimp only
      exact nega HGA.out HNE.out (by repeat (first | exact Below.refl _ _ | assumption | refine Below.drew ?_ | refine Below.drewN ?_ _ | refine Below.allocT ?_ (Nat.le_refl _) _ | refine Below.setCell ?_ (by simp <;> omega) _ | refine Below.to ?_ (by assumption) (Nat.le_refl _)))
    clear hK K hHeld
    have hHeld := hNext
    clear hNext
    (try dsimp only at hHeld)
    try simp only [Act.put, List.getElem_toArray, List.getElem_cons_succ, List.getElem_cons_zero, List.setIfInBounds_toArray, List.set_cons_zero, List.set_cons_succ]
    refine wpAnyH_take (i := 15) (v := ?v2_15) rfl (by kernel_rfl) (by kernel_rfl) (by kernel_rfl) (fun _ _ _ h => h) (Or.inl ⟨by rfl, ?y2_15⟩) (by assumption) ?r2_15
    case' y2_15 => (intro w hSw; (try dsimp only at hSw); go_simp; try with_reducible rfl)
    try simp only [Act.put, List.getElem_toArray, List.getElem_cons_succ, List.getElem_cons_zero, List.setIfInBounds_toArray, List.set_cons_zero, List.set_cons_succ]
    refine wpAnyH_take (i := 16) (v := ?v2_16) rfl (by kernel_rfl) (by kernel_rfl) (by kernel_rfl) (fun _ _ _ h => h) (Or.inl ⟨by rfl, ?y2_16⟩) (by assumption) ?r2_16
    case' y2_16 => (intro w hSw; (try dsimp only at hSw); go_simp; try with_reducible rfl)
    try simp only [Act.put, List.getElem_toArray, List.getElem_cons_succ, List.getElem_cons_zero, List.setIfInBounds_toArray, List.set_cons_zero, List.set_cons_succ]
    refine wpAnyH_done (by kernel_rfl) ?_ _
    obtain ⟨j0, j1, j2, j3, j4, j5, j6, j7, j8, hW2⟩ := hHeld
    have HW2 := hide hW2
    clear hW2 k0 k1 k2 k3 k4 k5 k6 k7 k8
    by_cases hd : n.drop < dr
    · go_wp2_with fail
      go_ret
      exact ⟨ret_bool (by rw [HF.out, show decide (dr ≤ n.drop) = false from by simp; omega]; simp), Below.to HB0.out HW2.out (Nat.le_refl _)⟩
    · have HGA2 : Hid (GaugeAt w2 w.heap.size g) := box_to HGA.out HW2.out
      have HNE2 : Hid (NeedAt w2 (w.heap.size + 1) (.slice A0 cs.length cap0) n) := box_to HNE.out HW2.out
      have HC2 : Hid (Cyc w2 w2.heap.size (.slice A0 cs.length cap0) cs) := HC0.out.up HW2.out
      have hsum : IntKind.i64.wrap (pk + n.amb) = pk + n.amb := IntWalk.i64_in _ (by omega)
      go_wp2_with fail
      refine wp_region_held_drew (S := (fun w' => w'.cell? ⟨w.heap.size, 0, none⟩ = some (.int .i64 g.area) ∧ w'.cell? ⟨w.heap.size, 1, none⟩ = some (.int .i64 g.ohm) ∧ w'.cell? ⟨w.heap.size, 2, none⟩ = some (.int .i64 g.heat) ∧ w'.cell? ⟨w.heap.size, 3, none⟩ = some (.int .i64 g.cool) ∧ w'.cell? ⟨w.heap.size, 4, none⟩ = some (.int .i64 g.limit) ∧ w'.cell? ⟨w.heap.size + 1, 0, none⟩ = some (.slice A0 cs.length cap0) ∧ w'.cell? ⟨w.heap.size + 1, 1, none⟩ = some (.int .i64 n.len) ∧ w'.cell? ⟨w.heap.size + 1, 2, none⟩ = some (.int .i64 n.drop) ∧ w'.cell? ⟨w.heap.size + 1, 3, none⟩ = some (.int .i64 n.amb) ∧ Below w2.heap.size w2 w')) (by kernel_rfl) ?_ (fun hHeld => ?_)
      · try dsimp only
        exact nega HGA2.out HNE2.out (by first | exact HB5.out | exact (by repeat (first | exact Below.refl _ _ | assumption | refine Below.drew ?_ | refine Below.drewN ?_ _ | refine Below.allocT ?_ (Nat.le_refl _) _ | refine Below.setCell ?_ (by simp <;> omega) _ | refine Below.to ?_ (by assumption) (Nat.le_refl _))))
      refine wpAnyH_take (i := 0) (v := ?v3_0) rfl (by kernel_rfl) (by kernel_rfl) (by kernel_rfl) (fun _ _ _ h => h) (Or.inl ⟨by rfl, ?y3_0⟩) (by assumption) ?r3_0
      case' y3_0 => (intro w hSw; (try dsimp only at hSw); go_simp; try with_reducible rfl)
      try simp only [Act.put, List.getElem_toArray, List.getElem_cons_succ, List.getElem_cons_zero, List.setIfInBounds_toArray, List.set_cons_zero, List.set_cons_succ]
      refine wpAnyH_take (i := 1) (v := ?v3_1) rfl (by kernel_rfl) (by kernel_rfl) (by kernel_rfl) (fun _ _ _ h => h) (Or.inl ⟨by rfl, ?y3_1⟩) (by assumption) ?r3_1
      case' y3_1 => (intro w hSw; (try dsimp only at hSw); go_simp; try with_reducible rfl)
      try simp only [Act.put, List.getElem_toArray, List.getElem_cons_succ, List.getElem_cons_zero, List.setIfInBounds_toArray, List.set_cons_zero, List.set_cons_succ]
      refine wpAnyH_take (i := 4) (v := ?v3_4) rfl (by kernel_rfl) (by kernel_rfl) (by kernel_rfl) (fun _ _ _ h => h) (Or.inl ⟨by rfl, ?y3_4⟩) (by assumption) ?r3_4
      case' y3_4 => (intro w hSw; (try dsimp only at hSw); go_simp; try with_reducible rfl)
      try simp only [Act.put, List.getElem_toArray, List.getElem_cons_succ, List.getElem_cons_zero, List.setIfInBounds_toArray, List.set_cons_zero, List.set_cons_succ]
      refine wpAnyH_take (i := 5) (v := ?v3_5) rfl (by kernel_rfl) (by kernel_rfl) (by kernel_rfl) (fun _ _ _ h => h) (Or.inl ⟨by rfl, ?y3_5⟩) (by assumption) ?r3_5
      case' y3_5 => (intro w hSw; (try dsimp only at hSw); go_simp; try with_reducible rfl)
      try simp only [Act.put, List.getElem_toArray, List.getElem_cons_succ, List.getElem_cons_zero, List.setIfInBounds_toArray, List.set_cons_zero, List.set_cons_succ]
      refine wpAnyH_take (i := 6) (v := ?v3_6) rfl (by kernel_rfl) (by kernel_rfl) (by kernel_rfl) (fun _ _ _ h => h) (Or.inl ⟨by rfl, ?y3_6⟩) (by assumption) ?r3_6
      case' y3_6 => (intro w hSw; (try dsimp only at hSw); go_simp; try with_reducible rfl)
      try simp only [Act.put, List.getElem_toArray, List.getElem_cons_succ, List.getElem_cons_zero, List.setIfInBounds_toArray, List.set_cons_zero, List.set_cons_succ]
      refine wpAnyH_take (i := 7) (v := ?v3_7) rfl (by kernel_rfl) (by kernel_rfl) (by kernel_rfl) (fun _ _ _ h => h) (Or.inl ⟨by rfl, ?y3_7⟩) (by assumption) ?r3_7
      case' y3_7 => (intro w hSw; (try dsimp only at hSw); go_simp; try with_reducible rfl)
      try simp only [Act.put, List.getElem_toArray, List.getElem_cons_succ, List.getElem_cons_zero, List.setIfInBounds_toArray, List.set_cons_zero, List.set_cons_succ]
      refine wpAnyH_take (i := 9) (v := ?v3_9) rfl (by kernel_rfl) (by kernel_rfl) (by kernel_rfl) (fun _ _ _ h => h) (Or.inl ⟨by rfl, ?y3_9⟩) (by assumption) ?r3_9
      case' y3_9 => (intro w hSw; (try dsimp only at hSw); go_simp; try with_reducible rfl)
      try simp only [Act.put, List.getElem_toArray, List.getElem_cons_succ, List.getElem_cons_zero, List.setIfInBounds_toArray, List.set_cons_zero, List.set_cons_succ]
      refine wpAnyH_take (i := 10) (v := ?v3_10) rfl (by kernel_rfl) (by kernel_rfl) (by kernel_rfl) (fun _ _ _ h => h) (Or.inl ⟨by rfl, ?y3_10⟩) (by assumption) ?r3_10
      case' y3_10 => (intro w hSw; (try dsimp only at hSw); go_simp; try with_reducible rfl)
      try simp only [Act.put, List.getElem_toArray, List.getElem_cons_succ, List.getElem_cons_zero, List.setIfInBounds_toArray, List.set_cons_zero, List.set_cons_succ]
      refine wpAnyH_take (i := 12) (v := ?v3_12) rfl (by kernel_rfl) (by kernel_rfl) (by kernel_rfl) (fun _ _ _ h => h) (Or.inl ⟨by rfl, ?y3_12⟩) (by assumption) ?r3_12
      case' y3_12 => (intro w hSw; (try dsimp only at hSw); go_simp; try with_reducible rfl)
      try simp only [Act.put, List.getElem_toArray, List.getElem_cons_succ, List.getElem_cons_zero, List.setIfInBounds_toArray, List.set_cons_zero, List.set_cons_succ]
      refine wpAnyH_take (i := 13) (v := ?v3_13) rfl (by kernel_rfl) (by kernel_rfl) (by kernel_rfl) (fun _ _ _ h => h) (Or.inl ⟨by rfl, ?y3_13⟩) (by assumption) ?r3_13
      case' y3_13 => (intro w hSw; (try dsimp only at hSw); go_simp; try with_reducible rfl)
      try simp only [Act.put, List.getElem_toArray, List.getElem_cons_succ, List.getElem_cons_zero, List.setIfInBounds_toArray, List.set_cons_zero, List.set_cons_succ]
      refine wpAnyH_ready (rs := [2]) (by kernel_rfl) (by simp) ?_
      refine AllReadyH.cons rfl (fun K hK => ?_) AllReadyH.nil
      go_simp
      refine hK.out _ _ ?_ (fun hNext => ?_)
      · try dsimp only
        exact nega HGA2.out HNE2.out (by first | exact HB5.out | exact (by repeat (first | exact Below.refl _ _ | assumption | refine Below.drew ?_ | refine Below.drewN ?_ _ | refine Below.allocT ?_ (Nat.le_refl _) _ | refine Below.setCell ?_ (by simp <;> omega) _ | refine Below.to ?_ (by assumption) (Nat.le_refl _))))
      clear hK K hHeld
      have hHeld := hNext
      clear hNext
      (try dsimp only at hHeld)
      try simp only [Act.put, List.getElem_toArray, List.getElem_cons_succ, List.getElem_cons_zero, List.setIfInBounds_toArray, List.set_cons_zero, List.set_cons_succ]
      refine wpAnyH_take (i := 3) (v := ?v3_3) rfl (by kernel_rfl) (by kernel_rfl) (by kernel_rfl) (fun _ _ _ h => h) (Or.inl ⟨by rfl, ?y3_3⟩) (by assumption) ?r3_3
      case' y3_3 => (intro w hSw; (try dsimp only at hSw); go_simp; try with_reducible rfl)
      try simp only [Act.put, List.getElem_toArray, List.getElem_cons_succ, List.getElem_cons_zero, List.setIfInBounds_toArray, List.set_cons_zero, List.set_cons_succ]
      refine wpAnyH_ready (rs := [8]) (by kernel_rfl) (by simp) ?_
      refine AllReadyH.cons rfl (fun K hK => ?_) AllReadyH.nil
      go_simp
      (first | (go_at_call 68; refine (peak_any w2.heap.size g g.limit _ cs (w2.alloc (.cells #[.int .i64 g.area, .int .i64 g.ohm, .int .i64 g.heat, .int .i64 g.cool, .int .i64 g.limit, .int .i64 0] 94)).drew (heap_new w2 _ _ rfl) HK.out.cyc (HC2.out.below (by repeat (first | exact Below.refl _ _ | assumption | refine Below.drew ?_ | refine Below.drewN ?_ _ | refine Below.allocT ?_ (Nat.le_refl _) _ | refine Below.setCell ?_ (by simp <;> omega) _ | refine Below.to ?_ (by assumption) (Nat.le_refl _)))) HG.out hl0 hl1).mono ?_; rw [HPK.out]; rintro e w5 ⟨rfl, hg5⟩; have HB5 : Hid (Below w2.heap.size w2 w5) := below_only (by repeat (first | exact Below.refl _ _ | assumption | refine Below.drew ?_ | refine Below.drewN ?_ _ | refine Below.allocT ?_ (Nat.le_refl _) _ | refine Below.setCell ?_ (by simp <;> omega) _ | refine Below.to ?_ (by assumption) (Nat.le_refl _))) hg5 (Nat.le_refl _)))
      (try dsimp only)
      refine hK.out _ _ ?_ (fun hNext => ?_)
      · try dsimp only
        exact nega HGA2.out HNE2.out (by first | exact HB5.out | exact (by repeat (first | exact Below.refl _ _ | assumption | refine Below.drew ?_ | refine Below.drewN ?_ _ | refine Below.allocT ?_ (Nat.le_refl _) _ | refine Below.setCell ?_ (by simp <;> omega) _ | refine Below.to ?_ (by assumption) (Nat.le_refl _))))
      clear hK K hHeld
      have hHeld := hNext
      clear hNext
      (try dsimp only at hHeld)
      try simp only [Act.put, List.getElem_toArray, List.getElem_cons_succ, List.getElem_cons_zero, List.setIfInBounds_toArray, List.set_cons_zero, List.set_cons_succ]
      refine wpAnyH_take (i := 11) (v := ?v3_11) rfl (by kernel_rfl) (by kernel_rfl) (by kernel_rfl) (fun _ _ _ h => h) (Or.inl ⟨by rfl, ?y3_11⟩) (by assumption) ?r3_11
      case' y3_11 => (intro w hSw; (try dsimp only at hSw); go_simp; try with_reducible rfl)
      try simp only [Act.put, List.getElem_toArray, List.getElem_cons_succ, List.getElem_cons_zero, List.setIfInBounds_toArray, List.set_cons_zero, List.set_cons_succ]
      refine wpAnyH_take (i := 14) (v := ?v3_14) rfl (by kernel_rfl) (by kernel_rfl) (by kernel_rfl) (fun _ _ _ h => h) (Or.inl ⟨by rfl, ?y3_14⟩) (by assumption) ?r3_14
      case' y3_14 => (intro w hSw; (try dsimp only at hSw); go_simp; try with_reducible rfl)
      try simp only [Act.put, List.getElem_toArray, List.getElem_cons_succ, List.getElem_cons_zero, List.setIfInBounds_toArray, List.set_cons_zero, List.set_cons_succ]
      refine wpAnyH_take (i := 15) (v := ?v3_15) rfl (by kernel_rfl) (by kernel_rfl) (by kernel_rfl) (fun _ _ _ h => h) (Or.inl ⟨by rfl, ?y3_15⟩) (by assumption) ?r3_15
      case' y3_15 => (intro w hSw; (try dsimp only at hSw); go_simp; try with_reducible rfl)
      try simp only [Act.put, List.getElem_toArray, List.getElem_cons_succ, List.getElem_cons_zero, List.setIfInBounds_toArray, List.set_cons_zero, List.set_cons_succ]
      refine wpAnyH_done (by kernel_rfl) ?_ _
      go_wp2_with fail
      go_ret
      exact ⟨ret_bool (by rw [HF.out, show decide (dr ≤ n.drop) = true from by simp; omega]; simp), Below.to (Below.to HB0.out HW2.out (Nat.le_refl _)) HB5.out (Nat.le_refl _)⟩

set_option maxRecDepth 100000 in
set_option maxHeartbeats 2000000 in
theorem rfits_any (g : Ga) (n : Ne) (v : Value) (cs : List Cu) (w : World) (hg : g.Ok) (hk : NeOk n cs) (h : Cyc w w.heap.size v cs) :
    Calls Try.prog 75 #[.agg #[.int .i64 g.area, .int .i64 g.ohm, .int .i64 g.heat, .int .i64 g.cool, .int .i64 g.limit], .agg #[v, .int .i64 n.len, .int .i64 n.drop, .int .i64 n.amb]] w fun e w' => e = .returned (.bool (fitsB g n cs)) ∧ Below w.heap.size w w' := by
  have H := hide h
  obtain ⟨A0, cap0, rfl⟩ := h.form
  clear h
  have HG := hide hg
  have HK := hide hk
  have hgt := gtI_range hk.cyc
  have hpr := peak_range hg hk.cyc hg.limit0
  have hl0 := hg.limit0
  have hl1 := hg.limit1
  have ham0 := hk.amb0
  have ham1 := hk.amb1
  obtain ⟨pk, hpk⟩ : ∃ x, peakI g cs g.limit = x := ⟨_, rfl⟩
  obtain ⟨dr, hdr⟩ : ∃ x, dropI g (gtI cs) n.len = x := ⟨_, rfl⟩
  obtain ⟨gt, hgt2⟩ : ∃ x, gtI cs = x := ⟨_, rfl⟩
  have HF : Hid (fitsB g n cs = (decide (pk + n.amb ≤ g.limit) && decide (dr ≤ n.drop))) := by
    show _ = _
    rw [← hpk, ← hdr]; rfl
  rw [hpk] at hpr
  have HPK := hide hpk
  have HDR : Hid (dropI g gt n.len = dr) := by show _ = _; rw [← hgt2]; exact hdr
  rw [hgt2] at hgt
  have HGT := hide hgt2
  clear hg hk hpk hdr hgt2
  obtain ⟨hp0, hp1⟩ := hpr
  obtain ⟨hg0, hg1⟩ := hgt
  go_enter Try.func75, Try.ntmps75
  go_wp2_with fail
  obtain ⟨w0, hw0⟩ : ∃ w0 : World, (w.alloc (.cells #[.int .i64 g.area, .int .i64 g.ohm, .int .i64 g.heat, .int .i64 g.cool, .int .i64 g.limit] 23)).alloc (.cells #[(.slice A0 cs.length cap0), .int .i64 n.len, .int .i64 n.drop, .int .i64 n.amb] 48) = w0 := ⟨_, rfl⟩
  have hga : GaugeAt w0 w.heap.size g := by unfold GaugeAt; rw [← hw0, heap_old _ _ _ (by simp <;> omega), heap_new _ _ _ rfl]
  have hne : NeedAt w0 (w.heap.size + 1) (.slice A0 cs.length cap0) n := by unfold NeedAt; rw [← hw0, heap_new _ _ _ (by simp)]
  have hB0 : Below w.heap.size w w0 := by rw [← hw0]; exact (by repeat (first | exact Below.refl _ _ | assumption | refine Below.drew ?_ | refine Below.drewN ?_ _ | refine Below.allocT ?_ (Nat.le_refl _) _ | refine Below.setCell ?_ (by simp <;> omega) _ | refine Below.to ?_ (by assumption) (Nat.le_refl _)))
  have HGA := hide hga
  have HNE := hide hne
  have HB0 := hide hB0
  have HC0 : Hid (Cyc w0 w0.heap.size (.slice A0 cs.length cap0) cs) := (H.out.below hB0).more hB0.size
  rw [hw0]
  obtain ⟨k0, k1, k2, k3, k4, k5, k6, k7, k8, _⟩ := nega hga hne (Below.refl _ w0)
  clear hga hne hw0 hB0
  have hsum : IntKind.i64.wrap (pk + n.amb) = pk + n.amb := IntWalk.i64_in _ (by omega)
  by_cases hc : pk + n.amb ≤ g.limit
  · have hc1 : decide (pk + n.amb ≤ g.limit) = true := by simpa using hc
    refine wp_region_held_drew (S := (fun w' => w'.cell? ⟨w.heap.size, 0, none⟩ = some (.int .i64 g.area) ∧ w'.cell? ⟨w.heap.size, 1, none⟩ = some (.int .i64 g.ohm) ∧ w'.cell? ⟨w.heap.size, 2, none⟩ = some (.int .i64 g.heat) ∧ w'.cell? ⟨w.heap.size, 3, none⟩ = some (.int .i64 g.cool) ∧ w'.cell? ⟨w.heap.size, 4, none⟩ = some (.int .i64 g.limit) ∧ w'.cell? ⟨w.heap.size + 1, 0, none⟩ = some (.slice A0 cs.length cap0) ∧ w'.cell? ⟨w.heap.size + 1, 1, none⟩ = some (.int .i64 n.len) ∧ w'.cell? ⟨w.heap.size + 1, 2, none⟩ = some (.int .i64 n.drop) ∧ w'.cell? ⟨w.heap.size + 1, 3, none⟩ = some (.int .i64 n.amb) ∧ Below w0.heap.size w0 w')) (by kernel_rfl) ?_ (fun hHeld => ?_)
    · try dsimp only
      exact nega HGA.out HNE.out (by first | exact HB3.out | exact HB2.out | exact HB1.out | exact (by repeat (first | exact Below.refl _ _ | assumption | refine Below.drew ?_ | refine Below.drewN ?_ _ | refine Below.allocT ?_ (Nat.le_refl _) _ | refine Below.setCell ?_ (by simp <;> omega) _ | refine Below.to ?_ (by assumption) (Nat.le_refl _))))
    refine wpAnyH_take (i := 0) (v := ?v4_0) rfl (by kernel_rfl) (by kernel_rfl) (by kernel_rfl) (fun _ _ _ h => h) (Or.inl ⟨by rfl, ?y4_0⟩) (by assumption) ?r4_0
    case' y4_0 => (intro w hSw; (try dsimp only at hSw); go_simp; try with_reducible rfl)
    try simp only [Act.put, List.getElem_toArray, List.getElem_cons_succ, List.getElem_cons_zero, List.setIfInBounds_toArray, List.set_cons_zero, List.set_cons_succ]
    refine wpAnyH_take (i := 1) (v := ?v4_1) rfl (by kernel_rfl) (by kernel_rfl) (by kernel_rfl) (fun _ _ _ h => h) (Or.inl ⟨by rfl, ?y4_1⟩) (by assumption) ?r4_1
    case' y4_1 => (intro w hSw; (try dsimp only at hSw); go_simp; try with_reducible rfl)
    try simp only [Act.put, List.getElem_toArray, List.getElem_cons_succ, List.getElem_cons_zero, List.setIfInBounds_toArray, List.set_cons_zero, List.set_cons_succ]
    refine wpAnyH_take (i := 2) (v := ?v4_2) rfl (by kernel_rfl) (by kernel_rfl) (by kernel_rfl) (fun _ _ _ h => h) (Or.inl ⟨by rfl, ?y4_2⟩) (by assumption) ?r4_2
    case' y4_2 => (intro w hSw; (try dsimp only at hSw); go_simp; try with_reducible rfl)
    try simp only [Act.put, List.getElem_toArray, List.getElem_cons_succ, List.getElem_cons_zero, List.setIfInBounds_toArray, List.set_cons_zero, List.set_cons_succ]
    refine wpAnyH_take (i := 4) (v := ?v4_4) rfl (by kernel_rfl) (by kernel_rfl) (by kernel_rfl) (fun _ _ _ h => h) (Or.inl ⟨by rfl, ?y4_4⟩) (by assumption) ?r4_4
    case' y4_4 => (intro w hSw; (try dsimp only at hSw); go_simp; try with_reducible rfl)
    try simp only [Act.put, List.getElem_toArray, List.getElem_cons_succ, List.getElem_cons_zero, List.setIfInBounds_toArray, List.set_cons_zero, List.set_cons_succ]
    refine wpAnyH_take (i := 5) (v := ?v4_5) rfl (by kernel_rfl) (by kernel_rfl) (by kernel_rfl) (fun _ _ _ h => h) (Or.inl ⟨by rfl, ?y4_5⟩) (by assumption) ?r4_5
    case' y4_5 => (intro w hSw; (try dsimp only at hSw); go_simp; try with_reducible rfl)
    try simp only [Act.put, List.getElem_toArray, List.getElem_cons_succ, List.getElem_cons_zero, List.setIfInBounds_toArray, List.set_cons_zero, List.set_cons_succ]
    refine wpAnyH_take (i := 7) (v := ?v4_7) rfl (by kernel_rfl) (by kernel_rfl) (by kernel_rfl) (fun _ _ _ h => h) (Or.inl ⟨by rfl, ?y4_7⟩) (by assumption) ?r4_7
    case' y4_7 => (intro w hSw; (try dsimp only at hSw); go_simp; try with_reducible rfl)
    try simp only [Act.put, List.getElem_toArray, List.getElem_cons_succ, List.getElem_cons_zero, List.setIfInBounds_toArray, List.set_cons_zero, List.set_cons_succ]
    refine wpAnyH_take (i := 8) (v := ?v4_8) rfl (by kernel_rfl) (by kernel_rfl) (by kernel_rfl) (fun _ _ _ h => h) (Or.inl ⟨by rfl, ?y4_8⟩) (by assumption) ?r4_8
    case' y4_8 => (intro w hSw; (try dsimp only at hSw); go_simp; try with_reducible rfl)
    try simp only [Act.put, List.getElem_toArray, List.getElem_cons_succ, List.getElem_cons_zero, List.setIfInBounds_toArray, List.set_cons_zero, List.set_cons_succ]
    refine wpAnyH_ready (rs := [3]) (by kernel_rfl) (by simp) ?_
    refine AllReadyH.cons rfl (fun K hK => ?_) AllReadyH.nil
    go_simp
    (first | (go_at_call 69; refine (rpeak_any g _ cs _ HG.out HK.out.cyc (HC0.out.up (by repeat (first | exact Below.refl _ _ | assumption | refine Below.drew ?_ | refine Below.drewN ?_ _ | refine Below.allocT ?_ (Nat.le_refl _) _ | refine Below.setCell ?_ (by simp <;> omega) _ | refine Below.to ?_ (by assumption) (Nat.le_refl _))))).mono ?_; rw [HPK.out]; rintro e w1 ⟨rfl, hB1⟩; have HB1 : Hid (Below w0.heap.size w0 w1) := (by repeat (first | exact Below.refl _ _ | assumption | refine Below.drew ?_ | refine Below.drewN ?_ _ | refine Below.allocT ?_ (Nat.le_refl _) _ | refine Below.setCell ?_ (by simp <;> omega) _ | refine Below.to ?_ (by assumption) (Nat.le_refl _)))) | (go_at_call 83; refine (rgreatest_any _ cs _ HK.out.cyc (HC0.out.up (by first | exact HB1.out | exact Below.drew HB1.out))).mono ?_; rw [HGT.out]; rintro e w2 ⟨rfl, hB2⟩; have HB2 : Hid (Below w0.heap.size w0 w2) := Below.to HB1.out hB2 (Nat.le_refl _)) | (go_at_call 53; refine (rdrop_any g gt n.len _ hg0 hg1 HK.out.len0 HK.out.len1 HG.out.ohm0 HG.out.ohm1).mono ?_; rw [HDR.out]; rintro e w3 ⟨rfl, hB3⟩; have HB3 : Hid (Below w0.heap.size w0 w3) := Below.to HB2.out hB3 (Nat.le_refl _)))
    (try dsimp only)
    refine hK.out _ _ ?_ (fun hNext => ?_)
    · try dsimp only
      exact nega HGA.out HNE.out (by first | exact HB3.out | exact HB2.out | exact HB1.out | exact (by repeat (first | exact Below.refl _ _ | assumption | refine Below.drew ?_ | refine Below.drewN ?_ _ | refine Below.allocT ?_ (Nat.le_refl _) _ | refine Below.setCell ?_ (by simp <;> omega) _ | refine Below.to ?_ (by assumption) (Nat.le_refl _))))
    clear hK K hHeld
    have hHeld := hNext
    clear hNext
    (try dsimp only at hHeld)
    try simp only [Act.put, List.getElem_toArray, List.getElem_cons_succ, List.getElem_cons_zero, List.setIfInBounds_toArray, List.set_cons_zero, List.set_cons_succ]
    refine wpAnyH_take (i := 6) (v := ?v4_6) rfl (by kernel_rfl) (by kernel_rfl) (by kernel_rfl) (fun _ _ _ h => h) (Or.inl ⟨by rfl, ?y4_6⟩) (by assumption) ?r4_6
    case' y4_6 => (intro w hSw; (try dsimp only at hSw); go_simp; try with_reducible rfl)
    try simp only [Act.put, List.getElem_toArray, List.getElem_cons_succ, List.getElem_cons_zero, List.setIfInBounds_toArray, List.set_cons_zero, List.set_cons_succ]
    refine wpAnyH_take (i := 9) (v := ?v4_9) rfl (by kernel_rfl) (by kernel_rfl) (by kernel_rfl) (fun _ _ _ h => h) (Or.inl ⟨by rfl, ?y4_9⟩) (by assumption) ?r4_9
    case' y4_9 => (intro w hSw; (try dsimp only at hSw); go_simp; try with_reducible rfl)
    try simp only [Act.put, List.getElem_toArray, List.getElem_cons_succ, List.getElem_cons_zero, List.setIfInBounds_toArray, List.set_cons_zero, List.set_cons_succ]
    refine wpAnyH_take (i := 10) (v := ?v4_10) rfl (by kernel_rfl) (by kernel_rfl) (by kernel_rfl) (fun _ _ _ h => h) (Or.inl ⟨by rfl, ?y4_10⟩) (by assumption) ?r4_10
    case' y4_10 => (intro w hSw; (try dsimp only at hSw); go_simp; try with_reducible rfl)
    try simp only [Act.put, List.getElem_toArray, List.getElem_cons_succ, List.getElem_cons_zero, List.setIfInBounds_toArray, List.set_cons_zero, List.set_cons_succ]
    refine wpAnyH_take (i := 11) (v := ?v4_11) rfl (by kernel_rfl) (by kernel_rfl) (by kernel_rfl) (fun _ _ _ h => h) (Or.inl ⟨by rfl, ?y4_11⟩) (by assumption) ?r4_11
    case' y4_11 => (intro w hSw; (try dsimp only at hSw); go_simp; try with_reducible rfl)
    try simp only [Act.put, List.getElem_toArray, List.getElem_cons_succ, List.getElem_cons_zero, List.setIfInBounds_toArray, List.set_cons_zero, List.set_cons_succ]
    refine wpAnyH_take (i := 12) (v := ?v4_12) rfl (by kernel_rfl) (by kernel_rfl) (by kernel_rfl) (fun _ _ _ h => h) (Or.inl ⟨by rfl, ?y4_12⟩) (by assumption) ?r4_12
    case' y4_12 => (intro w hSw; (try dsimp only at hSw); go_simp; try with_reducible rfl)
    try simp only [Act.put, List.getElem_toArray, List.getElem_cons_succ, List.getElem_cons_zero, List.setIfInBounds_toArray, List.set_cons_zero, List.set_cons_succ]
    refine wpAnyH_take (i := 13) (v := ?v4_13) rfl (by kernel_rfl) (by kernel_rfl) (by kernel_rfl) (fun _ _ _ h => h) (Or.inl ⟨by rfl, ?y4_13⟩) (by assumption) ?r4_13
    case' y4_13 => (intro w hSw; (try dsimp only at hSw); go_simp; try with_reducible rfl)
    try simp only [Act.put, List.getElem_toArray, List.getElem_cons_succ, List.getElem_cons_zero, List.setIfInBounds_toArray, List.set_cons_zero, List.set_cons_succ]
    refine wpAnyH_take (i := 15) (v := ?v4_15) rfl (by kernel_rfl) (by kernel_rfl) (by kernel_rfl) (fun _ _ _ h => h) (Or.inl ⟨by rfl, ?y4_15⟩) (by assumption) ?r4_15
    case' y4_15 => (intro w hSw; (try dsimp only at hSw); go_simp; try with_reducible rfl)
    try simp only [Act.put, List.getElem_toArray, List.getElem_cons_succ, List.getElem_cons_zero, List.setIfInBounds_toArray, List.set_cons_zero, List.set_cons_succ]
    refine wpAnyH_take (i := 16) (v := ?v4_16) rfl (by kernel_rfl) (by kernel_rfl) (by kernel_rfl) (fun _ _ _ h => h) (Or.inl ⟨by rfl, ?y4_16⟩) (by assumption) ?r4_16
    case' y4_16 => (intro w hSw; (try dsimp only at hSw); go_simp; try with_reducible rfl)
    try simp only [Act.put, List.getElem_toArray, List.getElem_cons_succ, List.getElem_cons_zero, List.setIfInBounds_toArray, List.set_cons_zero, List.set_cons_succ]
    refine wpAnyH_take (i := 18) (v := ?v4_18) rfl (by kernel_rfl) (by kernel_rfl) (by kernel_rfl) (fun _ _ _ h => h) (Or.inl ⟨by rfl, ?y4_18⟩) (by assumption) ?r4_18
    case' y4_18 => (intro w hSw; (try dsimp only at hSw); go_simp; try with_reducible rfl)
    try simp only [Act.put, List.getElem_toArray, List.getElem_cons_succ, List.getElem_cons_zero, List.setIfInBounds_toArray, List.set_cons_zero, List.set_cons_succ]
    refine wpAnyH_take (i := 19) (v := ?v4_19) rfl (by kernel_rfl) (by kernel_rfl) (by kernel_rfl) (fun _ _ _ h => h) (Or.inl ⟨by rfl, ?y4_19⟩) (by assumption) ?r4_19
    case' y4_19 => (intro w hSw; (try dsimp only at hSw); go_simp; try with_reducible rfl)
    try simp only [Act.put, List.getElem_toArray, List.getElem_cons_succ, List.getElem_cons_zero, List.setIfInBounds_toArray, List.set_cons_zero, List.set_cons_succ]
    refine wpAnyH_ready (rs := [14]) (by kernel_rfl) (by simp) ?_
    refine AllReadyH.cons rfl (fun K hK => ?_) AllReadyH.nil
    go_simp
    (first | (go_at_call 69; refine (rpeak_any g _ cs _ HG.out HK.out.cyc (HC0.out.up (by repeat (first | exact Below.refl _ _ | assumption | refine Below.drew ?_ | refine Below.drewN ?_ _ | refine Below.allocT ?_ (Nat.le_refl _) _ | refine Below.setCell ?_ (by simp <;> omega) _ | refine Below.to ?_ (by assumption) (Nat.le_refl _))))).mono ?_; rw [HPK.out]; rintro e w1 ⟨rfl, hB1⟩; have HB1 : Hid (Below w0.heap.size w0 w1) := (by repeat (first | exact Below.refl _ _ | assumption | refine Below.drew ?_ | refine Below.drewN ?_ _ | refine Below.allocT ?_ (Nat.le_refl _) _ | refine Below.setCell ?_ (by simp <;> omega) _ | refine Below.to ?_ (by assumption) (Nat.le_refl _)))) | (go_at_call 83; refine (rgreatest_any _ cs _ HK.out.cyc (HC0.out.up (by first | exact HB1.out | exact Below.drew HB1.out))).mono ?_; rw [HGT.out]; rintro e w2 ⟨rfl, hB2⟩; have HB2 : Hid (Below w0.heap.size w0 w2) := Below.to HB1.out hB2 (Nat.le_refl _)) | (go_at_call 53; refine (rdrop_any g gt n.len _ hg0 hg1 HK.out.len0 HK.out.len1 HG.out.ohm0 HG.out.ohm1).mono ?_; rw [HDR.out]; rintro e w3 ⟨rfl, hB3⟩; have HB3 : Hid (Below w0.heap.size w0 w3) := Below.to HB2.out hB3 (Nat.le_refl _)))
    (try dsimp only)
    refine hK.out _ _ ?_ (fun hNext => ?_)
    · try dsimp only
      exact nega HGA.out HNE.out (by first | exact HB3.out | exact HB2.out | exact HB1.out | exact (by repeat (first | exact Below.refl _ _ | assumption | refine Below.drew ?_ | refine Below.drewN ?_ _ | refine Below.allocT ?_ (Nat.le_refl _) _ | refine Below.setCell ?_ (by simp <;> omega) _ | refine Below.to ?_ (by assumption) (Nat.le_refl _))))
    clear hK K hHeld
    have hHeld := hNext
    clear hNext
    (try dsimp only at hHeld)
    try simp only [Act.put, List.getElem_toArray, List.getElem_cons_succ, List.getElem_cons_zero, List.setIfInBounds_toArray, List.set_cons_zero, List.set_cons_succ]
    refine wpAnyH_ready (rs := [17]) (by kernel_rfl) (by simp) ?_
    refine AllReadyH.cons rfl (fun K hK => ?_) AllReadyH.nil
    go_simp
    (first | (go_at_call 69; refine (rpeak_any g _ cs _ HG.out HK.out.cyc (HC0.out.up (by repeat (first | exact Below.refl _ _ | assumption | refine Below.drew ?_ | refine Below.drewN ?_ _ | refine Below.allocT ?_ (Nat.le_refl _) _ | refine Below.setCell ?_ (by simp <;> omega) _ | refine Below.to ?_ (by assumption) (Nat.le_refl _))))).mono ?_; rw [HPK.out]; rintro e w1 ⟨rfl, hB1⟩; have HB1 : Hid (Below w0.heap.size w0 w1) := (by repeat (first | exact Below.refl _ _ | assumption | refine Below.drew ?_ | refine Below.drewN ?_ _ | refine Below.allocT ?_ (Nat.le_refl _) _ | refine Below.setCell ?_ (by simp <;> omega) _ | refine Below.to ?_ (by assumption) (Nat.le_refl _)))) | (go_at_call 83; refine (rgreatest_any _ cs _ HK.out.cyc (HC0.out.up (by first | exact HB1.out | exact Below.drew HB1.out))).mono ?_; rw [HGT.out]; rintro e w2 ⟨rfl, hB2⟩; have HB2 : Hid (Below w0.heap.size w0 w2) := Below.to HB1.out hB2 (Nat.le_refl _)) | (go_at_call 53; refine (rdrop_any g gt n.len _ hg0 hg1 HK.out.len0 HK.out.len1 HG.out.ohm0 HG.out.ohm1).mono ?_; rw [HDR.out]; rintro e w3 ⟨rfl, hB3⟩; have HB3 : Hid (Below w0.heap.size w0 w3) := Below.to HB2.out hB3 (Nat.le_refl _)))
    (try dsimp only)
    refine hK.out _ _ ?_ (fun hNext => ?_)
    · try dsimp only
      exact nega HGA.out HNE.out (by first | exact HB3.out | exact HB2.out | exact HB1.out | exact (by repeat (first | exact Below.refl _ _ | assumption | refine Below.drew ?_ | refine Below.drewN ?_ _ | refine Below.allocT ?_ (Nat.le_refl _) _ | refine Below.setCell ?_ (by simp <;> omega) _ | refine Below.to ?_ (by assumption) (Nat.le_refl _))))
    clear hK K hHeld
    have hHeld := hNext
    clear hNext
    (try dsimp only at hHeld)
    try simp only [Act.put, List.getElem_toArray, List.getElem_cons_succ, List.getElem_cons_zero, List.setIfInBounds_toArray, List.set_cons_zero, List.set_cons_succ]
    refine wpAnyH_take (i := 20) (v := ?v4_20) rfl (by kernel_rfl) (by kernel_rfl) (by kernel_rfl) (fun _ _ _ h => h) (Or.inl ⟨by rfl, ?y4_20⟩) (by assumption) ?r4_20
    case' y4_20 => (intro w hSw; (try dsimp only at hSw); go_simp; try with_reducible rfl)
    try simp only [Act.put, List.getElem_toArray, List.getElem_cons_succ, List.getElem_cons_zero, List.setIfInBounds_toArray, List.set_cons_zero, List.set_cons_succ]
    refine wpAnyH_take (i := 21) (v := ?v4_21) rfl (by kernel_rfl) (by kernel_rfl) (by kernel_rfl) (fun _ _ _ h => h) (Or.inl ⟨by rfl, ?y4_21⟩) (by assumption) ?r4_21
    case' y4_21 => (intro w hSw; (try dsimp only at hSw); go_simp; try with_reducible rfl)
    try simp only [Act.put, List.getElem_toArray, List.getElem_cons_succ, List.getElem_cons_zero, List.setIfInBounds_toArray, List.set_cons_zero, List.set_cons_succ]
    refine wpAnyH_take (i := 22) (v := ?v4_22) rfl (by kernel_rfl) (by kernel_rfl) (by kernel_rfl) (fun _ _ _ h => h) (Or.inl ⟨by rfl, ?y4_22⟩) (by assumption) ?r4_22
    case' y4_22 => (intro w hSw; (try dsimp only at hSw); go_simp; try with_reducible rfl)
    try simp only [Act.put, List.getElem_toArray, List.getElem_cons_succ, List.getElem_cons_zero, List.setIfInBounds_toArray, List.set_cons_zero, List.set_cons_succ]
    refine wpAnyH_done (by kernel_rfl) ?_ _
    go_wp2_with fail
    go_ret
    exact ⟨ret_bool (by rw [HF.out, hc1]; simp), Below.to HB0.out HB3.out (Nat.le_refl _)⟩
  · have hc1 : decide (pk + n.amb ≤ g.limit) = false := by simpa using hc
    refine wp_region_held_drew (S := (fun w' => w'.cell? ⟨w.heap.size, 0, none⟩ = some (.int .i64 g.area) ∧ w'.cell? ⟨w.heap.size, 1, none⟩ = some (.int .i64 g.ohm) ∧ w'.cell? ⟨w.heap.size, 2, none⟩ = some (.int .i64 g.heat) ∧ w'.cell? ⟨w.heap.size, 3, none⟩ = some (.int .i64 g.cool) ∧ w'.cell? ⟨w.heap.size, 4, none⟩ = some (.int .i64 g.limit) ∧ w'.cell? ⟨w.heap.size + 1, 0, none⟩ = some (.slice A0 cs.length cap0) ∧ w'.cell? ⟨w.heap.size + 1, 1, none⟩ = some (.int .i64 n.len) ∧ w'.cell? ⟨w.heap.size + 1, 2, none⟩ = some (.int .i64 n.drop) ∧ w'.cell? ⟨w.heap.size + 1, 3, none⟩ = some (.int .i64 n.amb) ∧ Below w0.heap.size w0 w')) (by kernel_rfl) ?_ (fun hHeld => ?_)
    · try dsimp only
      exact nega HGA.out HNE.out (by first | exact HB3.out | exact HB2.out | exact HB1.out | exact (by repeat (first | exact Below.refl _ _ | assumption | refine Below.drew ?_ | refine Below.drewN ?_ _ | refine Below.allocT ?_ (Nat.le_refl _) _ | refine Below.setCell ?_ (by simp <;> omega) _ | refine Below.to ?_ (by assumption) (Nat.le_refl _))))
    refine wpAnyH_take (i := 0) (v := ?v5_0) rfl (by kernel_rfl) (by kernel_rfl) (by kernel_rfl) (fun _ _ _ h => h) (Or.inl ⟨by rfl, ?y5_0⟩) (by assumption) ?r5_0
    case' y5_0 => (intro w hSw; (try dsimp only at hSw); go_simp; try with_reducible rfl)
    try simp only [Act.put, List.getElem_toArray, List.getElem_cons_succ, List.getElem_cons_zero, List.setIfInBounds_toArray, List.set_cons_zero, List.set_cons_succ]
    refine wpAnyH_take (i := 1) (v := ?v5_1) rfl (by kernel_rfl) (by kernel_rfl) (by kernel_rfl) (fun _ _ _ h => h) (Or.inl ⟨by rfl, ?y5_1⟩) (by assumption) ?r5_1
    case' y5_1 => (intro w hSw; (try dsimp only at hSw); go_simp; try with_reducible rfl)
    try simp only [Act.put, List.getElem_toArray, List.getElem_cons_succ, List.getElem_cons_zero, List.setIfInBounds_toArray, List.set_cons_zero, List.set_cons_succ]
    refine wpAnyH_take (i := 2) (v := ?v5_2) rfl (by kernel_rfl) (by kernel_rfl) (by kernel_rfl) (fun _ _ _ h => h) (Or.inl ⟨by rfl, ?y5_2⟩) (by assumption) ?r5_2
    case' y5_2 => (intro w hSw; (try dsimp only at hSw); go_simp; try with_reducible rfl)
    try simp only [Act.put, List.getElem_toArray, List.getElem_cons_succ, List.getElem_cons_zero, List.setIfInBounds_toArray, List.set_cons_zero, List.set_cons_succ]
    refine wpAnyH_take (i := 4) (v := ?v5_4) rfl (by kernel_rfl) (by kernel_rfl) (by kernel_rfl) (fun _ _ _ h => h) (Or.inl ⟨by rfl, ?y5_4⟩) (by assumption) ?r5_4
    case' y5_4 => (intro w hSw; (try dsimp only at hSw); go_simp; try with_reducible rfl)
    try simp only [Act.put, List.getElem_toArray, List.getElem_cons_succ, List.getElem_cons_zero, List.setIfInBounds_toArray, List.set_cons_zero, List.set_cons_succ]
    refine wpAnyH_take (i := 5) (v := ?v5_5) rfl (by kernel_rfl) (by kernel_rfl) (by kernel_rfl) (fun _ _ _ h => h) (Or.inl ⟨by rfl, ?y5_5⟩) (by assumption) ?r5_5
    case' y5_5 => (intro w hSw; (try dsimp only at hSw); go_simp; try with_reducible rfl)
    try simp only [Act.put, List.getElem_toArray, List.getElem_cons_succ, List.getElem_cons_zero, List.setIfInBounds_toArray, List.set_cons_zero, List.set_cons_succ]
    refine wpAnyH_take (i := 7) (v := ?v5_7) rfl (by kernel_rfl) (by kernel_rfl) (by kernel_rfl) (fun _ _ _ h => h) (Or.inl ⟨by rfl, ?y5_7⟩) (by assumption) ?r5_7
    case' y5_7 => (intro w hSw; (try dsimp only at hSw); go_simp; try with_reducible rfl)
    try simp only [Act.put, List.getElem_toArray, List.getElem_cons_succ, List.getElem_cons_zero, List.setIfInBounds_toArray, List.set_cons_zero, List.set_cons_succ]
    refine wpAnyH_take (i := 8) (v := ?v5_8) rfl (by kernel_rfl) (by kernel_rfl) (by kernel_rfl) (fun _ _ _ h => h) (Or.inl ⟨by rfl, ?y5_8⟩) (by assumption) ?r5_8
    case' y5_8 => (intro w hSw; (try dsimp only at hSw); go_simp; try with_reducible rfl)
    try simp only [Act.put, List.getElem_toArray, List.getElem_cons_succ, List.getElem_cons_zero, List.setIfInBounds_toArray, List.set_cons_zero, List.set_cons_succ]
    refine wpAnyH_ready (rs := [3]) (by kernel_rfl) (by simp) ?_
    refine AllReadyH.cons rfl (fun K hK => ?_) AllReadyH.nil
    go_simp
    (first | (go_at_call 69; refine (rpeak_any g _ cs _ HG.out HK.out.cyc (HC0.out.up (by repeat (first | exact Below.refl _ _ | assumption | refine Below.drew ?_ | refine Below.drewN ?_ _ | refine Below.allocT ?_ (Nat.le_refl _) _ | refine Below.setCell ?_ (by simp <;> omega) _ | refine Below.to ?_ (by assumption) (Nat.le_refl _))))).mono ?_; rw [HPK.out]; rintro e w1 ⟨rfl, hB1⟩; have HB1 : Hid (Below w0.heap.size w0 w1) := (by repeat (first | exact Below.refl _ _ | assumption | refine Below.drew ?_ | refine Below.drewN ?_ _ | refine Below.allocT ?_ (Nat.le_refl _) _ | refine Below.setCell ?_ (by simp <;> omega) _ | refine Below.to ?_ (by assumption) (Nat.le_refl _)))) | (go_at_call 83; refine (rgreatest_any _ cs _ HK.out.cyc (HC0.out.up (by first | exact HB1.out | exact Below.drew HB1.out))).mono ?_; rw [HGT.out]; rintro e w2 ⟨rfl, hB2⟩; have HB2 : Hid (Below w0.heap.size w0 w2) := Below.to HB1.out hB2 (Nat.le_refl _)) | (go_at_call 53; refine (rdrop_any g gt n.len _ hg0 hg1 HK.out.len0 HK.out.len1 HG.out.ohm0 HG.out.ohm1).mono ?_; rw [HDR.out]; rintro e w3 ⟨rfl, hB3⟩; have HB3 : Hid (Below w0.heap.size w0 w3) := Below.to HB2.out hB3 (Nat.le_refl _)))
    (try dsimp only)
    refine hK.out _ _ ?_ (fun hNext => ?_)
    · try dsimp only
      exact nega HGA.out HNE.out (by first | exact HB3.out | exact HB2.out | exact HB1.out | exact (by repeat (first | exact Below.refl _ _ | assumption | refine Below.drew ?_ | refine Below.drewN ?_ _ | refine Below.allocT ?_ (Nat.le_refl _) _ | refine Below.setCell ?_ (by simp <;> omega) _ | refine Below.to ?_ (by assumption) (Nat.le_refl _))))
    clear hK K hHeld
    have hHeld := hNext
    clear hNext
    (try dsimp only at hHeld)
    try simp only [Act.put, List.getElem_toArray, List.getElem_cons_succ, List.getElem_cons_zero, List.setIfInBounds_toArray, List.set_cons_zero, List.set_cons_succ]
    refine wpAnyH_take (i := 6) (v := ?v5_6) rfl (by kernel_rfl) (by kernel_rfl) (by kernel_rfl) (fun _ _ _ h => h) (Or.inl ⟨by rfl, ?y5_6⟩) (by assumption) ?r5_6
    case' y5_6 => (intro w hSw; (try dsimp only at hSw); go_simp; try with_reducible rfl)
    try simp only [Act.put, List.getElem_toArray, List.getElem_cons_succ, List.getElem_cons_zero, List.setIfInBounds_toArray, List.set_cons_zero, List.set_cons_succ]
    refine wpAnyH_take (i := 9) (v := ?v5_9) rfl (by kernel_rfl) (by kernel_rfl) (by kernel_rfl) (fun _ _ _ h => h) (Or.inl ⟨by rfl, ?y5_9⟩) (by assumption) ?r5_9
    case' y5_9 => (intro w hSw; (try dsimp only at hSw); go_simp; try with_reducible rfl)
    try simp only [Act.put, List.getElem_toArray, List.getElem_cons_succ, List.getElem_cons_zero, List.setIfInBounds_toArray, List.set_cons_zero, List.set_cons_succ]
    refine wpAnyH_take (i := 10) (v := ?v5_10) rfl (by kernel_rfl) (by kernel_rfl) (by kernel_rfl) (fun _ _ _ h => h) (Or.inl ⟨by rfl, ?y5_10⟩) (by assumption) ?r5_10
    case' y5_10 => (intro w hSw; (try dsimp only at hSw); go_simp; try with_reducible rfl)
    try simp only [Act.put, List.getElem_toArray, List.getElem_cons_succ, List.getElem_cons_zero, List.setIfInBounds_toArray, List.set_cons_zero, List.set_cons_succ]
    refine wpAnyH_take (i := 11) (v := undef) rfl (by kernel_rfl) (by kernel_rfl) (by kernel_rfl) (fun _ _ _ h => h) (Or.inr ⟨?w5_11, rfl⟩) (by assumption) ?r5_11
    case' w5_11 => first | rfl | (simp [Region.wanted, yielded, *]; done)
    try simp only [Act.put, List.getElem_toArray, List.getElem_cons_succ, List.getElem_cons_zero, List.setIfInBounds_toArray, List.set_cons_zero, List.set_cons_succ]
    refine wpAnyH_take (i := 12) (v := undef) rfl (by kernel_rfl) (by kernel_rfl) (by kernel_rfl) (fun _ _ _ h => h) (Or.inr ⟨?w5_12, rfl⟩) (by assumption) ?r5_12
    case' w5_12 => first | rfl | (simp [Region.wanted, yielded, *]; done)
    try simp only [Act.put, List.getElem_toArray, List.getElem_cons_succ, List.getElem_cons_zero, List.setIfInBounds_toArray, List.set_cons_zero, List.set_cons_succ]
    refine wpAnyH_take (i := 13) (v := undef) rfl (by kernel_rfl) (by kernel_rfl) (by kernel_rfl) (fun _ _ _ h => h) (Or.inr ⟨?w5_13, rfl⟩) (by assumption) ?r5_13
    case' w5_13 => first | rfl | (simp [Region.wanted, yielded, *]; done)
    try simp only [Act.put, List.getElem_toArray, List.getElem_cons_succ, List.getElem_cons_zero, List.setIfInBounds_toArray, List.set_cons_zero, List.set_cons_succ]
    refine wpAnyH_take (i := 14) (v := undef) rfl (by kernel_rfl) (by kernel_rfl) (by kernel_rfl) (fun _ _ _ h => h) (Or.inr ⟨?w5_14, rfl⟩) (by assumption) ?r5_14
    case' w5_14 => first | rfl | (simp [Region.wanted, yielded, *]; done)
    try simp only [Act.put, List.getElem_toArray, List.getElem_cons_succ, List.getElem_cons_zero, List.setIfInBounds_toArray, List.set_cons_zero, List.set_cons_succ]
    refine wpAnyH_take (i := 15) (v := undef) rfl (by kernel_rfl) (by kernel_rfl) (by kernel_rfl) (fun _ _ _ h => h) (Or.inr ⟨?w5_15, rfl⟩) (by assumption) ?r5_15
    case' w5_15 => first | rfl | (simp [Region.wanted, yielded, *]; done)
    try simp only [Act.put, List.getElem_toArray, List.getElem_cons_succ, List.getElem_cons_zero, List.setIfInBounds_toArray, List.set_cons_zero, List.set_cons_succ]
    refine wpAnyH_take (i := 16) (v := undef) rfl (by kernel_rfl) (by kernel_rfl) (by kernel_rfl) (fun _ _ _ h => h) (Or.inr ⟨?w5_16, rfl⟩) (by assumption) ?r5_16
    case' w5_16 => first | rfl | (simp [Region.wanted, yielded, *]; done)
    try simp only [Act.put, List.getElem_toArray, List.getElem_cons_succ, List.getElem_cons_zero, List.setIfInBounds_toArray, List.set_cons_zero, List.set_cons_succ]
    refine wpAnyH_take (i := 17) (v := undef) rfl (by kernel_rfl) (by kernel_rfl) (by kernel_rfl) (fun _ _ _ h => h) (Or.inr ⟨?w5_17, rfl⟩) (by assumption) ?r5_17
    case' w5_17 => first | rfl | (simp [Region.wanted, yielded, *]; done)
    try simp only [Act.put, List.getElem_toArray, List.getElem_cons_succ, List.getElem_cons_zero, List.setIfInBounds_toArray, List.set_cons_zero, List.set_cons_succ]
    refine wpAnyH_take (i := 18) (v := undef) rfl (by kernel_rfl) (by kernel_rfl) (by kernel_rfl) (fun _ _ _ h => h) (Or.inr ⟨?w5_18, rfl⟩) (by assumption) ?r5_18
    case' w5_18 => first | rfl | (simp [Region.wanted, yielded, *]; done)
    try simp only [Act.put, List.getElem_toArray, List.getElem_cons_succ, List.getElem_cons_zero, List.setIfInBounds_toArray, List.set_cons_zero, List.set_cons_succ]
    refine wpAnyH_take (i := 19) (v := undef) rfl (by kernel_rfl) (by kernel_rfl) (by kernel_rfl) (fun _ _ _ h => h) (Or.inr ⟨?w5_19, rfl⟩) (by assumption) ?r5_19
    case' w5_19 => first | rfl | (simp [Region.wanted, yielded, *]; done)
    try simp only [Act.put, List.getElem_toArray, List.getElem_cons_succ, List.getElem_cons_zero, List.setIfInBounds_toArray, List.set_cons_zero, List.set_cons_succ]
    refine wpAnyH_take (i := 20) (v := undef) rfl (by kernel_rfl) (by kernel_rfl) (by kernel_rfl) (fun _ _ _ h => h) (Or.inr ⟨?w5_20, rfl⟩) (by assumption) ?r5_20
    case' w5_20 => first | rfl | (simp [Region.wanted, yielded, *]; done)
    try simp only [Act.put, List.getElem_toArray, List.getElem_cons_succ, List.getElem_cons_zero, List.setIfInBounds_toArray, List.set_cons_zero, List.set_cons_succ]
    refine wpAnyH_take (i := 21) (v := ?v5_21) rfl (by kernel_rfl) (by kernel_rfl) (by kernel_rfl) (fun _ _ _ h => h) (Or.inl ⟨by rfl, ?y5_21⟩) (by assumption) ?r5_21
    case' y5_21 => (intro w hSw; (try dsimp only at hSw); go_simp; try with_reducible rfl)
    try simp only [Act.put, List.getElem_toArray, List.getElem_cons_succ, List.getElem_cons_zero, List.setIfInBounds_toArray, List.set_cons_zero, List.set_cons_succ]
    refine wpAnyH_take (i := 22) (v := ?v5_22) rfl (by kernel_rfl) (by kernel_rfl) (by kernel_rfl) (fun _ _ _ h => h) (Or.inl ⟨by rfl, ?y5_22⟩) (by assumption) ?r5_22
    case' y5_22 => (intro w hSw; (try dsimp only at hSw); go_simp; try with_reducible rfl)
    try simp only [Act.put, List.getElem_toArray, List.getElem_cons_succ, List.getElem_cons_zero, List.setIfInBounds_toArray, List.set_cons_zero, List.set_cons_succ]
    refine wpAnyH_done (by kernel_rfl) ?_ _
    go_wp2_with fail
    go_ret
    exact ⟨ret_bool (by rw [HF.out, hc1]; rfl), Below.to HB0.out HB1.out (Nat.le_refl _)⟩
end Go.Proofs.Ytejjjijaojkohaa
/- A fuse that guards a wire: the plain law. -/
namespace Go.Proofs.Ytejjjijaojkohaa
open Go.RowKit
set_option linter.unusedVariables false
set_option linter.unusedSectionVars false

theorem mxU_ex (f : Int → Int → Int) (cs : List Cu) (r limit : Int) : ∀ t, limit < mxU f cs r t → ∃ s, s ≤ t ∧ limit < stU f cs r s
  | 0, h => ⟨0, Nat.le_refl _, h⟩
  | t + 1, h => by
    rw [mxU_succ] at h
    rcases Int.lt_or_le limit (stU f cs r (t + 1)) with h1 | h1
    · exact ⟨t + 1, Nat.le_refl _, h1⟩
    · obtain ⟨s, h2, h3⟩ := mxU_ex f cs r limit t (by omega)
      exact ⟨s, by omega, h3⟩
theorem pk_over {f : Int → Int → Int} {cs : List Cu} (hf : ∀ a b x, a ≤ b → f a x ≤ f b x) {limit r0 : Int} : ∀ (n : Nat) (r : Int), limit - r + 1 < n → r ≤ cySt f cs r → (∃ k, r = stU f cs r0 (k * secsN cs)) → pk f cs limit n r ≤ limit ∨ ∃ s, limit < stU f cs r0 s
  | 0, r, h, _, ⟨k, hk⟩ => .inr ⟨k * secsN cs, by rw [← hk]; omega⟩
  | n + 1, r, h, hr, ⟨k, hk⟩ => by
    simp only [pk]
    by_cases h1 : limit < cyMx f cs r
    · right
      obtain ⟨s, _, h3⟩ := mxU_ex f cs r limit _ h1
      exact ⟨k * secsN cs + s, by rw [stU_add, ← hk]; exact h3⟩
    · rw [if_neg h1]
      by_cases h2 : cySt f cs r = r
      · rw [if_pos h2]; left; omega
      · rw [if_neg h2]
        exact pk_over hf n (cySt f cs r) (by omega) (stU_mono hf hr _) ⟨k + 1, by rw [Nat.succ_mul, stU_add, ← hk]; rfl⟩
theorem peak_within {g : Ga} (hg : g.Ok) {cs : List Cu} (hok : cycOk cs = true) {limit : Int} (h0 : 0 ≤ limit) (h : ∀ s, stU (warmI g) cs 0 s ≤ limit) : peakI g cs limit ≤ limit := by
  rcases pk_over (warmI_mono g hg.cool0 hg.cool1) (cs := cs) (limit := limit) (r0 := 0) (limit.toNat + 2) 0 (by omega) (cySt_nonneg hg hok (Int.le_refl _)) ⟨0, by rw [Nat.zero_mul]; rfl⟩ with h1 | ⟨s, h1⟩
  · exact h1
  · have := h s; omega

/-- One current for one second. -/
def cs1 (a : Int) : List Cu := [⟨a, 1⟩]
theorem cs1_ok {a : Int} (h0 : 0 ≤ a) (h1 : a ≤ 500) : cycOk (cs1 a) = true := by
  simp [cs1, cycOk, Cu.ok, fromB, h0, h1]
theorem cs1_amp (a : Int) (s : Nat) : ampAt (cs1 a) s = a := by
  have h1 : secsN (cs1 a) = 1 := rfl
  unfold ampAt
  rw [h1, Nat.mod_one]
  rfl
/-- The rise of a wire under one current behind some seconds. -/
def rsC (g : Ga) (a : Int) (s : Nat) : Int := stU (warmI g) (cs1 a) 0 s
theorem rsC_zero (g : Ga) (a : Int) : rsC g a 0 = 0 := rfl
theorem rsC_succ (g : Ga) (a : Int) (s : Nat) : rsC g a (s + 1) = warmI g (rsC g a s) a := by
  unfold rsC; rw [stU_succ, cs1_amp]
section
variable {g : Ga} (hg : g.Ok) {a : Int} (h0 : 0 ≤ a) (h1 : a ≤ 500)
include hg h0 h1
theorem rsC_nonneg (s : Nat) : 0 ≤ rsC g a s := (st_range hg (cs1_ok h0 h1) (Int.le_refl 0) s).1
theorem rsC_up : ∀ s, rsC g a s ≤ rsC g a (s + 1)
  | 0 => by rw [rsC_zero]; exact rsC_nonneg hg h0 h1 _
  | s + 1 => by rw [rsC_succ, rsC_succ]; exact warmI_mono g hg.cool0 hg.cool1 _ _ _ (rsC_up s)
theorem rsC_le {s t : Nat} (h : s ≤ t) : rsC g a s ≤ rsC g a t := by
  induction t with
  | zero => have : s = 0 := by omega
            subst this; exact Int.le_refl _
  | succ t ih =>
    rcases Nat.lt_or_ge t s with h2 | h2
    · have : s = t + 1 := by omega
      subst this; exact Int.le_refl _
    · exact Int.le_trans (ih h2) (rsC_up hg h0 h1 t)
theorem rsC_stays {s : Nat} (h : rsC g a (s + 1) = rsC g a s) : ∀ t, rsC g a (s + t) = rsC g a s
  | 0 => rfl
  | t + 1 => by rw [← Nat.add_assoc, rsC_succ, rsC_stays h t, ← rsC_succ, h]
theorem rsC_top {s : Nat} (h : rsC g a (s + 1) = rsC g a s) (t : Nat) : rsC g a t ≤ rsC g a s := by
  rcases Nat.lt_or_ge s t with h2 | h2
  · obtain ⟨u, rfl⟩ : ∃ u, t = s + u := ⟨t - s, by omega⟩
    rw [rsC_stays hg h0 h1 h u]; exact Int.le_refl _
  · exact rsC_le hg h0 h1 h2
end

/-- Until the fuse opens the wire is not too warm. -/
def GuardP (f : Fu) (g : Ga) (amb a : Int) : Prop := ∀ s : Nat, blowDen f a = 0 ∨ s * blowDen f a < blowNum f a → rsC g a s + amb ≤ g.limit
open Classical in
noncomputable def guardB (f : Fu) (g : Ga) (amb a : Int) : Bool := if GuardP f g amb a then true else false
theorem guard_yes {f : Fu} {g : Ga} {amb a : Int} (h : GuardP f g amb a) : guardB f g amb a = true := by unfold guardB; rw [if_pos h]
theorem guard_no {f : Fu} {g : Ga} {amb a : Int} (h : ¬ GuardP f g amb a) : guardB f g amb a = false := by unfold guardB; rw [if_neg h]
theorem guard_of {f : Fu} {g : Ga} {amb a : Int} (h : guardB f g amb a = true) : GuardP f g amb a := by
  unfold guardB at h
  by_cases hp : GuardP f g amb a
  · exact hp
  · rw [if_neg hp] at h; exact absurd h (by simp)
section
variable {f : Fu} (hf : f.Ok) {g : Ga} (hg : g.Ok) {amb a : Int} (h0 : 0 ≤ a) (h1 : a ≤ 500)
include hf hg h0 h1
theorem guard_cold (h : g.limit - amb < 0) : guardB f g amb a = false := by
  refine guard_no fun hp => ?_
  have hb := blow_range hf h0 h1
  have h2 := hp 0 (by
    rcases Int.lt_or_le f.rating a with h | h
    · right
      have := (hb.2.2.2.2.1 h).2
      have e : ((0 : Nat) : Int) * blowDen f a = 0 := by simp
      omega
    · exact .inl (hb.2.2.2.2.2 h).1)
  rw [rsC_zero] at h2
  omega
theorem guard_never (h : blowDen f a = 0) (hl : 0 ≤ g.limit - amb) : guardB f g amb a = decide (peakI g (cs1 a) (g.limit - amb) ≤ g.limit - amb) := by
  by_cases hp : peakI g (cs1 a) (g.limit - amb) ≤ g.limit - amb
  · rw [decide_eq_true hp]
    refine guard_yes fun s _ => ?_
    have := peak_all hg (cs1_ok h0 h1) hp s
    have h2 : rsC g a s = runSt (warmI g) 0 (ups (cs1 a) s) := rfl
    omega
  · rw [decide_eq_false hp]
    refine guard_no fun hq => hp (peak_within hg (cs1_ok h0 h1) hl fun s => ?_)
    have := hq s (.inl h)
    have h2 : rsC g a s = stU (warmI g) (cs1 a) 0 s := rfl
    omega
theorem guard_warm {s : Nat} (h : blowDen f a = 0 ∨ s * blowDen f a < blowNum f a) (hw : g.limit - amb < rsC g a s) : guardB f g amb a = false :=
  guard_no fun hp => by have := hp s h; omega
theorem guard_stays {s : Nat} (h : rsC g a (s + 1) = rsC g a s) (hw : rsC g a s ≤ g.limit - amb) : guardB f g amb a = true :=
  guard_yes fun t _ => by have := rsC_top hg h0 h1 h t; omega
theorem guard_opens {s : Nat} (hd : blowDen f a ≠ 0) (h : ¬ ((s + 1 : Nat) : Int) * blowDen f a < blowNum f a) (hw : rsC g a s ≤ g.limit - amb) : guardB f g amb a = true := by
  refine guard_yes fun t ht => ?_
  rcases ht with ht | ht
  · exact absurd ht hd
  · have hts : t < s + 1 := by
      rcases Nat.lt_or_ge t (s + 1) with h2 | h2
      · exact h2
      · have hb := blow_range hf h0 h1
        have : ((s + 1 : Nat) : Int) * blowDen f a ≤ (t : Int) * blowDen f a := Int.mul_le_mul_of_nonneg_right (by omega) hb.2.2.1
        omega
    have := rsC_le hg h0 h1 (show t ≤ s by omega)
    omega
end
end Go.Proofs.Ytejjjijaojkohaa
/- Selective fuses: walks. -/
namespace Go.Proofs.Ytejjjijaojkohaa
open Go.RowKit
set_option linter.unusedVariables false

/-- Block b holds a fuse's two numbers. -/
def FuseAt (w : World) (b : Nat) (f : Fu) : Prop := w.heap[b]? = some (.cells #[.int .i64 f.rating, .int .i64 f.melt] 30 (0, 0))

theorem selClo_any (b2 b3 : Nat) (lo up : Fu) (a : Int) (w : World) (h2 : FuseAt w b2 lo) (h3 : FuseAt w b3 up) (hl : lo.Ok) (hu : up.Ok) (ha0 : 0 ≤ a) (ha1 : a ≤ 500) :
    Calls Try.prog 96 #[.int .i64 a, .pointer (some ⟨b2, 0, none⟩), .pointer (some ⟨b3, 0, none⟩)] w fun e w' => e = .returned (.bool (selB lo up a)) ∧ Below w.heap.size w w' := by
  obtain ⟨n1, n2, n3, n4, _, _⟩ := blow_range hl ha0 ha1
  obtain ⟨m1, m2, m3, m4, _, _⟩ := blow_range hu ha0 ha1
  have HL := hide hl
  have HU := hide hu
  clear hl hu
  obtain ⟨na, hna⟩ : ∃ x, blowNum lo a = x := ⟨_, rfl⟩
  obtain ⟨da, hda⟩ : ∃ x, blowDen lo a = x := ⟨_, rfl⟩
  obtain ⟨nb, hnb⟩ : ∃ x, blowNum up a = x := ⟨_, rfl⟩
  obtain ⟨db, hdb⟩ : ∃ x, blowDen up a = x := ⟨_, rfl⟩
  have HS : Hid (selB lo up a = (decide (0 < db) && (decide (da = 0) || decide (nb * da ≤ na * db)))) := by
    show _ = _
    rw [← hna, ← hda, ← hnb, ← hdb]; rfl
  rw [hna] at n1 n2
  rw [hda] at n3 n4
  rw [hnb] at m1 m2
  rw [hdb] at m3 m4
  have HNA := hide hna
  have HDA := hide hda
  have HNB := hide hnb
  have HDB := hide hdb
  clear hna hda hnb hdb
  obtain ⟨p1, p2⟩ := mul_range n1 n2 m3 m4
  obtain ⟨p3, p4⟩ := mul_range m1 m2 n3 n4
  rw [HS.out]
  have H2 := hide h2
  have H3 := hide h3
  have c0 := cellOf h2 0
  have c1 := cellOf h2 1
  clear h2 h3
  by_cases hc : 0 < db
  · by_cases hd : da = 0
    · have hd' : (da == 0) = true := by simp [hd]
      have HD := hide hd
      clear hd
      go_enter Try.func96, Try.ntmps96
      go_wp2_with fail
      refine (blow_any lo a _ HL.out ha0 ha1).mono ?_
      rw [HNA.out, HDA.out]
      rintro e w1 ⟨rfl, hB1⟩
      have h3 := box_to H3.out hB1
      have d0 := cellOf h3 0
      have d1 := cellOf h3 1
      clear h3
      go_wp2_with fail
      refine (blow_any up a _ HU.out ha0 ha1).mono ?_
      rw [HNB.out, HDB.out]
      rintro e w2 ⟨rfl, hB2⟩
      go_wp2_with fail
      go_ret
      exact ⟨ret_bool (by simp [hc, HD.out]), (by repeat (first | exact Below.refl _ _ | assumption | refine Below.drew ?_ | refine Below.drewN ?_ _ | refine Below.allocT ?_ (Nat.le_refl _) _ | refine Below.setCell ?_ (by simp <;> omega) _ | refine Below.to ?_ (by assumption) (Nat.le_refl _)))⟩
    · have hd' : (da == 0) = false := by simp [hd]
      go_enter Try.func96, Try.ntmps96
      go_wp2_with fail
      refine (blow_any lo a _ HL.out ha0 ha1).mono ?_
      rw [HNA.out, HDA.out]
      rintro e w1 ⟨rfl, hB1⟩
      have h3 := box_to H3.out hB1
      have d0 := cellOf h3 0
      have d1 := cellOf h3 1
      clear h3
      go_wp2_with fail
      refine (blow_any up a _ HU.out ha0 ha1).mono ?_
      rw [HNB.out, HDB.out]
      rintro e w2 ⟨rfl, hB2⟩
      go_wp2_with fail
      go_ret
      exact ⟨ret_bool (by simp [hc, hd]), (by repeat (first | exact Below.refl _ _ | assumption | refine Below.drew ?_ | refine Below.drewN ?_ _ | refine Below.allocT ?_ (Nat.le_refl _) _ | refine Below.setCell ?_ (by simp <;> omega) _ | refine Below.to ?_ (by assumption) (Nat.le_refl _)))⟩
  · go_enter Try.func96, Try.ntmps96
    go_wp2_with fail
    refine (blow_any lo a _ HL.out ha0 ha1).mono ?_
    rw [HNA.out, HDA.out]
    rintro e w1 ⟨rfl, hB1⟩
    have h3 := box_to H3.out hB1
    have d0 := cellOf h3 0
    have d1 := cellOf h3 1
    clear h3
    go_wp2_with fail
    refine (blow_any up a _ HU.out ha0 ha1).mono ?_
    rw [HNB.out, HDB.out]
    rintro e w2 ⟨rfl, hB2⟩
    go_wp2_with fail
    go_ret
    exact ⟨ret_bool (by simp [show ¬ 0 < db by omega]), (by repeat (first | exact Below.refl _ _ | assumption | refine Below.drew ?_ | refine Below.drewN ?_ _ | refine Below.allocT ?_ (Nat.le_refl _) _ | refine Below.setCell ?_ (by simp <;> omega) _ | refine Below.to ?_ (by assumption) (Nat.le_refl _)))⟩

theorem selective_any (lo up : Fu) (w : World) (hl : lo.Ok) (hu : up.Ok) :
    Calls Try.prog 63 #[.agg #[.int .i64 lo.rating, .int .i64 lo.melt], .agg #[.int .i64 up.rating, .int .i64 up.melt]] w fun e w' => e = .returned (.int .i64 (leastI (selB lo up))) ∧ Below w.heap.size w w' := by
  have HL := hide hl
  have HU := hide hu
  clear hl hu
  go_enter Try.func63, Try.ntmps63
  go_wp2_with (go_at_call 95; refine (least_sel (selB lo up) _ _ _ (fun a W ha0 ha1 hB => selClo_any _ _ lo up a W ((hB.block _ (by simp; omega)).trans ((heap_old _ _ _ (by simp)).trans (heap_new _ _ _ rfl))) ((hB.block _ (by simp)).trans (heap_new _ _ _ (by simp))) HL.out HU.out ha0 ha1)).mono ?_; rintro e w1 ⟨rfl, hB1⟩)
  go_ret
  exact ⟨rfl, (by repeat (first | exact Below.refl _ _ | assumption | refine Below.drew ?_ | refine Below.drewN ?_ _ | refine Below.allocT ?_ (Nat.le_refl _) _ | refine Below.setCell ?_ (by simp <;> omega) _ | refine Below.to ?_ (by assumption) (Nat.le_refl _)))⟩

theorem selB_ref (lo up : Fu) (a : Int) (hb : 0 ≤ blowDen lo a) : selB lo up a = (decide (0 < blowDen up a) && !(decide (blowDen lo a ≠ 0 ∧ (blowDen up a = 0 ∨ blowNum lo a * blowDen up a < blowNum up a * blowDen lo a)))) := by
  unfold selB
  by_cases h1 : 0 < blowDen up a <;> by_cases h2 : blowDen lo a = 0 <;> by_cases h3 : blowNum up a * blowDen lo a ≤ blowNum lo a * blowDen up a
  all_goals simp [h1, h2, h3]
  all_goals first | omega | simp_all

set_option maxRecDepth 100000 in
theorem rselective_any (lo up : Fu) (w : World) (hl : lo.Ok) (hu : up.Ok) :
    Calls Try.prog 64 #[.agg #[.int .i64 lo.rating, .int .i64 lo.melt], .agg #[.int .i64 up.rating, .int .i64 up.melt]] w fun e w' => e = .returned (.int .i64 (leastI (selB lo up))) ∧ Below w.heap.size w w' := by
  have HL := hide hl
  have HU := hide hu
  clear hl hu
  go_enter Try.func64, Try.ntmps64
  go_wp2
  obtain ⟨w0, hw0⟩ : ∃ w0 : World, (w.alloc (.cells #[.int .i64 lo.rating, .int .i64 lo.melt] 30)).alloc (.cells #[.int .i64 up.rating, .int .i64 up.melt] 30) = w0 := ⟨_, rfl⟩
  have hb2 : FuseAt w0 w.heap.size lo := by
    unfold FuseAt; rw [← hw0, heap_old _ _ _ (by simp), heap_new _ _ _ rfl]
  have hb3 : FuseAt w0 (w.heap.size + 1) up := by
    unfold FuseAt; rw [← hw0, heap_new _ _ _ (by simp)]
  have hB0 : Below w.heap.size w w0 := by rw [← hw0]; exact (by repeat (first | exact Below.refl _ _ | assumption | refine Below.drew ?_ | refine Below.drewN ?_ _ | refine Below.allocT ?_ (Nat.le_refl _) _ | refine Below.setCell ?_ (by simp <;> omega) _ | refine Below.to ?_ (by assumption) (Nat.le_refl _)))
  have HB2 := hide hb2
  have HB3 := hide hb3
  rw [hw0]
  clear hb2 hb3 hw0
  go_loopw [5, 6, 7, 8, 9] (fun i _ _ _ _ wr => ∃ k : Nat, k ≤ 501 ∧ i = .int .i64 k ∧ Hid (∀ j : Nat, j < k → selB lo up j = false) ∧ Below w0.heap.size w0 wr) (fun i _ _ _ _ _ => 501 - (intOf i).toNat)
  case atStart => exact ⟨0, by omega, rfl, fun j hj => by omega, Below.refl _ _⟩
  case round =>
    obtain ⟨k, hk, rfl, hz, hB⟩ := hrel
    by_cases hlt : k < 501
    · have hk0 : (0 : Int) ≤ k := by omega
      have hk1 : (k : Int) ≤ 500 := by omega
      obtain ⟨n1, n2, n3, n4, _, _⟩ := blow_range HL.out hk0 hk1
      obtain ⟨m1, m2, m3, m4, _, _⟩ := blow_range HU.out hk0 hk1
      have HS := hide (selB_ref lo up k n3)
      obtain ⟨na, hna⟩ : ∃ x, blowNum lo k = x := ⟨_, rfl⟩
      obtain ⟨da, hda⟩ : ∃ x, blowDen lo k = x := ⟨_, rfl⟩
      obtain ⟨nb, hnb⟩ : ∃ x, blowNum up k = x := ⟨_, rfl⟩
      obtain ⟨db, hdb⟩ : ∃ x, blowDen up k = x := ⟨_, rfl⟩
      rw [hna] at n1 n2
      rw [hda] at n3 n4
      rw [hnb] at m1 m2
      rw [hdb] at m3 m4
      have HS2 : Hid (selB lo up k = (decide (0 < db) && !(decide (da ≠ 0 ∧ (db = 0 ∨ na * db < nb * da))))) := by
        show _ = _
        rw [HS.out, hna, hda, hnb, hdb]
      have HNA := hide hna
      have HDA := hide hda
      have HNB := hide hnb
      have HDB := hide hdb
      clear hna hda hnb hdb HS
      have h2 := (hB.block _ (box_lt HB2.out)).trans HB2.out
      have h3 := (hB.block _ (box_lt HB3.out)).trans HB3.out
      have c0 := cellOf h2 0
      have c1 := cellOf h2 1
      have H3 := hide h3
      clear h2 h3
      by_cases hc : 0 < db
      · obtain ⟨q, hq⟩ : ∃ q, decide (da ≠ 0 ∧ (db = 0 ∨ na * db < nb * da)) = q := ⟨_, rfl⟩
        have HQ := hide hq
        clear hq
        cases q with
        | true =>
          go_wp2_with fail
          refine (rblow_any lo k _ HL.out hk0 hk1).mono ?_
          rw [HNA.out, HDA.out]
          rintro e w1 ⟨rfl, hB1⟩
          have h3 := box_to H3.out hB1
          have d0 := cellOf h3 0
          have d1 := cellOf h3 1
          clear h3
          go_wp2_with fail
          refine (rblow_any up k _ HU.out hk0 hk1).mono ?_
          rw [HNB.out, HDB.out]
          rintro e w2 ⟨rfl, hB2⟩
          go_wp2_with fail
          refine (earlier_any na da nb db _ n1 n3 m1 m3 n2 (by omega) m2 (by omega)).mono ?_
          rw [HQ.out]
          rintro e w3 ⟨rfl, hB3⟩
          go_wp2_with fail
          go_roundw
          case rel => exact ⟨k + 1, by omega, by go_num, fun j hj => by
              rcases Nat.lt_or_ge j k with h | h
              · exact hz.out j h
              · rw [show j = k from by omega, HS2.out, HQ.out]; simp, (by repeat (first | exact Below.refl _ _ | assumption | refine Below.drew ?_ | refine Below.drewN ?_ _ | refine Below.allocT ?_ (Nat.le_refl _) _ | refine Below.setCell ?_ (by simp <;> omega) _ | refine Below.to ?_ (by assumption) (Nat.le_refl _)))⟩
          case measure => simp [intOf]; omega
        | false =>
          go_wp2_with fail
          refine (rblow_any lo k _ HL.out hk0 hk1).mono ?_
          rw [HNA.out, HDA.out]
          rintro e w1 ⟨rfl, hB1⟩
          have h3 := box_to H3.out hB1
          have d0 := cellOf h3 0
          have d1 := cellOf h3 1
          clear h3
          go_wp2_with fail
          refine (rblow_any up k _ HU.out hk0 hk1).mono ?_
          rw [HNB.out, HDB.out]
          rintro e w2 ⟨rfl, hB2⟩
          go_wp2_with fail
          refine (earlier_any na da nb db _ n1 n3 m1 m3 n2 (by omega) m2 (by omega)).mono ?_
          rw [HQ.out]
          rintro e w3 ⟨rfl, hB3⟩
          go_wp2_with fail
          go_ret
          have hBw : Below w.heap.size w wr := hB0.trans (hB.mono hB0.size)
          exact ⟨ret_int (leastI_at _ k hz.out hlt (by rw [HS2.out, HQ.out]; simp [hc])).symm, (by repeat (first | exact Below.refl _ _ | assumption | refine Below.drew ?_ | refine Below.drewN ?_ _ | refine Below.allocT ?_ (Nat.le_refl _) _ | refine Below.setCell ?_ (by simp <;> omega) _ | refine Below.to ?_ (by assumption) (Nat.le_refl _)))⟩
      · go_wp2_with fail
        refine (rblow_any lo k _ HL.out hk0 hk1).mono ?_
        rw [HNA.out, HDA.out]
        rintro e w1 ⟨rfl, hB1⟩
        have h3 := box_to H3.out hB1
        have d0 := cellOf h3 0
        have d1 := cellOf h3 1
        clear h3
        go_wp2_with fail
        refine (rblow_any up k _ HU.out hk0 hk1).mono ?_
        rw [HNB.out, HDB.out]
        rintro e w2 ⟨rfl, hB2⟩
        go_wp2_with fail
        go_roundw
        case rel => exact ⟨k + 1, by omega, by go_num, fun j hj => by
            rcases Nat.lt_or_ge j k with h | h
            · exact hz.out j h
            · rw [show j = k from by omega, HS2.out]; simp [show ¬ 0 < db by omega], (by repeat (first | exact Below.refl _ _ | assumption | refine Below.drew ?_ | refine Below.drewN ?_ _ | refine Below.allocT ?_ (Nat.le_refl _) _ | refine Below.setCell ?_ (by simp <;> omega) _ | refine Below.to ?_ (by assumption) (Nat.le_refl _)))⟩
        case measure => simp [intOf]; omega
    · go_wp2
      go_ret
      exact ⟨ret_int (leastI_none _ (fun j hj => hz.out j (by omega))).symm, hB0.trans (hB.mono hB0.size)⟩
end Go.Proofs.Ytejjjijaojkohaa
/- A fuse that guards a wire: the walks of both. -/
namespace Go.Proofs.Ytejjjijaojkohaa
open Go.RowKit
set_option linter.unusedVariables false

theorem cyc_oneB {w : World} {k B : Nat} {a s : Int} {t : TypeId} (h : w.heap[k]? = some (.cells #[.int .i64 a, .int .i64 s] t (0, 0))) (hk : k < B) : Cyc w B (.slice (some ⟨k, 0, none⟩) 1 1) [⟨a, s⟩] := by
  refine ⟨_, k, 0, 1, rfl, Nat.le_refl _, .inl ⟨rfl, hk⟩, fun i j hi hj => ?_⟩
  have hi0 : i = 0 := by have : i < 1 := hi; omega
  subst hi0
  rw [cellOf h]
  match j, hj with
  | 0, _ => rfl
  | 1, _ => rfl

set_option maxRecDepth 100000 in
set_option maxHeartbeats 2000000 in
theorem guarded_any (f : Fu) (g : Ga) (amb a : Int) (w : World) (hf : f.Ok) (hg : g.Ok) (hb0 : 0 ≤ amb) (hb1 : amb ≤ 1000) (ha0 : 0 ≤ a) (ha1 : a ≤ 500) :
    Calls Try.prog 99 #[.agg #[.int .i64 f.rating, .int .i64 f.melt], .agg #[.int .i64 g.area, .int .i64 g.ohm, .int .i64 g.heat, .int .i64 g.cool, .int .i64 g.limit], .int .i64 amb, .int .i64 a] w fun e w' => e = .returned (.bool (guardB f g amb a)) ∧ Below w.heap.size w w' := by
  have HF := hide hf
  have HG := hide hg
  have hl0 := hg.limit0
  have hl1 := hg.limit1
  clear hf hg
  by_cases hc : g.limit - amb < 0
  · go_enter Try.func99, Try.ntmps99
    go_wp2
    go_ret
    exact ⟨ret_bool (guard_cold HF.out HG.out ha0 ha1 hc).symm, (by repeat (first | exact Below.refl _ _ | assumption | refine Below.drew ?_ | refine Below.drewN ?_ _ | refine Below.allocT ?_ (Nat.le_refl _) _ | refine Below.setCell ?_ (by simp <;> omega) _ | refine Below.to ?_ (by assumption) (Nat.le_refl _)))⟩
  · have hbr := blow_range HF.out ha0 ha1
    obtain ⟨nu, hnu⟩ : ∃ x, blowNum f a = x := ⟨_, rfl⟩
    obtain ⟨de, hde⟩ : ∃ x, blowDen f a = x := ⟨_, rfl⟩
    rw [hnu, hde] at hbr
    obtain ⟨n0, n1, d0, d1, _, _⟩ := hbr
    have HNU := hide hnu
    have HDE := hide hde
    clear hnu hde
    obtain ⟨li, hli⟩ : ∃ x, g.limit - amb = x := ⟨_, rfl⟩
    have HLI := hide hli
    have hli0 : 0 ≤ li := by omega
    have hli1 : li ≤ 1000 := by omega
    go_enter Try.func99, Try.ntmps99
    go_wp2_with fail
    obtain ⟨w0, hw0⟩ : ∃ w0 : World, (((w.alloc (.cells #[.int .i64 f.rating, .int .i64 f.melt] 30)).alloc (.cells #[.int .i64 g.area, .int .i64 g.ohm, .int .i64 g.heat, .int .i64 g.cool, .int .i64 g.limit] 23)).alloc (.cells #[.int .i64 a, .int .i64 1] 54)).alloc (.cells #[.int .i64 g.area, .int .i64 g.ohm, .int .i64 g.heat, .int .i64 g.cool, .int .i64 g.limit, .int .i64 0] 94) = w0 := ⟨_, rfl⟩
    have hs0 : w0.heap.size = w.heap.size + 4 := by rw [← hw0]; simp
    have hcu : w0.heap[w.heap.size + 2]? = some (.cells #[.int .i64 a, .int .i64 1] 54 (0, 0)) := by rw [← hw0, heap_old _ _ _ (by simp <;> omega), heap_new _ _ _ (by simp)]
    have hwi : WireAt w0 (w.heap.size + 3) g 0 := by unfold WireAt; rw [← hw0, heap_new _ _ _ (by simp)]
    have hB0 : Below w.heap.size w w0 := by rw [← hw0]; exact (by repeat (first | exact Below.refl _ _ | assumption | refine Below.drew ?_ | refine Below.drewN ?_ _ | refine Below.allocT ?_ (Nat.le_refl _) _ | refine Below.setCell ?_ (by simp <;> omega) _ | refine Below.to ?_ (by assumption) (Nat.le_refl _)))
    have HCU := hide hcu
    have HWI := hide hwi
    have HB0 := hide hB0
    rw [hw0]
    clear hcu hwi hw0 hB0 hli
    refine (blow_any f a _ HF.out ha0 ha1).mono ?_
    rw [HNU.out, HDE.out]
    rintro e w1 ⟨rfl, hB1⟩
    have HB1 := hide hB1
    have hs1 : w.heap.size + 4 ≤ w1.heap.size := by have := hB1.size; omega
    clear hB1 hs0
    have HW1 : Hid (Below w.heap.size w w1) := Below.to HB0.out HB1.out (by omega)
    have HWI1 : Hid (WireAt w1 (w.heap.size + 3) g 0) := box_to HWI.out HB1.out
    have HCY1 : Hid (Cyc w1 (w.heap.size + 3) (.slice (some ⟨w.heap.size + 1 + 1, 0, none⟩) 1 1) (cs1 a)) := cyc_oneB (box_to HCU.out HB1.out) (by omega)
    by_cases hd : de = 0
    · have hd1 : (de == 0) = true := by simp [hd]
      have HD : Hid (blowDen f a = 0) := by show _ = _; rw [HDE.out]; exact hd
      clear hd
      obtain ⟨pk, hpk⟩ : ∃ x, peakI g (cs1 a) li = x := ⟨_, rfl⟩
      have HPK := hide hpk
      clear hpk
      go_wp2_with fail
      refine (peak_any (w.heap.size + 1 + 1 + 1) g li _ (cs1 a) w1 HWI1.out (cs1_ok ha0 ha1) HCY1.out HG.out hli0 hli1).mono ?_
      rw [HPK.out]
      rintro e w2 ⟨rfl, hg2⟩
      go_wp2_with fail
      go_ret
      exact ⟨ret_bool (by rw [guard_never HF.out HG.out ha0 ha1 HD.out (by rw [HLI.out]; exact hli0), HLI.out, HPK.out]), below_only HW1.out hg2 (by omega)⟩
    · have hd1 : (de == 0) = false := by simp [hd]
      have HD : Hid (blowDen f a ≠ 0) := by show _ ≠ _; rw [HDE.out]; exact hd
      have hd2 : 1 ≤ de := by omega
      clear hd
      go_wp2_with fail
      go_loopg [14, 15] (li.toNat + 1) (fun m s before wr => ∃ (k : Nat) (x : Int), Hid (m = (li - x + 1).toNat) ∧ s = .int .i64 (k + 1) ∧ (k : Int) ≤ x ∧ x ≤ li ∧ Hid (rsC g a k = x) ∧ Hid (WireAt wr (w.heap.size + 3) g x) ∧ Hid (w1.grownBy wr (some (w.heap.size + 3))))
      case atStart => exact ⟨0, 0, (by show _ = _; omega), rfl, by omega, by omega, rfl, HWI1.out, only_refl _ _⟩
      case round =>
        obtain ⟨k, x, hm, rfl, hkx, hxl, hx, HWR, HGR⟩ := hrel
        obtain ⟨q0, q1⟩ := mul_range (show (0:Int) ≤ (k:Int) + 1 by omega) (show (k:Int) + 1 ≤ 1001 by omega) d0 d1
        by_cases hlt : ((k : Int) + 1) * de < nu
        · obtain ⟨x2, hx2⟩ : ∃ x2, warmI g x a = x2 := ⟨_, rfl⟩
          have hrg := warmI_range g x a HG.out.heat0 HG.out.heat1 HG.out.cool0 HG.out.cool1 (by omega) ha0 ha1
          rw [hx2] at hrg
          obtain ⟨r0, r1⟩ := hrg
          have hx3 : rsC g a (k + 1) = x2 := by rw [rsC_succ, hx.out, hx2]
          have hup := rsC_up HG.out ha0 ha1 k
          rw [hx.out, hx3] at hup
          have HX3 := hide hx3
          have HX2 := hide hx2
          have hb5 : wr.cell? ⟨w.heap.size + 1 + 1 + 1, 5, none⟩ = some (.int .i64 x) := cellOf HWR.out 5
          clear hx2 hx3
          go_wp2_with fail
          refine (wireSecond_any (w.heap.size + 1 + 1 + 1) g x a _ HWR.out HG.out.heat0 HG.out.heat1 HG.out.cool0 HG.out.cool1 (by omega) (by omega) ha0 ha1).mono ?_
          rw [HX2.out]
          rintro e w2 ⟨rfl, hw2, hg2⟩
          have HW2 := hide hw2
          have HG2 : Hid (w1.grownBy w2 (some (w.heap.size + 3))) := only_trans HGR.out hg2
          have hc5 : w2.cell? ⟨w.heap.size + 1 + 1 + 1, 5, none⟩ = some (.int .i64 x2) := cellOf hw2 5
          clear hw2 hg2 hb5
          by_cases hov : li < x2
          · go_wp2_with fail
            go_ret
            exact ⟨ret_bool (guard_warm HF.out HG.out ha0 ha1 (s := k + 1) (.inr (by rw [HDE.out, HNU.out]; exact hlt)) (by rw [HLI.out, HX3.out]; exact hov)).symm, below_only HW1.out HG2.out (by omega)⟩
          · by_cases hst : x2 = x
            · have hst1 : (x2 == x) = true := by simp [hst]
              have HST := hide hst
              clear hst
              go_wp2_with fail
              go_ret
              exact ⟨ret_bool (guard_stays HF.out HG.out ha0 ha1 (s := k) (by rw [HX3.out, hx.out]; exact HST.out) (by rw [HLI.out, hx.out]; exact hxl)).symm, below_only HW1.out HG2.out (by omega)⟩
            · have hst1 : (x2 == x) = false := by simp [hst]
              go_wp2_with fail
              go_roundg ((li - x2 + 1).toNat)
              case rel => exact ⟨k + 1, x2, rfl, by go_num, by omega, by omega, HX3.out, HW2.out, HG2.out⟩
              case measure =>
                rw [hm.out]
                omega
        · go_wp2_with fail
          go_ret
          exact ⟨ret_bool (guard_opens HF.out HG.out ha0 ha1 (s := k) HD.out (by rw [HDE.out, HNU.out, show ((k + 1 : Nat) : Int) = (k : Int) + 1 from by omega]; omega) (by rw [HLI.out, hx.out]; exact hxl)).symm, below_only HW1.out HGR.out (by omega)⟩
end Go.Proofs.Ytejjjijaojkohaa
/- A fuse that guards a wire: the reference's walk, and the least current under which it does not. -/
namespace Go.Proofs.Ytejjjijaojkohaa
open Go.RowKit
set_option linter.unusedVariables false

theorem guard_end {f : Fu} {g : Ga} {amb a : Int} (hf : f.Ok) (h0 : 0 ≤ a) (h1 : a ≤ 500) {k : Nat} (hd : blowDen f a ≠ 0) (h : ¬ (k : Int) * blowDen f a < blowNum f a) (hw : ∀ j : Nat, j < k → rsC g a j + amb ≤ g.limit) : guardB f g amb a = true := by
  refine guard_yes fun t ht => ?_
  rcases ht with ht | ht
  · exact absurd ht hd
  · rcases Nat.lt_or_ge t k with h2 | h2
    · exact hw t h2
    · have hb := blow_range hf h0 h1
      have : (k : Int) * blowDen f a ≤ (t : Int) * blowDen f a := Int.mul_le_mul_of_nonneg_right (by omega) hb.2.2.1
      omega

set_option maxRecDepth 100000 in
set_option maxHeartbeats 2000000 in
theorem rguards_any (f : Fu) (g : Ga) (amb a : Int) (w : World) (hf : f.Ok) (hg : g.Ok) (hb0 : 0 ≤ amb) (hb1 : amb ≤ 1000) (ha0 : 0 ≤ a) (ha1 : a ≤ 500) :
    Calls Try.prog 100 #[.agg #[.int .i64 f.rating, .int .i64 f.melt], .agg #[.int .i64 g.area, .int .i64 g.ohm, .int .i64 g.heat, .int .i64 g.cool, .int .i64 g.limit], .int .i64 amb, .int .i64 a] w fun e w' => e = .returned (.bool (guardB f g amb a)) ∧ Below w.heap.size w w' := by
  have HF := hide hf
  have HG := hide hg
  have hl0 := hg.limit0
  have hl1 := hg.limit1
  have hbr := blow_range hf ha0 ha1
  have hnp : a ≤ f.rating ∨ 1 ≤ blowNum f a := by
    rcases Int.lt_or_le f.rating a with h | h
    · exact .inr (hbr.2.2.2.2.1 h).2
    · exact .inl h
  have hdp : a ≤ f.rating → blowDen f a = 0 := fun h => (hbr.2.2.2.2.2 h).1
  obtain ⟨nu, hnu⟩ : ∃ x, blowNum f a = x := ⟨_, rfl⟩
  obtain ⟨de, hde⟩ : ∃ x, blowDen f a = x := ⟨_, rfl⟩
  rw [hnu, hde] at hbr
  obtain ⟨n0, n1, d0, d1, _, _⟩ := hbr
  have HNU := hide hnu
  have HDE := hide hde
  clear hnu hde hf hg hnp hdp
  go_enter Try.func100, Try.ntmps100
  go_wp2_with fail
  obtain ⟨w0, hw0⟩ : ∃ w0 : World, (w.alloc (.cells #[.int .i64 f.rating, .int .i64 f.melt] 30)).alloc (.cells #[.int .i64 g.area, .int .i64 g.ohm, .int .i64 g.heat, .int .i64 g.cool, .int .i64 g.limit] 23) = w0 := ⟨_, rfl⟩
  have hs0 : w0.heap.size = w.heap.size + 2 := by rw [← hw0]; simp
  have hga : GaugeAt w0 (w.heap.size + 1) g := by unfold GaugeAt; rw [← hw0, heap_new _ _ _ (by simp)]
  have hB0 : Below w.heap.size w w0 := by rw [← hw0]; exact (by repeat (first | exact Below.refl _ _ | assumption | refine Below.drew ?_ | refine Below.drewN ?_ _ | refine Below.allocT ?_ (Nat.le_refl _) _ | refine Below.setCell ?_ (by simp <;> omega) _ | refine Below.to ?_ (by assumption) (Nat.le_refl _)))
  have HGA := hide hga
  have HB0 := hide hB0
  rw [hw0]
  clear hga hw0 hB0
  refine (rblow_any f a _ HF.out ha0 ha1).mono ?_
  rw [HNU.out, HDE.out]
  rintro e w1 ⟨rfl, hB1⟩
  have HGA1 : Hid (GaugeAt w1 (w.heap.size + 1) g) := box_to HGA.out hB1
  have HW1 : Hid (Below w.heap.size w w1) := Below.to HB0.out hB1 (by omega)
  clear hB1 hs0
  go_wp2_with fail
  go_loopg [11, 12, 13] (g.limit.toNat + 1) (fun m rise s _ wr => ∃ (k : Nat) (x : Int), Hid (m = (g.limit + 1 - x).toNat) ∧ rise = .int .i64 x ∧ s = .int .i64 k ∧ (k : Int) ≤ x ∧ x ≤ 100000 ∧ Hid (rsC g a k = x) ∧ Hid (∀ j : Nat, j < k → rsC g a j + amb ≤ g.limit) ∧ Below w1.heap.size w1 wr)
  case atStart => exact ⟨0, 0, (by show _ = _; omega), rfl, rfl, by omega, by omega, rfl, fun j hj => absurd hj (by omega), Below.refl _ _⟩
  case round =>
    obtain ⟨k, x, hm, rfl, rfl, hkx, hxl, hx, hall, hB⟩ := hrel
    have hk0 : (0 : Int) ≤ k := by omega
    obtain ⟨q0, q1⟩ := mul_range hk0 (show (k : Int) ≤ 100000 by omega) d0 d1
    have HGR : Hid (GaugeAt wr (w.heap.size + 1) g) := box_to HGA1.out hB
    obtain ⟨j0, j1, j2, j3, j4, _⟩ := gauge5 HGR.out (Below.refl _ wr)
    have hgo : de = 0 ∨ ¬ de = 0 ∧ (k : Int) * de < nu ∨ ¬ de = 0 ∧ ¬ (k : Int) * de < nu := by omega
    have hWr : Below w.heap.size w wr := HW1.out.trans (hB.mono HW1.out.size)
    have HWR := hide hWr
    clear hWr
    rcases hgo with hd | ⟨hd, hlt⟩ | ⟨hd, hlt⟩
    · have hd1 : (de == 0) = true := by simp [hd]
      have HC : Hid (blowDen f a = 0 ∨ (k : Int) * blowDen f a < blowNum f a) := .inl (by rw [HDE.out]; exact hd)
      clear hd
      by_cases hov : g.limit < x + amb
      · go_wp2_with fail
        go_ret
        exact ⟨ret_bool (guard_no (fun hp => by have := hp k HC.out; rw [hx.out] at this; omega)).symm, HWR.out⟩
      · obtain ⟨x2, hx2⟩ : ∃ x2, warmI g x a = x2 := ⟨_, rfl⟩
        have hrg := warmI_range g x a HG.out.heat0 HG.out.heat1 HG.out.cool0 HG.out.cool1 (by omega) ha0 ha1
        rw [hx2] at hrg
        obtain ⟨r0, r1⟩ := hrg
        have hx3 : rsC g a (k + 1) = x2 := by rw [rsC_succ, hx.out, hx2]
        have hup := rsC_up HG.out ha0 ha1 k
        rw [hx.out, hx3] at hup
        have HX3 := hide hx3
        have HX2 := hide hx2
        clear hx2 hx3
        go_wp2_with fail
        refine (rwarm_any g x a _ HG.out.heat0 HG.out.heat1 HG.out.cool0 HG.out.cool1 (by omega) (by omega) ha0 ha1).mono ?_
        rw [HX2.out]
        rintro e w2 ⟨rfl, hB2⟩
        have HB2 : Hid (Below w1.heap.size w1 w2) := Below.to hB hB2 (Nat.le_refl _)
        clear hB2 j0 j1 j2 j3 j4
        by_cases hst : x2 = x
        · have hst1 : (x2 == x) = true := by simp [hst]
          have HST := hide hst
          clear hst
          go_wp2_with fail
          go_ret
          exact ⟨ret_bool (guard_stays HF.out HG.out ha0 ha1 (s := k) (by rw [HX3.out, hx.out]; exact HST.out) (by rw [hx.out]; omega)).symm, HW1.out.trans (HB2.out.mono HW1.out.size)⟩
        · have hst1 : (x2 == x) = false := by simp [hst]
          go_wp2_with fail
          go_roundg ((g.limit + 1 - x2).toNat)
          case rel => exact ⟨k + 1, x2, rfl, rfl, by go_num, by omega, by omega, HX3.out, (fun j hj => by
              rcases Nat.lt_or_ge j k with h | h
              · exact hall.out j h
              · rw [show j = k from by omega, hx.out]; omega), HB2.out⟩
          case measure =>
            rw [hm.out]
            omega
    · have hd1 : (de == 0) = false := by simp [hd]
      have HC : Hid (blowDen f a = 0 ∨ (k : Int) * blowDen f a < blowNum f a) := .inr (by rw [HDE.out, HNU.out]; exact hlt)
      clear hd
      by_cases hov : g.limit < x + amb
      · go_wp2_with fail
        go_ret
        exact ⟨ret_bool (guard_no (fun hp => by have := hp k HC.out; rw [hx.out] at this; omega)).symm, HWR.out⟩
      · obtain ⟨x2, hx2⟩ : ∃ x2, warmI g x a = x2 := ⟨_, rfl⟩
        have hrg := warmI_range g x a HG.out.heat0 HG.out.heat1 HG.out.cool0 HG.out.cool1 (by omega) ha0 ha1
        rw [hx2] at hrg
        obtain ⟨r0, r1⟩ := hrg
        have hx3 : rsC g a (k + 1) = x2 := by rw [rsC_succ, hx.out, hx2]
        have hup := rsC_up HG.out ha0 ha1 k
        rw [hx.out, hx3] at hup
        have HX3 := hide hx3
        have HX2 := hide hx2
        clear hx2 hx3
        go_wp2_with fail
        refine (rwarm_any g x a _ HG.out.heat0 HG.out.heat1 HG.out.cool0 HG.out.cool1 (by omega) (by omega) ha0 ha1).mono ?_
        rw [HX2.out]
        rintro e w2 ⟨rfl, hB2⟩
        have HB2 : Hid (Below w1.heap.size w1 w2) := Below.to hB hB2 (Nat.le_refl _)
        clear hB2 j0 j1 j2 j3 j4
        by_cases hst : x2 = x
        · have hst1 : (x2 == x) = true := by simp [hst]
          have HST := hide hst
          clear hst
          go_wp2_with fail
          go_ret
          exact ⟨ret_bool (guard_stays HF.out HG.out ha0 ha1 (s := k) (by rw [HX3.out, hx.out]; exact HST.out) (by rw [hx.out]; omega)).symm, HW1.out.trans (HB2.out.mono HW1.out.size)⟩
        · have hst1 : (x2 == x) = false := by simp [hst]
          go_wp2_with fail
          go_roundg ((g.limit + 1 - x2).toNat)
          case rel => exact ⟨k + 1, x2, rfl, rfl, by go_num, by omega, by omega, HX3.out, (fun j hj => by
              rcases Nat.lt_or_ge j k with h | h
              · exact hall.out j h
              · rw [show j = k from by omega, hx.out]; omega), HB2.out⟩
          case measure =>
            rw [hm.out]
            omega
    · have hd1 : (de == 0) = false := by simp [hd]
      have HD : Hid (blowDen f a ≠ 0) := by show _ ≠ _; rw [HDE.out]; exact hd
      have HLT := hide hlt
      clear hd
      go_wp2_with fail
      go_ret
      exact ⟨ret_bool (guard_end HF.out ha0 ha1 HD.out (by rw [HDE.out, HNU.out]; have := HLT.out; omega) hall.out).symm, HWR.out⟩
end Go.Proofs.Ytejjjijaojkohaa
/- Selective: walks; and the law. -/
namespace Go.Proofs.Ytejjjijaojkohaa
open Go.RowKit
set_option linter.unusedVariables false
attribute [local go_sem ↓] Go.wp_at_zero Go.wp_at_succ

def fuseErr (f : Fu) : Int := if f.ok then 0 else 72
theorem checkFuseE (f : Fu) (w : World) : Calls Try.prog 54 #[.agg #[.int .i64 f.rating, .int .i64 f.melt]] w fun e w' => e = .returned (.int .i64 (fuseErr f)) ∧ Below w.heap.size w w' := checkFuse_any f w

theorem two_fuses {w0 w1 : World} {b2 b3 : Nat} {lo up : Fu} (h2 : FuseAt w0 b2 lo) (h3 : FuseAt w0 b3 up) (hB : Below w0.heap.size w0 w1) :
    w1.cell? ⟨b2, 0, none⟩ = some (.int .i64 lo.rating) ∧ w1.cell? ⟨b2, 1, none⟩ = some (.int .i64 lo.melt) ∧ w1.cell? ⟨b3, 0, none⟩ = some (.int .i64 up.rating) ∧ w1.cell? ⟨b3, 1, none⟩ = some (.int .i64 up.melt) ∧ Below w0.heap.size w0 w1 :=
  ⟨cellOf (box_to h2 hB) 0, cellOf (box_to h2 hB) 1, cellOf (box_to h3 hB) 0, cellOf (box_to h3 hB) 1, hB⟩

theorem Selective_any (lo up : Fu) (w : World) :
    Calls Try.prog 24 #[.agg #[.int .i64 lo.rating, .int .i64 lo.melt], .agg #[.int .i64 up.rating, .int .i64 up.melt]] w fun e w' => e = .returned (.tuple #[.int .i64 (selVal lo up), .int .i64 (selErr lo up)]) ∧ Below w.heap.size w w' := by
  obtain ⟨x, hx⟩ : ∃ x, fuseErr lo = x := ⟨_, rfl⟩
  obtain ⟨y, hy⟩ : ∃ y, fuseErr up = y := ⟨_, rfl⟩
  obtain ⟨z, hz⟩ : ∃ z : Int, (if x = 0 then y else x) = z := ⟨_, rfl⟩
  have HX := hide hx
  have HY := hide hy
  have HZ := hide hz
  clear hx hy hz
  go_enter Try.func24, Try.ntmps24
  go_wp2_with fail
  obtain ⟨w0, hw0⟩ : ∃ w0 : World, (w.alloc (.cells #[.int .i64 lo.rating, .int .i64 lo.melt] 30)).alloc (.cells #[.int .i64 up.rating, .int .i64 up.melt] 30) = w0 := ⟨_, rfl⟩
  have hb2 : FuseAt w0 w.heap.size lo := by
    unfold FuseAt; rw [← hw0, heap_old _ _ _ (by simp), heap_new _ _ _ rfl]
  have hb3 : FuseAt w0 (w.heap.size + 1) up := by
    unfold FuseAt; rw [← hw0, heap_new _ _ _ (by simp)]
  have hB0 : Below w.heap.size w w0 := by rw [← hw0]; exact (by repeat (first | exact Below.refl _ _ | assumption | refine Below.drew ?_ | refine Below.drewN ?_ _ | refine Below.allocT ?_ (Nat.le_refl _) _ | refine Below.setCell ?_ (by simp <;> omega) _ | refine Below.to ?_ (by assumption) (Nat.le_refl _)))
  have hs0 : w0.heap.size = w.heap.size + 2 := by rw [← hw0]; simp
  have HB2 := hide hb2
  have HB3 := hide hb3
  rw [hw0]
  obtain ⟨k0, k1, k2, k3, k4⟩ := two_fuses hb2 hb3 (Below.refl _ w0)
  clear hb2 hb3 hw0
  have HS0 := hide hs0
  clear hs0
  go_region_held3 (fun w' => w'.cell? ⟨w.heap.size, 0, none⟩ = some (.int .i64 lo.rating) ∧ w'.cell? ⟨w.heap.size, 1, none⟩ = some (.int .i64 lo.melt) ∧ w'.cell? ⟨w.heap.size + 1, 0, none⟩ = some (.int .i64 up.rating) ∧ w'.cell? ⟨w.heap.size + 1, 1, none⟩ = some (.int .i64 up.melt) ∧ Below w0.heap.size w0 w')
    (exact two_fuses HB2.out HB3.out (by repeat (first | exact Below.refl _ _ | assumption | refine Below.drew ?_ | refine Below.drewN ?_ _ | refine Below.allocT ?_ (Nat.le_refl _) _ | refine Below.setCell ?_ (by simp <;> omega) _ | refine Below.to ?_ (by assumption) (Nat.le_refl _))))
    (first | (go_at_call 54; refine (checkFuseE _ _).mono ?_; (first | rw [HX.out] | rw [HY.out]); rintro e w1 ⟨rfl, hB⟩)
           | (go_at_call 58; refine (errors2v _ x y z _ (by simp) (by simp) HZ.out).mono ?_; rintro e w1 ⟨rfl, rfl⟩))
  rename_i hHeld
  obtain ⟨j0, j1, j2, j3, j4⟩ := hHeld
  have HJ4 := hide j4
  clear j4 k0 k1 k2 k3 k4
  by_cases hz0 : z = 0
  · have hok : lo.ok = true ∧ up.ok = true := by
      have h1 := HX.out
      have h2 := HY.out
      have h3 := HZ.out
      unfold fuseErr at h1 h2
      cases hl : lo.ok <;> cases hu : up.ok <;> simp [hl, hu] at h1 h2 <;> subst h1 <;> subst h2 <;> simp_all
    have hz1 : (z != 0) = false := by simp [hz0]
    have HZ0 := hide hz0
    clear hz0
    have HOK := hide hok
    clear hok
    go_wp2_with (go_at_call 63; refine (selective_any lo up _ (Fu.ok_iff.1 HOK.out.1) (Fu.ok_iff.1 HOK.out.2)).mono ?_; rintro e w3 ⟨rfl, hB3⟩)
    go_ret2
    exact ⟨by simp [selVal, selErr, HOK.out.1, HOK.out.2], Below.to (Below.to hB0 HJ4.out (Nat.le_refl _)) hB3 (Nat.le_refl _)⟩
  · have hok : ¬ (lo.ok = true ∧ up.ok = true) := by
      have h1 := HX.out
      have h2 := HY.out
      have h3 := HZ.out
      rintro ⟨hl, hu⟩
      unfold fuseErr at h1 h2
      simp [hl, hu] at h1 h2
      subst h1; subst h2
      simp at h3
      exact hz0 h3.symm
    have hz2 : z = 72 := by
      have h1 := HX.out
      have h2 := HY.out
      have h3 := HZ.out
      unfold fuseErr at h1 h2
      cases hl : lo.ok <;> cases hu : up.ok <;> simp [hl, hu] at h1 h2 <;> subst h1 <;> subst h2 <;> simp_all
    have hz1 : (z != 0) = true := by simp [hz0]
    have HZ2 := hide hz2
    clear hz0 hz2
    have HOK := hide hok
    clear hok
    go_wp2
    go_ret2
    refine ⟨?_, Below.to hB0 HJ4.out (Nat.le_refl _)⟩
    have hno : (lo.ok && up.ok) = false := by
      have := HOK.out
      cases hl : lo.ok <;> cases hu : up.ok <;> simp_all
    simp [selVal, selErr, hno, HZ2.out]

theorem rSelective_any (lo up : Fu) (w : World) :
    Calls Try.prog 25 #[.agg #[.int .i64 lo.rating, .int .i64 lo.melt], .agg #[.int .i64 up.rating, .int .i64 up.melt]] w fun e w' => e = .returned (.tuple #[.int .i64 (selVal lo up), .int .i64 (selErr lo up)]) ∧ Below w.heap.size w w' := by
  cases hl : lo.ok with
  | false =>
    go_enter Try.func25, Try.ntmps25
    go_wp2_with (go_at_call 56; refine (fuse_any lo _).mono ?_; rw [hl]; rintro e w1 ⟨rfl, hB1⟩)
    go_ret2
    exact ⟨by simp [selVal, selErr, hl], (by repeat (first | exact Below.refl _ _ | assumption | refine Below.drew ?_ | refine Below.drewN ?_ _ | refine Below.allocT ?_ (Nat.le_refl _) _ | refine Below.setCell ?_ (by simp <;> omega) _ | refine Below.to ?_ (by assumption) (Nat.le_refl _)))⟩
  | true =>
    cases hu : up.ok with
    | false =>
      go_enter Try.func25, Try.ntmps25
      go_wp2_with fail
      obtain ⟨w0, hw0⟩ : ∃ w0 : World, (w.alloc (.cells #[.int .i64 lo.rating, .int .i64 lo.melt] 30)).alloc (.cells #[.int .i64 up.rating, .int .i64 up.melt] 30) = w0 := ⟨_, rfl⟩
      have hb2 : FuseAt w0 w.heap.size lo := by
        unfold FuseAt; rw [← hw0, heap_old _ _ _ (by simp), heap_new _ _ _ rfl]
      have hb3 : FuseAt w0 (w.heap.size + 1) up := by
        unfold FuseAt; rw [← hw0, heap_new _ _ _ (by simp)]
      have hB0 : Below w.heap.size w w0 := by rw [← hw0]; exact (by repeat (first | exact Below.refl _ _ | assumption | refine Below.drew ?_ | refine Below.drewN ?_ _ | refine Below.allocT ?_ (Nat.le_refl _) _ | refine Below.setCell ?_ (by simp <;> omega) _ | refine Below.to ?_ (by assumption) (Nat.le_refl _)))
      have HB2 := hide hb2
      have HB3 := hide hb3
      rw [hw0]
      clear hb2 hb3 hw0
      refine (fuse_any lo _).mono ?_
      rw [hl]
      rintro e w1 ⟨rfl, hB1⟩
      obtain ⟨d0, d1, d2, d3, _⟩ := two_fuses HB2.out HB3.out hB1
      go_wp2_with fail
      refine (fuse_any up _).mono ?_
      rw [hu]
      rintro e w2 ⟨rfl, hB2⟩
      go_wp2_with fail
      go_ret2
      exact ⟨by simp [selVal, selErr, hl, hu], (by repeat (first | exact Below.refl _ _ | assumption | refine Below.drew ?_ | refine Below.drewN ?_ _ | refine Below.allocT ?_ (Nat.le_refl _) _ | refine Below.setCell ?_ (by simp <;> omega) _ | refine Below.to ?_ (by assumption) (Nat.le_refl _)))⟩
    | true =>
      have HOL := hide (Fu.ok_iff.1 hl)
      have HOU := hide (Fu.ok_iff.1 hu)
      go_enter Try.func25, Try.ntmps25
      go_wp2_with fail
      obtain ⟨w0, hw0⟩ : ∃ w0 : World, (w.alloc (.cells #[.int .i64 lo.rating, .int .i64 lo.melt] 30)).alloc (.cells #[.int .i64 up.rating, .int .i64 up.melt] 30) = w0 := ⟨_, rfl⟩
      have hb2 : FuseAt w0 w.heap.size lo := by
        unfold FuseAt; rw [← hw0, heap_old _ _ _ (by simp), heap_new _ _ _ rfl]
      have hb3 : FuseAt w0 (w.heap.size + 1) up := by
        unfold FuseAt; rw [← hw0, heap_new _ _ _ (by simp)]
      have hB0 : Below w.heap.size w w0 := by rw [← hw0]; exact (by repeat (first | exact Below.refl _ _ | assumption | refine Below.drew ?_ | refine Below.drewN ?_ _ | refine Below.allocT ?_ (Nat.le_refl _) _ | refine Below.setCell ?_ (by simp <;> omega) _ | refine Below.to ?_ (by assumption) (Nat.le_refl _)))
      have HB2 := hide hb2
      have HB3 := hide hb3
      rw [hw0]
      clear hb2 hb3 hw0
      refine (fuse_any lo _).mono ?_
      rw [hl]
      rintro e w1 ⟨rfl, hB1⟩
      obtain ⟨d0, d1, d2, d3, _⟩ := two_fuses HB2.out HB3.out hB1
      go_wp2_with fail
      refine (fuse_any up _).mono ?_
      rw [hu]
      rintro e w2 ⟨rfl, hB2⟩
      obtain ⟨e0, e1, e2, e3, _⟩ := two_fuses HB2.out HB3.out (Below.to hB1 hB2 (Nat.le_refl _))
      go_wp2_with (go_at_call 64; refine (rselective_any lo up _ HOL.out HOU.out).mono ?_; rintro e w3 ⟨rfl, hB3⟩)
      go_ret2
      exact ⟨by simp [selVal, selErr, hl, hu], (by repeat (first | exact Below.refl _ _ | assumption | refine Below.drew ?_ | refine Below.drewN ?_ _ | refine Below.allocT ?_ (Nat.le_refl _) _ | refine Below.setCell ?_ (by simp <;> omega) _ | refine Below.to ?_ (by assumption) (Nat.le_refl _)))⟩
end Go.Proofs.Ytejjjijaojkohaa
/- run: the link of a fuse becomes warm for some seconds of a cycle: walks. -/
namespace Go.Proofs.Ytejjjijaojkohaa
open Go.RowKit Go.Shelf
attribute [local go_sem] Oper.semAt_some
set_option linter.unusedVariables false


theorem warmLink (a : Addr) (w : World) : (method 273 117 (.pointer (some a)) (invName Try.f65 0)).run Try.prog w = .ok (146, .pointer (some a)) w := by kernel_rfl
theorem secondLink (a : Addr) (w : World) : (method 273 117 (.pointer (some a)) (invName Try.f65 1)).run Try.prog w = .ok (145, .pointer (some a)) w := by kernel_rfl

/-- Between two rounds of run: what its own blocks and the body hold. -/
structure RunLink (w : World) (bw : Nat) (g : Fu) (r m : Int) (l : List Int) (W : World) : Prop where
  body : LinkAt W bw g (runSt (heatI g) r l)
  iface : W.heap[w.heap.size]? = some (.cells #[.iface 117 (.pointer (some ⟨bw, 0, none⟩))] 123 (0, 0))
  left : W.heap[w.heap.size + 1]? = some (.cells #[.int .i64 (m - l.length)] 3 (0, 0))
  most : W.heap[w.heap.size + 2]? = some (.cells #[.int .i64 (runMx (heatI g) r l)] 3 (0, 0))
  only : w.grownBy W (some bw)
  size : w.heap.size + 3 ≤ W.heap.size
  lo : 0 ≤ runSt (heatI g) r l
  hi : runSt (heatI g) r l ≤ r + 250000 * l.length

theorem RunLink.turn {w : World} {bw : Nat} {g : Fu} {r m : Int} {l : List Int} {A B : World} {row : Option Nat} (h : RunLink w bw g r m l A) (hg : A.grownBy B row) (hr : ∀ k, row = some k → w.heap.size + 3 ≤ k) (hbw : bw < w.heap.size) : RunLink w bw g r m l B := by
  have hb : ∀ k, k < w.heap.size + 3 → B.heap[k]? = A.heap[k]? := fun k hk => hg.block k (Nat.lt_of_lt_of_le hk h.size) (fun e => by have := hr k e.symm; omega)
  refine ⟨(hb bw (by omega)).trans h.body, (hb _ (by omega)).trans h.iface, (hb _ (by omega)).trans h.left, (hb _ (by omega)).trans h.most, ?_, Nat.le_trans h.size hg.size, h.lo, h.hi⟩
  exact ⟨hg.os.trans h.only.os, hg.tape.trans h.only.tape, hg.output.trans h.only.output, Nat.le_trans h.only.size hg.size, fun k hk hne => (hb k (by omega)).trans (h.only.block k hk hne)⟩

theorem RunLink.step {w : World} {bw : Nat} {g : Fu} {r m : Int} {l : List Int} {W W1 : World} {x st y d : Int} (h : RunLink w bw g r m l W) (hst : runSt (heatI g) r l = st) (hW1 : LinkAt W1 bw g (heatI g st x)) (hg : W.grownBy W1 (some bw)) (hbw : bw < w.heap.size)
    (hy : y = max (runMx (heatI g) r l) (heatI g st x)) (hd : d = m - l.length - 1) (hlo : 0 ≤ heatI g st x) (hhi : heatI g st x ≤ st + 250000) :
    KeepsOthers W ((W1.setCell ⟨w.heap.size + 1 + 1, 0, none⟩ (.int .i64 y)).setCell ⟨w.heap.size + 1, 0, none⟩ (.int .i64 d)).drew ∧
    Kpt (fun k => k = bw ∨ k = w.heap.size + 1 ∨ k = w.heap.size + 2) W ((W1.setCell ⟨w.heap.size + 1 + 1, 0, none⟩ (.int .i64 y)).setCell ⟨w.heap.size + 1, 0, none⟩ (.int .i64 d)).drew ∧
    RunLink w bw g r m (l ++ [x]) ((W1.setCell ⟨w.heap.size + 1 + 1, 0, none⟩ (.int .i64 y)).setCell ⟨w.heap.size + 1, 0, none⟩ (.int .i64 d)).drew := by
  have hs := h.size
  have d0 : W1.heap[w.heap.size]? = _ := (hg.block _ (by omega) (by intro e; injection e; omega)).trans h.iface
  have d1 : W1.heap[w.heap.size + 1]? = _ := (hg.block _ (by omega) (by intro e; injection e; omega)).trans h.left
  have d2 : W1.heap[w.heap.size + 1 + 1]? = _ := (hg.block _ (by omega) (by intro e; injection e; omega)).trans h.most
  refine ⟨?_, ?_, ?_⟩
  · refine ((KeepsOthers.of_grownBy hg ?_).trans ((KeepsOthers.setCell _ _ _).trans (KeepsOthers.setCell _ _ _))).trans (KeepsOthers.drew _)
    intro j o e hj
    injection e with e
    subst e
    rw [h.body] at hj
    injection hj with hj
    subst hj
    rfl
  · exact (((Kpt.grown hg (.inl rfl)).trans (Kpt.setCell _ (.inr (.inr rfl)) _)).trans (Kpt.setCell _ (.inr (.inl rfl)) _)).trans (Kpt.drew _ _)
  · subst hst
    refine ⟨?_, ?_, ?_, ?_, ?_, ?_, by rw [runSt_snoc]; exact hlo, ?_⟩
    · rw [runSt_snoc]
      exact (Below.heap_setCell _ _ _ bw (by simp; omega)).trans ((Below.heap_setCell _ _ _ bw (by simp; omega)).trans hW1)
    · exact (Below.heap_setCell _ _ _ _ (by simp <;> omega)).trans ((Below.heap_setCell _ _ _ _ (by simp <;> omega)).trans d0)
    · have := setCellOf (i := 0) ((Below.heap_setCell W1 ⟨w.heap.size + 1 + 1, 0, none⟩ (.int .i64 y) (w.heap.size + 1) (by simp)).trans d1) (.int .i64 d)
      rw [show (m - ((l ++ [x]).length : Nat) : Int) = d by rw [hd, List.length_append, List.length_singleton]; omega]
      exact this
    · rw [runMx_snoc, ← hy]
      exact (Below.heap_setCell _ _ _ _ (by simp)).trans (setCellOf (i := 0) d2 (.int .i64 y))
    · refine only_drew (only_setCell' (only_setCell' (only_trans h.only ?_) ?_ _) ?_ _)
      · exact ⟨hg.os, hg.tape, hg.output, hg.size, hg.block⟩
      · simp; omega
      · simp
    · have := hg.size
      show w.heap.size + 3 ≤ ((W1.setCell _ _).setCell _ _).heap.size
      simp [World.setCell]
      omega
    · rw [runSt_snoc, List.length_append, List.length_singleton]
      have := h.hi
      omega

set_option maxRecDepth 100000 in
set_option maxHeartbeats 2000000 in
theorem runLink_any (bw : Nat) (g : Fu) (r n : Int) (v : Value) (cs : List Cu) (w : World) (hw : LinkAt w bw g r) (hbw : bw < w.heap.size) (hok : cycOk cs = true) (h : Cyc w bw v cs) (hn0 : 0 ≤ n) (hn1 : n ≤ 10000) (hh0 : 0 ≤ g.rating) (hh1 : g.rating ≤ 500) (hr0 : 0 ≤ r) (hr1 : r + 250000 * n ≤ 1000000000) :
    Calls Try.prog 65 #[.iface 117 (.pointer (some ⟨bw, 0, none⟩)), v, .int .i64 n] w
      fun e w' => e = .returned (.int .i64 (runMx (heatI g) r (ups cs n.toNat))) ∧ LinkAt w' bw g (runSt (heatI g) r (ups cs n.toNat)) ∧ w.grownBy w' (some bw) := by
  obtain ⟨A, b, off, cap, rfl, hnc, hA, hc⟩ := h
  have hlen := (cycOk_len hok).1
  obtain ⟨rfl, hb⟩ : A = some ⟨b, off, none⟩ ∧ b < bw := by
    rcases hA with h | h
    · exact h
    · omega
  clear hA
  have HC := hide hc; clear hc
  have HOK := hide hok; clear hok
  have m1 := warmLink
  have m2 := secondLink
  conv at m1 =>
    enter [a, w, 1, 2, 4]
    whnf
  conv at m2 =>
    enter [a, w, 1, 2, 4]
    whnf
  have HW := hide hw; clear hw
  by_cases hz : n = 0
  · have hz' : (n == 0) = true := by simp [hz]
    have HZ := hide hz; clear hz
    refine (callsIn_wide (n := 5)).1 ?_
    refine callsIn_of_wp_marks Try.func65 rfl trivial ?_ rfl
    simp only [Try.ntmps65, List.size_toArray, List.length_cons, List.length_nil, Nat.reduceAdd, Nat.reduceSub, Array.replicate_succ, Array.replicate_zero, List.push_toArray, List.append_toArray, List.nil_append, List.cons_append]
    gi_wp2_with (refine ⟨trivial, ?_⟩; gi_at_call 146; refine (callsIn_wide.2 (linkWarm_any bw g r _ (by unfold LinkAt; rw [Below.heap_alloc _ _ _ (by simp; omega), Below.heap_alloc _ _ _ (by omega)]; exact HW.out))).mono ?_; rintro e w' ⟨rfl, rfl⟩)
    refine ⟨_, results_tmp rfl _ _ _, ?_⟩
    refine ⟨ret_int ?_, ?_, only_alloc (only_alloc (only_alloc (only_refl w _) _) _) _⟩
    · rw [HZ.out]; rfl
    · rw [HZ.out]
      unfold LinkAt
      rw [Below.heap_alloc _ _ _ (by simp; omega), Below.heap_alloc _ _ _ (by simp; omega), Below.heap_alloc _ _ _ (by omega)]
      exact HW.out
  · obtain ⟨m, rfl⟩ := Int.eq_ofNat_of_zero_le hn0
    have hz' : ((m : Int) == 0) = false := by simpa using hz
    have hn2 : 1 ≤ m := by omega
    rw [Int.toNat_natCast]
    clear hz
    refine (callsIn_wide (n := 5)).1 ?_
    refine callsIn_of_wp_marks Try.func65 rfl trivial ?_ rfl
    simp only [Try.ntmps65, List.size_toArray, List.length_cons, List.length_nil, Nat.reduceAdd, Nat.reduceSub, Array.replicate_succ, Array.replicate_zero, List.push_toArray, List.append_toArray, List.nil_append, List.cons_append]
    gi_wp2_with (first | (refine ⟨trivial, ?_⟩; gi_at_call 146; refine (callsIn_wide.2 (linkWarm_any bw g r _ (by unfold LinkAt; rw [Below.heap_alloc _ _ _ (by simp; omega), Below.heap_alloc _ _ _ (by omega)]; exact HW.out))).mono ?_; rintro e w' ⟨rfl, rfl⟩) | (refine ⟨trivial, ?_⟩; gi_at_call 97; refine (mk_seconds_in _ _ trivial rfl _ _ _ _).mono ?_; rintro e w' ⟨rfl, rfl⟩))
    obtain ⟨W0, hW0⟩ : ∃ W0 : World, (((w.alloc (.cells #[.iface 117 (.pointer (some ⟨bw, 0, none⟩))] 123)).alloc (.cells #[.int .i64 (m : Int)] 3)).alloc (.cells #[.int .i64 r] 3)).alloc (.cells #[.slice (some ⟨b, off, none⟩) cs.length cap] 31) = W0 := ⟨_, rfl⟩
    have hs0 : W0.heap.size = w.heap.size + 4 := by rw [← hW0]; simp
    have hB0 : Below w.heap.size w W0 := by
      rw [← hW0]; exact Below.allocT (Below.allocT (Below.allocT (Below.allocT (Below.refl _ _) (Nat.le_refl _) _) (Nat.le_refl _) _) (Nat.le_refl _) _) (Nat.le_refl _) _
    have hb0 : W0.heap[w.heap.size]? = some (.cells #[.iface 117 (.pointer (some ⟨bw, 0, none⟩))] 123 (0, 0)) := by
      rw [← hW0, heap_old _ _ _ (by simp <;> omega), heap_old _ _ _ (by simp <;> omega), heap_old _ _ _ (by simp <;> omega), heap_new _ _ _ rfl]
    have hb1 : W0.heap[w.heap.size + 1]? = some (.cells #[.int .i64 (m : Int)] 3 (0, 0)) := by
      rw [← hW0, heap_old _ _ _ (by simp <;> omega), heap_old _ _ _ (by simp <;> omega), heap_new _ _ _ (by simp)]
    have hb2 : W0.heap[w.heap.size + 2]? = some (.cells #[.int .i64 r] 3 (0, 0)) := by
      rw [← hW0, heap_old _ _ _ (by simp <;> omega), heap_new _ _ _ (by simp)]
    have hb3 : W0.cell? ⟨w.heap.size + 3, 0, none⟩ = some (.slice (some ⟨b, off, none⟩) cs.length cap) := by
      refine cellOf (t := 31) (fr := (0, 0)) (cs := #[.slice (some ⟨b, off, none⟩) cs.length cap]) ?_ 0
      rw [← hW0, heap_new _ _ _ (by simp)]
    have hbw0 : W0.heap[bw]? = w.heap[bw]? := hB0.block bw hbw
    rw [hW0]
    clear hW0
    refine wpIn_rangeFunc_brk rfl (by omega) (gf := 109) (lb := #[.pointer (some ⟨w.heap.size + 3, 0, none⟩)]) rfl trivial (enters_of Try.func109 (by kernel_rfl) rfl)
      (seconds_brk (5 - 1) (by omega) (w.heap.size + 3) b off cap m cs HOK.out (fun k => k = bw ∨ k = w.heap.size + 1 ∨ k = w.heap.size + 2) W0 (by omega) (by omega) (by omega) (by omega) (by omega) hb3
        (fun i j hi hj => (hB0.cell (p := ⟨b, off + (i * 2 + j), none⟩) (Nat.lt_trans hb hbw)).trans (HC.out i j hi hj)))
      (fun h k => h.trans k) (fun W l o o' _ h1 h2 _ => Kpt.putObj W l o o' h1 h2) (Below.refl _ _) (fun _ => rfl)
      (fun pre W => pre.length < m ∧ RunLink w bw g r m (amps pre) W)
      (fun c pre W => c = .exit 0 ∧ pre.length = m ∧ RunLink w bw g r m (amps pre) W)
      (fun s A B row hs hg hr => ⟨hs.1, hs.2.turn hg (fun k e => by have := (hr k e).1; omega) hbw⟩)
      (fun c s A B row hs hg hr => ⟨hs.1, hs.2.1, hs.2.2.turn hg (fun k e => by have := (hr k e).1; omega) hbw⟩)
      (fun pre W hs => hs.1)
      ⟨by simp; omega, ⟨hbw0.trans HW.out, hb0, by simpa [amps] using hb1, hb2, ⟨hB0.os, hB0.tape, hB0.output, hB0.size, fun k hk _ => hB0.block k hk⟩, by omega, hr0, by simp [amps, runSt]⟩⟩
      (fun x => { tmps := #[.iface 117 (.pointer (some ⟨bw, 0, none⟩)), .slice (some ⟨b, off, none⟩) cs.length cap, .int .i64 (m : Int), .pointer (some ⟨w.heap.size, 0, none⟩), undef, .pointer (some ⟨w.heap.size + 1, 0, none⟩), .int .i64 0, .pointer (some ⟨w.heap.size + 1 + 1, 0, none⟩), .int .i64 x.1, .iface 117 (.pointer (some ⟨bw, 0, none⟩)), .int .i64 r, .int .i64 (m : Int), .bool false, undef, .slice (some ⟨b, off, none⟩) cs.length cap, .func (.func 109) #[] #[.pointer (some ⟨w.heap.size + 1 + 1 + 1, 0, none⟩)], .int .i64 x.1, undef, undef, undef, undef, undef, undef, undef, undef, undef, undef, undef, undef], defers := [] }) ?assign ?body ?stop
    case assign =>
      intro l x W K hK
      gi_wp2
      exact hK
    case body =>
      rintro l pre ⟨x, hx0, hx1⟩ W ⟨hlen, hR⟩ _
      obtain ⟨st, hst⟩ : ∃ st, runSt (heatI g) r (amps pre) = st := ⟨_, rfl⟩
      obtain ⟨mx, hmx⟩ : ∃ mx, runMx (heatI g) r (amps pre) = mx := ⟨_, rfl⟩
      obtain ⟨d, hd⟩ : ∃ d : Int, (m : Int) - (amps pre).length = d := ⟨_, rfl⟩
      have hal : (amps pre).length = pre.length := by simp [amps]
      have hd1 : 1 ≤ d := by omega
      have hd2 : d ≤ 10000 := by omega
      have HR := hide hR
      obtain ⟨b0, b1, b2, b3, b4, b5, b6, b7⟩ := hR
      rw [hst] at b0 b6 b7
      rw [hmx] at b3
      rw [hd] at b2
      have hi2 : st ≤ 1000000000 := by rw [hal] at b7; omega
      have hrange := heatI_range g st x hh0 hh1 b6 hx0 hx1
      have c3 : W.cell? ⟨w.heap.size, 0, none⟩ = some (.iface 117 (.pointer (some ⟨bw, 0, none⟩))) := cellOf b1 0
      have HST := hide hst
      have HMX := hide hmx
      have HD := hide hd
      have HB := hide (And.intro b1 (And.intro b2 b3))
      have HB4 := hide b4
      have HB7 := hide b7
      have HB0 := hide b0
      clear hst hmx hd b1 b2 b3 b4 b7 b0 hal
      have hmix : Try.prog.follows .mixedOrders = true := by kernel_rfl
      gi_wp2_with (refine ⟨trivial, ?_⟩; gi_at_call 145; refine (CallsIn.inRound l (callsIn_wide.2 (linkSecond_any bw g st x _ HB0.out hh0 hh1 b6 hi2 hx0 hx1))).mono ?_; rintro e W1 ⟨rfl, hW1, hg1⟩)
      have d1 : W1.heap[w.heap.size]? = _ := (hg1.block _ (by omega) (by intro e; injection e; omega)).trans HB.out.1
      have d2 : W1.heap[w.heap.size + 1]? = _ := (hg1.block _ (by omega) (by intro e; injection e; omega)).trans HB.out.2.1
      have d3 : W1.heap[w.heap.size + 1 + 1]? = _ := (hg1.block _ (by omega) (by intro e; injection e; omega)).trans HB.out.2.2
      have e3 : W1.cell? ⟨w.heap.size, 0, none⟩ = some (.iface 117 (.pointer (some ⟨bw, 0, none⟩))) := cellOf d1 0
      have e5 : W1.cell? ⟨w.heap.size + 1, 0, none⟩ = some (.int .i64 d) := cellOf d2 0
      have e7 : W1.cell? ⟨w.heap.size + 1 + 1, 0, none⟩ = some (.int .i64 mx) := cellOf d3 0
      have f5 : W1.frozen? ⟨w.heap.size + 1, 0, none⟩ = false := unfrozenOf d2 0
      have f7 : W1.frozen? ⟨w.heap.size + 1 + 1, 0, none⟩ = false := unfrozenOf d3 0
      have HW1 := hide hW1
      have HG1 := hide hg1
      clear hW1 hg1 d1 d2 d3 c3
      gi_region_with_o (refine ⟨trivial, ?_⟩; gi_at_call 146; refine (CallsIn.inRound l (callsIn_wide.2 (linkWarm_any bw g (heatI g st x) _ (by exact HW1.out)))).mono ?_; rintro e w' ⟨rfl, rfl⟩)
      all_goals gi_wp2
      all_goals
        have hd2 : d - 1 = (m : Int) - (amps pre).length - 1 := by rw [HD.out]
        have hal : (amps pre).length = pre.length := by simp [amps]
        have hal2 : amps (pre ++ [⟨x, hx0, hx1⟩]) = amps pre ++ [x] := by simp [amps]
        first
        | (have hy : heatI g st x = max (runMx (heatI g) r (amps pre)) (heatI g st x) := by rw [HMX.out]; exact (Int.max_eq_right (by omega)).symm
           obtain ⟨k1, k2, k3⟩ := RunLink.step HR.out HST.out HW1.out HG1.out hbw hy hd2 hrange.1 hrange.2
           first
           | exact ⟨k1, k2, by have : ¬ d - 1 = 0 := by simpa using (by assumption : (d - 1 == 0) = false)
                               simp; omega, by rw [hal2]; exact k3⟩
           | exact ⟨k1, rfl, by have : d - 1 = 0 := by simpa using (by assumption : (d - 1 == 0) = true)
                                simp; omega, by rw [hal2]; exact k3⟩)
        | (have hy : mx = max (runMx (heatI g) r (amps pre)) (heatI g st x) := by rw [HMX.out]; exact (Int.max_eq_left (by omega)).symm
           obtain ⟨k1, k2, k3⟩ := RunLink.step HR.out HST.out HW1.out HG1.out hbw hy hd2 hrange.1 hrange.2
           first
           | exact ⟨k1, k2, by have : ¬ d - 1 = 0 := by simpa using (by assumption : (d - 1 == 0) = false)
                               simp; omega, by rw [hal2]; exact k3⟩
           | exact ⟨k1, rfl, by have : d - 1 = 0 := by simpa using (by assumption : (d - 1 == 0) = true)
                                simp; omega, by rw [hal2]; exact k3⟩)
    case stop =>
      clear hb0 hb1 hb2 hb3 m1 m2
      rintro D c pre W hD ⟨s, hs⟩ ⟨rfl, hlen2, hR⟩ hK
      have c7 : W.cell? ⟨w.heap.size + 1 + 1, 0, none⟩ = some (.int .i64 (runMx (heatI g) r (amps pre))) := cellOf hR.most 0
      have hsm : s = m := by
        have h1 : (amps pre).length = (ups cs s).length := by rw [hs]
        rw [ups_length] at h1
        simp [amps] at h1
        omega
      rw [hs, hsm] at c7 hR
      have HRR := hide hR
      clear hR hs hsm
      gi_wp2
      refine ⟨by simp, .inl ⟨_, _, rfl, run_takeDeferred hK, ?_⟩⟩
      refine ⟨_, results_tmp rfl _ _ _, rfl, ?_, ?_⟩
      · exact (World.putObj_heap_other (by omega)).trans HRR.out.body
      · have hg := grownBy_putObj' W D (.deferred none)
        have ho := HRR.out.only
        exact ⟨hg.os.trans ho.os, hg.tape.trans ho.tape, hg.output.trans ho.output, Nat.le_trans ho.size hg.size, fun k hk hne => (hg.block k (Nat.lt_of_lt_of_le hk ho.size) (fun e => by injection e with e; omega)).trans (ho.block k hk hne)⟩

end Go.Proofs.Ytejjjijaojkohaa
/- Fuses that hold: the plain law and both walks. -/
namespace Go.Proofs.Ytejjjijaojkohaa
open Go.RowKit
set_option linter.unusedVariables false

theorem stU_addN (f : Int → Int → Int) (cs : List Cu) (r : Int) : ∀ t, stU f cs r (secsN cs + t) = stU f cs (cySt f cs r) t
  | 0 => rfl
  | t + 1 => by
    rw [← Nat.add_assoc, stU_succ, stU_succ, stU_addN f cs r t]
    unfold ampAt
    rw [Nat.add_mod_left]

/-- What one cycle would add to the heat if it could fall below zero. -/
def sumU (f : Fu) (cs : List Cu) : Nat → Int
  | 0 => 0
  | s + 1 => sumU f cs s + ampAt cs s * ampAt cs s - f.rating * f.rating
theorem stU_shift (f : Fu) (cs : List Cu) {h : Int} (hh : 0 ≤ h) : ∀ s, stU (heatI f) cs h s = max (h + sumU f cs s) (stU (heatI f) cs 0 s)
  | 0 => by rw [stU_zero, stU_zero]; unfold sumU; omega
  | s + 1 => by
    rw [stU_succ, stU_succ, stU_shift f cs hh s]
    obtain ⟨u, hu⟩ : ∃ u, stU (heatI f) cs 0 s = u := ⟨_, rfl⟩
    rw [hu, show sumU f cs (s + 1) = sumU f cs s + ampAt cs s * ampAt cs s - f.rating * f.rating from rfl]
    unfold heatI
    omega
theorem stH_nonneg (f : Fu) (cs : List Cu) {h : Int} (hh : 0 ≤ h) : ∀ s, 0 ≤ stU (heatI f) cs h s
  | 0 => hh
  | s + 1 => by rw [stU_succ]; unfold heatI; omega

/-- A fuse never opens under a cycle. -/
def holdsB (f : Fu) (cs : List Cu) : Bool := decide (cyMx (heatI f) cs (stU (heatI f) cs 0 (2 * secsN cs)) < f.melt) && decide (cySt (heatI f) cs (stU (heatI f) cs 0 (2 * secsN cs)) = stU (heatI f) cs 0 (2 * secsN cs))

theorem st_two (f : Fu) (cs : List Cu) : stU (heatI f) cs 0 (2 * secsN cs) = cySt (heatI f) cs (cySt (heatI f) cs 0) := by
  rw [Nat.two_mul, stU_addN]; rfl
theorem cyH (f : Fu) (cs : List Cu) {h : Int} (hh : 0 ≤ h) : cySt (heatI f) cs h = max (h + sumU f cs (secsN cs)) (cySt (heatI f) cs 0) := stU_shift f cs hh _
theorem holds_sum {f : Fu} {cs : List Cu} (h : 0 < sumU f cs (secsN cs)) : holdsB f cs = false := by
  have h0 := cyH f cs (h := 0) (by omega)
  have hc : 0 ≤ cySt (heatI f) cs 0 := stH_nonneg f cs (by omega) _
  have h1 := cyH f cs hc
  have h2 := cyH f cs (h := cySt (heatI f) cs (cySt (heatI f) cs 0)) (stH_nonneg f cs hc _)
  unfold holdsB
  rw [st_two]
  have : ¬ (cySt (heatI f) cs (cySt (heatI f) cs (cySt (heatI f) cs 0)) = cySt (heatI f) cs (cySt (heatI f) cs 0)) := by omega
  simp [this]
theorem cy_stays {f : Fu} {cs : List Cu} (h : sumU f cs (secsN cs) ≤ 0) : cySt (heatI f) cs (cySt (heatI f) cs 0) = cySt (heatI f) cs 0 := by
  have hc : 0 ≤ cySt (heatI f) cs 0 := stH_nonneg f cs (by omega) _
  have h1 := cyH f cs hc
  omega
theorem holds_melts {f : Fu} {cs : List Cu} (h : sumU f cs (secsN cs) ≤ 0) {s : Nat} (hs : s < 2 * secsN cs) (hm : f.melt ≤ stU (heatI f) cs 0 (s + 1)) : holdsB f cs = false := by
  have h1 := cy_stays h
  have hc : 0 ≤ cySt (heatI f) cs 0 := stH_nonneg f cs (by omega) _
  have h2 : f.melt ≤ cyMx (heatI f) cs (cySt (heatI f) cs 0) := by
    rcases Nat.lt_or_ge (secsN cs) (s + 1) with hlt | hge
    · obtain ⟨t, ht⟩ : ∃ t, s + 1 = secsN cs + t := ⟨s + 1 - secsN cs, by omega⟩
      rw [ht, stU_addN] at hm
      exact Int.le_trans hm (st_le_mxU' _ _ _ (by omega))
    · have h3 := stU_mono (heatI_mono f) (cs := cs) hc (s + 1)
      exact Int.le_trans (Int.le_trans hm h3) (st_le_mxU' _ _ _ hge)
  unfold holdsB
  rw [st_two, h1]
  have : ¬ (cyMx (heatI f) cs (cySt (heatI f) cs 0) < f.melt) := by omega
  simp [this]
theorem holds_cool {f : Fu} {cs : List Cu} (h : sumU f cs (secsN cs) ≤ 0) (hN : 1 ≤ secsN cs) (hm : ∀ s : Nat, s < 2 * secsN cs → stU (heatI f) cs 0 (s + 1) < f.melt) : holdsB f cs = true := by
  have h1 := cy_stays h
  have h2 : ∀ t, t ≤ secsN cs → mxU (heatI f) cs (cySt (heatI f) cs 0) t < f.melt := by
    intro t
    induction t with
    | zero =>
      intro _
      rw [mxU_zero]
      have := hm (secsN cs - 1) (by omega)
      rwa [show secsN cs - 1 + 1 = secsN cs by omega] at this
    | succ t ih =>
      intro ht
      have h3 := ih (by omega)
      have h4 := hm (secsN cs + t) (by omega)
      rw [Nat.add_assoc, stU_addN] at h4
      rw [mxU_succ]
      omega
  have h3 := h2 (secsN cs) (Nat.le_refl _)
  unfold holdsB
  rw [st_two, h1, h1]
  have : cyMx (heatI f) cs (cySt (heatI f) cs 0) < f.melt := h3
  simp [this]
theorem stH_range {f : Fu} (hf : f.Ok) {cs : List Cu} (hok : cycOk cs = true) {r : Int} (hr : 0 ≤ r) (s : Nat) : 0 ≤ stU (heatI f) cs r s ∧ stU (heatI f) cs r s ≤ r + 250000 * s := by
  induction s with
  | zero => rw [stU_zero]; omega
  | succ s ih =>
    rw [stU_succ]
    have ha := ampAt_range hok s
    have := heatI_range f (stU (heatI f) cs r s) (ampAt cs s) hf.rating0 hf.rating1 ih.1 ha.1 ha.2
    omega
theorem sumU_range {f : Fu} (hf : f.Ok) {cs : List Cu} (hok : cycOk cs = true) (s : Nat) : -250000 * s ≤ sumU f cs s ∧ sumU f cs s ≤ 250000 * s := by
  induction s with
  | zero => unfold sumU; omega
  | succ s ih =>
    have ha := ampAt_range hok s
    obtain ⟨p1, p2⟩ := mul_range ha.1 ha.2 ha.1 ha.2
    obtain ⟨p3, p4⟩ := mul_range hf.rating0 hf.rating1 hf.rating0 hf.rating1
    unfold sumU
    omega

set_option maxRecDepth 100000 in
set_option maxHeartbeats 4000000 in
theorem holds_any (f : Fu) (v : Value) (cs : List Cu) (w : World) (hf : f.Ok) (hok : cycOk cs = true) (h : Cyc w w.heap.size v cs) :
    Calls Try.prog 60 #[.agg #[.int .i64 f.rating, .int .i64 f.melt], v] w fun e w' => e = .returned (.bool (holdsB f cs)) ∧ Below w.heap.size w w' := by
  have H := hide h
  obtain ⟨A0, cap0, rfl⟩ := h.form
  clear h
  have HF := hide hf
  have HOK := hide hok
  have hN := secsN_le hok
  have hN1 := secsN_pos hok
  clear hf hok
  have hq : (2 * (secsN cs : Int)).toNat = 2 * secsN cs := by omega
  go_enter Try.func60, Try.ntmps60
  go_wp2_with fail
  obtain ⟨w0, hw0⟩ : ∃ w0 : World, (w.alloc (.cells #[.int .i64 f.rating, .int .i64 f.melt] 30)).alloc (.cells #[.int .i64 f.rating, .int .i64 f.melt, .int .i64 0] 119) = w0 := ⟨_, rfl⟩
  have hf0 : FuseAt w0 w.heap.size f := by unfold FuseAt; rw [← hw0, heap_old _ _ _ (by simp), heap_new _ _ _ rfl]
  have hl0 : LinkAt w0 (w.heap.size + 1) f 0 := by unfold LinkAt; rw [← hw0, heap_new _ _ _ (by simp)]
  have hB0 : Below w.heap.size w w0 := by rw [← hw0]; exact (by repeat (first | exact Below.refl _ _ | assumption | refine Below.drew ?_ | refine Below.drewN ?_ _ | refine Below.allocT ?_ (Nat.le_refl _) _ | refine Below.setCell ?_ (by simp <;> omega) _ | refine Below.to ?_ (by assumption) (Nat.le_refl _)))
  have hs0 : w0.heap.size = w.heap.size + 2 := by rw [← hw0]; simp
  have HF0 := hide hf0
  have HL0 := hide hl0
  have HB0 := hide hB0
  rw [hw0]
  clear hf0 hl0 hw0 hB0
  refine (long_any _ cs _ HOK.out ((H.out.below HB0.out).more (by omega))).mono ?_
  rintro e w1 ⟨rfl, hB1⟩
  have HB1 := hide hB1
  clear hB1
  have HL1 : Hid (LinkAt w1 (w.heap.size + 1) f 0) := box_to HL0.out HB1.out
  have HF1 : Hid (FuseAt w1 w.heap.size f) := box_to HF0.out HB1.out
  have HW1 : Hid (Below w.heap.size w w1) := Below.to HB0.out HB1.out (by omega)
  have hs1 : w.heap.size + 2 ≤ w1.heap.size := by have := HB1.out.size; omega
  have HC1 : Hid (Cyc w1 (w.heap.size + 1) (.slice A0 cs.length cap0) cs) := (H.out.below HW1.out).more (by omega)
  clear hs0
  go_wp2_with fail
  refine (runLink_any (w.heap.size + 1) f 0 (2 * (secsN cs : Int)) _ cs w1 HL1.out (by omega) HOK.out HC1.out (by omega) (by omega) HF.out.rating0 HF.out.rating1 (by omega) (by omega)).mono ?_
  rw [hq]
  rintro e w2 ⟨rfl, hl2, hg2⟩
  have hst := stH_range HF.out HOK.out (Int.le_refl 0) (2 * secsN cs)
  obtain ⟨x, hx⟩ : ∃ x, stU (heatI f) cs 0 (2 * secsN cs) = x := ⟨_, rfl⟩
  rw [show runSt (heatI f) 0 (ups cs (2 * secsN cs)) = x from hx] at hl2
  rw [hx] at hst
  obtain ⟨hx0, hx1⟩ := hst
  have HX := hide hx
  have HL2 := hide hl2
  have HG2 := hide hg2
  have c0 : w2.cell? ⟨w.heap.size + 1, 2, none⟩ = some (.int .i64 x) := cellOf hl2 2
  clear hx hl2 hg2
  have hs2 : w1.heap.size ≤ w2.heap.size := HG2.out.size
  have HW2 : Hid (Below w.heap.size w w2) := below_only HW1.out HG2.out (by omega)
  have HF2 : Hid (FuseAt w2 w.heap.size f) := (HG2.out.block _ (by omega) (by intro e; injection e; omega)).trans HF1.out
  have HC2 : Hid (Cyc w2 (w.heap.size + 1) (.slice A0 cs.length cap0) cs) := HC1.out.grown HG2.out (by omega)
  have d0 := cellOf HF2.out 0
  have d1 : w2.cell? ⟨w.heap.size, 1, none⟩ = some (.int .i64 f.melt) := cellOf HF2.out 1
  go_wp2_with fail
  obtain ⟨mx, hmx⟩ : ∃ mx, cyMx (heatI f) cs x = mx := ⟨_, rfl⟩
  obtain ⟨y, hy⟩ : ∃ y, cySt (heatI f) cs x = y := ⟨_, rfl⟩
  have HMX := hide hmx
  have HY := hide hy
  have HB : Hid (holdsB f cs = (decide (mx < f.melt) && decide (y = x))) := by
    show _ = _
    unfold holdsB
    rw [HX.out, HMX.out, HY.out]
  clear hmx hy
  have hrun : ∀ w', w' = w2.drew → Calls Try.prog 65 #[.iface 117 (.pointer (some ⟨w.heap.size + 1, 0, none⟩)), .slice A0 cs.length cap0, .int .i64 (secsN cs : Int)] w' fun e w'' => e = .returned (.int .i64 mx) ∧ (w''.cell? ⟨w.heap.size, 1, none⟩ = some (.int .i64 f.melt) ∧ w''.cell? ⟨w.heap.size + 1, 2, none⟩ = some (.int .i64 y)) ∧ Below w.heap.size w w'' := by
    rintro _ rfl
    refine (runLink_any (w.heap.size + 1) f x (secsN cs : Int) _ cs w2.drew HL2.out (show w.heap.size + 1 < w2.heap.size by omega) HOK.out (HC2.out.below (Below.drew (Below.refl _ _))) (by omega) (by omega) HF.out.rating0 HF.out.rating1 hx0 (by omega)).mono ?_
    rw [Int.toNat_natCast]
    rintro e w3 ⟨rfl, hl3, hg3⟩
    refine ⟨ret_int HMX.out, ⟨cellOf ((hg3.block _ (show w.heap.size < w2.heap.size by omega) (by intro e; injection e; omega)).trans HF2.out) 1, ?_⟩, below_only (Below.drew HW2.out) hg3 (by omega)⟩
    rw [show runSt (heatI f) x (ups cs (secsN cs)) = y from HY.out] at hl3
    exact cellOf hl3 2
  have HRUN := hide hrun
  clear hrun
  clear d0
  by_cases hm : mx < f.melt
  · have hyx1 : (y == x) = decide (y = x) := by by_cases h : y = x <;> simp [h]
    go_region_with (go_at_call 65; refine (HRUN.out _ rfl).mono ?_; rintro e w3 ⟨rfl, ⟨hc3, hc4⟩, hB3⟩)
    all_goals
      go_wp2_with fail
      go_ret
      exact ⟨ret_bool (by rw [HB.out]; simp [hm]), hB3⟩
  · have HM := hide hm
    have hm3 : decide (mx < f.melt) = false := by simpa using hm
    first
      | go_region_with (go_at_call 65; refine (HRUN.out _ rfl).mono ?_; rintro e w3 ⟨rfl, ⟨hc3, hc4⟩, hB3⟩)
      | fail
    all_goals
      go_wp2_with fail
      go_ret
      exact ⟨ret_bool (by rw [HB.out, show decide (mx < f.melt) = false from by simpa using HM.out]; rfl), hB3⟩
end Go.Proofs.Ytejjjijaojkohaa
/- Fuses that hold: the reference's walk; Holds. -/
namespace Go.Proofs.Ytejjjijaojkohaa
open Go.RowKit
set_option linter.unusedVariables false

set_option maxRecDepth 100000 in
set_option maxHeartbeats 2000000 in
theorem rholds_any (f : Fu) (v : Value) (cs : List Cu) (w : World) (hf : f.Ok) (hok : cycOk cs = true) (h : Cyc w w.heap.size v cs) :
    Calls Try.prog 62 #[.agg #[.int .i64 f.rating, .int .i64 f.melt], v] w fun e w' => e = .returned (.bool (holdsB f cs)) ∧ Below w.heap.size w w' := by
  have H := hide h
  obtain ⟨A0, cap0, rfl⟩ := h.form
  clear h
  have HF := hide hf
  have HOK := hide hok
  obtain ⟨p3, p4⟩ := mul_range hf.rating0 hf.rating1 hf.rating0 hf.rating1
  have hm0 := hf.melt0
  have hm1 := hf.melt1
  clear hf hok
  go_enter Try.func62, Try.ntmps62
  go_wp2_with fail
  refine (seconds_any _ cs _ HOK.out ((H.out.below (by repeat (first | exact Below.refl _ _ | assumption | refine Below.drew ?_ | refine Below.drewN ?_ _ | refine Below.allocT ?_ (Nat.le_refl _) _ | refine Below.setCell ?_ (by simp <;> omega) _ | refine Below.to ?_ (by assumption) (Nat.le_refl _)))).more (by simp))).mono ?_
  rintro e w3 ⟨v3, rfl, hown, hB3⟩
  have hGb := box_at hB3
  have hW3 : Below w.heap.size w w3 := (by repeat (first | exact Below.refl _ _ | assumption | refine Below.drew ?_ | refine Below.drewN ?_ _ | refine Below.allocT ?_ (Nat.le_refl _) _ | refine Below.setCell ?_ (by simp <;> omega) _ | refine Below.to ?_ (by assumption) (Nat.le_refl _)))
  have hs3 := box_lt hGb
  have hposN := secsN_pos HOK.out
  have hleN := secsN_le HOK.out
  obtain ⟨A, b, off, cap, hv3, hcp, hA, hc⟩ := Ints.of_owns hown
  have HC := hide hc; clear hc
  have HA := hide hA; clear hA
  have HGB := hide hGb; clear hGb
  rw [hv3]
  clear hB3 hv3 hcp hown
  go_wp2
  go_loopw [6, 7] (fun sum s wr => ∃ (k : Nat) (x : Int), k ≤ secsN cs ∧ s = .int .i64 k ∧ sum = .int .i64 x ∧ Hid (sumU f cs k = x) ∧ Below w3.heap.size w3 wr) (fun _ s _ => secsN cs - (intOf s).toNat)
  case atStart => exact ⟨0, 0, Nat.zero_le _, rfl, rfl, rfl, Below.refl _ _⟩
  case round =>
    obtain ⟨k, x, hk, rfl, rfl, hx, hB⟩ := hrel
    have hxr := sumU_range HF.out HOK.out k
    rw [hx.out] at hxr
    obtain ⟨hx0, hx1⟩ := hxr
    by_cases hlt : k < secsN cs
    · obtain ⟨z, hz, hA1, hA2, hcz⟩ := intAt (k := k) hB HA.out HC.out hlt
      subst hA1
      have hGr := (hB.block _ hs3).trans HGB.out
      have q0 := cellOf hGr 0
      clear hGr
      have hz2 : ampAt cs k = z := (ampAt_lt hlt).trans hz.out
      have hzr := ampAt_range HOK.out k
      rw [hz2] at hzr
      obtain ⟨hz3, hz4⟩ := hzr
      have HZ2 := hide hz2
      clear hz2
      obtain ⟨p1, p2⟩ := mul_range hz3 hz4 hz3 hz4
      go_wp2
      go_region
      go_wp2
      go_roundw
      case rel => exact ⟨k + 1, x + z * z - f.rating * f.rating, by omega, by go_num, congrArg (Value.int IntKind.i64) (by first | rfl | omega), (by show _ = _; rw [show sumU f cs (k + 1) = sumU f cs k + ampAt cs k * ampAt cs k - f.rating * f.rating from rfl, hx.out, HZ2.out]), (by repeat (first | exact Below.refl _ _ | assumption | refine Below.drew ?_ | refine Below.drewN ?_ _ | refine Below.allocT ?_ (Nat.le_refl _) _ | refine Below.setCell ?_ (by simp <;> omega) _ | refine Below.to ?_ (by assumption) (Nat.le_refl _)))⟩
      case measure => simp [intOf]; omega
    · have hkN : k = secsN cs := by omega
      subst hkN
      by_cases hpos : 0 < x
      · go_wp2
        go_ret
        exact ⟨ret_bool (holds_sum (by rw [hx.out]; exact hpos)).symm, hW3.trans (hB.mono hW3.size)⟩
      · have hle : x ≤ 0 := by omega
        have HLE := hide (show sumU f cs (secsN cs) ≤ 0 by rw [hx.out]; exact hle)
        go_wp2
        obtain ⟨wo, hwo⟩ : ∃ wo : World, wo = wr := ⟨_, rfl⟩
        go_loopw [8, 9, 10] (fun heat s _ wr => ∃ (k : Nat) (x : Int), k ≤ 2 * secsN cs ∧ s = .int .i64 k ∧ heat = .int .i64 x ∧ Hid (stU (heatI f) cs 0 k = x) ∧ 0 ≤ x ∧ x < f.melt ∧ Hid (∀ j : Nat, j < k → stU (heatI f) cs 0 (j + 1) < f.melt) ∧ Below w3.heap.size w3 wr) (fun _ s _ _ => 2 * secsN cs - (intOf s).toNat)
        case atStart => exact ⟨0, 0, Nat.zero_le _, rfl, rfl, rfl, by omega, by omega, fun j hj => absurd hj (by omega), hB⟩
        case round =>
          obtain ⟨k, y, hk, rfl, rfl, hy, hy0, hy1, hall, hB2⟩ := hrel
          by_cases hlt : k < 2 * secsN cs
          · obtain ⟨p, hp, hpl, htm, hN0⟩ : ∃ p, Hid (k % secsN cs = p) ∧ p < secsN cs ∧ Int.tmod (k : Int) (secsN cs : Int) = (p : Int) ∧ ¬ secsN cs = 0 :=
              ⟨_, rfl, Nat.mod_lt _ hposN, by rw [Int.tmod_eq_emod_of_nonneg (by omega)]; rfl, by omega⟩
            obtain ⟨z, hz, hA1, hA2, hcz⟩ := intAt (k := p) hB2 HA.out HC.out hpl
            subst hA1
            have hGr := (hB2.block _ hs3).trans HGB.out
            have q0 := cellOf hGr 0
            have q1 := cellOf hGr 1
            clear hGr
            have hz2 : ampAt cs k = z := by unfold ampAt; rw [hp.out]; exact hz.out
            have hzr := ampAt_range HOK.out k
            rw [hz2] at hzr
            obtain ⟨hz3, hz4⟩ := hzr
            obtain ⟨p1, p2⟩ := mul_range hz3 hz4 hz3 hz4
            have hst : stU (heatI f) cs 0 (k + 1) = max 0 (y + z * z - f.rating * f.rating) := by rw [stU_succ, hy.out, hz2]; rfl
            have HST := hide hst
            clear hz2 hst
            by_cases hneg : 0 ≤ y + z * z - f.rating * f.rating
            · by_cases hmelt : f.melt ≤ y + z * z - f.rating * f.rating
              · go_wp2
                go_ret
                exact ⟨ret_bool (holds_melts HLE.out hlt (by rw [HST.out]; omega)).symm, hW3.trans (hB2.mono hW3.size)⟩
              · go_wp2
                go_roundw
                case rel => exact ⟨k + 1, y + z * z - f.rating * f.rating, by omega, by go_num, congrArg (Value.int IntKind.i64) (by first | rfl | omega | (split <;> omega)), (by show _ = _; rw [HST.out]; omega), hneg, by omega, (fun j hj => by
                    rcases Nat.lt_or_ge j k with h | h
                    · exact hall.out j h
                    · rw [show j = k from by omega, HST.out]; omega), hB2⟩
                case measure => simp [intOf]; omega
            · go_wp2
              go_roundw
              case rel => exact ⟨k + 1, 0, by omega, by go_num, congrArg (Value.int IntKind.i64) (by first | rfl | omega | (split <;> omega)), (by show _ = _; rw [HST.out]; omega), by omega, by omega, (fun j hj => by
                    rcases Nat.lt_or_ge j k with h | h
                    · exact hall.out j h
                    · rw [show j = k from by omega, HST.out]; omega), hB2⟩
              case measure => simp [intOf]; omega
          · go_wp2
            go_ret
            exact ⟨ret_bool (holds_cool HLE.out hposN (fun s hs => hall.out s (by omega))).symm, hW3.trans (hB2.mono hW3.size)⟩
end Go.Proofs.Ytejjjijaojkohaa

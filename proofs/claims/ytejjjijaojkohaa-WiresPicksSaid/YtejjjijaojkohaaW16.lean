/- Fuses that hold: the plain law and both walks. -/
import Derived.Test.YtejjjijaojkohaaRows
import Derived.Test.YtejjjijaojkohaaW14
import Derived.Test.YtejjjijaojkohaaW7L
import Derived.Test.YtejjjijaojkohaaW11
import Derived.Test.YtejjjijaojkohaaW12
import Derived.Deep.RegionHeld3
import Derived.Deep.RegionWith
namespace Go.Proofs.Ytejjjijaojkohaa
open Go.RowKit
set_option linter.unusedVariables false

theorem stU_addN (f : Int → Int → Int) (cs : List Cu) (r : Int) : ∀ t, stU f cs r (secsN cs + t) = stU f cs (cySt f cs r) t
  | 0 => rfl
  | t + 1 => by
    rw [← Nat.add_assoc, stU_succ, stU_succ, stU_addN f cs r t]
    unfold ampAt
    rw [Nat.add_mod_left]

/-- What one cycle would add to the heat if it could fall below zero. -/
def sumU (f : Fu) (cs : List Cu) : Nat → Int
  | 0 => 0
  | s + 1 => sumU f cs s + ampAt cs s * ampAt cs s - f.rating * f.rating
theorem stU_shift (f : Fu) (cs : List Cu) {h : Int} (hh : 0 ≤ h) : ∀ s, stU (heatI f) cs h s = max (h + sumU f cs s) (stU (heatI f) cs 0 s)
  | 0 => by rw [stU_zero, stU_zero]; unfold sumU; omega
  | s + 1 => by
    rw [stU_succ, stU_succ, stU_shift f cs hh s]
    obtain ⟨u, hu⟩ : ∃ u, stU (heatI f) cs 0 s = u := ⟨_, rfl⟩
    rw [hu, show sumU f cs (s + 1) = sumU f cs s + ampAt cs s * ampAt cs s - f.rating * f.rating from rfl]
    unfold heatI
    omega
theorem stH_nonneg (f : Fu) (cs : List Cu) {h : Int} (hh : 0 ≤ h) : ∀ s, 0 ≤ stU (heatI f) cs h s
  | 0 => hh
  | s + 1 => by rw [stU_succ]; unfold heatI; omega

/-- A fuse never opens under a cycle. -/
def holdsB (f : Fu) (cs : List Cu) : Bool := decide (cyMx (heatI f) cs (stU (heatI f) cs 0 (2 * secsN cs)) < f.melt) && decide (cySt (heatI f) cs (stU (heatI f) cs 0 (2 * secsN cs)) = stU (heatI f) cs 0 (2 * secsN cs))

theorem st_two (f : Fu) (cs : List Cu) : stU (heatI f) cs 0 (2 * secsN cs) = cySt (heatI f) cs (cySt (heatI f) cs 0) := by
  rw [Nat.two_mul, stU_addN]; rfl
theorem cyH (f : Fu) (cs : List Cu) {h : Int} (hh : 0 ≤ h) : cySt (heatI f) cs h = max (h + sumU f cs (secsN cs)) (cySt (heatI f) cs 0) := stU_shift f cs hh _
theorem holds_sum {f : Fu} {cs : List Cu} (h : 0 < sumU f cs (secsN cs)) : holdsB f cs = false := by
  have h0 := cyH f cs (h := 0) (by omega)
  have hc : 0 ≤ cySt (heatI f) cs 0 := stH_nonneg f cs (by omega) _
  have h1 := cyH f cs hc
  have h2 := cyH f cs (h := cySt (heatI f) cs (cySt (heatI f) cs 0)) (stH_nonneg f cs hc _)
  unfold holdsB
  rw [st_two]
  have : ¬ (cySt (heatI f) cs (cySt (heatI f) cs (cySt (heatI f) cs 0)) = cySt (heatI f) cs (cySt (heatI f) cs 0)) := by omega
  simp [this]
theorem cy_stays {f : Fu} {cs : List Cu} (h : sumU f cs (secsN cs) ≤ 0) : cySt (heatI f) cs (cySt (heatI f) cs 0) = cySt (heatI f) cs 0 := by
  have hc : 0 ≤ cySt (heatI f) cs 0 := stH_nonneg f cs (by omega) _
  have h1 := cyH f cs hc
  omega
theorem holds_melts {f : Fu} {cs : List Cu} (h : sumU f cs (secsN cs) ≤ 0) {s : Nat} (hs : s < 2 * secsN cs) (hm : f.melt ≤ stU (heatI f) cs 0 (s + 1)) : holdsB f cs = false := by
  have h1 := cy_stays h
  have hc : 0 ≤ cySt (heatI f) cs 0 := stH_nonneg f cs (by omega) _
  have h2 : f.melt ≤ cyMx (heatI f) cs (cySt (heatI f) cs 0) := by
    rcases Nat.lt_or_ge (secsN cs) (s + 1) with hlt | hge
    · obtain ⟨t, ht⟩ : ∃ t, s + 1 = secsN cs + t := ⟨s + 1 - secsN cs, by omega⟩
      rw [ht, stU_addN] at hm
      exact Int.le_trans hm (st_le_mxU' _ _ _ (by omega))
    · have h3 := stU_mono (heatI_mono f) (cs := cs) hc (s + 1)
      exact Int.le_trans (Int.le_trans hm h3) (st_le_mxU' _ _ _ hge)
  unfold holdsB
  rw [st_two, h1]
  have : ¬ (cyMx (heatI f) cs (cySt (heatI f) cs 0) < f.melt) := by omega
  simp [this]
theorem holds_cool {f : Fu} {cs : List Cu} (h : sumU f cs (secsN cs) ≤ 0) (hN : 1 ≤ secsN cs) (hm : ∀ s : Nat, s < 2 * secsN cs → stU (heatI f) cs 0 (s + 1) < f.melt) : holdsB f cs = true := by
  have h1 := cy_stays h
  have h2 : ∀ t, t ≤ secsN cs → mxU (heatI f) cs (cySt (heatI f) cs 0) t < f.melt := by
    intro t
    induction t with
    | zero =>
      intro _
      rw [mxU_zero]
      have := hm (secsN cs - 1) (by omega)
      rwa [show secsN cs - 1 + 1 = secsN cs by omega] at this
    | succ t ih =>
      intro ht
      have h3 := ih (by omega)
      have h4 := hm (secsN cs + t) (by omega)
      rw [Nat.add_assoc, stU_addN] at h4
      rw [mxU_succ]
      omega
  have h3 := h2 (secsN cs) (Nat.le_refl _)
  unfold holdsB
  rw [st_two, h1, h1]
  have : cyMx (heatI f) cs (cySt (heatI f) cs 0) < f.melt := h3
  simp [this]
theorem stH_range {f : Fu} (hf : f.Ok) {cs : List Cu} (hok : cycOk cs = true) {r : Int} (hr : 0 ≤ r) (s : Nat) : 0 ≤ stU (heatI f) cs r s ∧ stU (heatI f) cs r s ≤ r + 250000 * s := by
  induction s with
  | zero => rw [stU_zero]; omega
  | succ s ih =>
    rw [stU_succ]
    have ha := ampAt_range hok s
    have := heatI_range f (stU (heatI f) cs r s) (ampAt cs s) hf.rating0 hf.rating1 ih.1 ha.1 ha.2
    omega
theorem sumU_range {f : Fu} (hf : f.Ok) {cs : List Cu} (hok : cycOk cs = true) (s : Nat) : -250000 * s ≤ sumU f cs s ∧ sumU f cs s ≤ 250000 * s := by
  induction s with
  | zero => unfold sumU; omega
  | succ s ih =>
    have ha := ampAt_range hok s
    obtain ⟨p1, p2⟩ := mul_range ha.1 ha.2 ha.1 ha.2
    obtain ⟨p3, p4⟩ := mul_range hf.rating0 hf.rating1 hf.rating0 hf.rating1
    unfold sumU
    omega

set_option maxRecDepth 100000 in
set_option maxHeartbeats 4000000 in
theorem holds_any (f : Fu) (v : Value) (cs : List Cu) (w : World) (hf : f.Ok) (hok : cycOk cs = true) (h : Cyc w w.heap.size v cs) :
    Calls Try.prog 60 #[.agg #[.int .i64 f.rating, .int .i64 f.melt], v] w fun e w' => e = .returned (.bool (holdsB f cs)) ∧ Below w.heap.size w w' := by
  have H := hide h
  obtain ⟨A0, cap0, rfl⟩ := h.form
  clear h
  have HF := hide hf
  have HOK := hide hok
  have hN := secsN_le hok
  have hN1 := secsN_pos hok
  clear hf hok
  have hq : (2 * (secsN cs : Int)).toNat = 2 * secsN cs := by omega
  go_enter Try.func60, Try.ntmps60
  go_wp2_with fail
  obtain ⟨w0, hw0⟩ : ∃ w0 : World, (w.alloc (.cells #[.int .i64 f.rating, .int .i64 f.melt] 30)).alloc (.cells #[.int .i64 f.rating, .int .i64 f.melt, .int .i64 0] 119) = w0 := ⟨_, rfl⟩
  have hf0 : FuseAt w0 w.heap.size f := by unfold FuseAt; rw [← hw0, heap_old _ _ _ (by simp), heap_new _ _ _ rfl]
  have hl0 : LinkAt w0 (w.heap.size + 1) f 0 := by unfold LinkAt; rw [← hw0, heap_new _ _ _ (by simp)]
  have hB0 : Below w.heap.size w w0 := by rw [← hw0]; exact (by repeat (first | exact Below.refl _ _ | assumption | refine Below.drew ?_ | refine Below.drewN ?_ _ | refine Below.allocT ?_ (Nat.le_refl _) _ | refine Below.setCell ?_ (by simp <;> omega) _ | refine Below.to ?_ (by assumption) (Nat.le_refl _)))
  have hs0 : w0.heap.size = w.heap.size + 2 := by rw [← hw0]; simp
  have HF0 := hide hf0
  have HL0 := hide hl0
  have HB0 := hide hB0
  rw [hw0]
  clear hf0 hl0 hw0 hB0
  refine (long_any _ cs _ HOK.out ((H.out.below HB0.out).more (by omega))).mono ?_
  rintro e w1 ⟨rfl, hB1⟩
  have HB1 := hide hB1
  clear hB1
  have HL1 : Hid (LinkAt w1 (w.heap.size + 1) f 0) := box_to HL0.out HB1.out
  have HF1 : Hid (FuseAt w1 w.heap.size f) := box_to HF0.out HB1.out
  have HW1 : Hid (Below w.heap.size w w1) := Below.to HB0.out HB1.out (by omega)
  have hs1 : w.heap.size + 2 ≤ w1.heap.size := by have := HB1.out.size; omega
  have HC1 : Hid (Cyc w1 (w.heap.size + 1) (.slice A0 cs.length cap0) cs) := (H.out.below HW1.out).more (by omega)
  clear hs0
  go_wp2_with fail
  refine (runLink_any (w.heap.size + 1) f 0 (2 * (secsN cs : Int)) _ cs w1 HL1.out (by omega) HOK.out HC1.out (by omega) (by omega) HF.out.rating0 HF.out.rating1 (by omega) (by omega)).mono ?_
  rw [hq]
  rintro e w2 ⟨rfl, hl2, hg2⟩
  have hst := stH_range HF.out HOK.out (Int.le_refl 0) (2 * secsN cs)
  obtain ⟨x, hx⟩ : ∃ x, stU (heatI f) cs 0 (2 * secsN cs) = x := ⟨_, rfl⟩
  rw [show runSt (heatI f) 0 (ups cs (2 * secsN cs)) = x from hx] at hl2
  rw [hx] at hst
  obtain ⟨hx0, hx1⟩ := hst
  have HX := hide hx
  have HL2 := hide hl2
  have HG2 := hide hg2
  have c0 : w2.cell? ⟨w.heap.size + 1, 2, none⟩ = some (.int .i64 x) := cellOf hl2 2
  clear hx hl2 hg2
  have hs2 : w1.heap.size ≤ w2.heap.size := HG2.out.size
  have HW2 : Hid (Below w.heap.size w w2) := below_only HW1.out HG2.out (by omega)
  have HF2 : Hid (FuseAt w2 w.heap.size f) := (HG2.out.block _ (by omega) (by intro e; injection e; omega)).trans HF1.out
  have HC2 : Hid (Cyc w2 (w.heap.size + 1) (.slice A0 cs.length cap0) cs) := HC1.out.grown HG2.out (by omega)
  have d0 := cellOf HF2.out 0
  have d1 : w2.cell? ⟨w.heap.size, 1, none⟩ = some (.int .i64 f.melt) := cellOf HF2.out 1
  go_wp2_with fail
  obtain ⟨mx, hmx⟩ : ∃ mx, cyMx (heatI f) cs x = mx := ⟨_, rfl⟩
  obtain ⟨y, hy⟩ : ∃ y, cySt (heatI f) cs x = y := ⟨_, rfl⟩
  have HMX := hide hmx
  have HY := hide hy
  have HB : Hid (holdsB f cs = (decide (mx < f.melt) && decide (y = x))) := by
    show _ = _
    unfold holdsB
    rw [HX.out, HMX.out, HY.out]
  clear hmx hy
  have hrun : ∀ w', w' = w2.drew → Calls Try.prog 65 #[.iface 117 (.pointer (some ⟨w.heap.size + 1, 0, none⟩)), .slice A0 cs.length cap0, .int .i64 (secsN cs : Int)] w' fun e w'' => e = .returned (.int .i64 mx) ∧ (w''.cell? ⟨w.heap.size, 1, none⟩ = some (.int .i64 f.melt) ∧ w''.cell? ⟨w.heap.size + 1, 2, none⟩ = some (.int .i64 y)) ∧ Below w.heap.size w w'' := by
    rintro _ rfl
    refine (runLink_any (w.heap.size + 1) f x (secsN cs : Int) _ cs w2.drew HL2.out (show w.heap.size + 1 < w2.heap.size by omega) HOK.out (HC2.out.below (Below.drew (Below.refl _ _))) (by omega) (by omega) HF.out.rating0 HF.out.rating1 hx0 (by omega)).mono ?_
    rw [Int.toNat_natCast]
    rintro e w3 ⟨rfl, hl3, hg3⟩
    refine ⟨ret_int HMX.out, ⟨cellOf ((hg3.block _ (show w.heap.size < w2.heap.size by omega) (by intro e; injection e; omega)).trans HF2.out) 1, ?_⟩, below_only (Below.drew HW2.out) hg3 (by omega)⟩
    rw [show runSt (heatI f) x (ups cs (secsN cs)) = y from HY.out] at hl3
    exact cellOf hl3 2
  have HRUN := hide hrun
  clear hrun
  clear d0
  by_cases hm : mx < f.melt
  · have hyx1 : (y == x) = decide (y = x) := by by_cases h : y = x <;> simp [h]
    go_region_with (go_at_call 65; refine (HRUN.out _ rfl).mono ?_; rintro e w3 ⟨rfl, ⟨hc3, hc4⟩, hB3⟩)
    all_goals
      go_wp2_with fail
      go_ret
      exact ⟨ret_bool (by rw [HB.out]; simp [hm]), hB3⟩
  · have HM := hide hm
    have hm3 : decide (mx < f.melt) = false := by simpa using hm
    first
      | go_region_with (go_at_call 65; refine (HRUN.out _ rfl).mono ?_; rintro e w3 ⟨rfl, ⟨hc3, hc4⟩, hB3⟩)
      | fail
    all_goals
      go_wp2_with fail
      go_ret
      exact ⟨ret_bool (by rw [HB.out, show decide (mx < f.melt) = false from by simpa using HM.out]; rfl), hB3⟩
end Go.Proofs.Ytejjjijaojkohaa

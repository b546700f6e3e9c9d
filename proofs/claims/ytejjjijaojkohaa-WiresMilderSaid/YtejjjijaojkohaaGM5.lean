/- Part 5 of this claim's texts: walks and plain laws. -/
import Derived.Test.YtejjjijaojkohaaRows
import Derived.Test.YtejjjijaojkohaaGM4
import Derived.Deep.CutRange
import Derived.BigRegion
import Derived.IntWalk
import Derived.Deep.RegionHeld3
import Derived.Deep.DrawnRows
/- WiresMilder: the walk. -/
namespace Go.Proofs.Ytejjjijaojkohaa
open Go.RowKit
set_option linter.unusedVariables false
set_option linter.unusedSimpArgs false
attribute [local go_sem ↓] Go.wp_at_zero Go.wp_at_succ

theorem min_ifs (a l : Int) : (if (if 0 < a then a else 0) < (if 0 < l then l else 0) then (if 0 < a then a else 0) else (if 0 < l then l else 0)) = min (max 0 l) (max 0 a) := by
  by_cases h1 : 0 < a
  · by_cases h2 : 0 < l
    · rw [if_pos h1, if_pos h2]; split <;> omega
    · rw [if_pos h1, if_neg h2]; split <;> omega
  · by_cases h2 : 0 < l
    · rw [if_neg h1, if_pos h2]; split <;> omega
    · rw [if_neg h1, if_neg h2]; split <;> omega
theorem wrap_new0 {a l : Int} (h1 : -9223372036854775808 ≤ a) (h2 : a ≤ 9223372036854775807) : wrap64 (a - min (max 0 l) (max 0 a)) = a - min (max 0 l) (max 0 a) := by
  obtain ⟨m, hm⟩ : ∃ m, min (max 0 l) (max 0 a) = m := ⟨_, rfl⟩
  have h3 : 0 ≤ m := by omega
  have h4 : m ≤ max 0 a := by omega
  rw [hm]
  clear hm
  refine Go.IntWalk.wrap64_in _ ⟨?_, ?_⟩
  · rcases Int.le_total a 0 with h | h
    · rw [Int.max_eq_left h] at h4; omega
    · rw [Int.max_eq_right h] at h4; omega
  · omega
theorem wrap_new {a l : Int} (ha : I64 a) : wrap64 (a - (if (if 0 < a then a else 0) < (if 0 < l then l else 0) then (if 0 < a then a else 0) else (if 0 < l then l else 0))) = a - min (max 0 l) (max 0 a) := by
  rw [min_ifs]
  exact wrap_new0 ha.1 ha.2

set_option maxRecDepth 100000 in
set_option maxHeartbeats 4000000 in
theorem wiresMilder_walk (g : Ga) (f : Fu) (n : Ne) (v lv : Value) (cs : List Cu) (ls : List Int) (w : World) (hm : cs.length ≤ maxLen) (hlm : ls.length ≤ maxLen) (hci : ∀ x ∈ cs, I64 x.amps ∧ I64 x.secs) (hli : ∀ i, i < ls.length → I64 (ls.getD i 0)) (hn1 : I64 n.len) (hn2 : I64 n.drop) (hn3 : I64 n.amb) (hL : IntsL w w.heap.size lv ls) (h : Cyc w w.heap.size v cs) :
    Calls Try.prog 9 #[.agg #[.int .i64 g.area, .int .i64 g.ohm, .int .i64 g.heat, .int .i64 g.cool, .int .i64 g.limit], .agg #[.int .i64 f.rating, .int .i64 f.melt], .agg #[v, .int .i64 n.len, .int .i64 n.drop, .int .i64 n.amb, lv]] w fun e w' => e = .returned (.bool true) ∧ Below w.heap.size w w' := by
  have H := hide h
  obtain ⟨A0, cap0, rfl⟩ := h.form
  obtain ⟨AL, bl, offl, capl, rfl, hncl, hAL, hcL⟩ := hL
  have HAL := hide hAL
  have HCL := hide hcL
  have HCI := hide hci
  have HLI := hide hli
  clear h hAL hcL hci hli
  have hlm2 : ls.length ≤ 9223372036854775807 := hlm
  by_cases hn : 20 < cs.length
  · have hd : decide (20 < cs.length) = true := by simpa using hn
    go_enter Try.func9, Try.ntmps9
    go_wp2_with (first
      | (go_at_call 18; refine (far_any _ _ _ _ _ rfl hm).mono ?_; rw [hd]; rintro e w1 ⟨rfl, rfl⟩)
      | (go_at_call 17; refine (works_any _).mono ?_; rintro e w3 ⟨rfl, hB3⟩))
    go_ret
    exact ⟨rfl, (by repeat (first | exact Below.refl _ _ | assumption | refine Below.drew ?_ | refine Below.drewN ?_ _ | refine Below.allocT ?_ (Nat.le_refl _) _ | refine Below.setCell ?_ (by simp <;> omega) _ | refine Below.to ?_ (by assumption) (Nat.le_refl _)))⟩
  have hd : decide (20 < cs.length) = false := by simpa using hn
  have hn' : cs.length ≤ 20 := by omega
  by_cases hln : 50 < ls.length
  · have hli : (50 : Int) < (ls.length : Int) := by omega
    go_enter Try.func9, Try.ntmps9
    go_wp2_with (first
      | (go_at_call 18; refine (far_any _ _ _ _ _ rfl hm).mono ?_; rw [hd]; rintro e w1 ⟨rfl, rfl⟩)
      | (go_at_call 17; refine (works_any _).mono ?_; rintro e w3 ⟨rfl, hB3⟩))
    go_ret
    exact ⟨rfl, (by repeat (first | exact Below.refl _ _ | assumption | refine Below.drew ?_ | refine Below.drewN ?_ _ | refine Below.allocT ?_ (Nat.le_refl _) _ | refine Below.setCell ?_ (by simp <;> omega) _ | refine Below.to ?_ (by assumption) (Nat.le_refl _)))⟩
  have hli : ¬ (50 : Int) < (ls.length : Int) := by omega
  have hln' : ls.length ≤ 50 := by omega
  go_enter Try.func9, Try.ntmps9
  go_upto_region 2 with (fail)
  generalize hw0 : World.alloc _ _ = w0
  obtain ⟨hbg, hbf, hbc, hbn, hB0, hs0⟩ := alloc4 hw0
  clear hw0
  have HG0 : Hid (GaugeAt w0 w.heap.size g) := hbg
  have HF0 : Hid (FuseAt w0 (w.heap.size + 1) f) := hbf
  have HC0 := hide hbc
  have HN0 : Hid (NeedAt w0 (w.heap.size + 3) (.slice A0 cs.length cap0) n) := hbn
  have c4 := cellOf hbc 4
  have n0 := cellOf hbn 0
  have n1 := cellOf hbn 1
  have n2 := cellOf hbn 2
  have n3 := cellOf hbn 3
  have HB0 := hide hB0
  have HS0 : Hid (w0.heap.size = w.heap.size + 4) := hs0
  have HY0 : Hid (Cyc w0 w0.heap.size (.slice A0 cs.length cap0) cs) := (H.out.below hB0).more hB0.size
  clear hbg hbf hbc hbn hB0 hs0 hn hln
  go_wp2_with (go_at_call 18; refine (far_any _ _ _ _ _ rfl hm).mono ?_; rw [hd]; rintro e w1 ⟨rfl, rfl⟩)
  refine (copyNeed_own n _ cs w0 hn' HY0.out).mono ?_
  rintro e w1 ⟨v1, rfl, ho1, hB1⟩
  obtain ⟨A1, cap1, rfl⟩ := owns_form ho1
  have HO1 := hide ho1
  have HB1 := hide hB1
  clear ho1 hB1 c4 n0 n1 n2 n3
  go_wp2_with fail
  generalize hw0 : World.alloc _ _ = w2
  obtain ⟨hb0, hB0, hs0⟩ := alloc1 hw0
  clear hw0
  have HM2 : Hid (NeedAt w2 w1.heap.size (.slice A1 cs.length cap1) n) := hb0
  have HB2 : Hid (Below w0.heap.size w0 w2) := Below.to HB1.out hB0 (Nat.le_refl _)
  have HX2 : Hid (CurX w0 w2 (.slice A1 cs.length cap1) cs) := CurX.of (owns_below HO1.out hB0)
  have HS1 : Hid (w0.heap.size ≤ w1.heap.size ∧ w2.heap.size = w1.heap.size + 1) := ⟨HB1.out.size, hs0⟩
  clear hb0 hB0 hs0
  go_loopw [9] (fun i wr => ∃ k : Nat, k ≤ cs.length ∧ i = .int .i64 k ∧ Hid (CurX w0 wr (.slice A1 cs.length cap1) (dsL cs ls k)) ∧ Hid (NeedAt wr w1.heap.size (.slice A1 cs.length cap1) n) ∧ Hid (Below w0.heap.size w0 wr)) (fun i _ => cs.length - (intOf i).toNat)
  case atStart =>
    have hds : dsL cs ls 0 = cs := by
      apply List.ext_getElem (dsL_len cs ls 0)
      intro i h1 h2
      have := dsL_get (cs := cs) (ls := ls) (k := 0) h2
      simp [dsAt] at this
      simpa [h1, h2] using this
    exact ⟨0, Nat.zero_le _, rfl, by rw [hds]; exact HX2.out, HM2.out, HB2.out⟩
  case round =>
    obtain ⟨k, hk, rfl, hX, hM, hB⟩ := hrel
    have hm0 : wr.cell? ⟨w1.heap.size, 0, none⟩ = some (.slice A1 cs.length cap1) := cellOf hM.out 0
    have hcr := heap_below HC0.out hB.out
    have hc4 : wr.cell? ⟨w.heap.size + 2, 4, none⟩ = some (.slice AL ls.length capl) := cellOf hcr 4
    have HCR := hide hcr
    clear hcr
    by_cases hlt : k < cs.length ∧ k < ls.length
    · obtain ⟨hk1, hk2⟩ := hlt
      rcases hX.out with ⟨h0, _⟩ | ⟨q, cap', C, hv, hnc, hq, hh, hs, hc⟩
      · rw [dsL_len] at h0; omega
      · rw [dsL_len] at hv hnc hs hc
        injection hv with e1 e2 e3
        subst e1 e3
        have hc0 := hc k 0 hk1 (by omega)
        have hc1 := hc k 1 hk1 (by omega)
        unfold cyF at hc0 hc1
        rw [dsL_get hk1, dsAt_now] at hc0 hc1
        obtain ⟨c, hce⟩ : ∃ c, cs.getD k Cu.z = c := ⟨_, rfl⟩
        obtain ⟨l, hle⟩ : ∃ l, ls.getD k 0 = l := ⟨_, rfl⟩
        have hci : I64 c.amps := by
          have hm' : cs.getD k Cu.z ∈ cs := by
            rw [List.getD_eq_getElem?_getD, List.getElem?_eq_getElem hk1]
            exact List.getElem_mem _
          rw [← hce]; exact (HCI.out _ hm').1
        have hli' : I64 l := by rw [← hle]; exact HLI.out k hk2
        rw [hce] at hc0 hc1
        have hq0 : wr.cell? ⟨q, k * 2, none⟩ = some (.int .i64 c.amps) := (cellOf hh _).trans hc0
        have hqf : wr.frozen? ⟨q, k * 2, none⟩ = false := unfrozenOf hh _
        have hll : wr.cell? ⟨bl, offl + k, none⟩ = some (.int .i64 l) ∧ AL = some ⟨bl, offl, none⟩ ∧ bl < w.heap.size := by
          rcases HAL.out with ⟨h1, h2⟩ | h1
          · have h3 := HCL.out k 0 hk2 (by omega)
            rw [Nat.mul_one, Nat.add_zero, hle] at h3
            exact ⟨((Below.to HB0.out hB.out (Nat.le_refl _)).cell (p := ⟨bl, offl + k, none⟩) h2).trans h3, h1, h2⟩
          · omega
        obtain ⟨hl1, hl2, hl3⟩ := hll
        subst hl2
        have HCI2 : Hid (I64 c.amps ∧ I64 l) := ⟨hci, hli'⟩
        obtain ⟨x, hx⟩ : ∃ x, c.amps - min (max 0 l) (max 0 c.amps) = x := ⟨_, rfl⟩
        have hxw : IntKind.i64.wrap (c.amps - min (max 0 l) (max 0 c.amps)) = x := by
          rw [hx]
          refine IntWalk.i64_in _ ?_
          have h1 := hci.1
          have h2 := hci.2
          omega
        have HXE := hide hx
        clear hx
        have hlq : q < wr.heap.size := box_lt hh
        have hlm0 : w1.heap.size < wr.heap.size := box_lt hM.out
        have hlc : w.heap.size + 2 < wr.heap.size := box_lt HCR.out
        have hlb : bl < wr.heap.size := by omega
        have hqm : ¬ w1.heap.size = q := fun e => by
          have h1 := hM.out
          unfold NeedAt at h1
          rw [e, hh] at h1
          injection h1 with h1
          injection h1 with _ h1
          exact absurd h1 (by decide)
        have hqc : ¬ w.heap.size + 2 = q := by have := HS0.out; omega
        have hqb : ¬ bl = q := by have := HS0.out; omega
        have HH := hide hh
        have HC := hide hc
        have HC1 := hide hc1
        have HCE := hide (And.intro hce hle)
        have hi0 : (0 : Int) ≤ (k : Int) := by omega
        have hi1 : (k : Int) < (cs.length : Int) := by omega
        have hi2 : (k : Int) < (ls.length : Int) := by omega
        clear hh hc hc0 hc1 hce hle hci hli'
        go_upto_region 8 with (fail)
        refine wp_region_held_drew (S := (fun w' => wr.grownBy w' (some q))) (by kernel_rfl) ?_ (fun hHeld => ?_)
        · try dsimp only
          (first | exact only_refl _ _ | assumption | exact only_drew (only_refl _ _) | exact hKeep.out | exact only_drew (by assumption) | (refine only_setCell (only_drew (only_refl _ _)) ?_ _; exact .inl rfl) | (refine only_setCell (only_refl _ _) ?_ _; exact .inl rfl))
        refine wpAnyH_take (i := 0) (v := ?v1_1) rfl (by kernel_rfl) (by kernel_rfl) (by kernel_rfl) (fun _ _ _ h => h) (Or.inl ⟨by rfl, ?y1_1⟩) (by assumption) ?r1_1
        case' y1_1 => (intro w hSw; (try dsimp only at hSw); have hcS := gcell hSw; clear hSw; go_simp; try with_reducible rfl)
        try simp only [Act.put, List.getElem_toArray, List.getElem_cons_succ, List.getElem_cons_zero, List.setIfInBounds_toArray, List.set_cons_zero, List.set_cons_succ]
        refine wpAnyH_take (i := 1) (v := ?v1_2) rfl (by kernel_rfl) (by kernel_rfl) (by kernel_rfl) (fun _ _ _ h => h) (Or.inl ⟨by rfl, ?y1_2⟩) (by assumption) ?r1_2
        case' y1_2 => (intro w hSw; (try dsimp only at hSw); have hcS := gcell hSw; clear hSw; go_simp; try with_reducible rfl)
        try simp only [Act.put, List.getElem_toArray, List.getElem_cons_succ, List.getElem_cons_zero, List.setIfInBounds_toArray, List.set_cons_zero, List.set_cons_succ]
        refine wpAnyH_take (i := 2) (v := ?v1_3) rfl (by kernel_rfl) (by kernel_rfl) (by kernel_rfl) (fun _ _ _ h => h) (Or.inl ⟨by rfl, ?y1_3⟩) (by assumption) ?r1_3
        case' y1_3 => (intro w hSw; (try dsimp only at hSw); have hcS := gcell hSw; clear hSw; go_simp; try with_reducible rfl)
        try simp only [Act.put, List.getElem_toArray, List.getElem_cons_succ, List.getElem_cons_zero, List.setIfInBounds_toArray, List.set_cons_zero, List.set_cons_succ]
        refine wpAnyH_take (i := 3) (v := ?v1_4) rfl (by kernel_rfl) (by kernel_rfl) (by kernel_rfl) (fun _ _ _ h => h) (Or.inl ⟨by rfl, ?y1_4⟩) (by assumption) ?r1_4
        case' y1_4 => (intro w hSw; (try dsimp only at hSw); have hcS := gcell hSw; clear hSw; go_simp; try with_reducible rfl)
        try simp only [Act.put, List.getElem_toArray, List.getElem_cons_succ, List.getElem_cons_zero, List.setIfInBounds_toArray, List.set_cons_zero, List.set_cons_succ]
        refine wpAnyH_take (i := 4) (v := ?v1_5) rfl (by kernel_rfl) (by kernel_rfl) (by kernel_rfl) (fun _ _ _ h => h) (Or.inl ⟨by rfl, ?y1_5⟩) (by assumption) ?r1_5
        case' y1_5 => (intro w hSw; (try dsimp only at hSw); have hcS := gcell hSw; clear hSw; go_simp; try with_reducible rfl)
        try simp only [Act.put, List.getElem_toArray, List.getElem_cons_succ, List.getElem_cons_zero, List.setIfInBounds_toArray, List.set_cons_zero, List.set_cons_succ]
        refine wpAnyH_take (i := 5) (v := ?v1_6) rfl (by kernel_rfl) (by kernel_rfl) (by kernel_rfl) (fun _ _ _ h => h) (Or.inl ⟨by rfl, ?y1_6⟩) (by assumption) ?r1_6
        case' y1_6 => (intro w hSw; (try dsimp only at hSw); have hcS := gcell hSw; clear hSw; go_simp; try with_reducible rfl)
        try simp only [Act.put, List.getElem_toArray, List.getElem_cons_succ, List.getElem_cons_zero, List.setIfInBounds_toArray, List.set_cons_zero, List.set_cons_succ]
        refine wpAnyH_take (i := 6) (v := ?v1_7) rfl (by kernel_rfl) (by kernel_rfl) (by kernel_rfl) (fun _ _ _ h => h) (Or.inl ⟨by rfl, ?y1_7⟩) (by assumption) ?r1_7
        case' y1_7 => (intro w hSw; (try dsimp only at hSw); have hcS := gcell hSw; clear hSw; go_simp; try with_reducible rfl)
        try simp only [Act.put, List.getElem_toArray, List.getElem_cons_succ, List.getElem_cons_zero, List.setIfInBounds_toArray, List.set_cons_zero, List.set_cons_succ]
        refine wpAnyH_take (i := 7) (v := ?v1_8) rfl (by kernel_rfl) (by kernel_rfl) (by kernel_rfl) (fun _ _ _ h => h) (Or.inl ⟨by rfl, ?y1_8⟩) (by assumption) ?r1_8
        case' y1_8 => (intro w hSw; (try dsimp only at hSw); have hcS := gcell hSw; clear hSw; go_simp; try with_reducible rfl)
        try simp only [Act.put, List.getElem_toArray, List.getElem_cons_succ, List.getElem_cons_zero, List.setIfInBounds_toArray, List.set_cons_zero, List.set_cons_succ]
        refine wpAnyH_take (i := 9) (v := ?v1_9) rfl (by kernel_rfl) (by kernel_rfl) (by kernel_rfl) (fun _ _ _ h => h) (Or.inl ⟨by rfl, ?y1_9⟩) (by assumption) ?r1_9
        case' y1_9 => (intro w hSw; (try dsimp only at hSw); have hcS := gcell hSw; clear hSw; go_simp; try with_reducible rfl)
        try simp only [Act.put, List.getElem_toArray, List.getElem_cons_succ, List.getElem_cons_zero, List.setIfInBounds_toArray, List.set_cons_zero, List.set_cons_succ]
        refine wpAnyH_take (i := 10) (v := ?v1_10) rfl (by kernel_rfl) (by kernel_rfl) (by kernel_rfl) (fun _ _ _ h => h) (Or.inl ⟨by rfl, ?y1_10⟩) (by assumption) ?r1_10
        case' y1_10 => (intro w hSw; (try dsimp only at hSw); have hcS := gcell hSw; clear hSw; go_simp; try with_reducible rfl)
        try simp only [Act.put, List.getElem_toArray, List.getElem_cons_succ, List.getElem_cons_zero, List.setIfInBounds_toArray, List.set_cons_zero, List.set_cons_succ]
        refine wpAnyH_take (i := 11) (v := ?v1_11) rfl (by kernel_rfl) (by kernel_rfl) (by kernel_rfl) (fun _ _ _ h => h) (Or.inl ⟨by rfl, ?y1_11⟩) (by assumption) ?r1_11
        case' y1_11 => (intro w hSw; (try dsimp only at hSw); have hcS := gcell hSw; clear hSw; go_simp; try with_reducible rfl)
        try simp only [Act.put, List.getElem_toArray, List.getElem_cons_succ, List.getElem_cons_zero, List.setIfInBounds_toArray, List.set_cons_zero, List.set_cons_succ]
        refine wpAnyH_take (i := 12) (v := ?v1_12) rfl (by kernel_rfl) (by kernel_rfl) (by kernel_rfl) (fun _ _ _ h => h) (Or.inl ⟨by rfl, ?y1_12⟩) (by assumption) ?r1_12
        case' y1_12 => (intro w hSw; (try dsimp only at hSw); have hcS := gcell hSw; clear hSw; go_simp; try with_reducible rfl)
        try simp only [Act.put, List.getElem_toArray, List.getElem_cons_succ, List.getElem_cons_zero, List.setIfInBounds_toArray, List.set_cons_zero, List.set_cons_succ]
        refine wpAnyH_take (i := 13) (v := ?v1_13) rfl (by kernel_rfl) (by kernel_rfl) (by kernel_rfl) (fun _ _ _ h => h) (Or.inl ⟨by rfl, ?y1_13⟩) (by assumption) ?r1_13
        case' y1_13 => (intro w hSw; (try dsimp only at hSw); have hcS := gcell hSw; clear hSw; go_simp; try with_reducible rfl)
        try simp only [Act.put, List.getElem_toArray, List.getElem_cons_succ, List.getElem_cons_zero, List.setIfInBounds_toArray, List.set_cons_zero, List.set_cons_succ]
        refine wpAnyH_take (i := 14) (v := ?v1_14) rfl (by kernel_rfl) (by kernel_rfl) (by kernel_rfl) (fun _ _ _ h => h) (Or.inl ⟨by rfl, ?y1_14⟩) (by assumption) ?r1_14
        case' y1_14 => (intro w hSw; (try dsimp only at hSw); have hcS := gcell hSw; clear hSw; go_simp; try with_reducible rfl)
        try simp only [Act.put, List.getElem_toArray, List.getElem_cons_succ, List.getElem_cons_zero, List.setIfInBounds_toArray, List.set_cons_zero, List.set_cons_succ]
        refine wpAnyH_take (i := 15) (v := ?v1_15) rfl (by kernel_rfl) (by kernel_rfl) (by kernel_rfl) (fun _ _ _ h => h) (Or.inl ⟨by rfl, ?y1_15⟩) (by assumption) ?r1_15
        case' y1_15 => (intro w hSw; (try dsimp only at hSw); have hcS := gcell hSw; clear hSw; go_simp; try with_reducible rfl)
        try simp only [Act.put, List.getElem_toArray, List.getElem_cons_succ, List.getElem_cons_zero, List.setIfInBounds_toArray, List.set_cons_zero, List.set_cons_succ]
        refine wpAnyH_take (i := 16) (v := ?v1_16) rfl (by kernel_rfl) (by kernel_rfl) (by kernel_rfl) (fun _ _ _ h => h) (Or.inl ⟨by rfl, ?y1_16⟩) (by assumption) ?r1_16
        case' y1_16 => (intro w hSw; (try dsimp only at hSw); have hcS := gcell hSw; clear hSw; go_simp; try with_reducible rfl)
        try simp only [Act.put, List.getElem_toArray, List.getElem_cons_succ, List.getElem_cons_zero, List.setIfInBounds_toArray, List.set_cons_zero, List.set_cons_succ]
        refine wpAnyH_take (i := 17) (v := ?v1_17) rfl (by kernel_rfl) (by kernel_rfl) (by kernel_rfl) (fun _ _ _ h => h) (Or.inl ⟨by rfl, ?y1_17⟩) (by assumption) ?r1_17
        case' y1_17 => (intro w hSw; (try dsimp only at hSw); have hcS := gcell hSw; clear hSw; go_simp; try with_reducible rfl)
        try simp only [Act.put, List.getElem_toArray, List.getElem_cons_succ, List.getElem_cons_zero, List.setIfInBounds_toArray, List.set_cons_zero, List.set_cons_succ]
        refine wpAnyH_take (i := 18) (v := ?v1_18) rfl (by kernel_rfl) (by kernel_rfl) (by kernel_rfl) (fun _ _ _ h => h) (Or.inl ⟨by rfl, ?y1_18⟩) (by assumption) ?r1_18
        case' y1_18 => (intro w hSw; (try dsimp only at hSw); have hcS := gcell hSw; clear hSw; go_simp; try with_reducible rfl)
        try simp only [Act.put, List.getElem_toArray, List.getElem_cons_succ, List.getElem_cons_zero, List.setIfInBounds_toArray, List.set_cons_zero, List.set_cons_succ]
        refine wpAnyH_take (i := 19) (v := ?v1_19) rfl (by kernel_rfl) (by kernel_rfl) (by kernel_rfl) (fun _ _ _ h => h) (Or.inl ⟨by rfl, ?y1_19⟩) (by assumption) ?r1_19
        case' y1_19 => (intro w hSw; (try dsimp only at hSw); have hcS := gcell hSw; clear hSw; go_simp; try with_reducible rfl)
        try simp only [Act.put, List.getElem_toArray, List.getElem_cons_succ, List.getElem_cons_zero, List.setIfInBounds_toArray, List.set_cons_zero, List.set_cons_succ]
        refine wpAnyH_ready (rs := [8, 20]) (by kernel_rfl) (by simp) ?_
        refine (AllReadyH.cons rfl (fun K hK => ?o1_20_8) (AllReadyH.cons rfl (fun K hK => ?o1_20_20) AllReadyH.nil))
        case' o1_20_8 =>
          go_simp
          refine hK.out _ _ ?_ (fun hNext => ?_)
          · try dsimp only
            (first | exact only_refl _ _ | assumption | exact only_drew (only_refl _ _) | exact hKeep.out | exact only_drew (by assumption) | (refine only_setCell (only_drew (only_refl _ _)) ?_ _; exact .inl rfl) | (refine only_setCell (only_refl _ _) ?_ _; exact .inl rfl))
          clear hK K hHeld
          have hHeld := hNext
          clear hNext
          (try dsimp only at hHeld)
          try simp only [Act.put, List.getElem_toArray, List.getElem_cons_succ, List.getElem_cons_zero, List.setIfInBounds_toArray, List.set_cons_zero, List.set_cons_succ]
          refine wpAnyH_ready (rs := [20]) (by kernel_rfl) (by simp) ?_
          refine (AllReadyH.cons rfl (fun K hK => ?_) AllReadyH.nil)
          go_simp
          refine hK.out _ _ ?_ (fun hNext => ?_)
          · try dsimp only
            (first | exact only_refl _ _ | assumption | exact only_drew (only_refl _ _) | exact hKeep.out | exact only_drew (by assumption) | (refine only_setCell (only_drew (only_refl _ _)) ?_ _; exact .inl rfl) | (refine only_setCell (only_refl _ _) ?_ _; exact .inl rfl))
          clear hK K hHeld
          have hHeld := hNext
          clear hNext
          (try dsimp only at hHeld)
          try simp only [Act.put, List.getElem_toArray, List.getElem_cons_succ, List.getElem_cons_zero, List.setIfInBounds_toArray, List.set_cons_zero, List.set_cons_succ]
          refine wpAnyH_take (i := 21) (v := ?v1_22) rfl (by kernel_rfl) (by kernel_rfl) (by kernel_rfl) (fun _ _ _ h => h) (Or.inl ⟨by rfl, ?y1_22⟩) (by assumption) ?r1_22
          case' y1_22 => (intro w hSw; (try dsimp only at hSw); have hcS := gcell hSw; clear hSw; go_simp; try with_reducible rfl)
          try simp only [Act.put, List.getElem_toArray, List.getElem_cons_succ, List.getElem_cons_zero, List.setIfInBounds_toArray, List.set_cons_zero, List.set_cons_succ]
          refine wpAnyH_take (i := 22) (v := ?v1_23) rfl (by kernel_rfl) (by kernel_rfl) (by kernel_rfl) (fun _ _ _ h => h) (Or.inl ⟨by rfl, ?y1_23⟩) (by assumption) ?r1_23
          case' y1_23 => (intro w hSw; (try dsimp only at hSw); have hcS := gcell hSw; clear hSw; go_simp; try with_reducible rfl)
          try simp only [Act.put, List.getElem_toArray, List.getElem_cons_succ, List.getElem_cons_zero, List.setIfInBounds_toArray, List.set_cons_zero, List.set_cons_succ]
          refine wpAnyH_take (i := 23) (v := ?v1_24) rfl (by kernel_rfl) (by kernel_rfl) (by kernel_rfl) (fun _ _ _ h => h) (Or.inl ⟨by rfl, ?y1_24⟩) (by assumption) ?r1_24
          case' y1_24 => (intro w hSw; (try dsimp only at hSw); have hcS := gcell hSw; clear hSw; go_simp; try with_reducible rfl)
          try simp only [Act.put, List.getElem_toArray, List.getElem_cons_succ, List.getElem_cons_zero, List.setIfInBounds_toArray, List.set_cons_zero, List.set_cons_succ]
          refine wpAnyH_take (i := 24) (v := ?v1_25) rfl (by kernel_rfl) (by kernel_rfl) (by kernel_rfl) (fun _ _ _ h => h) (Or.inl ⟨by rfl, ?y1_25⟩) (by assumption) ?r1_25
          case' y1_25 => (intro w hSw; (try dsimp only at hSw); have hcS := gcell hSw; clear hSw; go_simp; try with_reducible rfl)
          try simp only [Act.put, List.getElem_toArray, List.getElem_cons_succ, List.getElem_cons_zero, List.setIfInBounds_toArray, List.set_cons_zero, List.set_cons_succ]
          refine wpAnyH_take (i := 25) (v := ?v1_26) rfl (by kernel_rfl) (by kernel_rfl) (by kernel_rfl) (fun _ _ _ h => h) (Or.inl ⟨by rfl, ?y1_26⟩) (by assumption) ?r1_26
          case' y1_26 => (intro w hSw; (try dsimp only at hSw); have hcS := gcell hSw; clear hSw; go_simp; try with_reducible rfl)
          try simp only [Act.put, List.getElem_toArray, List.getElem_cons_succ, List.getElem_cons_zero, List.setIfInBounds_toArray, List.set_cons_zero, List.set_cons_succ]
          refine wpAnyH_ready (rs := [26]) (by kernel_rfl) (by simp) ?_
          refine (AllReadyH.cons rfl (fun K hK => ?_) AllReadyH.nil)
          go_simp
          refine hK.out _ _ ?_ (fun hNext => ?_)
          · try dsimp only
            (first | exact only_refl _ _ | assumption | exact only_drew (only_refl _ _) | exact hKeep.out | exact only_drew (by assumption) | (refine only_setCell (only_drew (only_refl _ _)) ?_ _; exact .inl rfl) | (refine only_setCell (only_refl _ _) ?_ _; exact .inl rfl))
          clear hK K hHeld
          have hHeld := hNext
          clear hNext
          (try dsimp only at hHeld)
          try simp only [Act.put, List.getElem_toArray, List.getElem_cons_succ, List.getElem_cons_zero, List.setIfInBounds_toArray, List.set_cons_zero, List.set_cons_succ]
          refine wpAnyH_done (by kernel_rfl) ?_ _
        case' o1_20_20 =>
          go_simp
          refine hK.out _ _ ?_ (fun hNext => ?_)
          · try dsimp only
            (first | exact only_refl _ _ | assumption | exact only_drew (only_refl _ _) | exact hKeep.out | exact only_drew (by assumption) | (refine only_setCell (only_drew (only_refl _ _)) ?_ _; exact .inl rfl) | (refine only_setCell (only_refl _ _) ?_ _; exact .inl rfl))
          clear hK K hHeld
          have hHeld := hNext
          clear hNext
          (try dsimp only at hHeld)
          try simp only [Act.put, List.getElem_toArray, List.getElem_cons_succ, List.getElem_cons_zero, List.setIfInBounds_toArray, List.set_cons_zero, List.set_cons_succ]
          refine wpAnyH_take (i := 21) (v := ?v1_28) rfl (by kernel_rfl) (by kernel_rfl) (by kernel_rfl) (fun _ _ _ h => h) (Or.inl ⟨by rfl, ?y1_28⟩) (by assumption) ?r1_28
          case' y1_28 => (intro w hSw; (try dsimp only at hSw); have hcS := gcell hSw; clear hSw; go_simp; try with_reducible rfl)
          try simp only [Act.put, List.getElem_toArray, List.getElem_cons_succ, List.getElem_cons_zero, List.setIfInBounds_toArray, List.set_cons_zero, List.set_cons_succ]
          refine wpAnyH_take (i := 22) (v := ?v1_29) rfl (by kernel_rfl) (by kernel_rfl) (by kernel_rfl) (fun _ _ _ h => h) (Or.inl ⟨by rfl, ?y1_29⟩) (by assumption) ?r1_29
          case' y1_29 => (intro w hSw; (try dsimp only at hSw); have hcS := gcell hSw; clear hSw; go_simp; try with_reducible rfl)
          try simp only [Act.put, List.getElem_toArray, List.getElem_cons_succ, List.getElem_cons_zero, List.setIfInBounds_toArray, List.set_cons_zero, List.set_cons_succ]
          refine wpAnyH_ready (rs := [8]) (by kernel_rfl) (by simp) ?_
          refine (AllReadyH.cons rfl (fun K hK => ?_) AllReadyH.nil)
          go_simp
          refine hK.out _ _ ?_ (fun hNext => ?_)
          · try dsimp only
            (first | exact only_refl _ _ | assumption | exact only_drew (only_refl _ _) | exact hKeep.out | exact only_drew (by assumption) | (refine only_setCell (only_drew (only_refl _ _)) ?_ _; exact .inl rfl) | (refine only_setCell (only_refl _ _) ?_ _; exact .inl rfl))
          clear hK K hHeld
          have hHeld := hNext
          clear hNext
          (try dsimp only at hHeld)
          try simp only [Act.put, List.getElem_toArray, List.getElem_cons_succ, List.getElem_cons_zero, List.setIfInBounds_toArray, List.set_cons_zero, List.set_cons_succ]
          refine wpAnyH_take (i := 23) (v := ?v1_31) rfl (by kernel_rfl) (by kernel_rfl) (by kernel_rfl) (fun _ _ _ h => h) (Or.inl ⟨by rfl, ?y1_31⟩) (by assumption) ?r1_31
          case' y1_31 => (intro w hSw; (try dsimp only at hSw); have hcS := gcell hSw; clear hSw; go_simp; try with_reducible rfl)
          try simp only [Act.put, List.getElem_toArray, List.getElem_cons_succ, List.getElem_cons_zero, List.setIfInBounds_toArray, List.set_cons_zero, List.set_cons_succ]
          refine wpAnyH_take (i := 24) (v := ?v1_32) rfl (by kernel_rfl) (by kernel_rfl) (by kernel_rfl) (fun _ _ _ h => h) (Or.inl ⟨by rfl, ?y1_32⟩) (by assumption) ?r1_32
          case' y1_32 => (intro w hSw; (try dsimp only at hSw); have hcS := gcell hSw; clear hSw; go_simp; try with_reducible rfl)
          try simp only [Act.put, List.getElem_toArray, List.getElem_cons_succ, List.getElem_cons_zero, List.setIfInBounds_toArray, List.set_cons_zero, List.set_cons_succ]
          refine wpAnyH_take (i := 25) (v := ?v1_33) rfl (by kernel_rfl) (by kernel_rfl) (by kernel_rfl) (fun _ _ _ h => h) (Or.inl ⟨by rfl, ?y1_33⟩) (by assumption) ?r1_33
          case' y1_33 => (intro w hSw; (try dsimp only at hSw); have hcS := gcell hSw; clear hSw; go_simp; try with_reducible rfl)
          try simp only [Act.put, List.getElem_toArray, List.getElem_cons_succ, List.getElem_cons_zero, List.setIfInBounds_toArray, List.set_cons_zero, List.set_cons_succ]
          refine wpAnyH_ready (rs := [26]) (by kernel_rfl) (by simp) ?_
          refine (AllReadyH.cons rfl (fun K hK => ?_) AllReadyH.nil)
          go_simp
          refine hK.out _ _ ?_ (fun hNext => ?_)
          · try dsimp only
            (first | exact only_refl _ _ | assumption | exact only_drew (only_refl _ _) | exact hKeep.out | exact only_drew (by assumption) | (refine only_setCell (only_drew (only_refl _ _)) ?_ _; exact .inl rfl) | (refine only_setCell (only_refl _ _) ?_ _; exact .inl rfl))
          clear hK K hHeld
          have hHeld := hNext
          clear hNext
          (try dsimp only at hHeld)
          try simp only [Act.put, List.getElem_toArray, List.getElem_cons_succ, List.getElem_cons_zero, List.setIfInBounds_toArray, List.set_cons_zero, List.set_cons_succ]
          refine wpAnyH_done (by kernel_rfl) ?_ _
        all_goals
          rw [min_ifs, hxw] at hHeld ⊢
          have hhz := setCellOf (i := k * 2) HH.out (.int .i64 x)
          have hbz : Below w0.heap.size w0 (wr.setCell ⟨q, k * 2, none⟩ (.int .i64 x)).drew := Below.drew (Below.setCell hB.out hq _)
          have hhz2 : (wr.setCell ⟨q, k * 2, none⟩ (.int .i64 x)).drew.heap[q]? = some (.cells (C.setIfInBounds (k * 2) (.int .i64 x)) 54 (0, 0)) := hhz
          generalize (wr.setCell ⟨q, k * 2, none⟩ (.int .i64 x)).drew = wz at hHeld hhz2 hbz ⊢
          have HMZ := hide ((hHeld.block _ hlm0 (fun e => hqm (by injection e))).trans hM.out)
          have HHZ := hide hhz2
          have HBZ := hide hbz
          clear hhz hhz2 hbz hHeld hxw hq0 hqf hl1 hm0 hc4 hqm hqc hqb hlb hlc hlq hl3
          go_wp2_with fail
          go_roundw
          case rel =>
            refine ⟨k + 1, by omega, by go_num, .inr ⟨q, cap1, _, by rw [dsL_len], by rw [dsL_len]; exact hnc, hq, HHZ.out, by rw [dsL_len]; simpa using hs, fun i j hi hj => ?_⟩, HMZ.out, HBZ.out⟩
            rw [dsL_len] at hi
            have ho := HC.out i j hi hj
            have hlt0 : i * 2 + j < C.size := (Array.getElem?_eq_some_iff.1 ho).1
            unfold cyF at ho ⊢
            rw [dsL_get hi] at ho ⊢
            simp only [Array.getElem?_setIfInBounds]
            by_cases e : i = k
            · subst e
              rw [dsAt_new hk2, HCE.out.1, HCE.out.2]
              match j, hj with
              | 0, _ => rw [if_pos (by omega), if_pos (by omega), ← HXE.out]; rfl
              | 1, _ =>
                rw [if_neg (by omega), HC1.out]
                rfl
            · rw [if_neg (by omega), dsAt_stays i e]
              exact ho
          case measure => simp [intOf]; omega
    · --TAIL
      have hfl : ¬ (k < cs.length) ∨ ¬ (k < ls.length) := by omega
      go_upto_region 6 with (fail)
      go_cut [51] from 40 to 51 (fun x wc => x = .bool false ∧ Hid (wc = wr))
      case first =>
        have HCL := cellOf HCR.out 4
        have hlc := box_lt HCR.out
        have hlm0 : w1.heap.size < wr.heap.size := box_lt hM.out
        by_cases h1 : k < cs.length
        · have h2 : ¬ k < ls.length := by omega
          have i1 : (k : Int) < (cs.length : Int) := by omega
          have i2 : ¬ (k : Int) < (ls.length : Int) := by omega
          have i3 : decide ((k : Int) < (cs.length : Int)) = true := by simpa using i1
          have i4 : decide ((k : Int) < (ls.length : Int)) = false := by simpa using i2
          clear hfl h1 h2 hlt
          go_wp2_with fail
          go_meet
          exact ⟨rfl, rfl⟩
        · have i1 : ¬ (k : Int) < (cs.length : Int) := by omega
          have i3 : decide ((k : Int) < (cs.length : Int)) = false := by simpa using i1
          clear hfl h1 hlt
          go_wp2_with fail
          go_meet
          exact ⟨rfl, rfl⟩
      case rest =>
        obtain ⟨rfl, hcc⟩ := hcut
        have hwd := hcc.out
        subst hwd
        clear hcc
        obtain ⟨wb, hwb⟩ : ∃ x, x = wc := ⟨_, rfl⟩
        subst hwb
        have hmild : cycOk cs = true → MildL cs (dsL cs ls k) := fun h => dsL_mild h k
        obtain ⟨ds, hds⟩ : ∃ ds, dsL cs ls k = ds := ⟨_, rfl⟩
        have hdl : ds.length ≤ 20 := by rw [← hds, dsL_len]; exact hn'
        rw [hds] at hX hmild
        have HMI := hide hmild
        obtain ⟨e1, he1⟩ : ∃ z, riseErr g cs 100 = z := ⟨_, rfl⟩
        have He1 := hide he1
        clear he1
        obtain ⟨e2, he2⟩ : ∃ z, riseErr g ds 100 = z := ⟨_, rfl⟩
        have He2 := hide he2
        clear he2
        obtain ⟨r1, hr1⟩ : ∃ z, riseVal g cs 100 = z := ⟨_, rfl⟩
        have Hr1 := hide hr1
        clear hr1
        obtain ⟨r2, hr2⟩ : ∃ z, riseVal g ds 100 = z := ⟨_, rfl⟩
        have Hr2 := hide hr2
        clear hr2
        obtain ⟨e3, he3⟩ : ∃ z, peakErr g cs = z := ⟨_, rfl⟩
        have He3 := hide he3
        clear he3
        obtain ⟨e4, he4⟩ : ∃ z, peakErr g ds = z := ⟨_, rfl⟩
        have He4 := hide he4
        clear he4
        obtain ⟨r3, hr3⟩ : ∃ z, peakVal g cs = z := ⟨_, rfl⟩
        have Hr3 := hide hr3
        clear hr3
        obtain ⟨r4, hr4⟩ : ∃ z, peakVal g ds = z := ⟨_, rfl⟩
        have Hr4 := hide hr4
        clear hr4
        obtain ⟨e5, he5⟩ : ∃ z, holdsErr f cs = z := ⟨_, rfl⟩
        have He5 := hide he5
        clear he5
        obtain ⟨e6, he6⟩ : ∃ z, holdsErr f ds = z := ⟨_, rfl⟩
        have He6 := hide he6
        clear he6
        obtain ⟨b5, hb5⟩ : ∃ z, holdsVal f cs = z := ⟨_, rfl⟩
        have Hb5 := hide hb5
        clear hb5
        obtain ⟨b6, hb6⟩ : ∃ z, holdsVal f ds = z := ⟨_, rfl⟩
        have Hb6 := hide hb6
        clear hb6
        obtain ⟨e7, he7⟩ : ∃ z, fitErr g n cs = z := ⟨_, rfl⟩
        have He7 := hide he7
        clear he7
        obtain ⟨e8, he8⟩ : ∃ z, fitErr g (mlN n) ds = z := ⟨_, rfl⟩
        have He8 := hide he8
        clear he8
        obtain ⟨b7, hb7⟩ : ∃ z, fitVal g n cs = z := ⟨_, rfl⟩
        have Hb7 := hide hb7
        clear hb7
        obtain ⟨b8, hb8⟩ : ∃ z, fitVal g (mlN n) ds = z := ⟨_, rfl⟩
        have Hb8 := hide hb8
        clear hb8
        have hr1 := mild_rise (g := g) hmild
        rw [He1.out, He2.out, Hr1.out, Hr2.out] at hr1
        have HR1 := hide hr1
        have hr2 := mild_peak (g := g) hmild
        rw [He3.out, He4.out, Hr3.out, Hr4.out] at hr2
        have HR2 := hide hr2
        have hr3 := mild_holds (f := f) hmild
        rw [He5.out, He6.out, Hb5.out, Hb6.out] at hr3
        have HR3 := hide hr3
        have hr4 := mild_fits (g := g) (n := n) hmild
        rw [He7.out, He8.out, Hb7.out, Hb8.out] at hr4
        have HR4 := hide hr4
        have HG : Hid (GaugeAt wb w.heap.size g) := box_to HG0.out hB.out
        have HF : Hid (FuseAt wb (w.heap.size + 1) f) := box_to HF0.out hB.out
        have HN : Hid (NeedAt wb (w.heap.size + 3) (.slice A0 cs.length cap0) n) := box_to HN0.out hB.out
        have HM := hide hM.out
        have HYC : Hid (Cyc wb wb.heap.size (.slice A0 cs.length cap0) cs) := HY0.out.up hB.out
        have hyd : Cyc wb wb.heap.size (.slice A1 cs.length cap1) ds := hX.out.cyc
        have HYD := hide hyd
        have HX := hide hX.out
        have HBc := hide (Below.refl wb.heap.size wb)
        clear hmild hds hr1 hr2 hr3 hr4 hyd hm0 hc4 hfl hlt
        go_upto_region 9 with (fail)
        have hgW := box_to HG.out HBc.out
        have k0 := cellOf hgW 0
        have k1 := cellOf hgW 1
        have k2 := cellOf hgW 2
        have k3 := cellOf hgW 3
        have k4 := cellOf hgW 4
        have k5 := box_lt hgW
        have hnW := box_to HN.out HBc.out
        have m0 := cellOf hnW 0
        have m5 := box_lt hnW
        clear hnW
        have hyW := HYC.out.up HBc.out
        have HYW := hide hyW
        clear hyW
        refine wp_region_held_drew (S := (fun w' => Below wb.heap.size wb w')) (by kernel_rfl) ?_ (fun hHeld => ?_)
        · try dsimp only
          exact (by repeat (first | exact Below.refl _ _ | assumption | refine Below.drew ?_ | refine Below.drewN ?_ _ | refine Below.allocT ?_ (Nat.le_refl _) _ | refine Below.setCell ?_ (by simp <;> omega) _ | refine Below.to ?_ (by assumption) (Nat.le_refl _)))
        refine wpAnyH_take (i := 0) (v := ?v2_0) rfl (by kernel_rfl) (by kernel_rfl) (by kernel_rfl) (fun _ _ _ h => h) (Or.inl ⟨by rfl, ?y2_0⟩) (by assumption) ?r2_0
        case' y2_0 => (intro w hSw; (try dsimp only at hSw); (try have hlS := HLK.out _ hSw); obtain ⟨hcS, hfS⟩ := bcell hSw; clear hSw; go_simp; try with_reducible rfl)
        try simp only [Act.put, List.getElem_toArray, List.getElem_cons_succ, List.getElem_cons_zero, List.setIfInBounds_toArray, List.set_cons_zero, List.set_cons_succ]
        refine wpAnyH_take (i := 1) (v := ?v2_1) rfl (by kernel_rfl) (by kernel_rfl) (by kernel_rfl) (fun _ _ _ h => h) (Or.inl ⟨by rfl, ?y2_1⟩) (by assumption) ?r2_1
        case' y2_1 => (intro w hSw; (try dsimp only at hSw); (try have hlS := HLK.out _ hSw); obtain ⟨hcS, hfS⟩ := bcell hSw; clear hSw; go_simp; try with_reducible rfl)
        try simp only [Act.put, List.getElem_toArray, List.getElem_cons_succ, List.getElem_cons_zero, List.setIfInBounds_toArray, List.set_cons_zero, List.set_cons_succ]
        refine wpAnyH_take (i := 2) (v := ?v2_2) rfl (by kernel_rfl) (by kernel_rfl) (by kernel_rfl) (fun _ _ _ h => h) (Or.inl ⟨by rfl, ?y2_2⟩) (by assumption) ?r2_2
        case' y2_2 => (intro w hSw; (try dsimp only at hSw); (try have hlS := HLK.out _ hSw); obtain ⟨hcS, hfS⟩ := bcell hSw; clear hSw; go_simp; try with_reducible rfl)
        try simp only [Act.put, List.getElem_toArray, List.getElem_cons_succ, List.getElem_cons_zero, List.setIfInBounds_toArray, List.set_cons_zero, List.set_cons_succ]
        refine wpAnyH_ready (rs := [3]) (by kernel_rfl) (by simp) ?_
        refine AllReadyH.cons rfl (fun K hK => ?_) AllReadyH.nil
        go_simp
        (first | (go_at_call 22; refine (cycle_any _ cs _ hn' (HYW.out.up (by repeat (first | exact Below.refl _ _ | assumption | refine Below.drew ?_ | refine Below.drewN ?_ _ | refine Below.allocT ?_ (Nat.le_refl _) _ | refine Below.setCell ?_ (by simp <;> omega) _ | refine Below.to ?_ (by assumption) (Nat.le_refl _))))).mono ?_; rintro e w5 ⟨v5, rfl, hc5, hB5⟩; have HC5 := hide hc5; clear hc5) | (go_at_call 26; refine (Rise_any g _ cs 100 _ hn' HC5.out).mono ?_; rw [Hr1.out, He1.out]; rintro e wa1 ⟨rfl, hB6⟩))
        (try dsimp only)
        refine hK.out _ _ ?_ (fun hNext => ?_)
        · try dsimp only
          exact (by repeat (first | exact Below.refl _ _ | assumption | refine Below.drew ?_ | refine Below.drewN ?_ _ | refine Below.allocT ?_ (Nat.le_refl _) _ | refine Below.setCell ?_ (by simp <;> omega) _ | refine Below.to ?_ (by assumption) (Nat.le_refl _)))
        clear hK K hHeld
        have hHeld := hNext
        clear hNext
        (try dsimp only at hHeld)
        try simp only [Act.put, List.getElem_toArray, List.getElem_cons_succ, List.getElem_cons_zero, List.setIfInBounds_toArray, List.set_cons_zero, List.set_cons_succ]
        refine wpAnyH_ready (rs := [4]) (by kernel_rfl) (by simp) ?_
        refine AllReadyH.cons rfl (fun K hK => ?_) AllReadyH.nil
        go_simp
        (first | (go_at_call 22; refine (cycle_any _ cs _ hn' (HYW.out.up (by repeat (first | exact Below.refl _ _ | assumption | refine Below.drew ?_ | refine Below.drewN ?_ _ | refine Below.allocT ?_ (Nat.le_refl _) _ | refine Below.setCell ?_ (by simp <;> omega) _ | refine Below.to ?_ (by assumption) (Nat.le_refl _))))).mono ?_; rintro e w5 ⟨v5, rfl, hc5, hB5⟩; have HC5 := hide hc5; clear hc5) | (go_at_call 26; refine (Rise_any g _ cs 100 _ hn' HC5.out).mono ?_; rw [Hr1.out, He1.out]; rintro e wa1 ⟨rfl, hB6⟩))
        (try dsimp only)
        refine hK.out _ _ ?_ (fun hNext => ?_)
        · try dsimp only
          exact (by repeat (first | exact Below.refl _ _ | assumption | refine Below.drew ?_ | refine Below.drewN ?_ _ | refine Below.allocT ?_ (Nat.le_refl _) _ | refine Below.setCell ?_ (by simp <;> omega) _ | refine Below.to ?_ (by assumption) (Nat.le_refl _)))
        clear hK K hHeld
        have hHeld := hNext
        clear hNext
        (try dsimp only at hHeld)
        try simp only [Act.put, List.getElem_toArray, List.getElem_cons_succ, List.getElem_cons_zero, List.setIfInBounds_toArray, List.set_cons_zero, List.set_cons_succ]
        refine wpAnyH_take (i := 5) (v := ?v2_5) rfl (by kernel_rfl) (by kernel_rfl) (by kernel_rfl) (fun _ _ _ h => h) (Or.inl ⟨by rfl, ?y2_5⟩) (by assumption) ?r2_5
        case' y2_5 => (intro w hSw; (try dsimp only at hSw); (try have hlS := HLK.out _ hSw); obtain ⟨hcS, hfS⟩ := bcell hSw; clear hSw; go_simp; try with_reducible rfl)
        try simp only [Act.put, List.getElem_toArray, List.getElem_cons_succ, List.getElem_cons_zero, List.setIfInBounds_toArray, List.set_cons_zero, List.set_cons_succ]
        refine wpAnyH_take (i := 6) (v := ?v2_6) rfl (by kernel_rfl) (by kernel_rfl) (by kernel_rfl) (fun _ _ _ h => h) (Or.inl ⟨by rfl, ?y2_6⟩) (by assumption) ?r2_6
        case' y2_6 => (intro w hSw; (try dsimp only at hSw); (try have hlS := HLK.out _ hSw); obtain ⟨hcS, hfS⟩ := bcell hSw; clear hSw; go_simp; try with_reducible rfl)
        try simp only [Act.put, List.getElem_toArray, List.getElem_cons_succ, List.getElem_cons_zero, List.setIfInBounds_toArray, List.set_cons_zero, List.set_cons_succ]
        refine wpAnyH_take (i := 7) (v := ?v2_7) rfl (by kernel_rfl) (by kernel_rfl) (by kernel_rfl) (fun _ _ _ h => h) (Or.inl ⟨by rfl, ?y2_7⟩) (by assumption) ?r2_7
        case' y2_7 => (intro w hSw; (try dsimp only at hSw); (try have hlS := HLK.out _ hSw); obtain ⟨hcS, hfS⟩ := bcell hSw; clear hSw; go_simp; try with_reducible rfl)
        try simp only [Act.put, List.getElem_toArray, List.getElem_cons_succ, List.getElem_cons_zero, List.setIfInBounds_toArray, List.set_cons_zero, List.set_cons_succ]
        refine wpAnyH_take (i := 8) (v := ?v2_8) rfl (by kernel_rfl) (by kernel_rfl) (by kernel_rfl) (fun _ _ _ h => h) (Or.inl ⟨by rfl, ?y2_8⟩) (by assumption) ?r2_8
        case' y2_8 => (intro w hSw; (try dsimp only at hSw); (try have hlS := HLK.out _ hSw); obtain ⟨hcS, hfS⟩ := bcell hSw; clear hSw; go_simp; try with_reducible rfl)
        try simp only [Act.put, List.getElem_toArray, List.getElem_cons_succ, List.getElem_cons_zero, List.setIfInBounds_toArray, List.set_cons_zero, List.set_cons_succ]
        refine wpAnyH_take (i := 9) (v := ?v2_9) rfl (by kernel_rfl) (by kernel_rfl) (by kernel_rfl) (fun _ _ _ h => h) (Or.inl ⟨by rfl, ?y2_9⟩) (by assumption) ?r2_9
        case' y2_9 => (intro w hSw; (try dsimp only at hSw); (try have hlS := HLK.out _ hSw); obtain ⟨hcS, hfS⟩ := bcell hSw; clear hSw; go_simp; try with_reducible rfl)
        try simp only [Act.put, List.getElem_toArray, List.getElem_cons_succ, List.getElem_cons_zero, List.setIfInBounds_toArray, List.set_cons_zero, List.set_cons_succ]
        refine wpAnyH_done (by kernel_rfl) ?_ _
        have HBa1 := hide (Below.trans HBc.out (hHeld.mono HBc.out.size))
        clear hHeld HYW HC5 hB5 hB6
        clear hgW k0 k1 k2 k3 k4 k5 m0 m5
        go_upto_region 10 with (fail)
        have hgW := box_to HG.out HBa1.out
        have k0 := cellOf hgW 0
        have k1 := cellOf hgW 1
        have k2 := cellOf hgW 2
        have k3 := cellOf hgW 3
        have k4 := cellOf hgW 4
        have k5 := box_lt hgW
        have hnW := box_to HM.out HBa1.out
        have m0 := cellOf hnW 0
        have m5 := box_lt hnW
        clear hnW
        have hyW := HYD.out.up HBa1.out
        have HYW := hide hyW
        clear hyW
        refine wp_region_held_drew (S := (fun w' => Below wa1.heap.size wa1 w')) (by kernel_rfl) ?_ (fun hHeld => ?_)
        · try dsimp only
          exact (by repeat (first | exact Below.refl _ _ | assumption | refine Below.drew ?_ | refine Below.drewN ?_ _ | refine Below.allocT ?_ (Nat.le_refl _) _ | refine Below.setCell ?_ (by simp <;> omega) _ | refine Below.to ?_ (by assumption) (Nat.le_refl _)))
        refine wpAnyH_take (i := 0) (v := ?v3_0) rfl (by kernel_rfl) (by kernel_rfl) (by kernel_rfl) (fun _ _ _ h => h) (Or.inl ⟨by rfl, ?y3_0⟩) (by assumption) ?r3_0
        case' y3_0 => (intro w hSw; (try dsimp only at hSw); (try have hlS := HLK.out _ hSw); obtain ⟨hcS, hfS⟩ := bcell hSw; clear hSw; go_simp; try with_reducible rfl)
        try simp only [Act.put, List.getElem_toArray, List.getElem_cons_succ, List.getElem_cons_zero, List.setIfInBounds_toArray, List.set_cons_zero, List.set_cons_succ]
        refine wpAnyH_take (i := 1) (v := ?v3_1) rfl (by kernel_rfl) (by kernel_rfl) (by kernel_rfl) (fun _ _ _ h => h) (Or.inl ⟨by rfl, ?y3_1⟩) (by assumption) ?r3_1
        case' y3_1 => (intro w hSw; (try dsimp only at hSw); (try have hlS := HLK.out _ hSw); obtain ⟨hcS, hfS⟩ := bcell hSw; clear hSw; go_simp; try with_reducible rfl)
        try simp only [Act.put, List.getElem_toArray, List.getElem_cons_succ, List.getElem_cons_zero, List.setIfInBounds_toArray, List.set_cons_zero, List.set_cons_succ]
        refine wpAnyH_take (i := 2) (v := ?v3_2) rfl (by kernel_rfl) (by kernel_rfl) (by kernel_rfl) (fun _ _ _ h => h) (Or.inl ⟨by rfl, ?y3_2⟩) (by assumption) ?r3_2
        case' y3_2 => (intro w hSw; (try dsimp only at hSw); (try have hlS := HLK.out _ hSw); obtain ⟨hcS, hfS⟩ := bcell hSw; clear hSw; go_simp; try with_reducible rfl)
        try simp only [Act.put, List.getElem_toArray, List.getElem_cons_succ, List.getElem_cons_zero, List.setIfInBounds_toArray, List.set_cons_zero, List.set_cons_succ]
        refine wpAnyH_ready (rs := [3]) (by kernel_rfl) (by simp) ?_
        refine AllReadyH.cons rfl (fun K hK => ?_) AllReadyH.nil
        go_simp
        (first | (go_at_call 22; refine (cycle_any _ ds _ hdl (HYW.out.up (by repeat (first | exact Below.refl _ _ | assumption | refine Below.drew ?_ | refine Below.drewN ?_ _ | refine Below.allocT ?_ (Nat.le_refl _) _ | refine Below.setCell ?_ (by simp <;> omega) _ | refine Below.to ?_ (by assumption) (Nat.le_refl _))))).mono ?_; rintro e w5 ⟨v5, rfl, hc5, hB5⟩; have HC5 := hide hc5; clear hc5) | (go_at_call 26; refine (Rise_any g _ ds 100 _ hdl HC5.out).mono ?_; rw [Hr2.out, He2.out]; rintro e wa2 ⟨rfl, hB6⟩))
        (try dsimp only)
        refine hK.out _ _ ?_ (fun hNext => ?_)
        · try dsimp only
          exact (by repeat (first | exact Below.refl _ _ | assumption | refine Below.drew ?_ | refine Below.drewN ?_ _ | refine Below.allocT ?_ (Nat.le_refl _) _ | refine Below.setCell ?_ (by simp <;> omega) _ | refine Below.to ?_ (by assumption) (Nat.le_refl _)))
        clear hK K hHeld
        have hHeld := hNext
        clear hNext
        (try dsimp only at hHeld)
        try simp only [Act.put, List.getElem_toArray, List.getElem_cons_succ, List.getElem_cons_zero, List.setIfInBounds_toArray, List.set_cons_zero, List.set_cons_succ]
        refine wpAnyH_ready (rs := [4]) (by kernel_rfl) (by simp) ?_
        refine AllReadyH.cons rfl (fun K hK => ?_) AllReadyH.nil
        go_simp
        (first | (go_at_call 22; refine (cycle_any _ ds _ hdl (HYW.out.up (by repeat (first | exact Below.refl _ _ | assumption | refine Below.drew ?_ | refine Below.drewN ?_ _ | refine Below.allocT ?_ (Nat.le_refl _) _ | refine Below.setCell ?_ (by simp <;> omega) _ | refine Below.to ?_ (by assumption) (Nat.le_refl _))))).mono ?_; rintro e w5 ⟨v5, rfl, hc5, hB5⟩; have HC5 := hide hc5; clear hc5) | (go_at_call 26; refine (Rise_any g _ ds 100 _ hdl HC5.out).mono ?_; rw [Hr2.out, He2.out]; rintro e wa2 ⟨rfl, hB6⟩))
        (try dsimp only)
        refine hK.out _ _ ?_ (fun hNext => ?_)
        · try dsimp only
          exact (by repeat (first | exact Below.refl _ _ | assumption | refine Below.drew ?_ | refine Below.drewN ?_ _ | refine Below.allocT ?_ (Nat.le_refl _) _ | refine Below.setCell ?_ (by simp <;> omega) _ | refine Below.to ?_ (by assumption) (Nat.le_refl _)))
        clear hK K hHeld
        have hHeld := hNext
        clear hNext
        (try dsimp only at hHeld)
        try simp only [Act.put, List.getElem_toArray, List.getElem_cons_succ, List.getElem_cons_zero, List.setIfInBounds_toArray, List.set_cons_zero, List.set_cons_succ]
        refine wpAnyH_take (i := 5) (v := ?v3_5) rfl (by kernel_rfl) (by kernel_rfl) (by kernel_rfl) (fun _ _ _ h => h) (Or.inl ⟨by rfl, ?y3_5⟩) (by assumption) ?r3_5
        case' y3_5 => (intro w hSw; (try dsimp only at hSw); (try have hlS := HLK.out _ hSw); obtain ⟨hcS, hfS⟩ := bcell hSw; clear hSw; go_simp; try with_reducible rfl)
        try simp only [Act.put, List.getElem_toArray, List.getElem_cons_succ, List.getElem_cons_zero, List.setIfInBounds_toArray, List.set_cons_zero, List.set_cons_succ]
        refine wpAnyH_take (i := 6) (v := ?v3_6) rfl (by kernel_rfl) (by kernel_rfl) (by kernel_rfl) (fun _ _ _ h => h) (Or.inl ⟨by rfl, ?y3_6⟩) (by assumption) ?r3_6
        case' y3_6 => (intro w hSw; (try dsimp only at hSw); (try have hlS := HLK.out _ hSw); obtain ⟨hcS, hfS⟩ := bcell hSw; clear hSw; go_simp; try with_reducible rfl)
        try simp only [Act.put, List.getElem_toArray, List.getElem_cons_succ, List.getElem_cons_zero, List.setIfInBounds_toArray, List.set_cons_zero, List.set_cons_succ]
        refine wpAnyH_take (i := 7) (v := ?v3_7) rfl (by kernel_rfl) (by kernel_rfl) (by kernel_rfl) (fun _ _ _ h => h) (Or.inl ⟨by rfl, ?y3_7⟩) (by assumption) ?r3_7
        case' y3_7 => (intro w hSw; (try dsimp only at hSw); (try have hlS := HLK.out _ hSw); obtain ⟨hcS, hfS⟩ := bcell hSw; clear hSw; go_simp; try with_reducible rfl)
        try simp only [Act.put, List.getElem_toArray, List.getElem_cons_succ, List.getElem_cons_zero, List.setIfInBounds_toArray, List.set_cons_zero, List.set_cons_succ]
        refine wpAnyH_take (i := 8) (v := ?v3_8) rfl (by kernel_rfl) (by kernel_rfl) (by kernel_rfl) (fun _ _ _ h => h) (Or.inl ⟨by rfl, ?y3_8⟩) (by assumption) ?r3_8
        case' y3_8 => (intro w hSw; (try dsimp only at hSw); (try have hlS := HLK.out _ hSw); obtain ⟨hcS, hfS⟩ := bcell hSw; clear hSw; go_simp; try with_reducible rfl)
        try simp only [Act.put, List.getElem_toArray, List.getElem_cons_succ, List.getElem_cons_zero, List.setIfInBounds_toArray, List.set_cons_zero, List.set_cons_succ]
        refine wpAnyH_take (i := 9) (v := ?v3_9) rfl (by kernel_rfl) (by kernel_rfl) (by kernel_rfl) (fun _ _ _ h => h) (Or.inl ⟨by rfl, ?y3_9⟩) (by assumption) ?r3_9
        case' y3_9 => (intro w hSw; (try dsimp only at hSw); (try have hlS := HLK.out _ hSw); obtain ⟨hcS, hfS⟩ := bcell hSw; clear hSw; go_simp; try with_reducible rfl)
        try simp only [Act.put, List.getElem_toArray, List.getElem_cons_succ, List.getElem_cons_zero, List.setIfInBounds_toArray, List.set_cons_zero, List.set_cons_succ]
        refine wpAnyH_done (by kernel_rfl) ?_ _
        have HBa2 := hide (Below.trans HBa1.out (hHeld.mono HBa1.out.size))
        clear hHeld HYW HC5 hB5 hB6
        clear hgW k0 k1 k2 k3 k4 k5 m0 m5
        go_upto_region 11 with (fail)
        go_cut [106] from 96 to 106 (fun x wd => x = .bool false ∧ Hid (wd = wa2))
        case first =>
          by_cases hz : e1 = 0
          · obtain ⟨q1, q2⟩ := HR1.out hz
            have z1 : (e1 == 0) = true := by rw [hz]; rfl
            have z2 : (e2 != 0) = false := by rw [q1]; rfl
            have z3 : decide (r1 < r2) = false := by simp; omega
            have z4 : ¬ r1 < r2 := by omega
            clear hz q1 q2
            go_wp2_with fail
            go_meet
            exact ⟨rfl, rfl⟩
          · have z1 : (e1 == 0) = false := by simpa using hz
            clear hz
            go_wp2_with fail
            go_meet
            exact ⟨rfl, rfl⟩
        case rest =>
          obtain ⟨rfl, hcc⟩ := hcut
          have hwd := hcc.out
          subst hwd
          clear hcc
          obtain ⟨wd1, hwb⟩ : ∃ x, x = wc := ⟨_, rfl⟩
          subst hwb
          go_upto_region 13 with (fail)
          have hgW := box_to HG.out HBa2.out
          have k0 := cellOf hgW 0
          have k1 := cellOf hgW 1
          have k2 := cellOf hgW 2
          have k3 := cellOf hgW 3
          have k4 := cellOf hgW 4
          have k5 := box_lt hgW
          have hnW := box_to HN.out HBa2.out
          have m0 := cellOf hnW 0
          have m5 := box_lt hnW
          clear hnW
          have hyW := HYC.out.up HBa2.out
          have HYW := hide hyW
          clear hyW
          refine wp_region_held_drew (S := (fun w' => Below wd1.heap.size wd1 w')) (by kernel_rfl) ?_ (fun hHeld => ?_)
          · try dsimp only
            exact (by repeat (first | exact Below.refl _ _ | assumption | refine Below.drew ?_ | refine Below.drewN ?_ _ | refine Below.allocT ?_ (Nat.le_refl _) _ | refine Below.setCell ?_ (by simp <;> omega) _ | refine Below.to ?_ (by assumption) (Nat.le_refl _)))
          refine wpAnyH_take (i := 0) (v := ?v4_0) rfl (by kernel_rfl) (by kernel_rfl) (by kernel_rfl) (fun _ _ _ h => h) (Or.inl ⟨by rfl, ?y4_0⟩) (by assumption) ?r4_0
          case' y4_0 => (intro w hSw; (try dsimp only at hSw); (try have hlS := HLK.out _ hSw); obtain ⟨hcS, hfS⟩ := bcell hSw; clear hSw; go_simp; try with_reducible rfl)
          try simp only [Act.put, List.getElem_toArray, List.getElem_cons_succ, List.getElem_cons_zero, List.setIfInBounds_toArray, List.set_cons_zero, List.set_cons_succ]
          refine wpAnyH_take (i := 1) (v := ?v4_1) rfl (by kernel_rfl) (by kernel_rfl) (by kernel_rfl) (fun _ _ _ h => h) (Or.inl ⟨by rfl, ?y4_1⟩) (by assumption) ?r4_1
          case' y4_1 => (intro w hSw; (try dsimp only at hSw); (try have hlS := HLK.out _ hSw); obtain ⟨hcS, hfS⟩ := bcell hSw; clear hSw; go_simp; try with_reducible rfl)
          try simp only [Act.put, List.getElem_toArray, List.getElem_cons_succ, List.getElem_cons_zero, List.setIfInBounds_toArray, List.set_cons_zero, List.set_cons_succ]
          refine wpAnyH_take (i := 2) (v := ?v4_2) rfl (by kernel_rfl) (by kernel_rfl) (by kernel_rfl) (fun _ _ _ h => h) (Or.inl ⟨by rfl, ?y4_2⟩) (by assumption) ?r4_2
          case' y4_2 => (intro w hSw; (try dsimp only at hSw); (try have hlS := HLK.out _ hSw); obtain ⟨hcS, hfS⟩ := bcell hSw; clear hSw; go_simp; try with_reducible rfl)
          try simp only [Act.put, List.getElem_toArray, List.getElem_cons_succ, List.getElem_cons_zero, List.setIfInBounds_toArray, List.set_cons_zero, List.set_cons_succ]
          refine wpAnyH_ready (rs := [3]) (by kernel_rfl) (by simp) ?_
          refine AllReadyH.cons rfl (fun K hK => ?_) AllReadyH.nil
          go_simp
          (first | (go_at_call 22; refine (cycle_any _ cs _ hn' (HYW.out.up (by repeat (first | exact Below.refl _ _ | assumption | refine Below.drew ?_ | refine Below.drewN ?_ _ | refine Below.allocT ?_ (Nat.le_refl _) _ | refine Below.setCell ?_ (by simp <;> omega) _ | refine Below.to ?_ (by assumption) (Nat.le_refl _))))).mono ?_; rintro e w5 ⟨v5, rfl, hc5, hB5⟩; have HC5 := hide hc5; clear hc5) | (go_at_call 28; refine (Peak_any g _ cs _ hn' HC5.out).mono ?_; rw [Hr3.out, He3.out]; rintro e wa3 ⟨rfl, hB6⟩))
          (try dsimp only)
          refine hK.out _ _ ?_ (fun hNext => ?_)
          · try dsimp only
            exact (by repeat (first | exact Below.refl _ _ | assumption | refine Below.drew ?_ | refine Below.drewN ?_ _ | refine Below.allocT ?_ (Nat.le_refl _) _ | refine Below.setCell ?_ (by simp <;> omega) _ | refine Below.to ?_ (by assumption) (Nat.le_refl _)))
          clear hK K hHeld
          have hHeld := hNext
          clear hNext
          (try dsimp only at hHeld)
          try simp only [Act.put, List.getElem_toArray, List.getElem_cons_succ, List.getElem_cons_zero, List.setIfInBounds_toArray, List.set_cons_zero, List.set_cons_succ]
          refine wpAnyH_ready (rs := [4]) (by kernel_rfl) (by simp) ?_
          refine AllReadyH.cons rfl (fun K hK => ?_) AllReadyH.nil
          go_simp
          (first | (go_at_call 22; refine (cycle_any _ cs _ hn' (HYW.out.up (by repeat (first | exact Below.refl _ _ | assumption | refine Below.drew ?_ | refine Below.drewN ?_ _ | refine Below.allocT ?_ (Nat.le_refl _) _ | refine Below.setCell ?_ (by simp <;> omega) _ | refine Below.to ?_ (by assumption) (Nat.le_refl _))))).mono ?_; rintro e w5 ⟨v5, rfl, hc5, hB5⟩; have HC5 := hide hc5; clear hc5) | (go_at_call 28; refine (Peak_any g _ cs _ hn' HC5.out).mono ?_; rw [Hr3.out, He3.out]; rintro e wa3 ⟨rfl, hB6⟩))
          (try dsimp only)
          refine hK.out _ _ ?_ (fun hNext => ?_)
          · try dsimp only
            exact (by repeat (first | exact Below.refl _ _ | assumption | refine Below.drew ?_ | refine Below.drewN ?_ _ | refine Below.allocT ?_ (Nat.le_refl _) _ | refine Below.setCell ?_ (by simp <;> omega) _ | refine Below.to ?_ (by assumption) (Nat.le_refl _)))
          clear hK K hHeld
          have hHeld := hNext
          clear hNext
          (try dsimp only at hHeld)
          try simp only [Act.put, List.getElem_toArray, List.getElem_cons_succ, List.getElem_cons_zero, List.setIfInBounds_toArray, List.set_cons_zero, List.set_cons_succ]
          refine wpAnyH_take (i := 5) (v := ?v4_5) rfl (by kernel_rfl) (by kernel_rfl) (by kernel_rfl) (fun _ _ _ h => h) (Or.inl ⟨by rfl, ?y4_5⟩) (by assumption) ?r4_5
          case' y4_5 => (intro w hSw; (try dsimp only at hSw); (try have hlS := HLK.out _ hSw); obtain ⟨hcS, hfS⟩ := bcell hSw; clear hSw; go_simp; try with_reducible rfl)
          try simp only [Act.put, List.getElem_toArray, List.getElem_cons_succ, List.getElem_cons_zero, List.setIfInBounds_toArray, List.set_cons_zero, List.set_cons_succ]
          refine wpAnyH_take (i := 6) (v := ?v4_6) rfl (by kernel_rfl) (by kernel_rfl) (by kernel_rfl) (fun _ _ _ h => h) (Or.inl ⟨by rfl, ?y4_6⟩) (by assumption) ?r4_6
          case' y4_6 => (intro w hSw; (try dsimp only at hSw); (try have hlS := HLK.out _ hSw); obtain ⟨hcS, hfS⟩ := bcell hSw; clear hSw; go_simp; try with_reducible rfl)
          try simp only [Act.put, List.getElem_toArray, List.getElem_cons_succ, List.getElem_cons_zero, List.setIfInBounds_toArray, List.set_cons_zero, List.set_cons_succ]
          refine wpAnyH_take (i := 7) (v := ?v4_7) rfl (by kernel_rfl) (by kernel_rfl) (by kernel_rfl) (fun _ _ _ h => h) (Or.inl ⟨by rfl, ?y4_7⟩) (by assumption) ?r4_7
          case' y4_7 => (intro w hSw; (try dsimp only at hSw); (try have hlS := HLK.out _ hSw); obtain ⟨hcS, hfS⟩ := bcell hSw; clear hSw; go_simp; try with_reducible rfl)
          try simp only [Act.put, List.getElem_toArray, List.getElem_cons_succ, List.getElem_cons_zero, List.setIfInBounds_toArray, List.set_cons_zero, List.set_cons_succ]
          refine wpAnyH_take (i := 8) (v := ?v4_8) rfl (by kernel_rfl) (by kernel_rfl) (by kernel_rfl) (fun _ _ _ h => h) (Or.inl ⟨by rfl, ?y4_8⟩) (by assumption) ?r4_8
          case' y4_8 => (intro w hSw; (try dsimp only at hSw); (try have hlS := HLK.out _ hSw); obtain ⟨hcS, hfS⟩ := bcell hSw; clear hSw; go_simp; try with_reducible rfl)
          try simp only [Act.put, List.getElem_toArray, List.getElem_cons_succ, List.getElem_cons_zero, List.setIfInBounds_toArray, List.set_cons_zero, List.set_cons_succ]
          refine wpAnyH_take (i := 9) (v := ?v4_9) rfl (by kernel_rfl) (by kernel_rfl) (by kernel_rfl) (fun _ _ _ h => h) (Or.inl ⟨by rfl, ?y4_9⟩) (by assumption) ?r4_9
          case' y4_9 => (intro w hSw; (try dsimp only at hSw); (try have hlS := HLK.out _ hSw); obtain ⟨hcS, hfS⟩ := bcell hSw; clear hSw; go_simp; try with_reducible rfl)
          try simp only [Act.put, List.getElem_toArray, List.getElem_cons_succ, List.getElem_cons_zero, List.setIfInBounds_toArray, List.set_cons_zero, List.set_cons_succ]
          refine wpAnyH_done (by kernel_rfl) ?_ _
          have HBa3 := hide (Below.trans HBa2.out (hHeld.mono HBa2.out.size))
          clear hHeld HYW HC5 hB5 hB6
          clear hgW k0 k1 k2 k3 k4 k5 m0 m5
          go_upto_region 14 with (fail)
          have hgW := box_to HG.out HBa3.out
          have k0 := cellOf hgW 0
          have k1 := cellOf hgW 1
          have k2 := cellOf hgW 2
          have k3 := cellOf hgW 3
          have k4 := cellOf hgW 4
          have k5 := box_lt hgW
          have hnW := box_to HM.out HBa3.out
          have m0 := cellOf hnW 0
          have m5 := box_lt hnW
          clear hnW
          have hyW := HYD.out.up HBa3.out
          have HYW := hide hyW
          clear hyW
          refine wp_region_held_drew (S := (fun w' => Below wa3.heap.size wa3 w')) (by kernel_rfl) ?_ (fun hHeld => ?_)
          · try dsimp only
            exact (by repeat (first | exact Below.refl _ _ | assumption | refine Below.drew ?_ | refine Below.drewN ?_ _ | refine Below.allocT ?_ (Nat.le_refl _) _ | refine Below.setCell ?_ (by simp <;> omega) _ | refine Below.to ?_ (by assumption) (Nat.le_refl _)))
          refine wpAnyH_take (i := 0) (v := ?v5_0) rfl (by kernel_rfl) (by kernel_rfl) (by kernel_rfl) (fun _ _ _ h => h) (Or.inl ⟨by rfl, ?y5_0⟩) (by assumption) ?r5_0
          case' y5_0 => (intro w hSw; (try dsimp only at hSw); (try have hlS := HLK.out _ hSw); obtain ⟨hcS, hfS⟩ := bcell hSw; clear hSw; go_simp; try with_reducible rfl)
          try simp only [Act.put, List.getElem_toArray, List.getElem_cons_succ, List.getElem_cons_zero, List.setIfInBounds_toArray, List.set_cons_zero, List.set_cons_succ]
          refine wpAnyH_take (i := 1) (v := ?v5_1) rfl (by kernel_rfl) (by kernel_rfl) (by kernel_rfl) (fun _ _ _ h => h) (Or.inl ⟨by rfl, ?y5_1⟩) (by assumption) ?r5_1
          case' y5_1 => (intro w hSw; (try dsimp only at hSw); (try have hlS := HLK.out _ hSw); obtain ⟨hcS, hfS⟩ := bcell hSw; clear hSw; go_simp; try with_reducible rfl)
          try simp only [Act.put, List.getElem_toArray, List.getElem_cons_succ, List.getElem_cons_zero, List.setIfInBounds_toArray, List.set_cons_zero, List.set_cons_succ]
          refine wpAnyH_take (i := 2) (v := ?v5_2) rfl (by kernel_rfl) (by kernel_rfl) (by kernel_rfl) (fun _ _ _ h => h) (Or.inl ⟨by rfl, ?y5_2⟩) (by assumption) ?r5_2
          case' y5_2 => (intro w hSw; (try dsimp only at hSw); (try have hlS := HLK.out _ hSw); obtain ⟨hcS, hfS⟩ := bcell hSw; clear hSw; go_simp; try with_reducible rfl)
          try simp only [Act.put, List.getElem_toArray, List.getElem_cons_succ, List.getElem_cons_zero, List.setIfInBounds_toArray, List.set_cons_zero, List.set_cons_succ]
          refine wpAnyH_ready (rs := [3]) (by kernel_rfl) (by simp) ?_
          refine AllReadyH.cons rfl (fun K hK => ?_) AllReadyH.nil
          go_simp
          (first | (go_at_call 22; refine (cycle_any _ ds _ hdl (HYW.out.up (by repeat (first | exact Below.refl _ _ | assumption | refine Below.drew ?_ | refine Below.drewN ?_ _ | refine Below.allocT ?_ (Nat.le_refl _) _ | refine Below.setCell ?_ (by simp <;> omega) _ | refine Below.to ?_ (by assumption) (Nat.le_refl _))))).mono ?_; rintro e w5 ⟨v5, rfl, hc5, hB5⟩; have HC5 := hide hc5; clear hc5) | (go_at_call 28; refine (Peak_any g _ ds _ hdl HC5.out).mono ?_; rw [Hr4.out, He4.out]; rintro e wa4 ⟨rfl, hB6⟩))
          (try dsimp only)
          refine hK.out _ _ ?_ (fun hNext => ?_)
          · try dsimp only
            exact (by repeat (first | exact Below.refl _ _ | assumption | refine Below.drew ?_ | refine Below.drewN ?_ _ | refine Below.allocT ?_ (Nat.le_refl _) _ | refine Below.setCell ?_ (by simp <;> omega) _ | refine Below.to ?_ (by assumption) (Nat.le_refl _)))
          clear hK K hHeld
          have hHeld := hNext
          clear hNext
          (try dsimp only at hHeld)
          try simp only [Act.put, List.getElem_toArray, List.getElem_cons_succ, List.getElem_cons_zero, List.setIfInBounds_toArray, List.set_cons_zero, List.set_cons_succ]
          refine wpAnyH_ready (rs := [4]) (by kernel_rfl) (by simp) ?_
          refine AllReadyH.cons rfl (fun K hK => ?_) AllReadyH.nil
          go_simp
          (first | (go_at_call 22; refine (cycle_any _ ds _ hdl (HYW.out.up (by repeat (first | exact Below.refl _ _ | assumption | refine Below.drew ?_ | refine Below.drewN ?_ _ | refine Below.allocT ?_ (Nat.le_refl _) _ | refine Below.setCell ?_ (by simp <;> omega) _ | refine Below.to ?_ (by assumption) (Nat.le_refl _))))).mono ?_; rintro e w5 ⟨v5, rfl, hc5, hB5⟩; have HC5 := hide hc5; clear hc5) | (go_at_call 28; refine (Peak_any g _ ds _ hdl HC5.out).mono ?_; rw [Hr4.out, He4.out]; rintro e wa4 ⟨rfl, hB6⟩))
          (try dsimp only)
          refine hK.out _ _ ?_ (fun hNext => ?_)
          · try dsimp only
            exact (by repeat (first | exact Below.refl _ _ | assumption | refine Below.drew ?_ | refine Below.drewN ?_ _ | refine Below.allocT ?_ (Nat.le_refl _) _ | refine Below.setCell ?_ (by simp <;> omega) _ | refine Below.to ?_ (by assumption) (Nat.le_refl _)))
          clear hK K hHeld
          have hHeld := hNext
          clear hNext
          (try dsimp only at hHeld)
          try simp only [Act.put, List.getElem_toArray, List.getElem_cons_succ, List.getElem_cons_zero, List.setIfInBounds_toArray, List.set_cons_zero, List.set_cons_succ]
          refine wpAnyH_take (i := 5) (v := ?v5_5) rfl (by kernel_rfl) (by kernel_rfl) (by kernel_rfl) (fun _ _ _ h => h) (Or.inl ⟨by rfl, ?y5_5⟩) (by assumption) ?r5_5
          case' y5_5 => (intro w hSw; (try dsimp only at hSw); (try have hlS := HLK.out _ hSw); obtain ⟨hcS, hfS⟩ := bcell hSw; clear hSw; go_simp; try with_reducible rfl)
          try simp only [Act.put, List.getElem_toArray, List.getElem_cons_succ, List.getElem_cons_zero, List.setIfInBounds_toArray, List.set_cons_zero, List.set_cons_succ]
          refine wpAnyH_take (i := 6) (v := ?v5_6) rfl (by kernel_rfl) (by kernel_rfl) (by kernel_rfl) (fun _ _ _ h => h) (Or.inl ⟨by rfl, ?y5_6⟩) (by assumption) ?r5_6
          case' y5_6 => (intro w hSw; (try dsimp only at hSw); (try have hlS := HLK.out _ hSw); obtain ⟨hcS, hfS⟩ := bcell hSw; clear hSw; go_simp; try with_reducible rfl)
          try simp only [Act.put, List.getElem_toArray, List.getElem_cons_succ, List.getElem_cons_zero, List.setIfInBounds_toArray, List.set_cons_zero, List.set_cons_succ]
          refine wpAnyH_take (i := 7) (v := ?v5_7) rfl (by kernel_rfl) (by kernel_rfl) (by kernel_rfl) (fun _ _ _ h => h) (Or.inl ⟨by rfl, ?y5_7⟩) (by assumption) ?r5_7
          case' y5_7 => (intro w hSw; (try dsimp only at hSw); (try have hlS := HLK.out _ hSw); obtain ⟨hcS, hfS⟩ := bcell hSw; clear hSw; go_simp; try with_reducible rfl)
          try simp only [Act.put, List.getElem_toArray, List.getElem_cons_succ, List.getElem_cons_zero, List.setIfInBounds_toArray, List.set_cons_zero, List.set_cons_succ]
          refine wpAnyH_take (i := 8) (v := ?v5_8) rfl (by kernel_rfl) (by kernel_rfl) (by kernel_rfl) (fun _ _ _ h => h) (Or.inl ⟨by rfl, ?y5_8⟩) (by assumption) ?r5_8
          case' y5_8 => (intro w hSw; (try dsimp only at hSw); (try have hlS := HLK.out _ hSw); obtain ⟨hcS, hfS⟩ := bcell hSw; clear hSw; go_simp; try with_reducible rfl)
          try simp only [Act.put, List.getElem_toArray, List.getElem_cons_succ, List.getElem_cons_zero, List.setIfInBounds_toArray, List.set_cons_zero, List.set_cons_succ]
          refine wpAnyH_take (i := 9) (v := ?v5_9) rfl (by kernel_rfl) (by kernel_rfl) (by kernel_rfl) (fun _ _ _ h => h) (Or.inl ⟨by rfl, ?y5_9⟩) (by assumption) ?r5_9
          case' y5_9 => (intro w hSw; (try dsimp only at hSw); (try have hlS := HLK.out _ hSw); obtain ⟨hcS, hfS⟩ := bcell hSw; clear hSw; go_simp; try with_reducible rfl)
          try simp only [Act.put, List.getElem_toArray, List.getElem_cons_succ, List.getElem_cons_zero, List.setIfInBounds_toArray, List.set_cons_zero, List.set_cons_succ]
          refine wpAnyH_done (by kernel_rfl) ?_ _
          have HBa4 := hide (Below.trans HBa3.out (hHeld.mono HBa3.out.size))
          clear hHeld HYW HC5 hB5 hB6
          clear hgW k0 k1 k2 k3 k4 k5 m0 m5
          go_upto_region 15 with (fail)
          go_cut [133] from 123 to 133 (fun x wd => x = .bool false ∧ Hid (wd = wa4))
          case first =>
            by_cases hz : e3 = 0
            · obtain ⟨q1, q2⟩ := HR2.out hz
              have z1 : (e3 == 0) = true := by rw [hz]; rfl
              have z2 : (e4 != 0) = false := by rw [q1]; rfl
              have z3 : decide (r3 < r4) = false := by simp; omega
              have z4 : ¬ r3 < r4 := by omega
              clear hz q1 q2
              go_wp2_with fail
              go_meet
              exact ⟨rfl, rfl⟩
            · have z1 : (e3 == 0) = false := by simpa using hz
              clear hz
              go_wp2_with fail
              go_meet
              exact ⟨rfl, rfl⟩
          case rest =>
            obtain ⟨rfl, hcc⟩ := hcut
            have hwd := hcc.out
            subst hwd
            clear hcc
            obtain ⟨wd2, hwb⟩ : ∃ x, x = wc := ⟨_, rfl⟩
            subst hwb
            go_upto_region 17 with (fail)
            have hgW := box_to HF.out HBa4.out
            have k0 := cellOf hgW 0
            have k1 := cellOf hgW 1
            have k5 := box_lt hgW
            have hnW := box_to HN.out HBa4.out
            have m0 := cellOf hnW 0
            have m5 := box_lt hnW
            clear hnW
            have hyW := HYC.out.up HBa4.out
            have HYW := hide hyW
            clear hyW
            refine wp_region_held_drew (S := (fun w' => Below wd2.heap.size wd2 w')) (by kernel_rfl) ?_ (fun hHeld => ?_)
            · try dsimp only
              exact (by repeat (first | exact Below.refl _ _ | assumption | refine Below.drew ?_ | refine Below.drewN ?_ _ | refine Below.allocT ?_ (Nat.le_refl _) _ | refine Below.setCell ?_ (by simp <;> omega) _ | refine Below.to ?_ (by assumption) (Nat.le_refl _)))
            refine wpAnyH_take (i := 0) (v := ?v6_0) rfl (by kernel_rfl) (by kernel_rfl) (by kernel_rfl) (fun _ _ _ h => h) (Or.inl ⟨by rfl, ?y6_0⟩) (by assumption) ?r6_0
            case' y6_0 => (intro w hSw; (try dsimp only at hSw); (try have hlS := HLK.out _ hSw); obtain ⟨hcS, hfS⟩ := bcell hSw; clear hSw; go_simp; try with_reducible rfl)
            try simp only [Act.put, List.getElem_toArray, List.getElem_cons_succ, List.getElem_cons_zero, List.setIfInBounds_toArray, List.set_cons_zero, List.set_cons_succ]
            refine wpAnyH_take (i := 1) (v := ?v6_1) rfl (by kernel_rfl) (by kernel_rfl) (by kernel_rfl) (fun _ _ _ h => h) (Or.inl ⟨by rfl, ?y6_1⟩) (by assumption) ?r6_1
            case' y6_1 => (intro w hSw; (try dsimp only at hSw); (try have hlS := HLK.out _ hSw); obtain ⟨hcS, hfS⟩ := bcell hSw; clear hSw; go_simp; try with_reducible rfl)
            try simp only [Act.put, List.getElem_toArray, List.getElem_cons_succ, List.getElem_cons_zero, List.setIfInBounds_toArray, List.set_cons_zero, List.set_cons_succ]
            refine wpAnyH_take (i := 2) (v := ?v6_2) rfl (by kernel_rfl) (by kernel_rfl) (by kernel_rfl) (fun _ _ _ h => h) (Or.inl ⟨by rfl, ?y6_2⟩) (by assumption) ?r6_2
            case' y6_2 => (intro w hSw; (try dsimp only at hSw); (try have hlS := HLK.out _ hSw); obtain ⟨hcS, hfS⟩ := bcell hSw; clear hSw; go_simp; try with_reducible rfl)
            try simp only [Act.put, List.getElem_toArray, List.getElem_cons_succ, List.getElem_cons_zero, List.setIfInBounds_toArray, List.set_cons_zero, List.set_cons_succ]
            refine wpAnyH_ready (rs := [3]) (by kernel_rfl) (by simp) ?_
            refine AllReadyH.cons rfl (fun K hK => ?_) AllReadyH.nil
            go_simp
            (first | (go_at_call 22; refine (cycle_any _ cs _ hn' (HYW.out.up (by repeat (first | exact Below.refl _ _ | assumption | refine Below.drew ?_ | refine Below.drewN ?_ _ | refine Below.allocT ?_ (Nat.le_refl _) _ | refine Below.setCell ?_ (by simp <;> omega) _ | refine Below.to ?_ (by assumption) (Nat.le_refl _))))).mono ?_; rintro e w5 ⟨v5, rfl, hc5, hB5⟩; have HC5 := hide hc5; clear hc5) | (go_at_call 21; refine (Holds_any f _ cs _ hn' HC5.out).mono ?_; rw [Hb5.out, He5.out]; rintro e wa5 ⟨rfl, hB6⟩))
            (try dsimp only)
            refine hK.out _ _ ?_ (fun hNext => ?_)
            · try dsimp only
              exact (by repeat (first | exact Below.refl _ _ | assumption | refine Below.drew ?_ | refine Below.drewN ?_ _ | refine Below.allocT ?_ (Nat.le_refl _) _ | refine Below.setCell ?_ (by simp <;> omega) _ | refine Below.to ?_ (by assumption) (Nat.le_refl _)))
            clear hK K hHeld
            have hHeld := hNext
            clear hNext
            (try dsimp only at hHeld)
            try simp only [Act.put, List.getElem_toArray, List.getElem_cons_succ, List.getElem_cons_zero, List.setIfInBounds_toArray, List.set_cons_zero, List.set_cons_succ]
            refine wpAnyH_ready (rs := [4]) (by kernel_rfl) (by simp) ?_
            refine AllReadyH.cons rfl (fun K hK => ?_) AllReadyH.nil
            go_simp
            (first | (go_at_call 22; refine (cycle_any _ cs _ hn' (HYW.out.up (by repeat (first | exact Below.refl _ _ | assumption | refine Below.drew ?_ | refine Below.drewN ?_ _ | refine Below.allocT ?_ (Nat.le_refl _) _ | refine Below.setCell ?_ (by simp <;> omega) _ | refine Below.to ?_ (by assumption) (Nat.le_refl _))))).mono ?_; rintro e w5 ⟨v5, rfl, hc5, hB5⟩; have HC5 := hide hc5; clear hc5) | (go_at_call 21; refine (Holds_any f _ cs _ hn' HC5.out).mono ?_; rw [Hb5.out, He5.out]; rintro e wa5 ⟨rfl, hB6⟩))
            (try dsimp only)
            refine hK.out _ _ ?_ (fun hNext => ?_)
            · try dsimp only
              exact (by repeat (first | exact Below.refl _ _ | assumption | refine Below.drew ?_ | refine Below.drewN ?_ _ | refine Below.allocT ?_ (Nat.le_refl _) _ | refine Below.setCell ?_ (by simp <;> omega) _ | refine Below.to ?_ (by assumption) (Nat.le_refl _)))
            clear hK K hHeld
            have hHeld := hNext
            clear hNext
            (try dsimp only at hHeld)
            try simp only [Act.put, List.getElem_toArray, List.getElem_cons_succ, List.getElem_cons_zero, List.setIfInBounds_toArray, List.set_cons_zero, List.set_cons_succ]
            refine wpAnyH_take (i := 5) (v := ?v6_5) rfl (by kernel_rfl) (by kernel_rfl) (by kernel_rfl) (fun _ _ _ h => h) (Or.inl ⟨by rfl, ?y6_5⟩) (by assumption) ?r6_5
            case' y6_5 => (intro w hSw; (try dsimp only at hSw); (try have hlS := HLK.out _ hSw); obtain ⟨hcS, hfS⟩ := bcell hSw; clear hSw; go_simp; try with_reducible rfl)
            try simp only [Act.put, List.getElem_toArray, List.getElem_cons_succ, List.getElem_cons_zero, List.setIfInBounds_toArray, List.set_cons_zero, List.set_cons_succ]
            refine wpAnyH_take (i := 6) (v := ?v6_6) rfl (by kernel_rfl) (by kernel_rfl) (by kernel_rfl) (fun _ _ _ h => h) (Or.inl ⟨by rfl, ?y6_6⟩) (by assumption) ?r6_6
            case' y6_6 => (intro w hSw; (try dsimp only at hSw); (try have hlS := HLK.out _ hSw); obtain ⟨hcS, hfS⟩ := bcell hSw; clear hSw; go_simp; try with_reducible rfl)
            try simp only [Act.put, List.getElem_toArray, List.getElem_cons_succ, List.getElem_cons_zero, List.setIfInBounds_toArray, List.set_cons_zero, List.set_cons_succ]
            refine wpAnyH_take (i := 7) (v := ?v6_7) rfl (by kernel_rfl) (by kernel_rfl) (by kernel_rfl) (fun _ _ _ h => h) (Or.inl ⟨by rfl, ?y6_7⟩) (by assumption) ?r6_7
            case' y6_7 => (intro w hSw; (try dsimp only at hSw); (try have hlS := HLK.out _ hSw); obtain ⟨hcS, hfS⟩ := bcell hSw; clear hSw; go_simp; try with_reducible rfl)
            try simp only [Act.put, List.getElem_toArray, List.getElem_cons_succ, List.getElem_cons_zero, List.setIfInBounds_toArray, List.set_cons_zero, List.set_cons_succ]
            refine wpAnyH_take (i := 8) (v := ?v6_8) rfl (by kernel_rfl) (by kernel_rfl) (by kernel_rfl) (fun _ _ _ h => h) (Or.inl ⟨by rfl, ?y6_8⟩) (by assumption) ?r6_8
            case' y6_8 => (intro w hSw; (try dsimp only at hSw); (try have hlS := HLK.out _ hSw); obtain ⟨hcS, hfS⟩ := bcell hSw; clear hSw; go_simp; try with_reducible rfl)
            try simp only [Act.put, List.getElem_toArray, List.getElem_cons_succ, List.getElem_cons_zero, List.setIfInBounds_toArray, List.set_cons_zero, List.set_cons_succ]
            refine wpAnyH_take (i := 9) (v := ?v6_9) rfl (by kernel_rfl) (by kernel_rfl) (by kernel_rfl) (fun _ _ _ h => h) (Or.inl ⟨by rfl, ?y6_9⟩) (by assumption) ?r6_9
            case' y6_9 => (intro w hSw; (try dsimp only at hSw); (try have hlS := HLK.out _ hSw); obtain ⟨hcS, hfS⟩ := bcell hSw; clear hSw; go_simp; try with_reducible rfl)
            try simp only [Act.put, List.getElem_toArray, List.getElem_cons_succ, List.getElem_cons_zero, List.setIfInBounds_toArray, List.set_cons_zero, List.set_cons_succ]
            refine wpAnyH_done (by kernel_rfl) ?_ _
            have HBa5 := hide (Below.trans HBa4.out (hHeld.mono HBa4.out.size))
            clear hHeld HYW HC5 hB5 hB6
            clear hgW k0 k1 k5 m0 m5
            go_upto_region 18 with (fail)
            have hgW := box_to HF.out HBa5.out
            have k0 := cellOf hgW 0
            have k1 := cellOf hgW 1
            have k5 := box_lt hgW
            have hnW := box_to HM.out HBa5.out
            have m0 := cellOf hnW 0
            have m5 := box_lt hnW
            clear hnW
            have hyW := HYD.out.up HBa5.out
            have HYW := hide hyW
            clear hyW
            refine wp_region_held_drew (S := (fun w' => Below wa5.heap.size wa5 w')) (by kernel_rfl) ?_ (fun hHeld => ?_)
            · try dsimp only
              exact (by repeat (first | exact Below.refl _ _ | assumption | refine Below.drew ?_ | refine Below.drewN ?_ _ | refine Below.allocT ?_ (Nat.le_refl _) _ | refine Below.setCell ?_ (by simp <;> omega) _ | refine Below.to ?_ (by assumption) (Nat.le_refl _)))
            refine wpAnyH_take (i := 0) (v := ?v7_0) rfl (by kernel_rfl) (by kernel_rfl) (by kernel_rfl) (fun _ _ _ h => h) (Or.inl ⟨by rfl, ?y7_0⟩) (by assumption) ?r7_0
            case' y7_0 => (intro w hSw; (try dsimp only at hSw); (try have hlS := HLK.out _ hSw); obtain ⟨hcS, hfS⟩ := bcell hSw; clear hSw; go_simp; try with_reducible rfl)
            try simp only [Act.put, List.getElem_toArray, List.getElem_cons_succ, List.getElem_cons_zero, List.setIfInBounds_toArray, List.set_cons_zero, List.set_cons_succ]
            refine wpAnyH_take (i := 1) (v := ?v7_1) rfl (by kernel_rfl) (by kernel_rfl) (by kernel_rfl) (fun _ _ _ h => h) (Or.inl ⟨by rfl, ?y7_1⟩) (by assumption) ?r7_1
            case' y7_1 => (intro w hSw; (try dsimp only at hSw); (try have hlS := HLK.out _ hSw); obtain ⟨hcS, hfS⟩ := bcell hSw; clear hSw; go_simp; try with_reducible rfl)
            try simp only [Act.put, List.getElem_toArray, List.getElem_cons_succ, List.getElem_cons_zero, List.setIfInBounds_toArray, List.set_cons_zero, List.set_cons_succ]
            refine wpAnyH_take (i := 2) (v := ?v7_2) rfl (by kernel_rfl) (by kernel_rfl) (by kernel_rfl) (fun _ _ _ h => h) (Or.inl ⟨by rfl, ?y7_2⟩) (by assumption) ?r7_2
            case' y7_2 => (intro w hSw; (try dsimp only at hSw); (try have hlS := HLK.out _ hSw); obtain ⟨hcS, hfS⟩ := bcell hSw; clear hSw; go_simp; try with_reducible rfl)
            try simp only [Act.put, List.getElem_toArray, List.getElem_cons_succ, List.getElem_cons_zero, List.setIfInBounds_toArray, List.set_cons_zero, List.set_cons_succ]
            refine wpAnyH_ready (rs := [3]) (by kernel_rfl) (by simp) ?_
            refine AllReadyH.cons rfl (fun K hK => ?_) AllReadyH.nil
            go_simp
            (first | (go_at_call 22; refine (cycle_any _ ds _ hdl (HYW.out.up (by repeat (first | exact Below.refl _ _ | assumption | refine Below.drew ?_ | refine Below.drewN ?_ _ | refine Below.allocT ?_ (Nat.le_refl _) _ | refine Below.setCell ?_ (by simp <;> omega) _ | refine Below.to ?_ (by assumption) (Nat.le_refl _))))).mono ?_; rintro e w5 ⟨v5, rfl, hc5, hB5⟩; have HC5 := hide hc5; clear hc5) | (go_at_call 21; refine (Holds_any f _ ds _ hdl HC5.out).mono ?_; rw [Hb6.out, He6.out]; rintro e wa6 ⟨rfl, hB6⟩))
            (try dsimp only)
            refine hK.out _ _ ?_ (fun hNext => ?_)
            · try dsimp only
              exact (by repeat (first | exact Below.refl _ _ | assumption | refine Below.drew ?_ | refine Below.drewN ?_ _ | refine Below.allocT ?_ (Nat.le_refl _) _ | refine Below.setCell ?_ (by simp <;> omega) _ | refine Below.to ?_ (by assumption) (Nat.le_refl _)))
            clear hK K hHeld
            have hHeld := hNext
            clear hNext
            (try dsimp only at hHeld)
            try simp only [Act.put, List.getElem_toArray, List.getElem_cons_succ, List.getElem_cons_zero, List.setIfInBounds_toArray, List.set_cons_zero, List.set_cons_succ]
            refine wpAnyH_ready (rs := [4]) (by kernel_rfl) (by simp) ?_
            refine AllReadyH.cons rfl (fun K hK => ?_) AllReadyH.nil
            go_simp
            (first | (go_at_call 22; refine (cycle_any _ ds _ hdl (HYW.out.up (by repeat (first | exact Below.refl _ _ | assumption | refine Below.drew ?_ | refine Below.drewN ?_ _ | refine Below.allocT ?_ (Nat.le_refl _) _ | refine Below.setCell ?_ (by simp <;> omega) _ | refine Below.to ?_ (by assumption) (Nat.le_refl _))))).mono ?_; rintro e w5 ⟨v5, rfl, hc5, hB5⟩; have HC5 := hide hc5; clear hc5) | (go_at_call 21; refine (Holds_any f _ ds _ hdl HC5.out).mono ?_; rw [Hb6.out, He6.out]; rintro e wa6 ⟨rfl, hB6⟩))
            (try dsimp only)
            refine hK.out _ _ ?_ (fun hNext => ?_)
            · try dsimp only
              exact (by repeat (first | exact Below.refl _ _ | assumption | refine Below.drew ?_ | refine Below.drewN ?_ _ | refine Below.allocT ?_ (Nat.le_refl _) _ | refine Below.setCell ?_ (by simp <;> omega) _ | refine Below.to ?_ (by assumption) (Nat.le_refl _)))
            clear hK K hHeld
            have hHeld := hNext
            clear hNext
            (try dsimp only at hHeld)
            try simp only [Act.put, List.getElem_toArray, List.getElem_cons_succ, List.getElem_cons_zero, List.setIfInBounds_toArray, List.set_cons_zero, List.set_cons_succ]
            refine wpAnyH_take (i := 5) (v := ?v7_5) rfl (by kernel_rfl) (by kernel_rfl) (by kernel_rfl) (fun _ _ _ h => h) (Or.inl ⟨by rfl, ?y7_5⟩) (by assumption) ?r7_5
            case' y7_5 => (intro w hSw; (try dsimp only at hSw); (try have hlS := HLK.out _ hSw); obtain ⟨hcS, hfS⟩ := bcell hSw; clear hSw; go_simp; try with_reducible rfl)
            try simp only [Act.put, List.getElem_toArray, List.getElem_cons_succ, List.getElem_cons_zero, List.setIfInBounds_toArray, List.set_cons_zero, List.set_cons_succ]
            refine wpAnyH_take (i := 6) (v := ?v7_6) rfl (by kernel_rfl) (by kernel_rfl) (by kernel_rfl) (fun _ _ _ h => h) (Or.inl ⟨by rfl, ?y7_6⟩) (by assumption) ?r7_6
            case' y7_6 => (intro w hSw; (try dsimp only at hSw); (try have hlS := HLK.out _ hSw); obtain ⟨hcS, hfS⟩ := bcell hSw; clear hSw; go_simp; try with_reducible rfl)
            try simp only [Act.put, List.getElem_toArray, List.getElem_cons_succ, List.getElem_cons_zero, List.setIfInBounds_toArray, List.set_cons_zero, List.set_cons_succ]
            refine wpAnyH_take (i := 7) (v := ?v7_7) rfl (by kernel_rfl) (by kernel_rfl) (by kernel_rfl) (fun _ _ _ h => h) (Or.inl ⟨by rfl, ?y7_7⟩) (by assumption) ?r7_7
            case' y7_7 => (intro w hSw; (try dsimp only at hSw); (try have hlS := HLK.out _ hSw); obtain ⟨hcS, hfS⟩ := bcell hSw; clear hSw; go_simp; try with_reducible rfl)
            try simp only [Act.put, List.getElem_toArray, List.getElem_cons_succ, List.getElem_cons_zero, List.setIfInBounds_toArray, List.set_cons_zero, List.set_cons_succ]
            refine wpAnyH_take (i := 8) (v := ?v7_8) rfl (by kernel_rfl) (by kernel_rfl) (by kernel_rfl) (fun _ _ _ h => h) (Or.inl ⟨by rfl, ?y7_8⟩) (by assumption) ?r7_8
            case' y7_8 => (intro w hSw; (try dsimp only at hSw); (try have hlS := HLK.out _ hSw); obtain ⟨hcS, hfS⟩ := bcell hSw; clear hSw; go_simp; try with_reducible rfl)
            try simp only [Act.put, List.getElem_toArray, List.getElem_cons_succ, List.getElem_cons_zero, List.setIfInBounds_toArray, List.set_cons_zero, List.set_cons_succ]
            refine wpAnyH_take (i := 9) (v := ?v7_9) rfl (by kernel_rfl) (by kernel_rfl) (by kernel_rfl) (fun _ _ _ h => h) (Or.inl ⟨by rfl, ?y7_9⟩) (by assumption) ?r7_9
            case' y7_9 => (intro w hSw; (try dsimp only at hSw); (try have hlS := HLK.out _ hSw); obtain ⟨hcS, hfS⟩ := bcell hSw; clear hSw; go_simp; try with_reducible rfl)
            try simp only [Act.put, List.getElem_toArray, List.getElem_cons_succ, List.getElem_cons_zero, List.setIfInBounds_toArray, List.set_cons_zero, List.set_cons_succ]
            refine wpAnyH_done (by kernel_rfl) ?_ _
            have HBa6 := hide (Below.trans HBa5.out (hHeld.mono HBa5.out.size))
            clear hHeld HYW HC5 hB5 hB6
            clear hgW k0 k1 k5 m0 m5
            go_upto_region 19 with (fail)
            go_cut [162] from 150 to 162 (fun x wd => x = .bool false ∧ Hid (wd = wa6))
            case first =>
              by_cases hz : e5 = 0
              · obtain ⟨q1, q2⟩ := HR3.out hz
                have z1 : (e5 == 0) = true := by rw [hz]; rfl
                have z2 : (e6 != 0) = false := by rw [q1]; rfl
                cases b5 with
                | true =>
                  have q3 : b6 = true := q2 rfl
                  subst q3
                  clear hz q1 q2
                  go_wp2_with fail
                  go_meet
                  exact ⟨rfl, rfl⟩
                | false =>
                  clear hz q1 q2
                  go_wp2_with fail
                  go_meet
                  exact ⟨rfl, rfl⟩
              · have z1 : (e5 == 0) = false := by simpa using hz
                clear hz
                go_wp2_with fail
                go_meet
                exact ⟨rfl, rfl⟩
            case rest =>
              obtain ⟨rfl, hcc⟩ := hcut
              have hwd := hcc.out
              subst hwd
              clear hcc
              obtain ⟨wd3, hwb⟩ : ∃ x, x = wc := ⟨_, rfl⟩
              subst hwb
              have hb1 := hn1.1
              have hb2 := hn1.2
              have hb3 := hn2.1
              have hb4 := hn2.2
              have hb5 := hn3.1
              have hb6 := hn3.2
              have hmW := box_to HM.out HBa6.out
              have HMW := hide hmW
              have m0 := cellOf hmW 0
              have m1 := cellOf hmW 1
              have m2 := cellOf hmW 2
              have m3 := cellOf hmW 3
              have f1 := unfrozenOf hmW 1
              have f2 := unfrozenOf hmW 2
              have f3 := unfrozenOf hmW 3
              have ml := box_lt hmW
              clear hmW
              clear m0 m1 m2 m3 f1 f2 f3 ml
              have m0 := cellOf HMW.out 2
              have f0 := unfrozenOf HMW.out 2
              have ml := box_lt HMW.out
              obtain ⟨bz, hbz⟩ : ∃ z, decide (n.drop < 100000) = z := ⟨_, rfl⟩
              have q0 : (mlN n).drop = if bz = true then n.drop + 1 else n.drop := by rw [← hbz]; simp [mlN]
              have Q0 := hide q0
              clear q0
              have hbq : bz = true → n.drop < 100000 := fun h => by rw [← hbz] at h; simpa using h
              have HBQ := hide hbq
              clear hbq
              go_upto_if 165 with (fail)
              go_cut [] from 166 to 169 (fun wc => Hid (NeedAt wc w1.heap.size (.slice A1 cs.length cap1) ⟨n.len, (mlN n).drop, n.amb⟩ ∧ wd3.grownBy wc (some w1.heap.size)))
              case first =>
                cases bz with
                | true =>
                  have a1 := HBQ.out rfl
                  go_wp2_with fail
                  go_meet
                  refine ⟨?_, ?_⟩
                  · have h1 := setCellOf (i := 2) HMW.out (.int .i64 (n.drop + 1))
                    show NeedAt _ _ _ _
                    unfold NeedAt
                    have q9 : (mlN n).drop = n.drop + 1 := by rw [Q0.out]; simp
                    rw [q9]
                    exact h1
                  · refine only_setCell (only_refl _ _) ?_ _
                    exact .inl rfl
                | false =>
                  go_wp2_with fail
                  go_meet
                  refine ⟨?_, only_refl _ _⟩
                  have h1 := HMW.out
                  show NeedAt _ _ _ _
                  unfold NeedAt
                  have q9 : (mlN n).drop = n.drop := by rw [Q0.out]; simp
                  rw [q9]
                  exact h1
              case rest =>
                obtain ⟨we1, hwb⟩ : ∃ x, x = wc := ⟨_, rfl⟩
                subst hwb
                have HM1 : Hid (NeedAt we1 w1.heap.size (.slice A1 cs.length cap1) ⟨n.len, (mlN n).drop, n.amb⟩) := hide hcut.out.1
                have HGwe1 := hide hcut.out.2
                clear hcut m0 f0 ml hbz Q0 HBQ
                have m0 := cellOf HM1.out 1
                have f0 := unfrozenOf HM1.out 1
                have ml := box_lt HM1.out
                obtain ⟨bz, hbz⟩ : ∃ z, decide (0 < n.len) = z := ⟨_, rfl⟩
                have q0 : (mlN n).len = if bz = true then n.len - 1 else n.len := by rw [← hbz]; simp [mlN]
                have Q0 := hide q0
                clear q0
                have hbq : bz = true → 0 < n.len := fun h => by rw [← hbz] at h; simpa using h
                have HBQ := hide hbq
                clear hbq
                go_upto_if 172 with (fail)
                go_cut [] from 173 to 176 (fun wc => Hid (NeedAt wc w1.heap.size (.slice A1 cs.length cap1) ⟨(mlN n).len, (mlN n).drop, n.amb⟩ ∧ we1.grownBy wc (some w1.heap.size)))
                case first =>
                  cases bz with
                  | true =>
                    have a1 := HBQ.out rfl
                    go_wp2_with fail
                    go_meet
                    refine ⟨?_, ?_⟩
                    · have h1 := setCellOf (i := 1) HM1.out (.int .i64 (n.len - 1))
                      show NeedAt _ _ _ _
                      unfold NeedAt
                      have q9 : (mlN n).len = n.len - 1 := by rw [Q0.out]; simp
                      rw [q9]
                      exact h1
                    · refine only_setCell (only_refl _ _) ?_ _
                      exact .inl rfl
                  | false =>
                    go_wp2_with fail
                    go_meet
                    refine ⟨?_, only_refl _ _⟩
                    have h1 := HM1.out
                    show NeedAt _ _ _ _
                    unfold NeedAt
                    have q9 : (mlN n).len = n.len := by rw [Q0.out]; simp
                    rw [q9]
                    exact h1
                case rest =>
                  obtain ⟨we2, hwb⟩ : ∃ x, x = wc := ⟨_, rfl⟩
                  subst hwb
                  have HM2x : Hid (NeedAt we2 w1.heap.size (.slice A1 cs.length cap1) ⟨(mlN n).len, (mlN n).drop, n.amb⟩) := hide hcut.out.1
                  have HGwe2 := hide hcut.out.2
                  clear hcut m0 f0 ml hbz Q0 HBQ
                  have m0 := cellOf HM2x.out 3
                  have f0 := unfrozenOf HM2x.out 3
                  have ml := box_lt HM2x.out
                  obtain ⟨bz, hbz⟩ : ∃ z, decide (0 < n.amb) = z := ⟨_, rfl⟩
                  have q0 : (mlN n).amb = if bz = true then n.amb - 1 else n.amb := by rw [← hbz]; simp [mlN]
                  have Q0 := hide q0
                  clear q0
                  have hbq : bz = true → 0 < n.amb := fun h => by rw [← hbz] at h; simpa using h
                  have HBQ := hide hbq
                  clear hbq
                  go_upto_if 179 with (fail)
                  go_cut [] from 180 to 183 (fun wc => Hid (NeedAt wc w1.heap.size (.slice A1 cs.length cap1) ⟨(mlN n).len, (mlN n).drop, (mlN n).amb⟩ ∧ we2.grownBy wc (some w1.heap.size)))
                  case first =>
                    cases bz with
                    | true =>
                      have a1 := HBQ.out rfl
                      go_wp2_with fail
                      go_meet
                      refine ⟨?_, ?_⟩
                      · have h1 := setCellOf (i := 3) HM2x.out (.int .i64 (n.amb - 1))
                        show NeedAt _ _ _ _
                        unfold NeedAt
                        have q9 : (mlN n).amb = n.amb - 1 := by rw [Q0.out]; simp
                        rw [q9]
                        exact h1
                      · refine only_setCell (only_refl _ _) ?_ _
                        exact .inl rfl
                    | false =>
                      go_wp2_with fail
                      go_meet
                      refine ⟨?_, only_refl _ _⟩
                      have h1 := HM2x.out
                      show NeedAt _ _ _ _
                      unfold NeedAt
                      have q9 : (mlN n).amb = n.amb := by rw [Q0.out]; simp
                      rw [q9]
                      exact h1
                  case rest =>
                    obtain ⟨wd4, hwb⟩ : ∃ x, x = wc := ⟨_, rfl⟩
                    subst hwb
                    have HM4 : Hid (NeedAt wd4 w1.heap.size (.slice A1 cs.length cap1) (mlN n)) := hide hcut.out.1
                    have HGwd4 := hide hcut.out.2
                    clear hcut m0 f0 ml hbz Q0 HBQ
                    have HGR : Hid (wd3.grownBy wd4 (some w1.heap.size)) := hide (only_trans (only_trans HGwe1.out HGwe2.out) HGwd4.out)
                    clear hb1 hb2 hb3 hb4 hb5 hb6
                    have hne : ∀ (q : Nat) (C : Array Value), wd3.heap[q]? = some (.cells C 54 (0, 0)) → wd4.heap[q]? = wd3.heap[q]? := fun q C hq => HGR.out.block q (box_lt hq) (fun e => by
                      injection e with e
                      rw [e] at hq
                      have h1 := HMW.out
                      rw [hq] at h1
                      injection h1 with h1
                      injection h1 with _ h1
                      exact absurd h1 (by decide))
                    have hx3 : CurX w0 wd3 (.slice A1 cs.length cap1) ds := curX_keep HX.out fun q C hq => HBa6.out.block q (box_lt hq)
                    have hx4 := curX_keep hx3 hne
                    have HYD4 : Hid (Cyc wd4 wd4.heap.size (.slice A1 cs.length cap1) ds) := hide hx4.cyc
                    have hlow : w0.heap.size ≤ w1.heap.size := HS1.out.1
                    have hB4 : Below w0.heap.size w0 wd4 := Below.trans (Below.trans hB.out (HBa6.out.mono hB.out.size)) (below_of_grown HGR.out (by have := HB1.out.size; have h1 := hB.out.size; have h2 := HBa6.out.size; omega) hlow)
                    have HB4 := hide hB4
                    have hbs : wb.heap.size ≤ wd3.heap.size := HBa6.out.size
                    have hms : w1.heap.size < wb.heap.size := box_lt HM.out
                    clear hne hx3 hx4 hB4
                    have hg4 := box_to HG0.out HB4.out
                    have k0 := cellOf hg4 0
                    have k1 := cellOf hg4 1
                    have k2 := cellOf hg4 2
                    have k3 := cellOf hg4 3
                    have k4 := cellOf hg4 4
                    have k5 := box_lt hg4
                    clear hg4
                    have hn4 := box_to HN0.out HB4.out
                    have m0 := cellOf hn4 0
                    have m1 := cellOf hn4 1
                    have m2 := cellOf hn4 2
                    have m3 := cellOf hn4 3
                    have m5 := box_lt hn4
                    clear hn4
                    have hyW := HY0.out.up HB4.out
                    have HYW := hide hyW
                    clear hyW
                    go_upto_region 27 with (fail)
                    refine wp_region_held_drew (S := (fun w' => Below wd4.heap.size wd4 w')) (by kernel_rfl) ?_ (fun hHeld => ?_)
                    · try dsimp only
                      exact (by repeat (first | exact Below.refl _ _ | assumption | refine Below.drew ?_ | refine Below.drewN ?_ _ | refine Below.allocT ?_ (Nat.le_refl _) _ | refine Below.setCell ?_ (by simp <;> omega) _ | refine Below.to ?_ (by assumption) (Nat.le_refl _)))
                    refine wpAnyH_take (i := 0) (v := ?v8_0) rfl (by kernel_rfl) (by kernel_rfl) (by kernel_rfl) (fun _ _ _ h => h) (Or.inl ⟨by rfl, ?y8_0⟩) (by assumption) ?r8_0
                    case' y8_0 => (intro w hSw; (try dsimp only at hSw); (try have hlS := HLK.out _ hSw); obtain ⟨hcS, hfS⟩ := bcell hSw; clear hSw; go_simp; try with_reducible rfl)
                    try simp only [Act.put, List.getElem_toArray, List.getElem_cons_succ, List.getElem_cons_zero, List.setIfInBounds_toArray, List.set_cons_zero, List.set_cons_succ]
                    refine wpAnyH_take (i := 1) (v := ?v8_1) rfl (by kernel_rfl) (by kernel_rfl) (by kernel_rfl) (fun _ _ _ h => h) (Or.inl ⟨by rfl, ?y8_1⟩) (by assumption) ?r8_1
                    case' y8_1 => (intro w hSw; (try dsimp only at hSw); (try have hlS := HLK.out _ hSw); obtain ⟨hcS, hfS⟩ := bcell hSw; clear hSw; go_simp; try with_reducible rfl)
                    try simp only [Act.put, List.getElem_toArray, List.getElem_cons_succ, List.getElem_cons_zero, List.setIfInBounds_toArray, List.set_cons_zero, List.set_cons_succ]
                    refine wpAnyH_ready (rs := [2]) (by kernel_rfl) (by simp) ?_
                    refine AllReadyH.cons rfl (fun K hK => ?_) AllReadyH.nil
                    go_simp
                    (first | (go_at_call 32; refine (copyNeed_any n _ cs _ hn' (HYW.out.up (by repeat (first | exact Below.refl _ _ | assumption | refine Below.drew ?_ | refine Below.drewN ?_ _ | refine Below.allocT ?_ (Nat.le_refl _) _ | refine Below.setCell ?_ (by simp <;> omega) _ | refine Below.to ?_ (by assumption) (Nat.le_refl _))))).mono ?_; rintro e w5 ⟨v5, rfl, hc5, hB5⟩; have HC5 := hide hc5; clear hc5) | (go_at_call 33; refine (Fits_any g n _ cs _ hn' HC5.out).mono ?_; rw [Hb7.out, He7.out]; rintro e wa7 ⟨rfl, hB6⟩))
                    (try dsimp only)
                    refine hK.out _ _ ?_ (fun hNext => ?_)
                    · try dsimp only
                      exact (by repeat (first | exact Below.refl _ _ | assumption | refine Below.drew ?_ | refine Below.drewN ?_ _ | refine Below.allocT ?_ (Nat.le_refl _) _ | refine Below.setCell ?_ (by simp <;> omega) _ | refine Below.to ?_ (by assumption) (Nat.le_refl _)))
                    clear hK K hHeld
                    have hHeld := hNext
                    clear hNext
                    (try dsimp only at hHeld)
                    try simp only [Act.put, List.getElem_toArray, List.getElem_cons_succ, List.getElem_cons_zero, List.setIfInBounds_toArray, List.set_cons_zero, List.set_cons_succ]
                    refine wpAnyH_ready (rs := [3]) (by kernel_rfl) (by simp) ?_
                    refine AllReadyH.cons rfl (fun K hK => ?_) AllReadyH.nil
                    go_simp
                    (first | (go_at_call 32; refine (copyNeed_any n _ cs _ hn' (HYW.out.up (by repeat (first | exact Below.refl _ _ | assumption | refine Below.drew ?_ | refine Below.drewN ?_ _ | refine Below.allocT ?_ (Nat.le_refl _) _ | refine Below.setCell ?_ (by simp <;> omega) _ | refine Below.to ?_ (by assumption) (Nat.le_refl _))))).mono ?_; rintro e w5 ⟨v5, rfl, hc5, hB5⟩; have HC5 := hide hc5; clear hc5) | (go_at_call 33; refine (Fits_any g n _ cs _ hn' HC5.out).mono ?_; rw [Hb7.out, He7.out]; rintro e wa7 ⟨rfl, hB6⟩))
                    (try dsimp only)
                    refine hK.out _ _ ?_ (fun hNext => ?_)
                    · try dsimp only
                      exact (by repeat (first | exact Below.refl _ _ | assumption | refine Below.drew ?_ | refine Below.drewN ?_ _ | refine Below.allocT ?_ (Nat.le_refl _) _ | refine Below.setCell ?_ (by simp <;> omega) _ | refine Below.to ?_ (by assumption) (Nat.le_refl _)))
                    clear hK K hHeld
                    have hHeld := hNext
                    clear hNext
                    (try dsimp only at hHeld)
                    try simp only [Act.put, List.getElem_toArray, List.getElem_cons_succ, List.getElem_cons_zero, List.setIfInBounds_toArray, List.set_cons_zero, List.set_cons_succ]
                    refine wpAnyH_take (i := 4) (v := ?v8_4) rfl (by kernel_rfl) (by kernel_rfl) (by kernel_rfl) (fun _ _ _ h => h) (Or.inl ⟨by rfl, ?y8_4⟩) (by assumption) ?r8_4
                    case' y8_4 => (intro w hSw; (try dsimp only at hSw); (try have hlS := HLK.out _ hSw); obtain ⟨hcS, hfS⟩ := bcell hSw; clear hSw; go_simp; try with_reducible rfl)
                    try simp only [Act.put, List.getElem_toArray, List.getElem_cons_succ, List.getElem_cons_zero, List.setIfInBounds_toArray, List.set_cons_zero, List.set_cons_succ]
                    refine wpAnyH_take (i := 5) (v := ?v8_5) rfl (by kernel_rfl) (by kernel_rfl) (by kernel_rfl) (fun _ _ _ h => h) (Or.inl ⟨by rfl, ?y8_5⟩) (by assumption) ?r8_5
                    case' y8_5 => (intro w hSw; (try dsimp only at hSw); (try have hlS := HLK.out _ hSw); obtain ⟨hcS, hfS⟩ := bcell hSw; clear hSw; go_simp; try with_reducible rfl)
                    try simp only [Act.put, List.getElem_toArray, List.getElem_cons_succ, List.getElem_cons_zero, List.setIfInBounds_toArray, List.set_cons_zero, List.set_cons_succ]
                    refine wpAnyH_take (i := 6) (v := ?v8_6) rfl (by kernel_rfl) (by kernel_rfl) (by kernel_rfl) (fun _ _ _ h => h) (Or.inl ⟨by rfl, ?y8_6⟩) (by assumption) ?r8_6
                    case' y8_6 => (intro w hSw; (try dsimp only at hSw); (try have hlS := HLK.out _ hSw); obtain ⟨hcS, hfS⟩ := bcell hSw; clear hSw; go_simp; try with_reducible rfl)
                    try simp only [Act.put, List.getElem_toArray, List.getElem_cons_succ, List.getElem_cons_zero, List.setIfInBounds_toArray, List.set_cons_zero, List.set_cons_succ]
                    refine wpAnyH_take (i := 7) (v := ?v8_7) rfl (by kernel_rfl) (by kernel_rfl) (by kernel_rfl) (fun _ _ _ h => h) (Or.inl ⟨by rfl, ?y8_7⟩) (by assumption) ?r8_7
                    case' y8_7 => (intro w hSw; (try dsimp only at hSw); (try have hlS := HLK.out _ hSw); obtain ⟨hcS, hfS⟩ := bcell hSw; clear hSw; go_simp; try with_reducible rfl)
                    try simp only [Act.put, List.getElem_toArray, List.getElem_cons_succ, List.getElem_cons_zero, List.setIfInBounds_toArray, List.set_cons_zero, List.set_cons_succ]
                    refine wpAnyH_take (i := 8) (v := ?v8_8) rfl (by kernel_rfl) (by kernel_rfl) (by kernel_rfl) (fun _ _ _ h => h) (Or.inl ⟨by rfl, ?y8_8⟩) (by assumption) ?r8_8
                    case' y8_8 => (intro w hSw; (try dsimp only at hSw); (try have hlS := HLK.out _ hSw); obtain ⟨hcS, hfS⟩ := bcell hSw; clear hSw; go_simp; try with_reducible rfl)
                    try simp only [Act.put, List.getElem_toArray, List.getElem_cons_succ, List.getElem_cons_zero, List.setIfInBounds_toArray, List.set_cons_zero, List.set_cons_succ]
                    refine wpAnyH_done (by kernel_rfl) ?_ _
                    have HBa7 := hide hHeld
                    clear hHeld HYW HC5 hB5 hB6 k0 k1 k2 k3 k4 k5 m0 m1 m2 m3 m5
                    have hg4 := box_to (box_to HG0.out HB4.out) HBa7.out
                    have k0 := cellOf hg4 0
                    have k1 := cellOf hg4 1
                    have k2 := cellOf hg4 2
                    have k3 := cellOf hg4 3
                    have k4 := cellOf hg4 4
                    have k5 := box_lt hg4
                    clear hg4
                    have hn4 := box_to HM4.out HBa7.out
                    have m0 := cellOf hn4 0
                    have m1 := cellOf hn4 1
                    have m2 := cellOf hn4 2
                    have m3 := cellOf hn4 3
                    have m5 := box_lt hn4
                    clear hn4
                    have hyW := HYD4.out.up HBa7.out
                    have HYW := hide hyW
                    clear hyW
                    go_upto_region 29 with (go_at_call 33; refine (Fits_any g (mlN n) _ ds _ hdl HYW.out).mono ?_; rw [Hb8.out, He8.out]; rintro e wa8 ⟨rfl, hB6⟩; have HBa8 := hide (Below.trans (HB4.out) ((Below.trans HBa7.out (hB6.mono HBa7.out.size)).mono HB4.out.size)); clear hB6 k0 k1 k2 k3 k4 k5 m0 m1 m2 m3 m5)
                    by_cases hz : e7 = 0
                    · obtain ⟨q1, q2⟩ := HR4.out hz
                      have z1 : (e7 != 0) = false := by rw [hz]; rfl
                      have z2 : (e8 == 0) = true := by rw [q1]; rfl
                      cases b7 with
                      | true =>
                        have q3 : b8 = true := q2 rfl
                        subst q3
                        clear hz q1 q2
                        go_wp2_with (go_at_call 17; refine (works_any _).mono ?_; rintro e w9 ⟨rfl, hB9⟩)
                        go_ret
                        exact ⟨rfl, Below.to HB0.out (Below.trans HBa8.out (hB9.mono HBa8.out.size)) (Nat.le_refl _)⟩
                      | false =>
                        clear hz q1 q2
                        go_wp2_with (go_at_call 17; refine (works_any _).mono ?_; rintro e w9 ⟨rfl, hB9⟩)
                        go_ret
                        exact ⟨rfl, Below.to HB0.out (Below.trans HBa8.out (hB9.mono HBa8.out.size)) (Nat.le_refl _)⟩
                    · have z1 : (e7 != 0) = true := by simpa using hz
                      clear hz
                      go_wp2_with (go_at_call 17; refine (works_any _).mono ?_; rintro e w9 ⟨rfl, hB9⟩)
                      go_ret
                      exact ⟨rfl, Below.to HB0.out (Below.trans HBa8.out (hB9.mono HBa8.out.size)) (Nat.le_refl _)⟩
end Go.Proofs.Ytejjjijaojkohaa

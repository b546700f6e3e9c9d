/- Part 20 of this claim's texts: walks and plain laws. -/
import Derived.Test.YtmgfijadjclmpaaRows
import Derived.Test.YtmgfijadjclmpaaGTC10
import Derived.Deep.DeepMust
import Derived.Deep.RegionHeld3
import Derived.Deep.DrawnRows
import Derived.Test.YtmgfijadjclmpaaGTC2
/- The elder's Check of frames, Heavy: walks. -/
namespace Go.Proofs.Ytmgfijadjclmpaa
open Go.RowKit
set_option linter.unusedVariables false
set_option linter.unusedSimpArgs false
/-- What the elder's Check answers: as much as Heavy asks. -/
def RcP (l : List Fr) (w : World) (e : Ending) (w' : World) : Prop :=
  ∃ z : Int, e = .returned (.int .i64 z) ∧ Below w.heap.size w w' ∧ (z = 0 → l.length ≤ 40 ∧ ∀ i, i < l.length → (1 ≤ (l.getD i Fr.o).s ∧ (l.getD i Fr.o).s ≤ 1000) ∧ (1 ≤ (l.getD i Fr.o).e ∧ (l.getD i Fr.o).e ≤ 100000) ∧ 0 ≤ (l.getD i Fr.o).j ∧ (l.getD i Fr.o).j ≤ 100000)
def EvB (w : World) (e : Ending) (w' : World) : Prop := ∃ b : Bool, e = .returned (.bool b) ∧ Below w.heap.size w w'
theorem zcase (z : Int) : z = 0 ∨ (z != 0) = true := by
  by_cases h : z = 0
  · exact .inl h
  · exact .inr (by simpa using h)
def FrW (x : Fr) : Prop := (1 ≤ x.s ∧ x.s ≤ 1000) ∧ (1 ≤ x.e ∧ x.e ≤ 100000) ∧ 0 ≤ x.j ∧ x.j ≤ 100000
set_option maxRecDepth 100000 in
set_option maxHeartbeats 8000000 in
theorem rCheck_any (v : Value) (l : List Fr) (w : World) (hm : l.length ≤ 1000) (h : Frs w w.heap.size v l) :
    Calls Try.prog 12 #[v] w (RcP l w) := by
  obtain ⟨A, cap, rfl⟩ := h.form
  have hcap := h.cap
  have H := hide h
  clear h
  by_cases hl : 40 < l.length
  · have hl1 : (40 : Int) < (l.length : Int) := by omega
    go_enter Try.func12, Try.ntmps12
    go_wp2
    go_ret
    exact ⟨40, rfl, Below.refl _ _, fun h => by cases h⟩
  have hl1 : ¬ (40 : Int) < (l.length : Int) := by omega
  go_enter Try.func12, Try.ntmps12
  go_wp2
  go_loopw [3, 4, 5] (fun iv _ _ wr => ∃ k : Nat, iv = .int .i64 k ∧ k ≤ l.length ∧ Hid (∀ j, j < k → FrW (l.getD j Fr.o)) ∧ Hid (Below w.heap.size w wr)) (fun iv _ _ _ => l.length - (intOf iv).toNat)
  case atStart => exact ⟨0, rfl, Nat.zero_le _, fun j hj => by omega, Below.refl _ _⟩
  case round =>
    obtain ⟨k, rfl, hk, HALL, HB⟩ := hrel
    by_cases hlt : k < l.length
    case neg =>
      have hlt1 : ¬ (k : Int) < (l.length : Int) := by omega
      have HKK : Hid (k = l.length) := by show _ = _; omega
      clear hlt
      go_wp2
      go_ret
      exact ⟨0, rfl, HB.out, fun _ => ⟨by omega, fun i hi => HALL.out i (by rw [HKK.out]; exact hi)⟩⟩
    case pos =>
      have hlt1 : (k : Int) < (l.length : Int) := by omega
      have ik0 : (0 : Int) ≤ (k : Int) := by omega
      have HR := hide ((H.out.below HB.out).more HB.out.size)
      obtain ⟨b, off, x, HX, rfl, hbb, hq, e0, e1, e2, e3, e4⟩ := HR.out.at hlt
      have ill : (l.length : Int) ≤ (cap : Int) := by omega
      clear hq hcap
      go_upto_region 7 with (fail)
      generalize hw0 : World.alloc _ _ = w0
      obtain ⟨hb0, hB0, hs0⟩ := alloc1 hw0
      obtain ⟨pb, hpb⟩ : ∃ z, wr.heap.size = z := ⟨_, rfl⟩
      rw [hpb] at hb0 ⊢
      have HXB : Hid (FrBox w0 pb x) := hb0
      have c0 := cellOf hb0 0; have c1 := cellOf hb0 1; have c2 := cellOf hb0 2; have c3 := cellOf hb0 3; have c4 := cellOf hb0 4
      have hlb := box_lt hb0
      obtain ⟨b1, h1⟩ : ∃ z, inR x.s 1 1000 = z := ⟨_, rfl⟩
      obtain ⟨b2, h2⟩ : ∃ z, inR x.e 1 100000 = z := ⟨_, rfl⟩
      obtain ⟨b3, h3⟩ : ∃ z, inR x.j 0 100000 = z := ⟨_, rfl⟩
      obtain ⟨b4, h4⟩ : ∃ z, inR x.d 1 100000 = z := ⟨_, rfl⟩
      obtain ⟨b5, h5⟩ : ∃ z, inR x.r 0 1000 = z := ⟨_, rfl⟩
      have H1 := hide h1
      have H2 := hide h2
      have H3 := hide h3
      have H4 := hide h4
      have H5 := hide h5
      have HR0 := hide (HR.out.up hB0)
      have HB0 := hide (Below.to HB.out hB0 (Nat.le_refl _))
      clear hw0 hb0 hB0 hs0 hpb h1 h2 h3 h4 h5 e0 e1 e2 e3 e4
      cases b1 with
      | false =>
        go_wp2_with (go_at_call 28; refine (withinE_any _ _ _ _ (by first | exact H1.out | exact H2.out | exact H3.out | exact H4.out | exact H5.out) _).mono ?_; rintro e w5 ⟨rfl, rfl⟩)
        go_ret
        exact ⟨40, rfl, HB0.out, fun h => by cases h⟩
      | true =>
      cases b2 with
      | false =>
        go_wp2_with (go_at_call 28; refine (withinE_any _ _ _ _ (by first | exact H1.out | exact H2.out | exact H3.out | exact H4.out | exact H5.out) _).mono ?_; rintro e w5 ⟨rfl, rfl⟩)
        go_ret
        exact ⟨40, rfl, HB0.out, fun h => by cases h⟩
      | true =>
      cases b3 with
      | false =>
        go_wp2_with (go_at_call 28; refine (withinE_any _ _ _ _ (by first | exact H1.out | exact H2.out | exact H3.out | exact H4.out | exact H5.out) _).mono ?_; rintro e w5 ⟨rfl, rfl⟩)
        go_ret
        exact ⟨40, rfl, HB0.out, fun h => by cases h⟩
      | true =>
      cases b4 with
      | false =>
        go_wp2_with (go_at_call 28; refine (withinE_any _ _ _ _ (by first | exact H1.out | exact H2.out | exact H3.out | exact H4.out | exact H5.out) _).mono ?_; rintro e w5 ⟨rfl, rfl⟩)
        go_ret
        exact ⟨40, rfl, HB0.out, fun h => by cases h⟩
      | true =>
      cases b5 with
      | false =>
        go_wp2_with (go_at_call 28; refine (withinE_any _ _ _ _ (by first | exact H1.out | exact H2.out | exact H3.out | exact H4.out | exact H5.out) _).mono ?_; rintro e w5 ⟨rfl, rfl⟩)
        go_ret
        exact ⟨40, rfl, HB0.out, fun h => by cases h⟩
      | true =>
      have HFW : Hid (FrW (l.getD k Fr.o)) := by
        show FrW _
        rw [HX.out]
        exact ⟨inR_iff.1 H1.out, inR_iff.1 H2.out, inR_iff.1 H3.out⟩
      go_upto_region 10 with (go_at_call 28; refine (withinE_any _ _ _ _ (by first | exact H1.out | exact H2.out | exact H3.out | exact H4.out | exact H5.out) _).mono ?_; rintro e w5 ⟨rfl, rfl⟩)
      obtain ⟨W0, hW0⟩ : ∃ wo : World, wo = w0 := ⟨_, rfl⟩
      subst hW0
      clear c0 c1 c2 c3 c4 hlb
      go_loopw [5] (fun jv wr => ∃ j : Nat, jv = .int .i64 j ∧ j ≤ k ∧ Hid (Below W0.heap.size W0 wr)) (fun jv _ => k - (intOf jv).toNat)
      case atStart => exact ⟨0, rfl, Nat.zero_le _, Below.refl _ _⟩
      case round =>
        obtain ⟨j, rfl, hj, HW⟩ := hrel
        have HB1 := hide (Below.to HB0.out HW.out (Nat.le_refl _))
        by_cases hjk : j < k
        case neg =>
          have hjk1 : ¬ (j : Int) < (k : Int) := by omega
          go_wp2_with fail
          go_roundw
          case rel => exact ⟨k + 1, by go_num, by omega, fun i hi => by
              rcases Nat.lt_or_ge i k with h | h
              · exact HALL.out i h
              · rw [show i = k by omega]; exact HFW.out, HB1.out⟩
          case measure => simp [intOf]; omega
        case pos =>
          have hjk1 : (j : Int) < (k : Int) := by omega
          have hjl1 : (j : Int) < (l.length : Int) := by omega
          have ij0 : (0 : Int) ≤ (j : Int) := by omega
          obtain ⟨b', off', y, HY, hA', hbb', hq', f0, f1, f2, f3, f4⟩ := (HR0.out.up HW.out).at (k := j) (by omega)
          injection hA' with hA'
          injection hA' with hA1 hA2 _
          subst hA1 hA2
          have HXC := hide (HXB.out.to HW.out)
          have c0 := cellOf HXC.out 0; have c1 := cellOf HXC.out 1; have c2 := cellOf HXC.out 2; have c3 := cellOf HXC.out 3; have c4 := cellOf HXC.out 4
          have hlc := box_lt HXC.out
          clear hq' f0 f1 f2 f3
          go_upto_region 12 with (fail)
          by_cases hyx : y.r = x.r
          · have hd : (y.r == x.r) = true := by simpa using hyx
            have HYX := hide hyx
            clear hyx
            refine wp_region_held_drew (S := (fun w' => Below wr.heap.size wr w')) (by kernel_rfl) ?_ (fun hHeld => ?_)
            · try dsimp only
              exact (by repeat (first | exact Below.refl _ _ | assumption | refine Below.drew ?_ | refine Below.drewN ?_ _ | refine Below.allocT ?_ (Nat.le_refl _) _ | refine Below.setCell ?_ (by simp <;> omega) _ | refine Below.to ?_ (by assumption) (Nat.le_refl _)))
            refine zT 0 rfl ?_
            refine zT 1 rfl ?_
            refine zT 2 rfl ?_
            refine zT 3 rfl ?_
            refine zT 4 rfl ?_
            refine zT 5 rfl ?_
            refine zT 6 rfl ?_
            refine zT 7 rfl ?_
            refine wpAnyH_done (by kernel_rfl) ?_ _
            have HB2 := hide (Below.to HB1.out hHeld (Nat.le_refl _))
            clear hHeld c0 c1 c2 c3 c4 hlc f4 hbb'
            go_wp2_with fail
            go_ret
            exact ⟨40, rfl, HB2.out, fun h => by cases h⟩
          · have hd : (y.r == x.r) = false := by simpa using hyx
            clear hyx
            refine wp_region_held_drew (S := (fun w' => Below wr.heap.size wr w')) (by kernel_rfl) ?_ (fun hHeld => ?_)
            · try dsimp only
              exact (by repeat (first | exact Below.refl _ _ | assumption | refine Below.drew ?_ | refine Below.drewN ?_ _ | refine Below.allocT ?_ (Nat.le_refl _) _ | refine Below.setCell ?_ (by simp <;> omega) _ | refine Below.to ?_ (by assumption) (Nat.le_refl _)))
            refine zT 0 rfl ?_
            refine zT 1 rfl ?_
            refine zT 2 rfl ?_
            refine zT 3 rfl ?_
            refine zT 4 rfl ?_
            refine zT 5 rfl ?_
            refine zT 6 rfl ?_
            refine zT 7 rfl ?_
            refine wpAnyH_done (by kernel_rfl) ?_ _
            have HW2 := hide (Below.to HW.out hHeld (Nat.le_refl _))
            clear hHeld c0 c1 c2 c3 c4 hlc f4 hbb'
            go_wp2_with fail
            go_roundw
            case rel => exact ⟨j + 1, by go_num, by omega, HW2⟩
            case measure => simp [intOf]; omega
set_option maxRecDepth 100000 in
set_option maxHeartbeats 8000000 in
theorem Heavy_any (v : Value) (l : List Fr) (w : World) (hm : l.length ≤ 1000) (h : Frs w w.heap.size v l) :
    Calls Try.prog 4 #[v] w (EvB w) := by
  have hck := rCheck_any v l w hm h
  obtain ⟨A, cap, rfl⟩ := h.form
  have hcap := h.cap
  have H := hide h
  have HCK := hide hck
  clear h hck
  by_cases hl : 12 < l.length ∧ l.length ≤ 40
  · have hl1 : decide ((12 : Int) < (l.length : Int)) = true := by simp; omega
    have hl2 : decide ((l.length : Int) ≤ 40) = true := by simp; omega
    have hl3 : decide (12 < l.length) = true := by simp; omega
    have hl4 : decide (l.length ≤ 40) = true := by simp; omega
    clear hl
    go_enter Try.func4, Try.ntmps4
    go_wp2
    go_ret
    exact ⟨true, rfl, Below.refl _ _⟩
  have hlow : Hid (∃ b1 b2 : Bool, decide ((12 : Int) < (l.length : Int)) = b1 ∧ decide (12 < l.length) = b1 ∧ decide ((l.length : Int) ≤ 40) = b2 ∧ decide (l.length ≤ 40) = b2 ∧ (b1 && b2) = false) := by
    refine ⟨_, _, rfl, ?_, rfl, ?_, ?_⟩
    · by_cases h : 12 < l.length
      · rw [decide_eq_true h, decide_eq_true (by omega)]
      · rw [decide_eq_false h, decide_eq_false (by omega)]
    · by_cases h : l.length ≤ 40
      · rw [decide_eq_true h, decide_eq_true (by omega)]
      · rw [decide_eq_false h, decide_eq_false (by omega)]
    · rw [Bool.eq_false_iff]
      intro h
      simp at h
      omega
  have ill : (l.length : Int) ≤ (cap : Int) := by omega
  have hmain : ∀ b1 b2 : Bool, decide ((12 : Int) < (l.length : Int)) = b1 → decide (12 < l.length) = b1 → decide ((l.length : Int) ≤ 40) = b2 → decide (l.length ≤ 40) = b2 → (b1 && b2) = false → Calls Try.prog 4 #[.slice A l.length cap] w (EvB w) := by
    intro b1 b2 k1 k2 k3 k4 k5
    clear hl hlow hcap
    cases b1 with
    | true =>
      cases b2 with
      | true => cases k5
      | false =>
        go_enter Try.func4, Try.ntmps4
        go_wp2_with (go_at_call 12; refine HCK.out.mono ?_; rintro e w1 ⟨z, rfl, hB1, hz⟩; have HB1 := hide hB1; have HZ := hide hz; clear hB1 hz; rcases zcase z with rfl | hz1)
        rotate_left
        · go_ret
          exact ⟨false, rfl, HB1.out⟩
        have hz9 := HZ.out (by first | rfl | trivial)
        have HFW : Hid (∀ i, i < l.length → FrW (l.getD i Fr.o)) := hz9.2
        have hl40 : l.length ≤ 40 := hz9.1
        clear hz9
        obtain ⟨W1, hW1⟩ : ∃ wo : World, wo = w1 := ⟨_, rfl⟩
        subst hW1
        go_loopw [3, 4] (fun pv iv wr => ∃ (k : Nat) (p : Int), iv = .int .i64 k ∧ pv = .int .i64 p ∧ k ≤ l.length ∧ 0 ≤ p ∧ p ≤ 2000000000 * (k : Int) ∧ Hid (Below W1.heap.size W1 wr)) (fun _ iv _ => l.length - (intOf iv).toNat)
        case atStart => exact ⟨0, 0, rfl, rfl, Nat.zero_le _, Int.le_refl _, Int.le_refl _, Below.refl _ _⟩
        case round =>
          obtain ⟨k, p, rfl, rfl, hk, hp0, hp1, HW⟩ := hrel
          have HBr := hide (Below.to HB1.out HW.out (Nat.le_refl _))
          by_cases hlt : k < l.length
          case neg =>
            have hlt1 : ¬ (k : Int) < (l.length : Int) := by omega
            go_wp2_with fail
            go_ret
            exact ⟨_, rfl, HBr.out⟩
          case pos =>
            have hlt1 : (k : Int) < (l.length : Int) := by omega
            have ik0 : (0 : Int) ≤ (k : Int) := by omega
            obtain ⟨b, off, x, HX, rfl, hbb, hq, e0, e1, e2, e3, e4⟩ := (H.out.up HBr.out).at hlt
            have hxw := HFW.out k hlt
            rw [HX.out] at hxw
            obtain ⟨⟨hs1, hs2⟩, ⟨he1, he2⟩, hj1, hj2⟩ := hxw
            have w1 : IntKind.i64.wrap (x.s * 1000000) = x.s * 1000000 := IntWalk.i64_in _ (by omega)
            have w2 : IntKind.i64.wrap (x.s * 1000000 + x.e) = x.s * 1000000 + x.e := IntWalk.i64_in _ (by omega)
            have w3 : IntKind.i64.wrap (x.s * 1000000 + x.e - 1) = x.s * 1000000 + x.e - 1 := IntWalk.i64_in _ (by omega)
            obtain ⟨u, hu⟩ : ∃ u, Int.tdiv (x.s * 1000000 + x.e - 1) x.e = u := ⟨_, rfl⟩
            have hd := divI_bd (n := x.s * 1000000 + x.e - 1) (b := x.e) (by omega) he1
            have hu2 : (x.s * 1000000 + x.e - 1) / x.e = u := by rw [← hu]; exact (Int.tdiv_eq_ediv_of_nonneg (by omega)).symm
            rw [hu2] at hd
            have hd0 := hd.1
            have hd1 : u ≤ 1500000000 := by have := hd.2; omega
            have w4 : IntKind.i64.wrap u = u := IntWalk.i64_in _ (by omega)
            have w5 : IntKind.i64.wrap (p + u) = p + u := IntWalk.i64_in _ (by omega)
            have w6 : IntKind.i64.wrap (20 * x.e) = 20 * x.e := IntWalk.i64_in _ (by omega)
            have hx0 : ¬ x.e = 0 := by omega
            have hx1 : (x.e == 0) = false := by simpa using hx0
            have hpu : p + u ≤ 2000000000 * ((k : Int) + 1) := by omega
            clear hq hd hu2
            go_upto_region 9 with (fail)
            refine wp_region_held_drew (S := (fun w' => Below wr.heap.size wr w')) (by kernel_rfl) ?_ (fun hHeld => ?_)
            · try dsimp only
              exact (by repeat (first | exact Below.refl _ _ | assumption | refine Below.drew ?_ | refine Below.drewN ?_ _ | refine Below.allocT ?_ (Nat.le_refl _) _ | refine Below.setCell ?_ (by simp <;> omega) _ | refine Below.to ?_ (by assumption) (Nat.le_refl _)))
            refine zT 0 rfl ?_
            refine zT 1 rfl ?_
            refine zT 2 rfl ?_
            refine zT 3 rfl ?_
            refine zT 4 rfl ?_
            refine zT 5 rfl ?_
            refine zT 6 rfl ?_
            refine zT 7 rfl ?_
            refine zT 8 rfl ?_
            refine zT 9 rfl ?_
            refine zT 10 rfl ?_
            refine zT 11 rfl ?_
            refine zT 12 rfl ?_
            refine zT 13 rfl ?_
            refine zT 14 rfl ?_
            refine zT 15 rfl ?_
            refine zT 16 rfl ?_
            refine zT 17 rfl ?_
            refine zT 18 rfl ?_
            refine zT 19 rfl ?_
            refine zT 20 rfl ?_
            refine zT 21 rfl ?_
            refine wpAnyH_done (by kernel_rfl) ?_ _
            obtain ⟨w6', hw6⟩ : ∃ z, wr.drew = z := ⟨_, rfl⟩
            rw [hw6] at hHeld ⊢
            have HW6 := hide (Below.to HW.out hHeld (Nat.le_refl _))
            have HB6 := hide (Below.to HBr.out hHeld (Nat.le_refl _))
            have f1 : w6'.cell? ⟨b, off + k * 5 + 1, none⟩ = some (.int .i64 x.e) := (hHeld.cell (p := ⟨b, off + k * 5 + 1, none⟩) hbb).trans e1
            have f2 : w6'.cell? ⟨b, off + k * 5 + 2, none⟩ = some (.int .i64 x.j) := (hHeld.cell (p := ⟨b, off + k * 5 + 2, none⟩) hbb).trans e2
            have lb : b < w6'.heap.size := Nat.lt_of_lt_of_le hbb hHeld.size
            clear hw6 hHeld e0 e1 e2 e3 e4 hbb
            go_upto_region 10 with (fail)
            by_cases hjt : 20 * x.e < x.j
            · have dj : decide (20 * x.e < x.j) = true := by simpa using hjt
              refine wp_region_held_drew (S := (fun w' => Below w6'.heap.size w6' w')) (by kernel_rfl) ?_ (fun hHeld => ?_)
              · try dsimp only
                exact (by repeat (first | exact Below.refl _ _ | assumption | refine Below.drew ?_ | refine Below.drewN ?_ _ | refine Below.allocT ?_ (Nat.le_refl _) _ | refine Below.setCell ?_ (by simp <;> omega) _ | refine Below.to ?_ (by assumption) (Nat.le_refl _)))
              refine zT 0 rfl ?_
              refine zT 1 rfl ?_
              refine zT 2 rfl ?_
              refine zT 3 rfl ?_
              refine zT 4 rfl ?_
              refine zT 5 rfl ?_
              refine zT 6 rfl ?_
              refine zT 7 rfl ?_
              refine zT 8 rfl ?_
              refine zT 9 rfl ?_
              refine zT 10 rfl ?_
              refine zT 11 rfl ?_
              refine wpAnyH_done (by kernel_rfl) ?_ _
              have HB7 := hide (Below.to HB6.out hHeld (Nat.le_refl _))
              clear hHeld
              go_wp2_with fail
              go_ret
              exact ⟨true, rfl, HB7.out⟩
            · have dj : decide (20 * x.e < x.j) = false := by simpa using hjt
              refine wp_region_held_drew (S := (fun w' => Below w6'.heap.size w6' w')) (by kernel_rfl) ?_ (fun hHeld => ?_)
              · try dsimp only
                exact (by repeat (first | exact Below.refl _ _ | assumption | refine Below.drew ?_ | refine Below.drewN ?_ _ | refine Below.allocT ?_ (Nat.le_refl _) _ | refine Below.setCell ?_ (by simp <;> omega) _ | refine Below.to ?_ (by assumption) (Nat.le_refl _)))
              refine zT 0 rfl ?_
              refine zT 1 rfl ?_
              refine zT 2 rfl ?_
              refine zT 3 rfl ?_
              refine zT 4 rfl ?_
              refine zT 5 rfl ?_
              refine zT 6 rfl ?_
              refine zT 7 rfl ?_
              refine zT 8 rfl ?_
              refine zT 9 rfl ?_
              refine zT 10 rfl ?_
              refine zT 11 rfl ?_
              refine wpAnyH_done (by kernel_rfl) ?_ _
              have HW7 := hide (Below.to HW6.out hHeld (Nat.le_refl _))
              clear hHeld f1 f2 lb
              go_wp2_with fail
              go_roundw
              case rel => exact ⟨k + 1, p + u, by go_num, by first | rfl | go_num, by omega, by omega, by omega, HW7⟩
              case measure => simp [intOf]; omega
    | false =>
      go_enter Try.func4, Try.ntmps4
      go_wp2_with (go_at_call 12; refine HCK.out.mono ?_; rintro e w1 ⟨z, rfl, hB1, hz⟩; have HB1 := hide hB1; have HZ := hide hz; clear hB1 hz; rcases zcase z with rfl | hz1)
      rotate_left
      · go_ret
        exact ⟨false, rfl, HB1.out⟩
      have hz9 := HZ.out (by first | rfl | trivial)
      have HFW : Hid (∀ i, i < l.length → FrW (l.getD i Fr.o)) := hz9.2
      have hl40 : l.length ≤ 40 := hz9.1
      clear hz9
      obtain ⟨W1, hW1⟩ : ∃ wo : World, wo = w1 := ⟨_, rfl⟩
      subst hW1
      go_loopw [3, 4] (fun pv iv wr => ∃ (k : Nat) (p : Int), iv = .int .i64 k ∧ pv = .int .i64 p ∧ k ≤ l.length ∧ 0 ≤ p ∧ p ≤ 2000000000 * (k : Int) ∧ Hid (Below W1.heap.size W1 wr)) (fun _ iv _ => l.length - (intOf iv).toNat)
      case atStart => exact ⟨0, 0, rfl, rfl, Nat.zero_le _, Int.le_refl _, Int.le_refl _, Below.refl _ _⟩
      case round =>
        obtain ⟨k, p, rfl, rfl, hk, hp0, hp1, HW⟩ := hrel
        have HBr := hide (Below.to HB1.out HW.out (Nat.le_refl _))
        by_cases hlt : k < l.length
        case neg =>
          have hlt1 : ¬ (k : Int) < (l.length : Int) := by omega
          go_wp2_with fail
          go_ret
          exact ⟨_, rfl, HBr.out⟩
        case pos =>
          have hlt1 : (k : Int) < (l.length : Int) := by omega
          have ik0 : (0 : Int) ≤ (k : Int) := by omega
          obtain ⟨b, off, x, HX, rfl, hbb, hq, e0, e1, e2, e3, e4⟩ := (H.out.up HBr.out).at hlt
          have hxw := HFW.out k hlt
          rw [HX.out] at hxw
          obtain ⟨⟨hs1, hs2⟩, ⟨he1, he2⟩, hj1, hj2⟩ := hxw
          have w1 : IntKind.i64.wrap (x.s * 1000000) = x.s * 1000000 := IntWalk.i64_in _ (by omega)
          have w2 : IntKind.i64.wrap (x.s * 1000000 + x.e) = x.s * 1000000 + x.e := IntWalk.i64_in _ (by omega)
          have w3 : IntKind.i64.wrap (x.s * 1000000 + x.e - 1) = x.s * 1000000 + x.e - 1 := IntWalk.i64_in _ (by omega)
          obtain ⟨u, hu⟩ : ∃ u, Int.tdiv (x.s * 1000000 + x.e - 1) x.e = u := ⟨_, rfl⟩
          have hd := divI_bd (n := x.s * 1000000 + x.e - 1) (b := x.e) (by omega) he1
          have hu2 : (x.s * 1000000 + x.e - 1) / x.e = u := by rw [← hu]; exact (Int.tdiv_eq_ediv_of_nonneg (by omega)).symm
          rw [hu2] at hd
          have hd0 := hd.1
          have hd1 : u ≤ 1500000000 := by have := hd.2; omega
          have w4 : IntKind.i64.wrap u = u := IntWalk.i64_in _ (by omega)
          have w5 : IntKind.i64.wrap (p + u) = p + u := IntWalk.i64_in _ (by omega)
          have w6 : IntKind.i64.wrap (20 * x.e) = 20 * x.e := IntWalk.i64_in _ (by omega)
          have hx0 : ¬ x.e = 0 := by omega
          have hx1 : (x.e == 0) = false := by simpa using hx0
          have hpu : p + u ≤ 2000000000 * ((k : Int) + 1) := by omega
          clear hq hd hu2
          go_upto_region 9 with (fail)
          refine wp_region_held_drew (S := (fun w' => Below wr.heap.size wr w')) (by kernel_rfl) ?_ (fun hHeld => ?_)
          · try dsimp only
            exact (by repeat (first | exact Below.refl _ _ | assumption | refine Below.drew ?_ | refine Below.drewN ?_ _ | refine Below.allocT ?_ (Nat.le_refl _) _ | refine Below.setCell ?_ (by simp <;> omega) _ | refine Below.to ?_ (by assumption) (Nat.le_refl _)))
          refine zT 0 rfl ?_
          refine zT 1 rfl ?_
          refine zT 2 rfl ?_
          refine zT 3 rfl ?_
          refine zT 4 rfl ?_
          refine zT 5 rfl ?_
          refine zT 6 rfl ?_
          refine zT 7 rfl ?_
          refine zT 8 rfl ?_
          refine zT 9 rfl ?_
          refine zT 10 rfl ?_
          refine zT 11 rfl ?_
          refine zT 12 rfl ?_
          refine zT 13 rfl ?_
          refine zT 14 rfl ?_
          refine zT 15 rfl ?_
          refine zT 16 rfl ?_
          refine zT 17 rfl ?_
          refine zT 18 rfl ?_
          refine zT 19 rfl ?_
          refine zT 20 rfl ?_
          refine zT 21 rfl ?_
          refine wpAnyH_done (by kernel_rfl) ?_ _
          obtain ⟨w6', hw6⟩ : ∃ z, wr.drew = z := ⟨_, rfl⟩
          rw [hw6] at hHeld ⊢
          have HW6 := hide (Below.to HW.out hHeld (Nat.le_refl _))
          have HB6 := hide (Below.to HBr.out hHeld (Nat.le_refl _))
          have f1 : w6'.cell? ⟨b, off + k * 5 + 1, none⟩ = some (.int .i64 x.e) := (hHeld.cell (p := ⟨b, off + k * 5 + 1, none⟩) hbb).trans e1
          have f2 : w6'.cell? ⟨b, off + k * 5 + 2, none⟩ = some (.int .i64 x.j) := (hHeld.cell (p := ⟨b, off + k * 5 + 2, none⟩) hbb).trans e2
          have lb : b < w6'.heap.size := Nat.lt_of_lt_of_le hbb hHeld.size
          clear hw6 hHeld e0 e1 e2 e3 e4 hbb
          go_upto_region 10 with (fail)
          by_cases hjt : 20 * x.e < x.j
          · have dj : decide (20 * x.e < x.j) = true := by simpa using hjt
            refine wp_region_held_drew (S := (fun w' => Below w6'.heap.size w6' w')) (by kernel_rfl) ?_ (fun hHeld => ?_)
            · try dsimp only
              exact (by repeat (first | exact Below.refl _ _ | assumption | refine Below.drew ?_ | refine Below.drewN ?_ _ | refine Below.allocT ?_ (Nat.le_refl _) _ | refine Below.setCell ?_ (by simp <;> omega) _ | refine Below.to ?_ (by assumption) (Nat.le_refl _)))
            refine zT 0 rfl ?_
            refine zT 1 rfl ?_
            refine zT 2 rfl ?_
            refine zT 3 rfl ?_
            refine zT 4 rfl ?_
            refine zT 5 rfl ?_
            refine zT 6 rfl ?_
            refine zT 7 rfl ?_
            refine zT 8 rfl ?_
            refine zT 9 rfl ?_
            refine zT 10 rfl ?_
            refine zT 11 rfl ?_
            refine wpAnyH_done (by kernel_rfl) ?_ _
            have HB7 := hide (Below.to HB6.out hHeld (Nat.le_refl _))
            clear hHeld
            go_wp2_with fail
            go_ret
            exact ⟨true, rfl, HB7.out⟩
          · have dj : decide (20 * x.e < x.j) = false := by simpa using hjt
            refine wp_region_held_drew (S := (fun w' => Below w6'.heap.size w6' w')) (by kernel_rfl) ?_ (fun hHeld => ?_)
            · try dsimp only
              exact (by repeat (first | exact Below.refl _ _ | assumption | refine Below.drew ?_ | refine Below.drewN ?_ _ | refine Below.allocT ?_ (Nat.le_refl _) _ | refine Below.setCell ?_ (by simp <;> omega) _ | refine Below.to ?_ (by assumption) (Nat.le_refl _)))
            refine zT 0 rfl ?_
            refine zT 1 rfl ?_
            refine zT 2 rfl ?_
            refine zT 3 rfl ?_
            refine zT 4 rfl ?_
            refine zT 5 rfl ?_
            refine zT 6 rfl ?_
            refine zT 7 rfl ?_
            refine zT 8 rfl ?_
            refine zT 9 rfl ?_
            refine zT 10 rfl ?_
            refine zT 11 rfl ?_
            refine wpAnyH_done (by kernel_rfl) ?_ _
            have HW7 := hide (Below.to HW6.out hHeld (Nat.le_refl _))
            clear hHeld f1 f2 lb
            go_wp2_with fail
            go_roundw
            case rel => exact ⟨k + 1, p + u, by go_num, by first | rfl | go_num, by omega, by omega, by omega, HW7⟩
            case measure => simp [intOf]; omega
  obtain ⟨b1, b2, k1, k2, k3, k4, k5⟩ := hlow.out
  exact hmain b1 b2 k1 k2 k3 k4 k5
end Go.Proofs.Ytmgfijadjclmpaa

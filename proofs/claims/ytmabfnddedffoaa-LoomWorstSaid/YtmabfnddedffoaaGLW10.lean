/- Part 10 of this claim's texts: walks and plain laws. -/
import Derived.Test.YtmabfnddedffoaaRows
import Derived.Test.YtmabfnddedffoaaGLW7
import Derived.Test.YtmabfnddedffoaaGLW5
import Derived.Laws.Cover3
import Derived.Deep.RegionHeld3
import Derived.Deep.DrawnRows
import Derived.Test.YtmabfnddedffoaaGLW9
import Derived.Test.YtmabfnddedffoaaGLW2
import Derived.Test.YtmabfnddedffoaaGLW6
/- The elder search for a way: walk. -/
namespace Go.Proofs.Ytmabfnddedffoaa
open Go.RowKit
set_option linter.unusedVariables false
set_option linter.unusedSimpArgs false
theorem neq_nil6 (W : World) (a : Option Addr) (n c : Nat) : (binOp .neq 41 (.slice a n c) (.slice none 0 0)).run Try.prog W = .ok (.bool (!a.isNone)) W := run_neq_slice_nil W _ _ a n c Try.underlying41
theorem Nods.flat6 {w : World} {B n cap : Nat} {A : Option Addr} {l : List Nat} (h : Nods w B (.slice A n cap) l) : Reads w B 1 A l.length (l.map fun (n : Nat) => Value.int .i64 n) := by
  obtain ⟨A', cap', he⟩ := Sl.form h
  injection he with e1 e2 e3
  subst e1 e2 e3
  have h2 := Sl.reads h (by omega)
  have e : Go.Proofs.Ytmabfnddedffoaa.flat l.length 1 (fun i _ => Value.int .i64 (l.getD i 0 : Nat)) = l.map fun (n : Nat) => Value.int .i64 n := by
    apply List.ext_getElem
    · simp [flat_length]
    · intro i q1 q2
      have h3 := flat_get (n := l.length) (sz := 1) (f := fun i _ => Value.int .i64 (l.getD i 0 : Nat)) (i := i) (j := 0) (by simpa using q2) (by omega)
      rw [Nat.mul_one, Nat.add_zero, List.getElem?_eq_getElem q1] at h3
      injection h3 with h3
      rw [h3]
      have q3 : i < l.length := by simpa using q2
      simp [q3]
  rwa [e] at h2
theorem one_nods {l : List Nat} : ∀ u ∈ l.map (fun (n : Nat) => Value.int .i64 n), u.oneCell' = true := by
  intro u hu
  rw [List.mem_map] at hu
  obtain ⟨_, _, rfl⟩ := hu
  rfl
theorem own_addr {w : World} {base e sz n : Nat} {v : Value} {xs : List Value} (h : w.ownsRow base e sz v n xs) (hn : 0 < n) : ∃ g cap, v = .slice (some ⟨g, 0, none⟩) n cap := by
  obtain ⟨_, ⟨h1, h2⟩ | ⟨g, cap, cur, h1, _⟩⟩ := h
  · omega
  · exact ⟨g, cap, h1⟩
/-- What a search that leads there gives. -/
def WkYes (w : World) (rs : List (Nat × Nat)) (back : Int) (a b : Nat) (Q : List Nat) (e : Ending) (w' : World) : Prop :=
  ∃ (P : List Nat) (Ad : Addr) (cap : Nat), WayP rs back a P b ∧ e = .returned (.slice (some Ad) (Q ++ P).length cap) ∧ Nods w' w'.heap.size (.slice (some Ad) (Q ++ P).length cap) (Q ++ P) ∧ Below w.heap.size w w'
def WkNo (w : World) (e : Ending) (w' : World) : Prop := e = .returned (.slice none 0 0) ∧ Below w.heap.size w w'
set_option maxRecDepth 100000 in
set_option maxHeartbeats 2000000 in
theorem walk_any (A0 A1 A2 A3 A4 A5 : Option Addr) (q0 q1 q2 q3 q4 q5 : Nat) (l : Lo) (ok : LoOk l) : ∀ (m : Nat) (a b : Nat) (back : Int) (Q : List Nat) (Ad : Addr) (cap : Nat) (w : World), LoA w w.heap.size A0 A1 A2 A3 A4 A5 q0 q1 q2 q3 q4 q5 l → sideN l.rs l.ss.length back a ≤ m → (back = -1 ∨ ∃ j p, j < l.rs.length ∧ back = (j : Nat) ∧ Inc l.rs j p a) → a < l.ss.length → b < l.ss.length → Q.length + m ≤ 100 →
    Nods w w.heap.size (.slice (some Ad) Q.length cap) Q →
    Calls Try.prog 164 #[.agg #[.slice A0 l.m.opts.length q0, .slice A1 l.m.rules.length q1, .slice A2 l.ss.length q2, .slice A3 l.us.length q3, .slice A4 l.ps.length q4, .slice A5 l.ws.length q5], .int .i64 a, .int .i64 b, .int .i64 back, .slice (some Ad) Q.length cap] w fun e w' => (Rch l.rs back a b ∧ WkYes w l.rs back a b Q e w') ∨ (¬ Rch l.rs back a b ∧ WkNo w e w') := by
  obtain ⟨i0, hi0, iz0, iz1, iz2⟩ := info_parts infoInt
  have OK := hide ok
  have T := hide ok.tree
  have s40 := ok.s40
  have u40 := ok.u40
  have hin := ok.runsIn
  have HIN := hide hin
  clear hin ok
  intro m
  induction m with
  | zero =>
    intro a b back Q Ad cap w h hm hb ha hbn hQ hN
    exfalso
    have : 0 < sideN l.rs l.ss.length back a := by
      unfold sideN
      rw [List.countP_pos_iff]
      exact ⟨a, by simpa using ha, by simpa using Rch.base⟩
    omega
  | succ m ih =>
    intro a b back Q Ad cap w h hm hb ha hbn hQ hN
    have H := hide h
    have HN := hide hN
    have HB := hide hb
    have HM := hide hm
    have HIH := hide ih
    clear h hN hb hm ih
    by_cases hab : a = b
    · subst hab
      have e1 : ((a : Int) == (a : Int)) = true := by simp
      go_enter Try.func164, Try.ntmps164
      go_wp2_with fail
      go_ret
      refine .inl ⟨.base, [], Ad, cap, .nil, ?_, ?_, (by repeat (first | exact Below.refl _ _ | assumption | refine Below.drew ?_ | refine Below.drewN ?_ _ | refine Below.allocT ?_ (Nat.le_refl _) _ | refine Below.setCell ?_ (by simp <;> omega) _ | refine Below.to ?_ (by assumption) (Nat.le_refl _)))⟩
      · rw [List.append_nil]; rfl
      · rw [List.append_nil]; exact Nods.up HN.out (by repeat (first | exact Below.refl _ _ | assumption | refine Below.drew ?_ | refine Below.drewN ?_ _ | refine Below.allocT ?_ (Nat.le_refl _) _ | refine Below.setCell ?_ (by simp <;> omega) _ | refine Below.to ?_ (by assumption) (Nat.le_refl _)))
    have e1 : ((a : Int) == (b : Int)) = false := by simp; omega
    have HAB := hide hab
    clear hab
    go_enter Try.func164, Try.ntmps164
    go_upto_region 1 with (fail)
    generalize hw0 : World.alloc _ _ = w0
    obtain ⟨hb0, hB0, hs0⟩ := alloc1 hw0
    have HL0 : Hid (LoBox w0 w.heap.size A0 A1 A2 A3 A4 A5 q0 q1 q2 q3 q4 q5 l) := hb0
    have HB0 := hide hB0
    have c0 := cellOf hb0 0; have c1 := cellOf hb0 1; have c2 := cellOf hb0 2; have c3 := cellOf hb0 3; have c4 := cellOf hb0 4; have c5 := cellOf hb0 5
    have hlb := box_lt hb0
    clear hw0 hb0 hB0 hs0
    go_wp2_with fail
    clear c0 c1 c2 c3 c4 c5 hlb
    go_loopw [11, 12, 13, 14] (fun i _ _ _ wr => ∃ k : Nat, k ≤ l.us.length ∧ i = .int .i64 k ∧ Hid (∀ j, j < k → (j : Int) ≠ back → ((l.rs.getD j (0, 0)).1 = a ∨ (l.rs.getD j (0, 0)).2 = a) → ¬ Rch l.rs j (farEnd l.rs j a) b) ∧ Hid (LoBox wr w.heap.size A0 A1 A2 A3 A4 A5 q0 q1 q2 q3 q4 q5 l) ∧ Hid (Below w.heap.size w wr)) (fun i _ _ _ _ => l.us.length - (intOf i).toNat)
    case atStart => exact ⟨0, Nat.zero_le _, rfl, fun j hj => by omega, HL0.out, HB0.out⟩
    case round =>
      obtain ⟨k, hk, rfl, hall, HL, HBW⟩ := hrel
      have c0 := cellOf HL.out 0; have c1 := cellOf HL.out 1; have c2 := cellOf HL.out 2; have c3 := cellOf HL.out 3; have c4 := cellOf HL.out 4; have c5 := cellOf HL.out 5
      have hlb := box_lt HL.out
      by_cases hkl : k < l.us.length
      · obtain ⟨bu, offu, r, HRU, rfl, hbu, hq3, f0, f1, f2, f3⟩ := (H.out.below HBW.out).ru hkl
        have hrin := HIN.out r (by rw [← HRU.out]; exact getD_mem3f hkl)
        obtain ⟨ra, rb, rl, rr⟩ := r
        obtain ⟨a1, a2, b1, b2⟩ := hrin
        simp only at a1 a2 b1 b2 f0 f1 f2 f3
        obtain ⟨ka, rfl⟩ := Int.eq_ofNat_of_zero_le a1
        obtain ⟨kb, rfl⟩ := Int.eq_ofNat_of_zero_le b1
        have hrs : l.rs.getD k (0, 0) = (ka, kb) := by rw [rs_getD l hkl, HRU.out]; simp
        have HRS := hide hrs
        have lbu : bu < wr.heap.size := Nat.lt_of_lt_of_le hbu HBW.out.size
        have ik0 : (0 : Int) ≤ (k : Int) := by omega
        have ik : (k : Int) < (l.us.length : Int) := by omega
        have iq : (l.us.length : Int) ≤ (q3 : Int) := by omega
        have hkr : k < l.rs.length := by rw [rs_len]; exact hkl
        clear hrs
        go_upto_region 7 with (fail)
        generalize hw1 : World.alloc _ _ = w1
        obtain ⟨hb1, hB1, hs1⟩ := alloc1 hw1
        have z0 := cellOf hb1 0; have z1 := cellOf hb1 1; have z2 := cellOf hb1 2; have z3 := cellOf hb1 3
        have lz := box_lt hb1
        have HL1 := hide (HL.out.to hB1)
        have HB1 := hide (Below.to HBW.out hB1 (Nat.le_refl _))
        have d0 := cellOf (HL.out.to hB1) 0; have d1 := cellOf (HL.out.to hB1) 1; have d2 := cellOf (HL.out.to hB1) 2; have d3 := cellOf (HL.out.to hB1) 3; have d4 := cellOf (HL.out.to hB1) 4; have d5 := cellOf (HL.out.to hB1) 5
        have ld := box_lt HL1.out
        have HN1 := hide (Nods.up HN.out HB1.out)
        clear hw1 hb1 hB1 hs1 c0 c1 c2 c3 c4 c5 hlb f0 f1 f2 f3 lbu
        by_cases hkb : (k : Int) = back
        · have g1 : ((k : Int) == back) = true := by simpa using hkb
          have HKB := hide hkb
          clear hkb
          go_wp2_with fail
          go_roundw
          case rel => exact ⟨k + 1, by omega, by go_num, fun j hj hne => by
              rcases Nat.lt_or_ge j k with h | h
              · exact hall.out j h hne
              · rw [show j = k from by omega] at hne; exact absurd HKB.out hne, HL1.out, HB1.out⟩
          case measure => simp [intOf]; omega
        have g1 : ((k : Int) == back) = false := by simpa using hkb
        have HKB := hide hkb
        clear hkb
        by_cases hinc : ka = a ∨ kb = a
        case neg =>
          have g2 : ((ka : Int) != (a : Int)) = true := by simp; omega
          have g3 : ((kb : Int) != (a : Int)) = true := by simp; omega
          have HINC := hide hinc
          clear hinc
          go_wp2_with fail
          go_roundw
          case rel => exact ⟨k + 1, by omega, by go_num, fun j hj hne hi => by
              rcases Nat.lt_or_ge j k with h | h
              · exact hall.out j h hne hi
              · rw [show j = k from by omega, HRS.out] at hi; exact absurd hi HINC.out, HL1.out, HB1.out⟩
          case measure => simp [intOf]; omega
        case pos =>
        obtain ⟨y, hy⟩ : ∃ y, farEnd l.rs k a = y := ⟨_, rfl⟩
        have hsum : (ka : Int) + (kb : Int) - (a : Int) = (y : Int) := by
          have := far_sum (rs := l.rs) (k := k) (x := a) (by rw [HRS.out]; exact hinc)
          rw [HRS.out, hy] at this
          exact this
        have hIxy : Inc l.rs k a y := by rw [← hy]; exact far_inc (by rw [HRS.out]; exact hinc)
        have hyl : y < l.ss.length := (T.out.inc_lt hkr hIxy).2
        have hless : sideN l.rs l.ss.length k y ≤ m := by
          have := T.out.side_less hkr HKB.out HB.out hIxy
          have := HM.out
          omega
        have hcall := fun (W : World) (g cp : Nat) (hW : Below w.heap.size w W) (hNW : Nods W W.heap.size (.slice (some ⟨g, 0, none⟩) (Q ++ [k]).length cp) (Q ++ [k])) =>
          HIH.out y b k (Q ++ [k]) ⟨g, 0, none⟩ cp W (H.out.up hW) hless (.inr ⟨k, a, hkr, rfl, hIxy⟩) hyl hbn (by simp; omega) hNW
        have hlen : (Q ++ [k]).length = Q.length + 1 := by simp
        rw [hlen] at hcall
        have HSUM := hide hsum
        have HIXY := hide hIxy
        have HY := hide hy
        have hQl : Q.length ≤ 100 := by omega
        have HCALL := hide hcall
        have hba := HBW.out.size
        have y40 : (y : Int) ≤ 40 := by omega
        have hyy : IntKind.i64.wrap ((ka : Int) + (kb : Int)) = (ka : Int) + (kb : Int) := IntWalk.i64_in _ (by omega)
        have hba1 := HB1.out.size
        have hsplit : ((ka : Int) != (a : Int)) = false ∨ ((ka : Int) != (a : Int)) = true ∧ ((kb : Int) != (a : Int)) = false := by
          rcases hinc with h | h
          · exact .inl (by simp [h])
          · by_cases h2 : ka = a
            · exact .inl (by simp [h2])
            · exact .inr ⟨by simp; omega, by simp [h]⟩
        clear hcall hless hIxy hy hinc hlen
        rcases hsplit with g2 | ⟨g2, g3⟩
        · go_upto_region 9 with (first
            | (at_builtin; refine wpList_append_own_at _ rfl (.tmp 48) (.tmp 50) _ rfl w1.heap.size 3 i0 _ 1 8 Try.underlying41 hi0 iz0 iz1 iz2 rfl (by omega) _ _ _ rfl (HX1.out.alloc _) ⟨w4.heap.size, 0, none⟩ 1 1 [.int .i64 k] rfl rfl (World.news_of_block (heap_alloc_new w4 _)) (by simp [Value.oneCell']) (by unfold maxLen; omega) (by omega) (by have := HB4.out.size; simp; omega) ?_; intro v5 w5 hown5 hg5 _ hat5; obtain ⟨g5, cp5, hv5⟩ := own_addr hown5 (by omega); subst hv5; have HX5 := hide hown5; have HB5 := hide (own_low HB4.out HX1.out (Nat.le_refl _) hg5); clear hown5 hg5 hat5)
            | (at_builtin; refine wpList_append_any _ rfl (.tmp 46) (.tmp 47) _ rfl w1.heap.size 3 i0 _ 1 8 Try.underlying41 hi0 iz0 iz1 iz2 rfl (by decide) _ 0 [] rfl (World.ownsRow_made w1 #[] 0 (Nat.le_refl _) (by unfold maxLen; omega) rfl) w1.heap.size (some Ad) Q.length cap (Q.map fun (n : Nat) => Value.int .i64 n) rfl ((Nods.flat6 HN1.out).alloc (Nat.le_refl _) _) one_nods (by unfold maxLen; omega) (by omega) (by simp) ?_; intro v4 w4 hown4 hg4 _; rw [Nat.zero_add, List.nil_append] at hown4; obtain ⟨A4', cap4, hv4⟩ := owns_form hown4; subst hv4; have HX1 := hide hown4; have HB4 := hide (Below.grown (Below.allocT (Below.refl w1.heap.size w1) (Nat.le_refl _) _) hg4 (by simp) (fun j hj => by injection hj with hj; exact Nat.le_of_eq hj)); clear hown4 hg4))
          have hN5 : Nods w5 w5.heap.size (.slice (some ⟨g5, 0, none⟩) (Q.length + 1) cp5) (Q ++ [k]) := by
            have := Nods.of_own (l := Q ++ [k]) (base := w1.heap.size) (w := w5) (v := .slice (some ⟨g5, 0, none⟩) (Q.length + 1) cp5) (by rw [List.length_append, List.length_singleton, List.map_append]; exact HX5.out)
            exact this
          have hc5 := HCALL.out w5 g5 cp5 (Below.to HB1.out HB5.out (Nat.le_refl _)) hN5
          have HL5 := hide (HL1.out.to HB5.out)
          have HB1' := hide (Below.to HB1.out HB5.out (Nat.le_refl _))
          have x0 := (HB5.out.cell (p := ⟨wr.heap.size, 0, none⟩) lz).trans z0
          have x1 := (HB5.out.cell (p := ⟨wr.heap.size, 1, none⟩) lz).trans z1
          have lx : wr.heap.size < w5.heap.size := Nat.lt_of_lt_of_le lz HB5.out.size
          have v0 := cellOf HL5.out 0; have v1 := cellOf HL5.out 1; have v2 := cellOf HL5.out 2; have v3 := cellOf HL5.out 3; have v4 := cellOf HL5.out 4; have v5 := cellOf HL5.out 5
          have lv := box_lt HL5.out
          have hnil := neq_nil6
          clear hN5 d0 d1 d2 d3 d4 d5 ld z0 z1 z2 z3 lz
          by_cases hri : Rch l.rs k y b
          · have hyes : Calls Try.prog 164 #[.agg #[.slice A0 l.m.opts.length q0, .slice A1 l.m.rules.length q1, .slice A2 l.ss.length q2, .slice (some ⟨bu, offu, none⟩) l.us.length q3, .slice A4 l.ps.length q4, .slice A5 l.ws.length q5], .int .i64 y, .int .i64 b, .int .i64 k, .slice (some ⟨g5, 0, none⟩) (Q.length + 1) cp5] w5 (WkYes w5 l.rs k y b (Q ++ [k])) := hc5.mono (by
              rintro e w' (h | h)
              · exact h.2
              · exact absurd hri h.1)
            have HYES := hide hyes
            have HRI := hide hri
            clear hyes hri hc5
            go_wp2_with (go_at_call 164; refine HYES.out.mono ?_; rintro e w6 ⟨P, Ad6, cp6, hP6, rfl, hN6, hB6⟩; have HP6 := hide hP6; have HN6 := hide hN6; have HB6 := hide (Below.to HB1'.out hB6 (Nat.le_refl _)); clear hP6 hN6 hB6 v0 v1 v2 v3 v4 v5 lv x0 x1 lx)
            go_ret
            have hway : WayP l.rs back a (k :: P) b := .cons hkr HKB.out HIXY.out HAB.out HRI.out HP6.out
            refine .inl ⟨hway.rch T.out HB.out, k :: P, Ad6, cp6, hway, ?_, ?_, HB6.out⟩
            · rw [show (Q ++ k :: P).length = Q.length + (P.length + 1) by simp]; rfl
            · rw [show Q ++ k :: P = Q ++ [k] ++ P by simp]; exact HN6.out
          · have hno : Calls Try.prog 164 #[.agg #[.slice A0 l.m.opts.length q0, .slice A1 l.m.rules.length q1, .slice A2 l.ss.length q2, .slice (some ⟨bu, offu, none⟩) l.us.length q3, .slice A4 l.ps.length q4, .slice A5 l.ws.length q5], .int .i64 y, .int .i64 b, .int .i64 k, .slice (some ⟨g5, 0, none⟩) (Q.length + 1) cp5] w5 (WkNo w5) := hc5.mono (by
              rintro e w' (h | h)
              · exact absurd h.1 hri
              · exact h.2)
            have HNO := hide hno
            have HRI := hide hri
            clear hno hri hc5
            go_wp2_with (go_at_call 164; refine HNO.out.mono ?_; rintro e w6 ⟨rfl, hB6⟩; have HL6 := hide (HL5.out.to hB6); have HB6 := hide (Below.to HB1'.out hB6 (Nat.le_refl _)); clear hB6 v0 v1 v2 v3 v4 v5 lv x0 x1 lx)
            go_roundw
            case rel => exact ⟨k + 1, by omega, by go_num, fun j hj hne hi => by
                rcases Nat.lt_or_ge j k with h | h
                · exact hall.out j h hne hi
                · rw [show j = k from by omega, HY.out]; exact HRI.out, HL6.out, HB6.out⟩
            case measure => simp [intOf]; omega
        · go_upto_region 9 with (first
            | (at_builtin; refine wpList_append_own_at _ rfl (.tmp 48) (.tmp 50) _ rfl w1.heap.size 3 i0 _ 1 8 Try.underlying41 hi0 iz0 iz1 iz2 rfl (by omega) _ _ _ rfl (HX1.out.alloc _) ⟨w4.heap.size, 0, none⟩ 1 1 [.int .i64 k] rfl rfl (World.news_of_block (heap_alloc_new w4 _)) (by simp [Value.oneCell']) (by unfold maxLen; omega) (by omega) (by have := HB4.out.size; simp; omega) ?_; intro v5 w5 hown5 hg5 _ hat5; obtain ⟨g5, cp5, hv5⟩ := own_addr hown5 (by omega); subst hv5; have HX5 := hide hown5; have HB5 := hide (own_low HB4.out HX1.out (Nat.le_refl _) hg5); clear hown5 hg5 hat5)
            | (at_builtin; refine wpList_append_any _ rfl (.tmp 46) (.tmp 47) _ rfl w1.heap.size 3 i0 _ 1 8 Try.underlying41 hi0 iz0 iz1 iz2 rfl (by decide) _ 0 [] rfl (World.ownsRow_made w1 #[] 0 (Nat.le_refl _) (by unfold maxLen; omega) rfl) w1.heap.size (some Ad) Q.length cap (Q.map fun (n : Nat) => Value.int .i64 n) rfl ((Nods.flat6 HN1.out).alloc (Nat.le_refl _) _) one_nods (by unfold maxLen; omega) (by omega) (by simp) ?_; intro v4 w4 hown4 hg4 _; rw [Nat.zero_add, List.nil_append] at hown4; obtain ⟨A4', cap4, hv4⟩ := owns_form hown4; subst hv4; have HX1 := hide hown4; have HB4 := hide (Below.grown (Below.allocT (Below.refl w1.heap.size w1) (Nat.le_refl _) _) hg4 (by simp) (fun j hj => by injection hj with hj; exact Nat.le_of_eq hj)); clear hown4 hg4))
          have hN5 : Nods w5 w5.heap.size (.slice (some ⟨g5, 0, none⟩) (Q.length + 1) cp5) (Q ++ [k]) := by
            have := Nods.of_own (l := Q ++ [k]) (base := w1.heap.size) (w := w5) (v := .slice (some ⟨g5, 0, none⟩) (Q.length + 1) cp5) (by rw [List.length_append, List.length_singleton, List.map_append]; exact HX5.out)
            exact this
          have hc5 := HCALL.out w5 g5 cp5 (Below.to HB1.out HB5.out (Nat.le_refl _)) hN5
          have HL5 := hide (HL1.out.to HB5.out)
          have HB1' := hide (Below.to HB1.out HB5.out (Nat.le_refl _))
          have x0 := (HB5.out.cell (p := ⟨wr.heap.size, 0, none⟩) lz).trans z0
          have x1 := (HB5.out.cell (p := ⟨wr.heap.size, 1, none⟩) lz).trans z1
          have lx : wr.heap.size < w5.heap.size := Nat.lt_of_lt_of_le lz HB5.out.size
          have v0 := cellOf HL5.out 0; have v1 := cellOf HL5.out 1; have v2 := cellOf HL5.out 2; have v3 := cellOf HL5.out 3; have v4 := cellOf HL5.out 4; have v5 := cellOf HL5.out 5
          have lv := box_lt HL5.out
          have hnil := neq_nil6
          clear hN5 d0 d1 d2 d3 d4 d5 ld z0 z1 z2 z3 lz
          by_cases hri : Rch l.rs k y b
          · have hyes : Calls Try.prog 164 #[.agg #[.slice A0 l.m.opts.length q0, .slice A1 l.m.rules.length q1, .slice A2 l.ss.length q2, .slice (some ⟨bu, offu, none⟩) l.us.length q3, .slice A4 l.ps.length q4, .slice A5 l.ws.length q5], .int .i64 y, .int .i64 b, .int .i64 k, .slice (some ⟨g5, 0, none⟩) (Q.length + 1) cp5] w5 (WkYes w5 l.rs k y b (Q ++ [k])) := hc5.mono (by
              rintro e w' (h | h)
              · exact h.2
              · exact absurd hri h.1)
            have HYES := hide hyes
            have HRI := hide hri
            clear hyes hri hc5
            go_wp2_with (go_at_call 164; refine HYES.out.mono ?_; rintro e w6 ⟨P, Ad6, cp6, hP6, rfl, hN6, hB6⟩; have HP6 := hide hP6; have HN6 := hide hN6; have HB6 := hide (Below.to HB1'.out hB6 (Nat.le_refl _)); clear hP6 hN6 hB6 v0 v1 v2 v3 v4 v5 lv x0 x1 lx)
            go_ret
            have hway : WayP l.rs back a (k :: P) b := .cons hkr HKB.out HIXY.out HAB.out HRI.out HP6.out
            refine .inl ⟨hway.rch T.out HB.out, k :: P, Ad6, cp6, hway, ?_, ?_, HB6.out⟩
            · rw [show (Q ++ k :: P).length = Q.length + (P.length + 1) by simp]; rfl
            · rw [show Q ++ k :: P = Q ++ [k] ++ P by simp]; exact HN6.out
          · have hno : Calls Try.prog 164 #[.agg #[.slice A0 l.m.opts.length q0, .slice A1 l.m.rules.length q1, .slice A2 l.ss.length q2, .slice (some ⟨bu, offu, none⟩) l.us.length q3, .slice A4 l.ps.length q4, .slice A5 l.ws.length q5], .int .i64 y, .int .i64 b, .int .i64 k, .slice (some ⟨g5, 0, none⟩) (Q.length + 1) cp5] w5 (WkNo w5) := hc5.mono (by
              rintro e w' (h | h)
              · exact absurd h.1 hri
              · exact h.2)
            have HNO := hide hno
            have HRI := hide hri
            clear hno hri hc5
            go_wp2_with (go_at_call 164; refine HNO.out.mono ?_; rintro e w6 ⟨rfl, hB6⟩; have HL6 := hide (HL5.out.to hB6); have HB6 := hide (Below.to HB1'.out hB6 (Nat.le_refl _)); clear hB6 v0 v1 v2 v3 v4 v5 lv x0 x1 lx)
            go_roundw
            case rel => exact ⟨k + 1, by omega, by go_num, fun j hj hne hi => by
                rcases Nat.lt_or_ge j k with h | h
                · exact hall.out j h hne hi
                · rw [show j = k from by omega, HY.out]; exact HRI.out, HL6.out, HB6.out⟩
            case measure => simp [intOf]; omega
      · have hke : k = l.us.length := by omega
        subst hke
        have hno : ¬ Rch l.rs back a b := T.out.none_way HAB.out (fun j hj hne hi => hall.out j (by rw [← rs_len]; exact hj) hne hi)
        have HNO := hide hno
        clear hno
        go_wp2_with fail
        go_ret
        exact .inr ⟨HNO.out, rfl, HBW.out⟩
end Go.Proofs.Ytmabfnddedffoaa
/- The elder way between two spots, its use of a run, its length: walks. -/
namespace Go.Proofs.Ytmabfnddedffoaa
open Go.RowKit
set_option linter.unusedVariables false
set_option linter.unusedSimpArgs false
theorem LoOk.wayU {l : Lo} (h : LoOk l) {a b : Nat} {P P' : List Nat} (h1 : WayP l.rs (-1) a P b) (h2 : WayP l.rs (-1) a P' b) : P = P' := WayP.one h.tree h1 h2
set_option maxRecDepth 100000 in
set_option maxHeartbeats 1000000 in
theorem way_any (A0 A1 A2 A3 A4 A5 : Option Addr) (q0 q1 q2 q3 q4 q5 : Nat) (l : Lo) (ok : LoOk l) (a b : Nat) (P : List Nat) (w : World) (h : LoA w w.heap.size A0 A1 A2 A3 A4 A5 q0 q1 q2 q3 q4 q5 l) (ha : a < l.ss.length) (hb : b < l.ss.length) (hP : WayP l.rs (-1) a P b) :
    Calls Try.prog 140 #[.agg #[.slice A0 l.m.opts.length q0, .slice A1 l.m.rules.length q1, .slice A2 l.ss.length q2, .slice A3 l.us.length q3, .slice A4 l.ps.length q4, .slice A5 l.ws.length q5], .int .i64 a, .int .i64 b] w fun e w' => ∃ (Ad : Addr) (cap : Nat), e = .returned (.slice (some Ad) P.length cap) ∧ Nods w' w'.heap.size (.slice (some Ad) P.length cap) P ∧ Below w.heap.size w w' := by
  have H := hide h
  have OK := hide ok
  have HP := hide hP
  have s40 := ok.s40
  have hrch := hP.rch ok.tree (.inl rfl)
  have HR := hide hrch
  clear h ok hP hrch
  go_enter Try.func140, Try.ntmps140
  go_upto_region 1 with (fail)
  generalize hw0 : World.alloc _ _ = w0
  obtain ⟨hb0, hB0, hs0⟩ := alloc1 hw0
  have HB0 := hide hB0
  have c0 := cellOf hb0 0; have c1 := cellOf hb0 1; have c2 := cellOf hb0 2; have c3 := cellOf hb0 3; have c4 := cellOf hb0 4; have c5 := cellOf hb0 5
  have hlb := box_lt hb0
  clear hw0 hb0 hB0 hs0
  have hB1 : Below w.heap.size w (w0.alloc (.cells #[] 3 (0, 0))) := Below.allocT HB0.out (Nat.le_refl _) _
  have hwk := walk_any A0 A1 A2 A3 A4 A5 q0 q1 q2 q3 q4 q5 l OK.out l.ss.length a b (-1) [] ⟨w0.heap.size, 0, none⟩ 0 (w0.alloc (.cells #[] 3 (0, 0))) (H.out.up hB1) (sideN_le (T := OK.out.tree) (-1) a) (.inl rfl) ha hb (by simp; omega) ⟨_, w0.heap.size, 0, 0, rfl, Nat.le_refl _, .inr rfl, fun i j hi => by simp at hi⟩
  rw [List.length_nil] at hwk
  have hwk2 := hwk.mono (R' := fun e w' => ∃ (Ad : Addr) (cap : Nat), e = .returned (.slice (some Ad) P.length cap) ∧ Nods w' w'.heap.size (.slice (some Ad) P.length cap) P ∧ Below w.heap.size w w') (by
    rintro e w' (⟨_, P', Ad, cap, h1, h2, h3, h4⟩ | ⟨h1, _⟩)
    · obtain rfl := OK.out.wayU h1 HP.out
      rw [List.nil_append] at h2 h3
      exact ⟨Ad, cap, h2, h3, Below.to hB1 h4 (Nat.le_refl _)⟩
    · exact absurd HR.out h1)
  have HWK := hide hwk2
  clear hwk hwk2 hB1
  go_wp2_with (go_at_call 164; refine HWK.out.mono ?_; rintro e w2 ⟨Ad, cap, rfl, hn2, hB2⟩; have HN2 := hide hn2; have HB2 := hide hB2; clear hn2 hB2 c0 c1 c2 c3 c4 c5 hlb)
  go_ret
  exact ⟨Ad, cap, rfl, HN2.out, HB2.out⟩
set_option maxRecDepth 100000 in
set_option maxHeartbeats 2000000 in
theorem rends_any (i : Nat) (A0 A1 A2 A3 A4 A5 : Option Addr) (q0 q1 q2 q3 q4 q5 : Nat) (l : Lo) (w : World) (h : LoA w w.heap.size A0 A1 A2 A3 A4 A5 q0 q1 q2 q3 q4 q5 l) (ok : LoOk l) (hi : i < l.ws.length) :
    Calls Try.prog 108 #[.agg #[.slice A0 l.m.opts.length q0, .slice A1 l.m.rules.length q1, .slice A2 l.ss.length q2, .slice A3 l.us.length q3, .slice A4 l.ps.length q4, .slice A5 l.ws.length q5], .int .i64 i] w fun e w' => e = .returned (.tuple #[.int .i64 (endF l i : Nat), .int .i64 (endT l i : Nat)]) ∧ Below w.heap.size w w' := by
  obtain ⟨⟨a1, a2, a3⟩, b1, b2, b3⟩ := ok.wpin hi
  have p30 := ok.p30
  have w60 := ok.w60
  obtain ⟨bw, offw, x, Af, qf, HX, rfl, hbw, hq5, HFO, e0, e1, e2, e3, e4, e5, e6⟩ := h.wi hi
  rw [HX.out] at a1 a2 a3 b1 b2 b3
  obtain ⟨bf, off, y, HY, rfl, hbb, hq, f0, f1, f2⟩ := h.pl a2
  obtain ⟨bf', off', z, HZ, he, hbb', hq', g0, g1, g2⟩ := h.pl b2
  injection he with he
  injection he with he1 he2
  subst he1 he2
  rw [HY.out] at a3
  rw [HZ.out] at b3
  have hF : (endF l i : Int) = y.spot := by unfold endF; rw [HX.out, HY.out]; omega
  have hT : (endT l i : Int) = z.spot := by unfold endT; rw [HX.out, HZ.out]; omega
  rw [hF, hT]
  obtain ⟨nm, fp, fc, tp, tc, size, form⟩ := x
  simp only at a1 a2 b1 b2 HY HZ e0 e1 e2 e3 e4 e5 e6 f0 f1 f2 g0 g1 g2
  obtain ⟨kf, rfl⟩ := Int.eq_ofNat_of_zero_le a1
  obtain ⟨kt, rfl⟩ := Int.eq_ofNat_of_zero_le b1
  rw [Int.toNat_natCast] at a2 f0 f1 f2
  rw [Int.toNat_natCast] at b2 g0 g1 g2
  have ikf : (kf : Int) < (l.ps.length : Int) := by omega
  have ikt : (kt : Int) < (l.ps.length : Int) := by omega
  have iq : (l.ps.length : Int) ≤ (q4 : Int) := by omega
  have iw : (i : Int) < (l.ws.length : Int) := by omega
  have iq5 : (l.ws.length : Int) ≤ (q5 : Int) := by omega
  clear a1 b1 a3 b3 h ok hF hT
  go_enter Try.func108, Try.ntmps108
  go_upto_region 1 with (fail)
  generalize hw0 : World.alloc _ _ = w0
  obtain ⟨hb0, hB0, hs0⟩ := alloc1 hw0
  have c4 := cellOf hb0 4
  have c5 := cellOf hb0 5
  have l0 := box_lt hb0
  have l2 : bf < w0.heap.size := by omega
  have l3 : bw < w0.heap.size := by omega
  have k1 := (hB0.cell (p := ⟨bf, off + kf * 3 + 1, none⟩) hbb).trans f1
  have k2 := (hB0.cell (p := ⟨bf, off + kt * 3 + 1, none⟩) hbb).trans g1
  have k3 := (hB0.cell (p := ⟨bw, offw + i * 7 + 1, none⟩) hbw).trans e1
  have k4 := (hB0.cell (p := ⟨bw, offw + i * 7 + 3, none⟩) hbw).trans e3
  have HB0 := hide hB0
  clear hw0 hb0 hB0 hs0 e0 e1 e2 e3 e4 e5 e6 f0 f1 f2 g0 g1 g2
  refine wp_region_held_drew (S := (fun w' => Below w0.heap.size w0 w')) (by kernel_rfl) ?_ (fun hHeld => ?_)
  · try dsimp only
    exact (by repeat (first | exact Below.refl _ _ | assumption | refine Below.drew ?_ | refine Below.drewN ?_ _ | refine Below.allocT ?_ (Nat.le_refl _) _ | refine Below.setCell ?_ (by simp <;> omega) _ | refine Below.to ?_ (by assumption) (Nat.le_refl _)))
  refine wpAnyH_take (i := 0) (v := ?v1_0) rfl (by kernel_rfl) (by kernel_rfl) (by kernel_rfl) (fun _ _ _ h => h) (Or.inl ⟨by rfl, ?y1_0⟩) (by assumption) ?r1_0
  case' y1_0 => (intro w hSw; (try dsimp only at hSw); (try have hlS := HLK.out _ hSw); obtain ⟨hcS, hfS⟩ := bcell hSw; clear hSw; go_simp; try with_reducible rfl)
  try simp only [Act.put, zA, zB, zC, zD, zE, zF]
  refine wpAnyH_take (i := 1) (v := ?v1_1) rfl (by kernel_rfl) (by kernel_rfl) (by kernel_rfl) (fun _ _ _ h => h) (Or.inl ⟨by rfl, ?y1_1⟩) (by assumption) ?r1_1
  case' y1_1 => (intro w hSw; (try dsimp only at hSw); (try have hlS := HLK.out _ hSw); obtain ⟨hcS, hfS⟩ := bcell hSw; clear hSw; go_simp; try with_reducible rfl)
  try simp only [Act.put, zA, zB, zC, zD, zE, zF]
  refine wpAnyH_take (i := 2) (v := ?v1_2) rfl (by kernel_rfl) (by kernel_rfl) (by kernel_rfl) (fun _ _ _ h => h) (Or.inl ⟨by rfl, ?y1_2⟩) (by assumption) ?r1_2
  case' y1_2 => (intro w hSw; (try dsimp only at hSw); (try have hlS := HLK.out _ hSw); obtain ⟨hcS, hfS⟩ := bcell hSw; clear hSw; go_simp; try with_reducible rfl)
  try simp only [Act.put, zA, zB, zC, zD, zE, zF]
  refine wpAnyH_take (i := 3) (v := ?v1_3) rfl (by kernel_rfl) (by kernel_rfl) (by kernel_rfl) (fun _ _ _ h => h) (Or.inl ⟨by rfl, ?y1_3⟩) (by assumption) ?r1_3
  case' y1_3 => (intro w hSw; (try dsimp only at hSw); (try have hlS := HLK.out _ hSw); obtain ⟨hcS, hfS⟩ := bcell hSw; clear hSw; go_simp; try with_reducible rfl)
  try simp only [Act.put, zA, zB, zC, zD, zE, zF]
  refine wpAnyH_take (i := 4) (v := ?v1_4) rfl (by kernel_rfl) (by kernel_rfl) (by kernel_rfl) (fun _ _ _ h => h) (Or.inl ⟨by rfl, ?y1_4⟩) (by assumption) ?r1_4
  case' y1_4 => (intro w hSw; (try dsimp only at hSw); (try have hlS := HLK.out _ hSw); obtain ⟨hcS, hfS⟩ := bcell hSw; clear hSw; go_simp; try with_reducible rfl)
  try simp only [Act.put, zA, zB, zC, zD, zE, zF]
  refine wpAnyH_take (i := 5) (v := ?v1_5) rfl (by kernel_rfl) (by kernel_rfl) (by kernel_rfl) (fun _ _ _ h => h) (Or.inl ⟨by rfl, ?y1_5⟩) (by assumption) ?r1_5
  case' y1_5 => (intro w hSw; (try dsimp only at hSw); (try have hlS := HLK.out _ hSw); obtain ⟨hcS, hfS⟩ := bcell hSw; clear hSw; go_simp; try with_reducible rfl)
  try simp only [Act.put, zA, zB, zC, zD, zE, zF]
  refine wpAnyH_take (i := 6) (v := ?v1_6) rfl (by kernel_rfl) (by kernel_rfl) (by kernel_rfl) (fun _ _ _ h => h) (Or.inl ⟨by rfl, ?y1_6⟩) (by assumption) ?r1_6
  case' y1_6 => (intro w hSw; (try dsimp only at hSw); (try have hlS := HLK.out _ hSw); obtain ⟨hcS, hfS⟩ := bcell hSw; clear hSw; go_simp; try with_reducible rfl)
  try simp only [Act.put, zA, zB, zC, zD, zE, zF]
  refine wpAnyH_take (i := 7) (v := ?v1_7) rfl (by kernel_rfl) (by kernel_rfl) (by kernel_rfl) (fun _ _ _ h => h) (Or.inl ⟨by rfl, ?y1_7⟩) (by assumption) ?r1_7
  case' y1_7 => (intro w hSw; (try dsimp only at hSw); (try have hlS := HLK.out _ hSw); obtain ⟨hcS, hfS⟩ := bcell hSw; clear hSw; go_simp; try with_reducible rfl)
  try simp only [Act.put, zA, zB, zC, zD, zE, zF]
  refine wpAnyH_take (i := 8) (v := ?v1_8) rfl (by kernel_rfl) (by kernel_rfl) (by kernel_rfl) (fun _ _ _ h => h) (Or.inl ⟨by rfl, ?y1_8⟩) (by assumption) ?r1_8
  case' y1_8 => (intro w hSw; (try dsimp only at hSw); (try have hlS := HLK.out _ hSw); obtain ⟨hcS, hfS⟩ := bcell hSw; clear hSw; go_simp; try with_reducible rfl)
  try simp only [Act.put, zA, zB, zC, zD, zE, zF]
  refine wpAnyH_take (i := 9) (v := ?v1_9) rfl (by kernel_rfl) (by kernel_rfl) (by kernel_rfl) (fun _ _ _ h => h) (Or.inl ⟨by rfl, ?y1_9⟩) (by assumption) ?r1_9
  case' y1_9 => (intro w hSw; (try dsimp only at hSw); (try have hlS := HLK.out _ hSw); obtain ⟨hcS, hfS⟩ := bcell hSw; clear hSw; go_simp; try with_reducible rfl)
  try simp only [Act.put, zA, zB, zC, zD, zE, zF]
  refine wpAnyH_take (i := 10) (v := ?v1_10) rfl (by kernel_rfl) (by kernel_rfl) (by kernel_rfl) (fun _ _ _ h => h) (Or.inl ⟨by rfl, ?y1_10⟩) (by assumption) ?r1_10
  case' y1_10 => (intro w hSw; (try dsimp only at hSw); (try have hlS := HLK.out _ hSw); obtain ⟨hcS, hfS⟩ := bcell hSw; clear hSw; go_simp; try with_reducible rfl)
  try simp only [Act.put, zA, zB, zC, zD, zE, zF]
  refine wpAnyH_take (i := 11) (v := ?v1_11) rfl (by kernel_rfl) (by kernel_rfl) (by kernel_rfl) (fun _ _ _ h => h) (Or.inl ⟨by rfl, ?y1_11⟩) (by assumption) ?r1_11
  case' y1_11 => (intro w hSw; (try dsimp only at hSw); (try have hlS := HLK.out _ hSw); obtain ⟨hcS, hfS⟩ := bcell hSw; clear hSw; go_simp; try with_reducible rfl)
  try simp only [Act.put, zA, zB, zC, zD, zE, zF]
  refine wpAnyH_take (i := 12) (v := ?v1_12) rfl (by kernel_rfl) (by kernel_rfl) (by kernel_rfl) (fun _ _ _ h => h) (Or.inl ⟨by rfl, ?y1_12⟩) (by assumption) ?r1_12
  case' y1_12 => (intro w hSw; (try dsimp only at hSw); (try have hlS := HLK.out _ hSw); obtain ⟨hcS, hfS⟩ := bcell hSw; clear hSw; go_simp; try with_reducible rfl)
  try simp only [Act.put, zA, zB, zC, zD, zE, zF]
  refine wpAnyH_take (i := 13) (v := ?v1_13) rfl (by kernel_rfl) (by kernel_rfl) (by kernel_rfl) (fun _ _ _ h => h) (Or.inl ⟨by rfl, ?y1_13⟩) (by assumption) ?r1_13
  case' y1_13 => (intro w hSw; (try dsimp only at hSw); (try have hlS := HLK.out _ hSw); obtain ⟨hcS, hfS⟩ := bcell hSw; clear hSw; go_simp; try with_reducible rfl)
  try simp only [Act.put, zA, zB, zC, zD, zE, zF]
  refine wpAnyH_take (i := 14) (v := ?v1_14) rfl (by kernel_rfl) (by kernel_rfl) (by kernel_rfl) (fun _ _ _ h => h) (Or.inl ⟨by rfl, ?y1_14⟩) (by assumption) ?r1_14
  case' y1_14 => (intro w hSw; (try dsimp only at hSw); (try have hlS := HLK.out _ hSw); obtain ⟨hcS, hfS⟩ := bcell hSw; clear hSw; go_simp; try with_reducible rfl)
  try simp only [Act.put, zA, zB, zC, zD, zE, zF]
  refine wpAnyH_take (i := 15) (v := ?v1_15) rfl (by kernel_rfl) (by kernel_rfl) (by kernel_rfl) (fun _ _ _ h => h) (Or.inl ⟨by rfl, ?y1_15⟩) (by assumption) ?r1_15
  case' y1_15 => (intro w hSw; (try dsimp only at hSw); (try have hlS := HLK.out _ hSw); obtain ⟨hcS, hfS⟩ := bcell hSw; clear hSw; go_simp; try with_reducible rfl)
  try simp only [Act.put, zA, zB, zC, zD, zE, zF]
  refine wpAnyH_take (i := 16) (v := ?v1_16) rfl (by kernel_rfl) (by kernel_rfl) (by kernel_rfl) (fun _ _ _ h => h) (Or.inl ⟨by rfl, ?y1_16⟩) (by assumption) ?r1_16
  case' y1_16 => (intro w hSw; (try dsimp only at hSw); (try have hlS := HLK.out _ hSw); obtain ⟨hcS, hfS⟩ := bcell hSw; clear hSw; go_simp; try with_reducible rfl)
  try simp only [Act.put, zA, zB, zC, zD, zE, zF]
  refine wpAnyH_take (i := 17) (v := ?v1_17) rfl (by kernel_rfl) (by kernel_rfl) (by kernel_rfl) (fun _ _ _ h => h) (Or.inl ⟨by rfl, ?y1_17⟩) (by assumption) ?r1_17
  case' y1_17 => (intro w hSw; (try dsimp only at hSw); (try have hlS := HLK.out _ hSw); obtain ⟨hcS, hfS⟩ := bcell hSw; clear hSw; go_simp; try with_reducible rfl)
  try simp only [Act.put, zA, zB, zC, zD, zE, zF]
  refine wpAnyH_take (i := 18) (v := ?v1_18) rfl (by kernel_rfl) (by kernel_rfl) (by kernel_rfl) (fun _ _ _ h => h) (Or.inl ⟨by rfl, ?y1_18⟩) (by assumption) ?r1_18
  case' y1_18 => (intro w hSw; (try dsimp only at hSw); (try have hlS := HLK.out _ hSw); obtain ⟨hcS, hfS⟩ := bcell hSw; clear hSw; go_simp; try with_reducible rfl)
  try simp only [Act.put, zA, zB, zC, zD, zE, zF]
  refine wpAnyH_take (i := 19) (v := ?v1_19) rfl (by kernel_rfl) (by kernel_rfl) (by kernel_rfl) (fun _ _ _ h => h) (Or.inl ⟨by rfl, ?y1_19⟩) (by assumption) ?r1_19
  case' y1_19 => (intro w hSw; (try dsimp only at hSw); (try have hlS := HLK.out _ hSw); obtain ⟨hcS, hfS⟩ := bcell hSw; clear hSw; go_simp; try with_reducible rfl)
  try simp only [Act.put, zA, zB, zC, zD, zE, zF]
  refine wpAnyH_take (i := 20) (v := ?v1_20) rfl (by kernel_rfl) (by kernel_rfl) (by kernel_rfl) (fun _ _ _ h => h) (Or.inl ⟨by rfl, ?y1_20⟩) (by assumption) ?r1_20
  case' y1_20 => (intro w hSw; (try dsimp only at hSw); (try have hlS := HLK.out _ hSw); obtain ⟨hcS, hfS⟩ := bcell hSw; clear hSw; go_simp; try with_reducible rfl)
  try simp only [Act.put, zA, zB, zC, zD, zE, zF]
  refine wpAnyH_take (i := 21) (v := ?v1_21) rfl (by kernel_rfl) (by kernel_rfl) (by kernel_rfl) (fun _ _ _ h => h) (Or.inl ⟨by rfl, ?y1_21⟩) (by assumption) ?r1_21
  case' y1_21 => (intro w hSw; (try dsimp only at hSw); (try have hlS := HLK.out _ hSw); obtain ⟨hcS, hfS⟩ := bcell hSw; clear hSw; go_simp; try with_reducible rfl)
  try simp only [Act.put, zA, zB, zC, zD, zE, zF]
  refine wpAnyH_take (i := 22) (v := ?v1_22) rfl (by kernel_rfl) (by kernel_rfl) (by kernel_rfl) (fun _ _ _ h => h) (Or.inl ⟨by rfl, ?y1_22⟩) (by assumption) ?r1_22
  case' y1_22 => (intro w hSw; (try dsimp only at hSw); (try have hlS := HLK.out _ hSw); obtain ⟨hcS, hfS⟩ := bcell hSw; clear hSw; go_simp; try with_reducible rfl)
  try simp only [Act.put, zA, zB, zC, zD, zE, zF]
  refine wpAnyH_take (i := 23) (v := ?v1_23) rfl (by kernel_rfl) (by kernel_rfl) (by kernel_rfl) (fun _ _ _ h => h) (Or.inl ⟨by rfl, ?y1_23⟩) (by assumption) ?r1_23
  case' y1_23 => (intro w hSw; (try dsimp only at hSw); (try have hlS := HLK.out _ hSw); obtain ⟨hcS, hfS⟩ := bcell hSw; clear hSw; go_simp; try with_reducible rfl)
  try simp only [Act.put, zA, zB, zC, zD, zE, zF]
  refine wpAnyH_take (i := 24) (v := ?v1_24) rfl (by kernel_rfl) (by kernel_rfl) (by kernel_rfl) (fun _ _ _ h => h) (Or.inl ⟨by rfl, ?y1_24⟩) (by assumption) ?r1_24
  case' y1_24 => (intro w hSw; (try dsimp only at hSw); (try have hlS := HLK.out _ hSw); obtain ⟨hcS, hfS⟩ := bcell hSw; clear hSw; go_simp; try with_reducible rfl)
  try simp only [Act.put, zA, zB, zC, zD, zE, zF]
  refine wpAnyH_take (i := 25) (v := ?v1_25) rfl (by kernel_rfl) (by kernel_rfl) (by kernel_rfl) (fun _ _ _ h => h) (Or.inl ⟨by rfl, ?y1_25⟩) (by assumption) ?r1_25
  case' y1_25 => (intro w hSw; (try dsimp only at hSw); (try have hlS := HLK.out _ hSw); obtain ⟨hcS, hfS⟩ := bcell hSw; clear hSw; go_simp; try with_reducible rfl)
  try simp only [Act.put, zA, zB, zC, zD, zE, zF]
  refine wpAnyH_done (by kernel_rfl) ?_ _
  go_wp2_with fail
  go_ret2
  exact ⟨rfl, Below.to HB0.out hHeld (Nat.le_refl _)⟩
set_option maxRecDepth 100000 in
set_option maxHeartbeats 2000000 in
theorem uses_any (i run : Nat) (A0 A1 A2 A3 A4 A5 : Option Addr) (q0 q1 q2 q3 q4 q5 : Nat) (l : Lo) (w : World) (h : LoA w w.heap.size A0 A1 A2 A3 A4 A5 q0 q1 q2 q3 q4 q5 l) (ok : LoOk l) (hi : i < l.ws.length) (hr : run < l.us.length) :
    Calls Try.prog 113 #[.agg #[.slice A0 l.m.opts.length q0, .slice A1 l.m.rules.length q1, .slice A2 l.ss.length q2, .slice A3 l.us.length q3, .slice A4 l.ps.length q4, .slice A5 l.ws.length q5], .int .i64 i, .int .i64 run] w fun e w' => e = .returned (.bool (thruB l run i)) ∧ Below w.heap.size w w' := by
  have H := hide h
  have OK := hide ok
  obtain ⟨hea, heb⟩ := ok.ends hi
  obtain ⟨P, hP⟩ := ok.way_some hea heb
  have hth := ok.way hr hi hP
  have HTH := hide hth
  have hPl : P.length ≤ 40 := by
    have h1 := hP.mem ok.tree
    have h2 := nodup_len (n := l.rs.length) h1.1 (fun j hj => hP.lt j hj)
    rw [rs_len] at h2
    have := ok.u40
    omega
  have HP := hide hP
  clear h ok hth hP
  go_enter Try.func113, Try.ntmps113
  go_upto_region 1 with (fail)
  generalize hw0 : World.alloc _ _ = w0
  obtain ⟨hb0, hB0, hs0⟩ := alloc1 hw0
  have HL0 : Hid (LoBox w0 w.heap.size A0 A1 A2 A3 A4 A5 q0 q1 q2 q3 q4 q5 l) := hb0
  have HB0 := hide hB0
  have c0 := cellOf hb0 0; have c1 := cellOf hb0 1; have c2 := cellOf hb0 2; have c3 := cellOf hb0 3; have c4 := cellOf hb0 4; have c5 := cellOf hb0 5
  have hlb := box_lt hb0
  clear hw0 hb0 hB0 hs0
  go_wp2_with (first | (go_at_call 108; refine (rends_any i A0 A1 A2 A3 A4 A5 q0 q1 q2 q3 q4 q5 l _ (H.out.up HB0.out) OK.out hi).mono ?_; rintro e w1 ⟨rfl, hB1⟩; have d0 := cellOf (HL0.out.to hB1) 0; have d1 := cellOf (HL0.out.to hB1) 1; have d2 := cellOf (HL0.out.to hB1) 2; have d3 := cellOf (HL0.out.to hB1) 3; have d4 := cellOf (HL0.out.to hB1) 4; have d5 := cellOf (HL0.out.to hB1) 5; have ld := box_lt (HL0.out.to hB1); have HB1 := hide (Below.to HB0.out hB1 (Nat.le_refl _)); clear hB1 c0 c1 c2 c3 c4 c5 hlb) | (go_at_call 140; refine (way_any A0 A1 A2 A3 A4 A5 q0 q1 q2 q3 q4 q5 l OK.out _ _ P _ (H.out.up HB1.out) hea heb HP.out).mono ?_; rintro e w2 ⟨Ad, cap, rfl, hn2, hB2⟩; have HN2 := hide hn2; have HB2 := hide (Below.to HB1.out hB2 (Nat.le_refl _)); clear hn2 hB2 d0 d1 d2 d3 d4 d5 ld))
  go_loop [10] (fun i => ∃ k : Nat, k ≤ P.length ∧ i = .int .i64 k ∧ Hid (∀ j, j < k → P.getD j 0 ≠ run)) (fun i => P.length - (intOf i).toNat)
  case atStart => exact ⟨0, Nat.zero_le _, rfl, fun j hj => by omega⟩
  case round =>
    obtain ⟨k, hk, rfl, hall⟩ := hrel
    by_cases hkl : k < P.length
    · obtain ⟨b, off, he, hb, _, c0⟩ := HN2.out.at hkl
      injection he with he
      subst he
      have hq := Nods.cap HN2.out
      obtain ⟨x, hx⟩ : ∃ x, P.getD k 0 = x := ⟨_, rfl⟩
      rw [hx] at c0
      have ik : (k : Int) < (P.length : Int) := by omega
      have iq : (P.length : Int) ≤ (cap : Int) := by omega
      have HX := hide hx
      clear hx
      by_cases hxr : x = run
      · have g1 : ((x : Int) == (run : Int)) = true := by simp [hxr]
        have ht : thruB l run i = true := HTH.out.1 (by rw [← hxr, ← HX.out]; exact getD_mem3 hkl)
        have HT := hide ht
        clear hxr ht
        go_wp2_with fail
        go_ret
        exact ⟨ret_bool HT.out.symm, HB2.out⟩
      · have g1 : ((x : Int) == (run : Int)) = false := by simp; omega
        have HXR := hide hxr
        clear hxr
        go_wp2_with fail
        go_round
        case rel => exact ⟨k + 1, by omega, by go_num, fun j hj => by
            rcases Nat.lt_or_ge j k with h | h
            · exact hall.out j h
            · rw [show j = k from by omega, HX.out]; exact HXR.out⟩
        case measure => simp [intOf]; omega
    · have hke : k = P.length := by omega
      subst hke
      have ht : thruB l run i = false := by
        rw [← Bool.not_eq_true]
        intro q
        have h1 := HTH.out.2 q
        obtain ⟨j, hj, e⟩ := List.mem_iff_getElem.1 h1
        refine hall.out j hj ?_
        rw [List.getD_eq_getElem?_getD, List.getElem?_eq_getElem hj]
        exact e
      have HT := hide ht
      clear ht
      go_wp2_with fail
      go_ret
      exact ⟨ret_bool HT.out.symm, HB2.out⟩
end Go.Proofs.Ytmabfnddedffoaa
/- The elder greatest fill of a run: walks. -/
namespace Go.Proofs.Ytmabfnddedffoaa
open Go.RowKit
set_option linter.unusedVariables false
set_option linter.unusedSimpArgs false
theorem OFs.to6 {w w1 w2 : World} {e B : Nat} {v : Value} {L : List (List Int)} {vs : List Value} (h : OFs w e B w1 v L vs) (hb : Below w1.heap.size w1 w2) : OFs w e B w2 v L vs := ⟨h.len, owns_below h.own hb, h.row⟩
theorem WorS.to {w0 wr w' : World} {B lb : Nat} {A0 A1 A2 A3 A4 A5 : Option Addr} {q0 q1 q2 q3 q4 q5 : Nat} {l : Lo} {fv sv : Value} {Fs : List (List Int)} {Ss : List Int} {vs : List Value} (h : WorS w0 wr B lb A0 A1 A2 A3 A4 A5 q0 q1 q2 q3 q4 q5 l fv sv Fs Ss vs) (hb : Below wr.heap.size wr w') : WorS w0 w' B lb A0 A1 A2 A3 A4 A5 q0 q1 q2 q3 q4 q5 l fv sv Fs Ss vs :=
  ⟨Below.to h.below hb (Nat.le_refl _), box_to h.box hb, h.f.to6 hb, owns_below h.s hb, h.lt.1, Nat.le_trans h.lt.2 hb.size⟩
set_option maxRecDepth 100000 in
set_option maxHeartbeats 4000000 in
theorem rworst_any (run : Nat) (A0 A1 A2 A3 A4 A5 : Option Addr) (q0 q1 q2 q3 q4 q5 : Nat) (l : Lo) (w : World) (hs : SizedL l) (h : LoA w w.heap.size A0 A1 A2 A3 A4 A5 q0 q1 q2 q3 q4 q5 l) (ok : LoOk l) (hr : run < l.us.length) (hN : l.m.opts.length ≤ 12) :
    Calls Try.prog 86 #[.agg #[.slice A0 l.m.opts.length q0, .slice A1 l.m.rules.length q1, .slice A2 l.ss.length q2, .slice A3 l.us.length q3, .slice A4 l.ps.length q4, .slice A5 l.ws.length q5], .int .i64 run] w (MosP (worN l run) (worX l run) (worE l run) w) := by
  obtain ⟨i0, hi0, iz0, iz1, iz2⟩ := info_parts infoInt
  obtain ⟨i1, hi1, jz0, jz1, jz2⟩ := info_parts infoForm
  have H := hide h
  have OK := hide ok
  have HS := hide hs
  have w60 := ok.w60
  clear h ok hs
  go_enter Try.func86, Try.ntmps86
  go_upto_region 1 with (fail)
  generalize hw0 : World.alloc _ _ = w0
  obtain ⟨hb0, hB0, hs0⟩ := alloc1 hw0
  have HL0 : Hid (LoBox w0 w.heap.size A0 A1 A2 A3 A4 A5 q0 q1 q2 q3 q4 q5 l) := hb0
  have HB0 := hide hB0
  clear hw0 hb0 hB0 hs0
  go_wp2_with fail
  go_loopw [7, 8, 9] (fun fo so i wr => ∃ (k : Nat) (A A' : Option Addr) (cap cap' : Nat) (T : List Nat) (Fs : List (List Int)) (Ss : List Int) (vs : List Value), i = .int .i64 k ∧ fo = .slice A Fs.length cap ∧ so = .slice A' Ss.length cap' ∧ k ≤ l.ws.length ∧ Hid ((List.range k).filter (thruB l run) = T) ∧ Hid (fmsL l T = Fs) ∧ Hid (szsL l T = Ss) ∧ Hid (WorS w wr w0.heap.size w.heap.size A0 A1 A2 A3 A4 A5 q0 q1 q2 q3 q4 q5 l (.slice A Fs.length cap) (.slice A' Ss.length cap') Fs Ss vs)) (fun _ _ i _ => l.ws.length - (intOf i).toNat)
  case atStart => exact ⟨0, _, _, _, _, [], [], [], [], rfl, rfl, rfl, Nat.zero_le _, rfl, rfl, rfl, ⟨HB0.out, HL0.out, OFs.nil _ _ _ _, World.ownsRow_nil _ _ _ _, HB0.out.size, Nat.le_refl _⟩⟩
  case round =>
    obtain ⟨k, A, A', cap, cap', T, Fs, Ss, vs, rfl, rfl, rfl, hk, HT, HFs, HSs, R⟩ := hrel
    have c0 := cellOf R.out.box 0; have c1 := cellOf R.out.box 1; have c2 := cellOf R.out.box 2; have c3 := cellOf R.out.box 3; have c4 := cellOf R.out.box 4; have c5 := cellOf R.out.box 5
    have lc := box_lt R.out.box
    have hTl : T.length ≤ 60 := by rw [← HT.out]; exact Nat.le_trans (filter_range_len _ _) (by omega)
    have hFl : Fs.length ≤ 60 := by rw [← HFs.out]; unfold fmsL; simp; omega
    have hSl : Ss.length ≤ 60 := by rw [← HSs.out]; unfold szsL; simp; omega
    by_cases hkl : k < l.ws.length
    · obtain ⟨bw, offw, x, Af, qf, HX, rfl, hbw, hq5, HFO, _, _, _, _, _, e5, e6⟩ := H.out.wi hkl
      have hus := uses_any k run A0 A1 A2 A3 A4 _ q0 q1 q2 q3 q4 q5 l wr (H.out.up R.out.below) OK.out hkl hr
      have ik0 : (0 : Int) ≤ (k : Int) := by omega
      have ik : (k : Int) < (l.ws.length : Int) := by omega
      have iq5 : (l.ws.length : Int) ≤ (q5 : Int) := by omega
      cases hv : thruB l run k with
      | false =>
        rw [hv] at hus
        have HUS := hide hus
        have HV := hide hv
        clear hus hv
        go_wp2_with (go_at_call 113; refine HUS.out.mono ?_; rintro e w1 ⟨rfl, hB1⟩; have HB1 := hide hB1; clear hB1 c0 c1 c2 c3 c4 c5 lc)
        go_roundw
        case rel => exact ⟨k + 1, A, A', cap, cap', T, Fs, Ss, vs, by go_num, rfl, rfl, by omega, by show _ = _; rw [filter_range_succ, HV.out, if_neg (by simp)]; exact HT.out, HFs.out, HSs.out, WorS.to R.out HB1.out⟩
        case measure => simp [intOf]; omega
      | true =>
        rw [hv] at hus
        have HUS := hide hus
        have HV := hide hv
        have hnf : fmsL l (T ++ [k]) = Fs ++ [x.form] := by rw [fmsL_snoc, HFs.out, HX.out]
        have hns : szsL l (T ++ [k]) = Ss ++ [x.size] := by rw [szsL_snoc, HSs.out, HX.out]
        have HNF := hide hnf
        have HNS := hide hns
        clear hus hv hnf hns
        go_upto_region 7 with (go_at_call 113; refine HUS.out.mono ?_; rintro e w1 ⟨rfl, hB1⟩; have R1 := hide (WorS.to R.out hB1); clear hB1 c0 c1 c2 c3 c4 c5 lc)
        have g6 := (R1.out.below.cell (p := ⟨bw, offw + k * 7 + 6, none⟩) hbw).trans e6
        have d5 := cellOf R1.out.box 5
        have l1 := box_lt R1.out.box
        have lbw : bw < w1.heap.size := Nat.lt_of_lt_of_le hbw R1.out.below.size
        go_upto_region 8 with (at_builtin; go_must (refine wpList_append_own_at _ rfl (.tmp 21) (.tmp 28) _ rfl (w0.heap.size) 66 i1 _ 1 24 Try.underlying23 hi1 jz0 jz1 jz2 rfl (by omega) _ _ _ rfl ((R1.out.f.own).alloc _) ⟨w1.heap.size, 0, none⟩ 1 1 [.slice Af x.form.length qf] rfl rfl (World.news_of_block (heap_alloc_new w1 _)) (by simp [Value.oneCell']) (by have h1 := hFl; unfold maxLen; omega) (by have h1 := hFl; omega) (by have h1 := R1.out.lt.2; simp; omega) ?_); intro v1 w3 hown1 hg1 _ hat1; obtain ⟨A2', cap2, hv2⟩ := owns_form hown1; subst hv2; have R2 := hide (R1.out.pushF HFO.out hown1 hg1); have z5 := (R2.out.below.cell (p := ⟨bw, offw + k * 7 + 5, none⟩) hbw).trans e5; have y5 := cellOf R2.out.box 5; have l2 := box_lt R2.out.box; have lbw2 : bw < w3.heap.size := Nat.lt_of_lt_of_le hbw R2.out.below.size; clear hown1 hg1 hat1 g6 d5 l1 lbw)
        obtain ⟨wm, hwm⟩ : ∃ wm : World, wm = w3 := ⟨_, rfl⟩
        subst hwm
        go_wp2_with (at_builtin; go_must (refine wpList_append_own_at _ rfl (.tmp 30) (.tmp 37) _ rfl (w0.heap.size) 3 i0 _ 1 8 Try.underlying41 hi0 iz0 iz1 iz2 rfl (by omega) _ _ _ rfl ((R2.out.s).alloc _) ⟨wm.heap.size, 0, none⟩ 1 1 [.int .i64 x.size] rfl rfl (World.news_of_block (heap_alloc_new wm _)) (by simp [Value.oneCell']) (by have h1 := hSl; unfold maxLen; omega) (by have h1 := hSl; omega) (by have h1 := R2.out.lt.2; simp; omega) ?_); intro v1 w3 hown1 hg1 _ hat1; obtain ⟨A3', cap3, hv3⟩ := owns_form hown1; subst hv3; have R3 := hide (R2.out.pushS hown1 hg1); clear hown1 hg1 hat1)
        go_roundw
        case rel => exact ⟨k + 1, A2', A3', cap2, cap3, T ++ [k], Fs ++ [x.form], Ss ++ [x.size], _, by go_num, by rw [List.length_append, List.length_singleton], by rw [List.length_append, List.length_singleton], by omega, by show _ = _; rw [filter_range_succ, HV.out, if_pos rfl, HT.out], HNF.out, HNS.out, by rw [List.length_append, List.length_singleton, List.length_append, List.length_singleton]; exact R3.out⟩
        case measure => simp [intOf]; omega
    · have hke : k = l.ws.length := by omega
      subst hke
      have hth : thruL l run = T := HT.out
      have hTm : ∀ i ∈ T, i < l.ws.length := fun i hi => thruL_mem (run := run) (by rw [hth]; exact hi)
      have hFs := HFs.out
      have hSs := HSs.out
      subst hFs
      subst hSs
      have hmo := rMost_any l.m (fmsL l T) (szsL l T) _ _ _ _ wr HS.out.m (fms_sized HS.out w60 hTm hTl) (H.out.up R.out.below).m (R.out.f.forms R.out.below) (Ints.of_own R.out.s) (by unfold szsL maxLen; simp; omega) (fun _ => hN)
      have hpost : MosP (worN l run) (worX l run) (worE l run) w = MosP (mosN l.m (fmsL l T) (szsL l T)) (mosX l.m (fmsL l T) (szsL l T)) (mosE l.m (fmsL l T) (szsL l T)) w := by unfold worN worX worE; rw [hth]
      have HPOST := hide hpost
      obtain ⟨a, ha⟩ : ∃ z, mosN l.m (fmsL l T) (szsL l T) = z := ⟨_, rfl⟩
      obtain ⟨b, hb⟩ : ∃ z, mosX l.m (fmsL l T) (szsL l T) = z := ⟨_, rfl⟩
      obtain ⟨c, hc⟩ : ∃ z, mosE l.m (fmsL l T) (szsL l T) = z := ⟨_, rfl⟩
      rw [ha, hb, hc] at hmo HPOST
      have HMO := hide hmo
      clear hmo ha hb hc hpost hth hTm
      go_wp2_with (go_at_call 139; refine HMO.out.mono ?_; rintro e w2 ⟨v2, rfl, hv2, hB2⟩; have HV2 := hide hv2; have HB2 := hide (Below.to R.out.below hB2 (Nat.le_refl _)); clear hv2 hB2 c0 c1 c2 c3 c4 c5 lc)
      go_ret3
      rw [HPOST.out]
      exact ⟨v2, rfl, HV2.out, HB2.out⟩
theorem havE_btw {l : Lo} {run : Int} : wrsE l run = if l.err ≠ 0 then l.err else if run < 0 ∨ (l.us.length : Int) ≤ run then 1 else 0 := by
  unfold wrsE havE
  split
  · rfl
  · by_cases h : run < 0 ∨ (l.us.length : Int) ≤ run
    · rw [if_pos h, btw_f (by omega)]; rfl
    · rw [if_neg h, btw_t (by omega) (by omega)]; rfl
set_option maxRecDepth 100000 in
set_option maxHeartbeats 2000000 in
theorem running_any (run : Int) (A0 A1 A2 A3 A4 A5 : Option Addr) (q0 q1 q2 q3 q4 q5 : Nat) (l : Lo) (w : World) (hs : SizedL l) (h : LoA w w.heap.size A0 A1 A2 A3 A4 A5 q0 q1 q2 q3 q4 q5 l) :
    Calls Try.prog 85 #[.agg #[.slice A0 l.m.opts.length q0, .slice A1 l.m.rules.length q1, .slice A2 l.ss.length q2, .slice A3 l.us.length q3, .slice A4 l.ps.length q4, .slice A5 l.ws.length q5], .int .i64 run] w fun e w' => e = .returned (.int .i64 (wrsE l run)) ∧ Below w.heap.size w w' := by
  have H := hide h
  have HW := hide (havE_btw (l := l) (run := run))
  obtain ⟨z, hz⟩ : ∃ z, l.err = z := ⟨_, rfl⟩
  rw [hz] at HW
  have HZ := hide hz
  clear h hz
  have hstart : True := trivial
  by_cases hz0 : z = 0
  · subst hz0
    have hE : wrsE l run = if run < 0 ∨ (l.us.length : Int) ≤ run then 1 else 0 := by rw [HW.out, if_neg (by simp)]
    by_cases h0 : run < 0
    · have HR : Hid (wrsE l run = 1) := by show _ = _; rw [hE, if_pos (.inl h0)]
      have d1 : decide (run < 0) = true := decide_eq_true h0
      clear hE
      go_enter Try.func85, Try.ntmps85
      go_upto_region 1 with (fail)
      generalize hw0 : World.alloc _ _ = w0
      obtain ⟨hb0, hB0, hs0⟩ := alloc1 hw0
      have HL0 : Hid (LoBox w0 w.heap.size A0 A1 A2 A3 A4 A5 q0 q1 q2 q3 q4 q5 l) := hb0
      have HB0 := hide hB0
      have c0 := cellOf hb0 0; have c1 := cellOf hb0 1; have c2 := cellOf hb0 2; have c3 := cellOf hb0 3; have c4 := cellOf hb0 4; have c5 := cellOf hb0 5
      have hlb := box_lt hb0
      clear hw0 hb0 hB0 hs0
      go_wp2_with (go_at_call 18; refine (rCheck_any A0 A1 A2 A3 A4 A5 q0 q1 q2 q3 q4 q5 l _ hs (H.out.up HB0.out)).mono ?_; rw [HZ.out]; rintro e w1 ⟨rfl, hB1⟩; have d0 := cellOf (HL0.out.to hB1) 0; have d1 := cellOf (HL0.out.to hB1) 1; have d2 := cellOf (HL0.out.to hB1) 2; have d3 := cellOf (HL0.out.to hB1) 3; have d4 := cellOf (HL0.out.to hB1) 4; have d5 := cellOf (HL0.out.to hB1) 5; have ld := box_lt (HL0.out.to hB1); have HB1 := hide (Below.to HB0.out hB1 (Nat.le_refl _)); clear hB1 c0 c1 c2 c3 c4 c5 hlb)
      go_ret
      exact ⟨ret_int HR.out.symm, HB1.out⟩
    · have d1 : decide (run < 0) = false := decide_eq_false h0
      by_cases h1 : (l.us.length : Int) ≤ run
      · have HR : Hid (wrsE l run = 1) := by show _ = _; rw [hE, if_pos (.inr h1)]
        clear hE
        go_enter Try.func85, Try.ntmps85
        go_upto_region 1 with (fail)
        generalize hw0 : World.alloc _ _ = w0
        obtain ⟨hb0, hB0, hs0⟩ := alloc1 hw0
        have HL0 : Hid (LoBox w0 w.heap.size A0 A1 A2 A3 A4 A5 q0 q1 q2 q3 q4 q5 l) := hb0
        have HB0 := hide hB0
        have c0 := cellOf hb0 0; have c1 := cellOf hb0 1; have c2 := cellOf hb0 2; have c3 := cellOf hb0 3; have c4 := cellOf hb0 4; have c5 := cellOf hb0 5
        have hlb := box_lt hb0
        clear hw0 hb0 hB0 hs0
        go_wp2_with (go_at_call 18; refine (rCheck_any A0 A1 A2 A3 A4 A5 q0 q1 q2 q3 q4 q5 l _ hs (H.out.up HB0.out)).mono ?_; rw [HZ.out]; rintro e w1 ⟨rfl, hB1⟩; have d0 := cellOf (HL0.out.to hB1) 0; have d1 := cellOf (HL0.out.to hB1) 1; have d2 := cellOf (HL0.out.to hB1) 2; have d3 := cellOf (HL0.out.to hB1) 3; have d4 := cellOf (HL0.out.to hB1) 4; have d5 := cellOf (HL0.out.to hB1) 5; have ld := box_lt (HL0.out.to hB1); have HB1 := hide (Below.to HB0.out hB1 (Nat.le_refl _)); clear hB1 c0 c1 c2 c3 c4 c5 hlb)
        go_ret
        exact ⟨ret_int HR.out.symm, HB1.out⟩
      · have HR : Hid (wrsE l run = 0) := by show _ = _; rw [hE, if_neg (by omega)]
        clear hE
        go_enter Try.func85, Try.ntmps85
        go_upto_region 1 with (fail)
        generalize hw0 : World.alloc _ _ = w0
        obtain ⟨hb0, hB0, hs0⟩ := alloc1 hw0
        have HL0 : Hid (LoBox w0 w.heap.size A0 A1 A2 A3 A4 A5 q0 q1 q2 q3 q4 q5 l) := hb0
        have HB0 := hide hB0
        have c0 := cellOf hb0 0; have c1 := cellOf hb0 1; have c2 := cellOf hb0 2; have c3 := cellOf hb0 3; have c4 := cellOf hb0 4; have c5 := cellOf hb0 5
        have hlb := box_lt hb0
        clear hw0 hb0 hB0 hs0
        go_wp2_with (go_at_call 18; refine (rCheck_any A0 A1 A2 A3 A4 A5 q0 q1 q2 q3 q4 q5 l _ hs (H.out.up HB0.out)).mono ?_; rw [HZ.out]; rintro e w1 ⟨rfl, hB1⟩; have d0 := cellOf (HL0.out.to hB1) 0; have d1 := cellOf (HL0.out.to hB1) 1; have d2 := cellOf (HL0.out.to hB1) 2; have d3 := cellOf (HL0.out.to hB1) 3; have d4 := cellOf (HL0.out.to hB1) 4; have d5 := cellOf (HL0.out.to hB1) 5; have ld := box_lt (HL0.out.to hB1); have HB1 := hide (Below.to HB0.out hB1 (Nat.le_refl _)); clear hB1 c0 c1 c2 c3 c4 c5 hlb)
        go_ret
        exact ⟨ret_int HR.out.symm, HB1.out⟩
  · have HR : Hid (wrsE l run = z) := by show _ = _; rw [HW.out, if_pos hz0]
    have hz1 : (z != 0) = true := by simpa using hz0
    clear hz0
    go_enter Try.func85, Try.ntmps85
    go_upto_region 1 with (fail)
    generalize hw0 : World.alloc _ _ = w0
    obtain ⟨hb0, hB0, hs0⟩ := alloc1 hw0
    have HB0 := hide hB0
    have c0 := cellOf hb0 0; have c1 := cellOf hb0 1; have c2 := cellOf hb0 2; have c3 := cellOf hb0 3; have c4 := cellOf hb0 4; have c5 := cellOf hb0 5
    have hlb := box_lt hb0
    clear hw0 hb0 hB0 hs0
    go_wp2_with (go_at_call 18; refine (rCheck_any A0 A1 A2 A3 A4 A5 q0 q1 q2 q3 q4 q5 l _ hs (H.out.up HB0.out)).mono ?_; rw [HZ.out]; rintro e w1 ⟨rfl, hB1⟩; have HB1 := hide (Below.to HB0.out hB1 (Nat.le_refl _)); clear hB1 c0 c1 c2 c3 c4 c5 hlb)
    go_ret
    exact ⟨ret_int HR.out.symm, HB1.out⟩
set_option maxRecDepth 100000 in
set_option maxHeartbeats 2000000 in
theorem rWorst_any (run : Int) (A0 A1 A2 A3 A4 A5 : Option Addr) (q0 q1 q2 q3 q4 q5 : Nat) (l : Lo) (w : World) (hs : SizedL l) (h : LoA w w.heap.size A0 A1 A2 A3 A4 A5 q0 q1 q2 q3 q4 q5 l) (hN : l.m.opts.length ≤ 12) :
    Calls Try.prog 21 #[.agg #[.slice A0 l.m.opts.length q0, .slice A1 l.m.rules.length q1, .slice A2 l.ss.length q2, .slice A3 l.us.length q3, .slice A4 l.ps.length q4, .slice A5 l.ws.length q5], .int .i64 run] w (MosP (if wrsE l run = 0 then worN l run.toNat else 0) (if wrsE l run = 0 then worX l run.toNat else []) (if wrsE l run = 0 then worE l run.toNat else wrsE l run) w) := by
  have H := hide h
  have HS := hide hs
  obtain ⟨z, hz⟩ : ∃ z, wrsE l run = z := ⟨_, rfl⟩
  have HZ := hide hz
  clear h hs
  by_cases hz0 : z = 0
  · subst hz0
    rw [hz]
    have hok := havE_ok hz
    obtain ⟨hok, hb⟩ := hok
    obtain ⟨b1, b2⟩ := btw_iff.1 hb
    obtain ⟨k, rfl⟩ := Int.eq_ofNat_of_zero_le b1
    have hk : k < l.us.length := by omega
    rw [if_pos rfl, if_pos rfl, if_pos rfl, Int.toNat_natCast]
    have OK := hide hok
    clear hz hok hb b1 b2
    go_enter Try.func21, Try.ntmps21
    go_upto_region 1 with (fail)
    generalize hw0 : World.alloc _ _ = w0
    obtain ⟨hb0, hB0, hs0⟩ := alloc1 hw0
    have c0 := cellOf hb0 0; have c1 := cellOf hb0 1; have c2 := cellOf hb0 2; have c3 := cellOf hb0 3; have c4 := cellOf hb0 4; have c5 := cellOf hb0 5
    have hlb := box_lt hb0
    have HB0 := hide hB0
    have HL0 : Hid (LoBox w0 w.heap.size A0 A1 A2 A3 A4 A5 q0 q1 q2 q3 q4 q5 l) := hb0
    clear hw0 hb0 hB0 hs0
    go_wp2_with (first | (go_at_call 85; refine (running_any k A0 A1 A2 A3 A4 A5 q0 q1 q2 q3 q4 q5 l _ HS.out (H.out.up HB0.out)).mono ?_; rw [HZ.out]; rintro e w1 ⟨rfl, hB1⟩; have e0 := cellOf (HL0.out.to hB1) 0; have e1 := cellOf (HL0.out.to hB1) 1; have e2 := cellOf (HL0.out.to hB1) 2; have e3 := cellOf (HL0.out.to hB1) 3; have e4 := cellOf (HL0.out.to hB1) 4; have e5 := cellOf (HL0.out.to hB1) 5; have lb1 := box_lt (HL0.out.to hB1); have HB1 := hide (Below.to HB0.out hB1 (Nat.le_refl _)); clear hB1 c0 c1 c2 c3 c4 c5 hlb) | (go_at_call 86; refine (rworst_any k A0 A1 A2 A3 A4 A5 q0 q1 q2 q3 q4 q5 l _ HS.out (H.out.up HB1.out) OK.out hk hN).mono ?_; rintro e w2 ⟨v2, rfl, hv2, hB2⟩; have HV2 := hide hv2; have HB2 := hide (Below.to HB1.out hB2 (Nat.le_refl _)); clear hB2 hv2))
    go_ret3
    exact ⟨v2, rfl, HV2.out, HB2.out⟩
  · rw [if_neg (by rw [hz]; exact hz0), if_neg (by rw [hz]; exact hz0), if_neg (by rw [hz]; exact hz0), hz]
    have hz1 : (z != 0) = true := by simpa using hz0
    clear hz hz0
    go_enter Try.func21, Try.ntmps21
    go_upto_region 1 with (fail)
    generalize hw0 : World.alloc _ _ = w0
    obtain ⟨hb0, hB0, hs0⟩ := alloc1 hw0
    have c0 := cellOf hb0 0; have c1 := cellOf hb0 1; have c2 := cellOf hb0 2; have c3 := cellOf hb0 3; have c4 := cellOf hb0 4; have c5 := cellOf hb0 5
    have hlb := box_lt hb0
    have HB0 := hide hB0
    clear hw0 hb0 hB0 hs0
    go_wp2_with (go_at_call 85; refine (running_any run A0 A1 A2 A3 A4 A5 q0 q1 q2 q3 q4 q5 l _ HS.out (H.out.up HB0.out)).mono ?_; rw [HZ.out]; rintro e w1 ⟨rfl, hB1⟩; have HB1 := hide (Below.to HB0.out hB1 (Nat.le_refl _)); clear hB1 c0 c1 c2 c3 c4 c5 hlb)
    go_ret3
    exact ⟨_, rfl, Sl.nil _ _ _ _, HB1.out⟩
end Go.Proofs.Ytmabfnddedffoaa
/- The runs that can be overfilled: walks. -/
namespace Go.Proofs.Ytmabfnddedffoaa
open Go.RowKit
set_option linter.unusedVariables false
set_option linter.unusedSimpArgs false
def tigB (l : Lo) (k : Nat) : Bool := decide (worE l k = 0) && decide ((l.us.getD k Ru.o).room < worN l k)
def tigL (l : Lo) : List Nat := if l.err = 0 then (List.range l.us.length).filter (tigB l) else []
/-- A list of numbers and an error. -/
def TigP (L : List Nat) (er : Int) (w : World) (e : Ending) (w' : World) : Prop := ∃ v, e = .returned (.tuple #[v, .int .i64 er]) ∧ Nods w' w'.heap.size v L ∧ Below w.heap.size w w'
set_option maxRecDepth 100000 in
set_option maxHeartbeats 4000000 in
theorem Tight_any (A0 A1 A2 A3 A4 A5 : Option Addr) (q0 q1 q2 q3 q4 q5 : Nat) (l : Lo) (w : World) (hs : SizedL l) (h : LoA w w.heap.size A0 A1 A2 A3 A4 A5 q0 q1 q2 q3 q4 q5 l) (hN : l.m.opts.length ≤ 12) :
    Calls Try.prog 22 #[.agg #[.slice A0 l.m.opts.length q0, .slice A1 l.m.rules.length q1, .slice A2 l.ss.length q2, .slice A3 l.us.length q3, .slice A4 l.ps.length q4, .slice A5 l.ws.length q5]] w (TigP (tigL l) l.err w) := by
  obtain ⟨i0, hi0, iz0, iz1, iz2⟩ := info_parts infoInt
  have H := hide h
  have HS := hide hs
  obtain ⟨z, hz⟩ : ∃ z, l.err = z := ⟨_, rfl⟩
  have HZ := hide hz
  clear h hs
  by_cases hz0 : z = 0
  case neg =>
    have hL : tigL l = [] := by unfold tigL; rw [if_neg (by rw [hz]; exact hz0)]
    rw [hz, hL]
    have hz1 : (z != 0) = true := by simpa using hz0
    clear hz hz0 hL
    go_enter Try.func22, Try.ntmps22
    go_upto_region 1 with (fail)
    generalize hw0 : World.alloc _ _ = w0
    obtain ⟨hb0, hB0, hs0⟩ := alloc1 hw0
    have HB0 := hide hB0
    have c0 := cellOf hb0 0; have c1 := cellOf hb0 1; have c2 := cellOf hb0 2; have c3 := cellOf hb0 3; have c4 := cellOf hb0 4; have c5 := cellOf hb0 5
    have hlb := box_lt hb0
    clear hw0 hb0 hB0 hs0
    go_wp2_with (go_at_call 17; refine (Check_any A0 A1 A2 A3 A4 A5 q0 q1 q2 q3 q4 q5 l _ HS.out (H.out.up HB0.out)).mono ?_; rw [HZ.out]; rintro e w1 ⟨rfl, hB1⟩; have HB1 := hide (Below.to HB0.out hB1 (Nat.le_refl _)); clear hB1 c0 c1 c2 c3 c4 c5 hlb)
    go_ret2
    exact ⟨_, rfl, Sl.nil _ _ _ _, HB1.out⟩
  case pos =>
  subst hz0
  have ok := Lo.err_ok hz
  have OK := hide ok
  have u40 := ok.u40
  have hL : tigL l = (List.range l.us.length).filter (tigB l) := by unfold tigL; rw [if_pos hz]
  rw [hz]
  have HL := hide hL
  clear hz ok hL
  go_enter Try.func22, Try.ntmps22
  go_upto_region 1 with (fail)
  generalize hw0 : World.alloc _ _ = w00
  obtain ⟨hb0, hB0, hs0⟩ := alloc1 hw0
  have HL00 : Hid (LoBox w00 w.heap.size A0 A1 A2 A3 A4 A5 q0 q1 q2 q3 q4 q5 l) := hb0
  have HB00 := hide hB0
  have c0 := cellOf hb0 0; have c1 := cellOf hb0 1; have c2 := cellOf hb0 2; have c3 := cellOf hb0 3; have c4 := cellOf hb0 4; have c5 := cellOf hb0 5
  have hlb := box_lt hb0
  clear hw0 hb0 hB0 hs0
  go_wp2_with (go_at_call 17; refine (Check_any A0 A1 A2 A3 A4 A5 q0 q1 q2 q3 q4 q5 l _ HS.out (H.out.up HB00.out)).mono ?_; rw [HZ.out]; rintro e w0 ⟨rfl, hB1⟩; have HL0 := hide (HL00.out.to hB1); have HB0 := hide (Below.to HB00.out hB1 (Nat.le_refl _)); have d0 := cellOf (HL00.out.to hB1) 0; have d1 := cellOf (HL00.out.to hB1) 1; have d2 := cellOf (HL00.out.to hB1) 2; have d3 := cellOf (HL00.out.to hB1) 3; have d4 := cellOf (HL00.out.to hB1) 4; have d5 := cellOf (HL00.out.to hB1) 5; have ld := box_lt (HL00.out.to hB1); clear hB1 c0 c1 c2 c3 c4 c5 hlb)
  clear d0 d1 d2 d3 d4 d5 ld
  go_loopw [5, 6, 7, 8, 9, 10, 19] (fun o _ _ _ _ _ i wr => ∃ (k : Nat) (A : Option Addr) (cap : Nat) (T : List Nat), i = .int .i64 k ∧ o = .slice A T.length cap ∧ k ≤ l.us.length ∧ Hid ((List.range k).filter (tigB l) = T) ∧ Hid (Below w0.heap.size w0 wr) ∧ Hid (ReaS w wr w0.heap.size w.heap.size A0 A1 A2 A3 A4 A5 q0 q1 q2 q3 q4 q5 l (.slice A T.length cap) T)) (fun _ _ _ _ _ _ i _ => l.us.length - (intOf i).toNat)
  case atStart => exact ⟨0, _, _, [], rfl, rfl, Nat.zero_le _, rfl, Below.refl _ _, ReaS.mk' HB0.out HL0.out (World.ownsRow_nil _ _ _ _) ⟨HB0.out.size, Nat.le_refl _⟩⟩
  case round =>
    obtain ⟨k, A, cap, T, rfl, rfl, hk, HT, HBr, R⟩ := hrel
    have c0 := cellOf R.out.box 0; have c1 := cellOf R.out.box 1; have c2 := cellOf R.out.box 2; have c3 := cellOf R.out.box 3; have c4 := cellOf R.out.box 4; have c5 := cellOf R.out.box 5
    have lc := box_lt R.out.box
    have hTl : T.length ≤ 60 := by rw [← HT.out]; exact Nat.le_trans (filter_range_len _ _) (by omega)
    by_cases hkl : k < l.us.length
    · obtain ⟨bu, offu, r, HRU, rfl, hbu, hq3, e0, e1, e2, e3⟩ := (H.out.below R.out.below).ru hkl
      obtain ⟨ra, rb, rl, rr⟩ := r
      simp only at e0 e1 e2 e3
      have lbu : bu < wr.heap.size := Nat.lt_of_lt_of_le hbu R.out.below.size
      have ik0 : (0 : Int) ≤ (k : Int) := by omega
      have ij : (k : Int) < (l.us.length : Int) := by omega
      have iq : (l.us.length : Int) ≤ (q3 : Int) := by omega
      go_upto_region 8 with (fail)
      generalize hw1 : World.alloc _ _ = w1
      obtain ⟨hb1, hB1, hs1⟩ := alloc1 hw1
      have R1 := hide (R.out.to hB1)
      have HB1 := hide (Below.to HBr.out hB1 (Nat.le_refl _))
      have HP1 := hide hb1
      have d0 := cellOf (R.out.to hB1).box 0; have d1 := cellOf (R.out.to hB1).box 1; have d2 := cellOf (R.out.to hB1).box 2; have d3 := cellOf (R.out.to hB1).box 3; have d4 := cellOf (R.out.to hB1).box 4; have d5 := cellOf (R.out.to hB1).box 5
      have ld := box_lt (R.out.to hB1).box
      clear hw1 hb1 hB1 hs1 c0 c1 c2 c3 c4 c5 lc e0 e1 e2 e3
      have hwo := worst_any k A0 A1 A2 _ A4 A5 q0 q1 q2 q3 q4 q5 l _ HS.out (H.out.up R1.out.below) OK.out hkl hN
      obtain ⟨n, hn⟩ : ∃ n, worN l k = n := ⟨_, rfl⟩
      obtain ⟨er, her⟩ : ∃ n, worE l k = n := ⟨_, rfl⟩
      rw [hn, her] at hwo
      have HWO := hide hwo
      have HN := hide hn
      have HE2 := hide her
      clear hwo hn her
      by_cases he0 : er = 0
      case neg =>
        have g1 : (er == 0) = false := by simpa using he0
        have HY : Hid (tigB l k = false) := by show _ = _; unfold tigB; rw [HN.out, HE2.out, HRU.out]; rw [decide_eq_false he0]; rfl
        go_wp2_with (go_at_call 84; refine HWO.out.mono ?_; rintro e w2 ⟨v2, rfl, hv2, hB2⟩; have R2 := hide (R1.out.to hB2); have HB2 := hide (Below.to HB1.out hB2 (Nat.le_refl _)); have z3 := cellOf (box_to HP1.out hB2) 3; have lz := box_lt (box_to HP1.out hB2); clear hB2 hv2 d0 d1 d2 d3 d4 d5 ld)
        go_roundw
        case rel => exact ⟨k + 1, _, _, T, by go_num, rfl, by omega, by show _ = _; rw [filter_range_succ, HY.out, if_neg (by simp), HT.out], HB2.out, R2.out⟩
        case measure => simp [intOf]; omega
      case pos =>
        subst he0
        by_cases hlt : rr < n
        · have g1 : ((0 : Int) == 0) = true := rfl
          have HY : Hid (tigB l k = true) := by show _ = _; unfold tigB; rw [HN.out, HE2.out, HRU.out]; rw [decide_eq_true hlt]; rfl
          go_wp2_with (first | (go_at_call 84; refine HWO.out.mono ?_; rintro e w2 ⟨v2, rfl, hv2, hB2⟩; have R2 := hide (R1.out.to hB2); have HB2 := hide (Below.to HB1.out hB2 (Nat.le_refl _)); have z3 := cellOf (box_to HP1.out hB2) 3; have lz := box_lt (box_to HP1.out hB2); clear hB2 hv2 d0 d1 d2 d3 d4 d5 ld) | (at_builtin; go_must (refine wpList_append_own_at _ rfl (.tmp 39) (.tmp 41) _ rfl (w0.heap.size) 3 i0 _ 1 8 Try.underlying41 hi0 iz0 iz1 iz2 rfl (by omega) _ _ _ rfl ((R2.out.own).alloc _) ⟨w2.heap.size, 0, none⟩ 1 1 [.int .i64 (k : Nat)] rfl rfl (World.news_of_block (heap_alloc_new w2 _)) (by simp [Value.oneCell']) (by have h1 := hTl; unfold maxLen; omega) (by have h1 := hTl; omega) (by have h1 := R2.out.lt.2; simp; omega) ?_); intro v1 w3 hown1 hg1 _ hat1; obtain ⟨A6', cap6, hv6⟩ := owns_form hown1; subst hv6; have R5 := hide (R2.out.push hown1 hg1); have HB3 := hide (own_low HB2.out R2.out.own (Nat.le_refl _) hg1); clear hown1 hg1 hat1))
          go_roundw
          case rel => exact ⟨k + 1, A6', cap6, T ++ [k], by go_num, by rw [List.length_append, List.length_singleton], by omega, by show _ = _; rw [filter_range_succ, HY.out, if_pos rfl, HT.out], HB3.out, by rw [List.length_append, List.length_singleton]; exact R5.out⟩
          case measure => simp [intOf]; omega
        · have g1 : ((0 : Int) == 0) = true := rfl
          have HY : Hid (tigB l k = false) := by show _ = _; unfold tigB; rw [HN.out, HE2.out, HRU.out]; rw [decide_eq_false hlt]; rfl
          go_wp2_with (go_at_call 84; refine HWO.out.mono ?_; rintro e w2 ⟨v2, rfl, hv2, hB2⟩; have R2 := hide (R1.out.to hB2); have HB2 := hide (Below.to HB1.out hB2 (Nat.le_refl _)); have z3 := cellOf (box_to HP1.out hB2) 3; have lz := box_lt (box_to HP1.out hB2); clear hB2 hv2 d0 d1 d2 d3 d4 d5 ld)
          go_roundw
          case rel => exact ⟨k + 1, _, _, T, by go_num, rfl, by omega, by show _ = _; rw [filter_range_succ, HY.out, if_neg (by simp), HT.out], HB2.out, R2.out⟩
          case measure => simp [intOf]; omega
    · have hke : k = l.us.length := by omega
      subst hke
      go_wp2_with fail
      go_ret2
      exact ⟨_, rfl, by rw [HL.out, HT.out]; exact R.out.nd, R.out.below⟩
set_option maxRecDepth 100000 in
set_option maxHeartbeats 4000000 in
theorem rTight_any (A0 A1 A2 A3 A4 A5 : Option Addr) (q0 q1 q2 q3 q4 q5 : Nat) (l : Lo) (w : World) (hs : SizedL l) (h : LoA w w.heap.size A0 A1 A2 A3 A4 A5 q0 q1 q2 q3 q4 q5 l) (hN : l.m.opts.length ≤ 12) :
    Calls Try.prog 23 #[.agg #[.slice A0 l.m.opts.length q0, .slice A1 l.m.rules.length q1, .slice A2 l.ss.length q2, .slice A3 l.us.length q3, .slice A4 l.ps.length q4, .slice A5 l.ws.length q5]] w (TigP (tigL l) l.err w) := by
  obtain ⟨i0, hi0, iz0, iz1, iz2⟩ := info_parts infoInt
  have H := hide h
  have HS := hide hs
  obtain ⟨z, hz⟩ : ∃ z, l.err = z := ⟨_, rfl⟩
  have HZ := hide hz
  clear h hs
  by_cases hz0 : z = 0
  case neg =>
    have hL : tigL l = [] := by unfold tigL; rw [if_neg (by rw [hz]; exact hz0)]
    rw [hz, hL]
    have hz1 : (z != 0) = true := by simpa using hz0
    clear hz hz0 hL
    go_enter Try.func23, Try.ntmps23
    go_upto_region 1 with (fail)
    generalize hw0 : World.alloc _ _ = w0
    obtain ⟨hb0, hB0, hs0⟩ := alloc1 hw0
    have HB0 := hide hB0
    have c0 := cellOf hb0 0; have c1 := cellOf hb0 1; have c2 := cellOf hb0 2; have c3 := cellOf hb0 3; have c4 := cellOf hb0 4; have c5 := cellOf hb0 5
    have hlb := box_lt hb0
    clear hw0 hb0 hB0 hs0
    go_wp2_with (go_at_call 18; refine (rCheck_any A0 A1 A2 A3 A4 A5 q0 q1 q2 q3 q4 q5 l _ HS.out (H.out.up HB0.out)).mono ?_; rw [HZ.out]; rintro e w1 ⟨rfl, hB1⟩; have HB1 := hide (Below.to HB0.out hB1 (Nat.le_refl _)); clear hB1 c0 c1 c2 c3 c4 c5 hlb)
    go_ret2
    exact ⟨_, rfl, Sl.nil _ _ _ _, HB1.out⟩
  case pos =>
  subst hz0
  have ok := Lo.err_ok hz
  have OK := hide ok
  have u40 := ok.u40
  have hL : tigL l = (List.range l.us.length).filter (tigB l) := by unfold tigL; rw [if_pos hz]
  rw [hz]
  have HL := hide hL
  clear hz ok hL
  go_enter Try.func23, Try.ntmps23
  go_upto_region 1 with (fail)
  generalize hw0 : World.alloc _ _ = w00
  obtain ⟨hb0, hB0, hs0⟩ := alloc1 hw0
  have HL00 : Hid (LoBox w00 w.heap.size A0 A1 A2 A3 A4 A5 q0 q1 q2 q3 q4 q5 l) := hb0
  have HB00 := hide hB0
  have c0 := cellOf hb0 0; have c1 := cellOf hb0 1; have c2 := cellOf hb0 2; have c3 := cellOf hb0 3; have c4 := cellOf hb0 4; have c5 := cellOf hb0 5
  have hlb := box_lt hb0
  clear hw0 hb0 hB0 hs0
  go_wp2_with (go_at_call 18; refine (rCheck_any A0 A1 A2 A3 A4 A5 q0 q1 q2 q3 q4 q5 l _ HS.out (H.out.up HB00.out)).mono ?_; rw [HZ.out]; rintro e w0 ⟨rfl, hB1⟩; have HL0 := hide (HL00.out.to hB1); have HB0 := hide (Below.to HB00.out hB1 (Nat.le_refl _)); have d0 := cellOf (HL00.out.to hB1) 0; have d1 := cellOf (HL00.out.to hB1) 1; have d2 := cellOf (HL00.out.to hB1) 2; have d3 := cellOf (HL00.out.to hB1) 3; have d4 := cellOf (HL00.out.to hB1) 4; have d5 := cellOf (HL00.out.to hB1) 5; have ld := box_lt (HL00.out.to hB1); clear hB1 c0 c1 c2 c3 c4 c5 hlb)
  clear d0 d1 d2 d3 d4 d5 ld
  go_loopw [5, 6, 7, 8, 9] (fun o i _ _ _ wr => ∃ (k : Nat) (A : Option Addr) (cap : Nat) (T : List Nat), i = .int .i64 k ∧ o = .slice A T.length cap ∧ k ≤ l.us.length ∧ Hid ((List.range k).filter (tigB l) = T) ∧ Hid (Below w0.heap.size w0 wr) ∧ Hid (ReaS w wr w0.heap.size w.heap.size A0 A1 A2 A3 A4 A5 q0 q1 q2 q3 q4 q5 l (.slice A T.length cap) T)) (fun _ i _ _ _ _ => l.us.length - (intOf i).toNat)
  case atStart => exact ⟨0, _, _, [], rfl, rfl, Nat.zero_le _, rfl, Below.refl _ _, ReaS.mk' HB0.out HL0.out (World.ownsRow_nil _ _ _ _) ⟨HB0.out.size, Nat.le_refl _⟩⟩
  case round =>
    obtain ⟨k, A, cap, T, rfl, rfl, hk, HT, HBr, R⟩ := hrel
    have c0 := cellOf R.out.box 0; have c1 := cellOf R.out.box 1; have c2 := cellOf R.out.box 2; have c3 := cellOf R.out.box 3; have c4 := cellOf R.out.box 4; have c5 := cellOf R.out.box 5
    have lc := box_lt R.out.box
    have hTl : T.length ≤ 60 := by rw [← HT.out]; exact Nat.le_trans (filter_range_len _ _) (by omega)
    by_cases hkl : k < l.us.length
    · obtain ⟨bu, offu, r, HRU, rfl, hbu, hq3, e0, e1, e2, e3⟩ := (H.out.below R.out.below).ru hkl
      obtain ⟨ra, rb, rl, rr⟩ := r
      simp only at e0 e1 e2 e3
      have lbu : bu < wr.heap.size := Nat.lt_of_lt_of_le hbu R.out.below.size
      have ik0 : (0 : Int) ≤ (k : Int) := by omega
      have ij : (k : Int) < (l.us.length : Int) := by omega
      have iq : (l.us.length : Int) ≤ (q3 : Int) := by omega
      have R1 := hide R.out
      have HB1 := hide HBr.out
      have hwo := rworst_any k A0 A1 A2 _ A4 A5 q0 q1 q2 q3 q4 q5 l _ HS.out (H.out.up R1.out.below) OK.out hkl hN
      obtain ⟨n, hn⟩ : ∃ n, worN l k = n := ⟨_, rfl⟩
      obtain ⟨er, her⟩ : ∃ n, worE l k = n := ⟨_, rfl⟩
      rw [hn, her] at hwo
      have HWO := hide hwo
      have HN := hide hn
      have HE2 := hide her
      clear hwo hn her
      by_cases he0 : er = 0
      case neg =>
        have g1 : (er == 0) = false := by simpa using he0
        have HY : Hid (tigB l k = false) := by show _ = _; unfold tigB; rw [HN.out, HE2.out, HRU.out]; rw [decide_eq_false he0]; rfl
        go_wp2_with (go_at_call 86; refine HWO.out.mono ?_; rintro e w2 ⟨v2, rfl, hv2, hB2⟩; have R2 := hide (R1.out.to hB2); have HB2 := hide (Below.to HB1.out hB2 (Nat.le_refl _)); have d0 := cellOf (R1.out.to hB2).box 0; have d1 := cellOf (R1.out.to hB2).box 1; have d2 := cellOf (R1.out.to hB2).box 2; have d3 := cellOf (R1.out.to hB2).box 3; have d4 := cellOf (R1.out.to hB2).box 4; have d5 := cellOf (R1.out.to hB2).box 5; have ld := box_lt (R1.out.to hB2).box; have z3 := (hB2.cell (p := ⟨bu, offu + k * 4 + 3, none⟩) lbu).trans e3; have lbu2 : bu < w2.heap.size := Nat.lt_of_lt_of_le lbu hB2.size; clear hB2 hv2 c0 c1 c2 c3 c4 c5 lc e0 e1 e2 e3)
        go_roundw
        case rel => exact ⟨k + 1, _, _, T, by go_num, rfl, by omega, by show _ = _; rw [filter_range_succ, HY.out, if_neg (by simp), HT.out], HB2.out, R2.out⟩
        case measure => simp [intOf]; omega
      case pos =>
        subst he0
        by_cases hlt : rr < n
        · have g1 : ((0 : Int) == 0) = true := rfl
          have HY : Hid (tigB l k = true) := by show _ = _; unfold tigB; rw [HN.out, HE2.out, HRU.out]; rw [decide_eq_true hlt]; rfl
          go_wp2_with (first | (go_at_call 86; refine HWO.out.mono ?_; rintro e w2 ⟨v2, rfl, hv2, hB2⟩; have R2 := hide (R1.out.to hB2); have HB2 := hide (Below.to HB1.out hB2 (Nat.le_refl _)); have d0 := cellOf (R1.out.to hB2).box 0; have d1 := cellOf (R1.out.to hB2).box 1; have d2 := cellOf (R1.out.to hB2).box 2; have d3 := cellOf (R1.out.to hB2).box 3; have d4 := cellOf (R1.out.to hB2).box 4; have d5 := cellOf (R1.out.to hB2).box 5; have ld := box_lt (R1.out.to hB2).box; have z3 := (hB2.cell (p := ⟨bu, offu + k * 4 + 3, none⟩) lbu).trans e3; have lbu2 : bu < w2.heap.size := Nat.lt_of_lt_of_le lbu hB2.size; clear hB2 hv2 c0 c1 c2 c3 c4 c5 lc e0 e1 e2 e3) | (at_builtin; go_must (refine wpList_append_own_at _ rfl (.tmp 41) (.tmp 43) _ rfl (w0.heap.size) 3 i0 _ 1 8 Try.underlying41 hi0 iz0 iz1 iz2 rfl (by omega) _ _ _ rfl ((R2.out.own).alloc _) ⟨w2.heap.size, 0, none⟩ 1 1 [.int .i64 (k : Nat)] rfl rfl (World.news_of_block (heap_alloc_new w2 _)) (by simp [Value.oneCell']) (by have h1 := hTl; unfold maxLen; omega) (by have h1 := hTl; omega) (by have h1 := R2.out.lt.2; simp; omega) ?_); intro v1 w3 hown1 hg1 _ hat1; obtain ⟨A6', cap6, hv6⟩ := owns_form hown1; subst hv6; have R5 := hide (R2.out.push hown1 hg1); have HB3 := hide (own_low HB2.out R2.out.own (Nat.le_refl _) hg1); clear hown1 hg1 hat1))
          go_roundw
          case rel => exact ⟨k + 1, A6', cap6, T ++ [k], by go_num, by rw [List.length_append, List.length_singleton], by omega, by show _ = _; rw [filter_range_succ, HY.out, if_pos rfl, HT.out], HB3.out, by rw [List.length_append, List.length_singleton]; exact R5.out⟩
          case measure => simp [intOf]; omega
        · have g1 : ((0 : Int) == 0) = true := rfl
          have HY : Hid (tigB l k = false) := by show _ = _; unfold tigB; rw [HN.out, HE2.out, HRU.out]; rw [decide_eq_false hlt]; rfl
          go_wp2_with (go_at_call 86; refine HWO.out.mono ?_; rintro e w2 ⟨v2, rfl, hv2, hB2⟩; have R2 := hide (R1.out.to hB2); have HB2 := hide (Below.to HB1.out hB2 (Nat.le_refl _)); have d0 := cellOf (R1.out.to hB2).box 0; have d1 := cellOf (R1.out.to hB2).box 1; have d2 := cellOf (R1.out.to hB2).box 2; have d3 := cellOf (R1.out.to hB2).box 3; have d4 := cellOf (R1.out.to hB2).box 4; have d5 := cellOf (R1.out.to hB2).box 5; have ld := box_lt (R1.out.to hB2).box; have z3 := (hB2.cell (p := ⟨bu, offu + k * 4 + 3, none⟩) lbu).trans e3; have lbu2 : bu < w2.heap.size := Nat.lt_of_lt_of_le lbu hB2.size; clear hB2 hv2 c0 c1 c2 c3 c4 c5 lc e0 e1 e2 e3)
          go_roundw
          case rel => exact ⟨k + 1, _, _, T, by go_num, rfl, by omega, by show _ = _; rw [filter_range_succ, HY.out, if_neg (by simp), HT.out], HB2.out, R2.out⟩
          case measure => simp [intOf]; omega
    · have hke : k = l.us.length := by omega
      subst hke
      go_wp2_with fail
      go_ret2
      exact ⟨_, rfl, by rw [HL.out, HT.out]; exact R.out.nd, R.out.below⟩
end Go.Proofs.Ytmabfnddedffoaa
/- Equal lists are told equal: walks. -/
namespace Go.Proofs.Ytmabfnddedffoaa
open Go.RowKit
set_option linter.unusedVariables false
set_option linter.unusedSimpArgs false
set_option maxRecDepth 100000 in
set_option maxHeartbeats 2000000 in
theorem sameInts6_any (f : List Nat) (u v : Value) (w : World) (hl : f.length ≤ maxLen) (h : Nods w w.heap.size u f) (h2 : Nods w w.heap.size v f) :
    Calls Try.prog 25 #[u, v] w fun e w' => e = .returned (.bool true) ∧ Below w.heap.size w w' := by
  obtain ⟨A, q, rfl⟩ := Sl.form h
  obtain ⟨C, r, rfl⟩ := Sl.form h2
  unfold maxLen at hl
  have H := hide h
  have H2 := hide h2
  clear h h2
  go_enter Try.func25, Try.ntmps25
  go_wp2_with fail
  go_loopw [5] (fun i wr => ∃ k : Nat, k ≤ f.length ∧ i = .int .i64 k ∧ Hid (Below w.heap.size w wr)) (fun i _ => f.length - (intOf i).toNat)
  case atStart => exact ⟨0, Nat.zero_le _, rfl, Below.refl _ _⟩
  case round =>
    obtain ⟨k, hk, rfl, hB⟩ := hrel
    by_cases hlt : k < f.length
    · obtain ⟨_, hq, b, off, rfl, hb, g0⟩ := sl_at (Sl.below H.out hB.out) hlt
      obtain ⟨_, hq2, b2, off2, rfl, hb2, g1⟩ := sl_at (Sl.below H2.out hB.out) hlt
      have c0 := g0 0 (by omega)
      have d0 := g1 0 (by omega)
      rw [Nat.mul_one, Nat.add_zero] at c0 d0
      have l0 : b < wr.heap.size := Nat.lt_of_lt_of_le hb hB.out.size
      have l1 : b2 < wr.heap.size := Nat.lt_of_lt_of_le hb2 hB.out.size
      have ik0 : (0 : Int) ≤ (k : Int) := by omega
      have ik : (k : Int) < (f.length : Int) := by omega
      have iq : (f.length : Int) ≤ (q : Int) := by omega
      have iq2 : (f.length : Int) ≤ (r : Int) := by omega
      obtain ⟨x, hx⟩ : ∃ x, f.getD k 0 = x := ⟨_, rfl⟩
      rw [hx] at c0 d0
      have n1 : ((x : Int) != (x : Int)) = false := by simp
      clear hx g0 g1
      go_wp2_with fail
      refine wp_region_held_drew (S := (fun w' => Below wr.heap.size wr w')) (by kernel_rfl) ?_ (fun hHeld => ?_)
      · try dsimp only
        exact (by repeat (first | exact Below.refl _ _ | assumption | refine Below.drew ?_ | refine Below.drewN ?_ _ | refine Below.allocT ?_ (Nat.le_refl _) _ | refine Below.setCell ?_ (by simp <;> omega) _ | refine Below.to ?_ (by assumption) (Nat.le_refl _)))
      refine wpAnyH_take (i := 0) (v := ?v1_0) rfl (by kernel_rfl) (by kernel_rfl) (by kernel_rfl) (fun _ _ _ h => h) (Or.inl ⟨by rfl, ?y1_0⟩) (by assumption) ?r1_0
      case' y1_0 => (intro w hSw; (try dsimp only at hSw); (try have hlS := HLK.out _ hSw); obtain ⟨hcS, hfS⟩ := bcell hSw; clear hSw; go_simp; try with_reducible rfl)
      try simp only [Act.put, zA, zB, zC, zD, zE, zF]
      refine wpAnyH_take (i := 1) (v := ?v1_1) rfl (by kernel_rfl) (by kernel_rfl) (by kernel_rfl) (fun _ _ _ h => h) (Or.inl ⟨by rfl, ?y1_1⟩) (by assumption) ?r1_1
      case' y1_1 => (intro w hSw; (try dsimp only at hSw); (try have hlS := HLK.out _ hSw); obtain ⟨hcS, hfS⟩ := bcell hSw; clear hSw; go_simp; try with_reducible rfl)
      try simp only [Act.put, zA, zB, zC, zD, zE, zF]
      refine wpAnyH_take (i := 2) (v := ?v1_2) rfl (by kernel_rfl) (by kernel_rfl) (by kernel_rfl) (fun _ _ _ h => h) (Or.inl ⟨by rfl, ?y1_2⟩) (by assumption) ?r1_2
      case' y1_2 => (intro w hSw; (try dsimp only at hSw); (try have hlS := HLK.out _ hSw); obtain ⟨hcS, hfS⟩ := bcell hSw; clear hSw; go_simp; try with_reducible rfl)
      try simp only [Act.put, zA, zB, zC, zD, zE, zF]
      refine wpAnyH_take (i := 3) (v := ?v1_3) rfl (by kernel_rfl) (by kernel_rfl) (by kernel_rfl) (fun _ _ _ h => h) (Or.inl ⟨by rfl, ?y1_3⟩) (by assumption) ?r1_3
      case' y1_3 => (intro w hSw; (try dsimp only at hSw); (try have hlS := HLK.out _ hSw); obtain ⟨hcS, hfS⟩ := bcell hSw; clear hSw; go_simp; try with_reducible rfl)
      try simp only [Act.put, zA, zB, zC, zD, zE, zF]
      refine wpAnyH_take (i := 4) (v := ?v1_4) rfl (by kernel_rfl) (by kernel_rfl) (by kernel_rfl) (fun _ _ _ h => h) (Or.inl ⟨by rfl, ?y1_4⟩) (by assumption) ?r1_4
      case' y1_4 => (intro w hSw; (try dsimp only at hSw); (try have hlS := HLK.out _ hSw); obtain ⟨hcS, hfS⟩ := bcell hSw; clear hSw; go_simp; try with_reducible rfl)
      try simp only [Act.put, zA, zB, zC, zD, zE, zF]
      refine wpAnyH_take (i := 5) (v := ?v1_5) rfl (by kernel_rfl) (by kernel_rfl) (by kernel_rfl) (fun _ _ _ h => h) (Or.inl ⟨by rfl, ?y1_5⟩) (by assumption) ?r1_5
      case' y1_5 => (intro w hSw; (try dsimp only at hSw); (try have hlS := HLK.out _ hSw); obtain ⟨hcS, hfS⟩ := bcell hSw; clear hSw; go_simp; try with_reducible rfl)
      try simp only [Act.put, zA, zB, zC, zD, zE, zF]
      refine wpAnyH_take (i := 6) (v := ?v1_6) rfl (by kernel_rfl) (by kernel_rfl) (by kernel_rfl) (fun _ _ _ h => h) (Or.inl ⟨by rfl, ?y1_6⟩) (by assumption) ?r1_6
      case' y1_6 => (intro w hSw; (try dsimp only at hSw); (try have hlS := HLK.out _ hSw); obtain ⟨hcS, hfS⟩ := bcell hSw; clear hSw; go_simp; try with_reducible rfl)
      try simp only [Act.put, zA, zB, zC, zD, zE, zF]
      refine wpAnyH_take (i := 7) (v := ?v1_7) rfl (by kernel_rfl) (by kernel_rfl) (by kernel_rfl) (fun _ _ _ h => h) (Or.inl ⟨by rfl, ?y1_7⟩) (by assumption) ?r1_7
      case' y1_7 => (intro w hSw; (try dsimp only at hSw); (try have hlS := HLK.out _ hSw); obtain ⟨hcS, hfS⟩ := bcell hSw; clear hSw; go_simp; try with_reducible rfl)
      try simp only [Act.put, zA, zB, zC, zD, zE, zF]
      refine wpAnyH_take (i := 8) (v := ?v1_8) rfl (by kernel_rfl) (by kernel_rfl) (by kernel_rfl) (fun _ _ _ h => h) (Or.inl ⟨by rfl, ?y1_8⟩) (by assumption) ?r1_8
      case' y1_8 => (intro w hSw; (try dsimp only at hSw); (try have hlS := HLK.out _ hSw); obtain ⟨hcS, hfS⟩ := bcell hSw; clear hSw; go_simp; try with_reducible rfl)
      try simp only [Act.put, zA, zB, zC, zD, zE, zF]
      refine wpAnyH_done (by kernel_rfl) ?_ _
      go_wp2_with fail
      go_roundw
      case rel => exact ⟨k + 1, by omega, by go_num, Below.to hB.out hHeld (Nat.le_refl _)⟩
      case measure => simp [intOf]; omega
    · go_wp2_with fail
      go_ret
      exact ⟨rfl, hB.out⟩
set_option maxRecDepth 100000 in
set_option maxHeartbeats 2000000 in
theorem sameBools6_any (f : List Bool) (u v : Value) (w : World) (hl : f.length ≤ maxLen) (h : Bols w w.heap.size u f) (h2 : Bols w w.heap.size v f) :
    Calls Try.prog 24 #[u, v] w fun e w' => e = .returned (.bool true) ∧ Below w.heap.size w w' := by
  obtain ⟨A, q, rfl⟩ := Sl.form h
  obtain ⟨C, r, rfl⟩ := Sl.form h2
  unfold maxLen at hl
  have H := hide h
  have H2 := hide h2
  clear h h2
  go_enter Try.func24, Try.ntmps24
  go_wp2_with fail
  go_loopw [5] (fun i wr => ∃ k : Nat, k ≤ f.length ∧ i = .int .i64 k ∧ Hid (Below w.heap.size w wr)) (fun i _ => f.length - (intOf i).toNat)
  case atStart => exact ⟨0, Nat.zero_le _, rfl, Below.refl _ _⟩
  case round =>
    obtain ⟨k, hk, rfl, hB⟩ := hrel
    by_cases hlt : k < f.length
    · obtain ⟨_, hq, b, off, rfl, hb, g0⟩ := sl_at (Sl.below H.out hB.out) hlt
      obtain ⟨_, hq2, b2, off2, rfl, hb2, g1⟩ := sl_at (Sl.below H2.out hB.out) hlt
      have c0 := g0 0 (by omega)
      have d0 := g1 0 (by omega)
      rw [Nat.mul_one, Nat.add_zero] at c0 d0
      have l0 : b < wr.heap.size := Nat.lt_of_lt_of_le hb hB.out.size
      have l1 : b2 < wr.heap.size := Nat.lt_of_lt_of_le hb2 hB.out.size
      have ik0 : (0 : Int) ≤ (k : Int) := by omega
      have ik : (k : Int) < (f.length : Int) := by omega
      have iq : (f.length : Int) ≤ (q : Int) := by omega
      have iq2 : (f.length : Int) ≤ (r : Int) := by omega
      obtain ⟨x, hx⟩ : ∃ x, f.getD k false = x := ⟨_, rfl⟩
      rw [hx] at c0 d0
      have n1 : (x != x) = false := by simp
      have n2 : (!(x == x)) = false := by simp
      clear hx g0 g1
      go_wp2_with fail
      refine wp_region_held_drew (S := (fun w' => Below wr.heap.size wr w')) (by kernel_rfl) ?_ (fun hHeld => ?_)
      · try dsimp only
        exact (by repeat (first | exact Below.refl _ _ | assumption | refine Below.drew ?_ | refine Below.drewN ?_ _ | refine Below.allocT ?_ (Nat.le_refl _) _ | refine Below.setCell ?_ (by simp <;> omega) _ | refine Below.to ?_ (by assumption) (Nat.le_refl _)))
      refine wpAnyH_take (i := 0) (v := ?v2_0) rfl (by kernel_rfl) (by kernel_rfl) (by kernel_rfl) (fun _ _ _ h => h) (Or.inl ⟨by rfl, ?y2_0⟩) (by assumption) ?r2_0
      case' y2_0 => (intro w hSw; (try dsimp only at hSw); (try have hlS := HLK.out _ hSw); obtain ⟨hcS, hfS⟩ := bcell hSw; clear hSw; go_simp; try with_reducible rfl)
      try simp only [Act.put, zA, zB, zC, zD, zE, zF]
      refine wpAnyH_take (i := 1) (v := ?v2_1) rfl (by kernel_rfl) (by kernel_rfl) (by kernel_rfl) (fun _ _ _ h => h) (Or.inl ⟨by rfl, ?y2_1⟩) (by assumption) ?r2_1
      case' y2_1 => (intro w hSw; (try dsimp only at hSw); (try have hlS := HLK.out _ hSw); obtain ⟨hcS, hfS⟩ := bcell hSw; clear hSw; go_simp; try with_reducible rfl)
      try simp only [Act.put, zA, zB, zC, zD, zE, zF]
      refine wpAnyH_take (i := 2) (v := ?v2_2) rfl (by kernel_rfl) (by kernel_rfl) (by kernel_rfl) (fun _ _ _ h => h) (Or.inl ⟨by rfl, ?y2_2⟩) (by assumption) ?r2_2
      case' y2_2 => (intro w hSw; (try dsimp only at hSw); (try have hlS := HLK.out _ hSw); obtain ⟨hcS, hfS⟩ := bcell hSw; clear hSw; go_simp; try with_reducible rfl)
      try simp only [Act.put, zA, zB, zC, zD, zE, zF]
      refine wpAnyH_take (i := 3) (v := ?v2_3) rfl (by kernel_rfl) (by kernel_rfl) (by kernel_rfl) (fun _ _ _ h => h) (Or.inl ⟨by rfl, ?y2_3⟩) (by assumption) ?r2_3
      case' y2_3 => (intro w hSw; (try dsimp only at hSw); (try have hlS := HLK.out _ hSw); obtain ⟨hcS, hfS⟩ := bcell hSw; clear hSw; go_simp; try with_reducible rfl)
      try simp only [Act.put, zA, zB, zC, zD, zE, zF]
      refine wpAnyH_take (i := 4) (v := ?v2_4) rfl (by kernel_rfl) (by kernel_rfl) (by kernel_rfl) (fun _ _ _ h => h) (Or.inl ⟨by rfl, ?y2_4⟩) (by assumption) ?r2_4
      case' y2_4 => (intro w hSw; (try dsimp only at hSw); (try have hlS := HLK.out _ hSw); obtain ⟨hcS, hfS⟩ := bcell hSw; clear hSw; go_simp; try with_reducible rfl)
      try simp only [Act.put, zA, zB, zC, zD, zE, zF]
      refine wpAnyH_take (i := 5) (v := ?v2_5) rfl (by kernel_rfl) (by kernel_rfl) (by kernel_rfl) (fun _ _ _ h => h) (Or.inl ⟨by rfl, ?y2_5⟩) (by assumption) ?r2_5
      case' y2_5 => (intro w hSw; (try dsimp only at hSw); (try have hlS := HLK.out _ hSw); obtain ⟨hcS, hfS⟩ := bcell hSw; clear hSw; go_simp; try with_reducible rfl)
      try simp only [Act.put, zA, zB, zC, zD, zE, zF]
      refine wpAnyH_take (i := 6) (v := ?v2_6) rfl (by kernel_rfl) (by kernel_rfl) (by kernel_rfl) (fun _ _ _ h => h) (Or.inl ⟨by rfl, ?y2_6⟩) (by assumption) ?r2_6
      case' y2_6 => (intro w hSw; (try dsimp only at hSw); (try have hlS := HLK.out _ hSw); obtain ⟨hcS, hfS⟩ := bcell hSw; clear hSw; go_simp; try with_reducible rfl)
      try simp only [Act.put, zA, zB, zC, zD, zE, zF]
      refine wpAnyH_take (i := 7) (v := ?v2_7) rfl (by kernel_rfl) (by kernel_rfl) (by kernel_rfl) (fun _ _ _ h => h) (Or.inl ⟨by rfl, ?y2_7⟩) (by assumption) ?r2_7
      case' y2_7 => (intro w hSw; (try dsimp only at hSw); (try have hlS := HLK.out _ hSw); obtain ⟨hcS, hfS⟩ := bcell hSw; clear hSw; go_simp; try with_reducible rfl)
      try simp only [Act.put, zA, zB, zC, zD, zE, zF]
      refine wpAnyH_take (i := 8) (v := ?v2_8) rfl (by kernel_rfl) (by kernel_rfl) (by kernel_rfl) (fun _ _ _ h => h) (Or.inl ⟨by rfl, ?y2_8⟩) (by assumption) ?r2_8
      case' y2_8 => (intro w hSw; (try dsimp only at hSw); (try have hlS := HLK.out _ hSw); obtain ⟨hcS, hfS⟩ := bcell hSw; clear hSw; go_simp; try with_reducible rfl)
      try simp only [Act.put, zA, zB, zC, zD, zE, zF]
      refine wpAnyH_done (by kernel_rfl) ?_ _
      go_wp2_with fail
      go_roundw
      case rel => exact ⟨k + 1, by omega, by go_num, Below.to hB.out hHeld (Nat.le_refl _)⟩
      case measure => simp [intOf]; omega
    · go_wp2_with fail
      go_ret
      exact ⟨rfl, hB.out⟩
end Go.Proofs.Ytmabfnddedffoaa
/- The laws' looms, opened: no condition. -/
namespace Go.Proofs.Ytmabfnddedffoaa
open Go.Joins Go.ChangeShapes Go.WideShapes Go.ChangeAt Go.RowKit Go.Deep
set_option maxRecDepth 100000
set_option linter.unusedVariables false
set_option linter.unusedSimpArgs false
section
variable {H : Type} {enc : TypeId × Value → H} {W : World} {base b0 : Nat} {r : Reach} {spare : Nat → Bool} {held : Bool} {v : Value} {d : DataW H} {p : List MemPlace}
theorem open_lo (hv : Value.okWide Try.prog W r b0 31 v) (h : DataW.Trod enc Try.prog W base spare held 31 v d p) :
    ∃ (A0 A1 A2 A3 A4 A5 : Option Addr) (q0 q1 q2 q3 q4 q5 : Nat), ∃ l : Lo, v = .agg #[.slice A0 l.m.opts.length q0, .slice A1 l.m.rules.length q1, .slice A2 l.ss.length q2, .slice A3 l.us.length q3, .slice A4 l.ps.length q4, .slice A5 l.ws.length q5] ∧ LoA W W.heap.size A0 A1 A2 A3 A4 A5 q0 q1 q2 q3 q4 q5 l ∧ SizedL l := by
  obtain ⟨ov, rv, sv, uv, pv, wv, l, rfl, hl, hs, _⟩ := open_loom hv h
  obtain ⟨A0, A1, A2, A3, A4, A5, q0, q1, q2, q3, q4, q5, rfl, rfl, rfl, rfl, rfl, rfl, hla⟩ := hl.form
  exact ⟨A0, A1, A2, A3, A4, A5, q0, q1, q2, q3, q4, q5, l, rfl, hla, hs⟩
theorem open_int (hv : Value.okWide Try.prog W r b0 3 v) (h : DataW.Trod enc Try.prog W base spare held 3 v d p) : ∃ n : Int, v = .int .i64 n ∧ I64 n := by
  obtain ⟨n, rfl, _⟩ := okWide_int Try.underlying3 hv
  obtain ⟨fuel, hf⟩ := h
  obtain ⟨a, e, ha⟩ := int_cell hf
  simp at e
  subst e
  exact ⟨n, rfl, ha⟩
end
end Go.Proofs.Ytmabfnddedffoaa

/- Part 35 of this claim's texts: walks and plain laws. -/
import Derived.Test.YtehadoecnmfeoaaGreatRows
import Derived.Test.YtehadoecnmfeoaaGreatGBC34
import Derived.Test.YtehadoecnmfeoaaGreatGBC30
import Derived.Laws.Cover3
import Derived.Deep.RegionHeld3
import Derived.Deep.DrawnRows
import Derived.Test.YtehadoecnmfeoaaGreatGBC26
import Derived.Test.YtehadoecnmfeoaaGreatGBC3
import Derived.Test.YtehadoecnmfeoaaGreatGBC32
import Derived.Test.YtehadoecnmfeoaaGreatGBC13
import Derived.Test.YtehadoecnmfeoaaGreatGBC2
import Derived.Test.YtehadoecnmfeoaaGreatGBC12
/- The elder search for a way: walk. -/
namespace Go.Proofs.YtehadoecnmfeoaaGreat
open Go.RowKit
set_option linter.unusedVariables false
set_option linter.unusedSimpArgs false
theorem neq_nil6 (W : World) (a : Option Addr) (n c : Nat) : (binOp .neq 45 (.slice a n c) (.slice none 0 0)).run Tryz.prog W = .ok (.bool (!a.isNone)) W := run_neq_slice_nil W _ _ a n c Tryz.underlying45
theorem Nods.flat6 {w : World} {B n cap : Nat} {A : Option Addr} {l : List Nat} (h : Nods w B (.slice A n cap) l) : Reads w B 1 A l.length (l.map fun (n : Nat) => Value.int .i64 n) := by
  obtain ⟨A', cap', he⟩ := Sl.form h
  injection he with e1 e2 e3
  subst e1 e2 e3
  have h2 := Sl.reads h (by omega)
  have e : Go.Proofs.YtehadoecnmfeoaaGreat.flat l.length 1 (fun i _ => Value.int .i64 (l.getD i 0 : Nat)) = l.map fun (n : Nat) => Value.int .i64 n := by
    apply List.ext_getElem
    · simp [flat_length]
    · intro i q1 q2
      have h3 := flat_get (n := l.length) (sz := 1) (f := fun i _ => Value.int .i64 (l.getD i 0 : Nat)) (i := i) (j := 0) (by simpa using q2) (by omega)
      rw [Nat.mul_one, Nat.add_zero, List.getElem?_eq_getElem q1] at h3
      injection h3 with h3
      rw [h3]
      have q3 : i < l.length := by simpa using q2
      simp [q3]
  rwa [e] at h2
theorem one_nods {l : List Nat} : ∀ u ∈ l.map (fun (n : Nat) => Value.int .i64 n), u.oneCell' = true := by
  intro u hu
  rw [List.mem_map] at hu
  obtain ⟨_, _, rfl⟩ := hu
  rfl
theorem own_addr {w : World} {base e sz n : Nat} {v : Value} {xs : List Value} (h : w.ownsRow base e sz v n xs) (hn : 0 < n) : ∃ g cap, v = .slice (some ⟨g, 0, none⟩) n cap := by
  obtain ⟨_, ⟨h1, h2⟩ | ⟨g, cap, cur, h1, _⟩⟩ := h
  · omega
  · exact ⟨g, cap, h1⟩
def WkYes (w : World) (rs : List (Nat × Nat)) (back : Int) (a b : Nat) (Q : List Nat) (e : Ending) (w' : World) : Prop :=
  ∃ (P : List Nat) (Ad : Addr) (cap : Nat), WayP rs back a P b ∧ e = .returned (.slice (some Ad) (Q ++ P).length cap) ∧ Nods w' w'.heap.size (.slice (some Ad) (Q ++ P).length cap) (Q ++ P) ∧ Below w.heap.size w w'
def WkNo (w : World) (e : Ending) (w' : World) : Prop := e = .returned (.slice none 0 0) ∧ Below w.heap.size w w'
set_option maxRecDepth 100000 in
set_option maxHeartbeats 2000000 in
theorem walk_any (A0 A1 A2 A3 A4 A5 : Option Addr) (q0 q1 q2 q3 q4 q5 : Nat) (l : Lo) (ok : LoOk l) : ∀ (m : Nat) (a b : Nat) (back : Int) (Q : List Nat) (Ad : Addr) (cap : Nat) (w : World), LoA w w.heap.size A0 A1 A2 A3 A4 A5 q0 q1 q2 q3 q4 q5 l → sideN l.rs l.ss.length back a ≤ m → (back = -1 ∨ ∃ j p, j < l.rs.length ∧ back = (j : Nat) ∧ Inc l.rs j p a) → a < l.ss.length → b < l.ss.length → Q.length + m ≤ 100 →
    Nods w w.heap.size (.slice (some Ad) Q.length cap) Q →
    Calls Tryz.prog 250 #[.agg #[.slice A0 l.m.opts.length q0, .slice A1 l.m.rules.length q1, .slice A2 l.ss.length q2, .slice A3 l.us.length q3, .slice A4 l.ps.length q4, .slice A5 l.ws.length q5], .int .i64 a, .int .i64 b, .int .i64 back, .slice (some Ad) Q.length cap] w fun e w' => (Rch l.rs back a b ∧ WkYes w l.rs back a b Q e w') ∨ (¬ Rch l.rs back a b ∧ WkNo w e w') := by
  obtain ⟨i0, hi0, iz0, iz1, iz2⟩ := info_parts infoInt
  have OK := hide ok
  have T := hide ok.tree
  have s40 := ok.s40
  have u40 := ok.u40
  have hin := ok.runsIn
  have HIN := hide hin
  clear hin ok
  intro m
  induction m with
  | zero =>
    intro a b back Q Ad cap w h hm hb ha hbn hQ hN
    exfalso
    have : 0 < sideN l.rs l.ss.length back a := by
      unfold sideN
      rw [List.countP_pos_iff]
      exact ⟨a, by simpa using ha, by simpa using Rch.base⟩
    omega
  | succ m ih =>
    intro a b back Q Ad cap w h hm hb ha hbn hQ hN
    have H := hide h
    have HN := hide hN
    have HB := hide hb
    have HM := hide hm
    have HIH := hide ih
    clear h hN hb hm ih
    by_cases hab : a = b
    · subst hab
      have e1 : ((a : Int) == (a : Int)) = true := by simp
      go_enter Tryz.func250, Tryz.ntmps250
      go_wp2_with fail
      go_ret
      refine .inl ⟨.base, [], Ad, cap, .nil, ?_, ?_, (by repeat (first | exact Below.refl _ _ | assumption | refine Below.drew ?_ | refine Below.drewN ?_ _ | refine Below.allocT ?_ (Nat.le_refl _) _ | refine Below.setCell ?_ (by simp <;> omega) _ | refine Below.to ?_ (by assumption) (Nat.le_refl _)))⟩
      · rw [List.append_nil]; rfl
      · rw [List.append_nil]; exact Nods.up HN.out (by repeat (first | exact Below.refl _ _ | assumption | refine Below.drew ?_ | refine Below.drewN ?_ _ | refine Below.allocT ?_ (Nat.le_refl _) _ | refine Below.setCell ?_ (by simp <;> omega) _ | refine Below.to ?_ (by assumption) (Nat.le_refl _)))
    have e1 : ((a : Int) == (b : Int)) = false := by simp; omega
    have HAB := hide hab
    clear hab
    go_enter Tryz.func250, Tryz.ntmps250
    go_upto_region 1 with (fail)
    generalize hw0 : World.alloc _ _ = w0
    obtain ⟨hb0, hB0, hs0⟩ := alloc1 hw0
    have HL0 : Hid (LoBox w0 w.heap.size A0 A1 A2 A3 A4 A5 q0 q1 q2 q3 q4 q5 l) := hb0
    have HB0 := hide hB0
    have c0 := cellOf hb0 0; have c1 := cellOf hb0 1; have c2 := cellOf hb0 2; have c3 := cellOf hb0 3; have c4 := cellOf hb0 4; have c5 := cellOf hb0 5
    have hlb := box_lt hb0
    clear hw0 hb0 hB0 hs0
    go_wp2_with fail
    clear c0 c1 c2 c3 c4 c5 hlb
    go_loopw [11, 12, 13, 14] (fun i _ _ _ wr => ∃ k : Nat, k ≤ l.us.length ∧ i = .int .i64 k ∧ Hid (∀ j, j < k → (j : Int) ≠ back → ((l.rs.getD j (0, 0)).1 = a ∨ (l.rs.getD j (0, 0)).2 = a) → ¬ Rch l.rs j (farEnd l.rs j a) b) ∧ Hid (LoBox wr w.heap.size A0 A1 A2 A3 A4 A5 q0 q1 q2 q3 q4 q5 l) ∧ Hid (Below w.heap.size w wr)) (fun i _ _ _ _ => l.us.length - (intOf i).toNat)
    case atStart => exact ⟨0, Nat.zero_le _, rfl, fun j hj => by omega, HL0.out, HB0.out⟩
    case round =>
      obtain ⟨k, hk, rfl, hall, HL, HBW⟩ := hrel
      have c0 := cellOf HL.out 0; have c1 := cellOf HL.out 1; have c2 := cellOf HL.out 2; have c3 := cellOf HL.out 3; have c4 := cellOf HL.out 4; have c5 := cellOf HL.out 5
      have hlb := box_lt HL.out
      by_cases hkl : k < l.us.length
      · obtain ⟨bu, offu, r, HRU, rfl, hbu, hq3, f0, f1, f2, f3⟩ := (H.out.below HBW.out).ru hkl
        have hrin := HIN.out r (by rw [← HRU.out]; exact getD_mem3f hkl)
        obtain ⟨ra, rb, rl, rr⟩ := r
        obtain ⟨a1, a2, b1, b2⟩ := hrin
        simp only at a1 a2 b1 b2 f0 f1 f2 f3
        obtain ⟨ka, rfl⟩ := Int.eq_ofNat_of_zero_le a1
        obtain ⟨kb, rfl⟩ := Int.eq_ofNat_of_zero_le b1
        have hrs : l.rs.getD k (0, 0) = (ka, kb) := by rw [rs_getD l hkl, HRU.out]; simp
        have HRS := hide hrs
        have lbu : bu < wr.heap.size := Nat.lt_of_lt_of_le hbu HBW.out.size
        have ik0 : (0 : Int) ≤ (k : Int) := by omega
        have ik : (k : Int) < (l.us.length : Int) := by omega
        have iq : (l.us.length : Int) ≤ (q3 : Int) := by omega
        have hkr : k < l.rs.length := by rw [rs_len]; exact hkl
        clear hrs
        go_upto_region 7 with (fail)
        generalize hw1 : World.alloc _ _ = w1
        obtain ⟨hb1, hB1, hs1⟩ := alloc1 hw1
        have z0 := cellOf hb1 0; have z1 := cellOf hb1 1; have z2 := cellOf hb1 2; have z3 := cellOf hb1 3
        have lz := box_lt hb1
        have HL1 := hide (HL.out.to hB1)
        have HB1 := hide (Below.to HBW.out hB1 (Nat.le_refl _))
        have d0 := cellOf (HL.out.to hB1) 0; have d1 := cellOf (HL.out.to hB1) 1; have d2 := cellOf (HL.out.to hB1) 2; have d3 := cellOf (HL.out.to hB1) 3; have d4 := cellOf (HL.out.to hB1) 4; have d5 := cellOf (HL.out.to hB1) 5
        have ld := box_lt HL1.out
        have HN1 := hide (Nods.up HN.out HB1.out)
        clear hw1 hb1 hB1 hs1 c0 c1 c2 c3 c4 c5 hlb f0 f1 f2 f3 lbu
        by_cases hkb : (k : Int) = back
        · have g1 : ((k : Int) == back) = true := by simpa using hkb
          have HKB := hide hkb
          clear hkb
          go_wp2_with fail
          go_roundw
          case rel => exact ⟨k + 1, by omega, by go_num, fun j hj hne => by
              rcases Nat.lt_or_ge j k with h | h
              · exact hall.out j h hne
              · rw [show j = k from by omega] at hne; exact absurd HKB.out hne, HL1.out, HB1.out⟩
          case measure => simp [intOf]; omega
        have g1 : ((k : Int) == back) = false := by simpa using hkb
        have HKB := hide hkb
        clear hkb
        by_cases hinc : ka = a ∨ kb = a
        case neg =>
          have g2 : ((ka : Int) != (a : Int)) = true := by simp; omega
          have g3 : ((kb : Int) != (a : Int)) = true := by simp; omega
          have HINC := hide hinc
          clear hinc
          go_wp2_with fail
          go_roundw
          case rel => exact ⟨k + 1, by omega, by go_num, fun j hj hne hi => by
              rcases Nat.lt_or_ge j k with h | h
              · exact hall.out j h hne hi
              · rw [show j = k from by omega, HRS.out] at hi; exact absurd hi HINC.out, HL1.out, HB1.out⟩
          case measure => simp [intOf]; omega
        case pos =>
        obtain ⟨y, hy⟩ : ∃ y, farEnd l.rs k a = y := ⟨_, rfl⟩
        have hsum : (ka : Int) + (kb : Int) - (a : Int) = (y : Int) := by
          have := far_sum (rs := l.rs) (k := k) (x := a) (by rw [HRS.out]; exact hinc)
          rw [HRS.out, hy] at this
          exact this
        have hIxy : Inc l.rs k a y := by rw [← hy]; exact far_inc (by rw [HRS.out]; exact hinc)
        have hyl : y < l.ss.length := (T.out.inc_lt hkr hIxy).2
        have hless : sideN l.rs l.ss.length k y ≤ m := by
          have := T.out.side_less hkr HKB.out HB.out hIxy
          have := HM.out
          omega
        have hcall := fun (W : World) (g cp : Nat) (hW : Below w.heap.size w W) (hNW : Nods W W.heap.size (.slice (some ⟨g, 0, none⟩) (Q ++ [k]).length cp) (Q ++ [k])) =>
          HIH.out y b k (Q ++ [k]) ⟨g, 0, none⟩ cp W (H.out.up hW) hless (.inr ⟨k, a, hkr, rfl, hIxy⟩) hyl hbn (by simp; omega) hNW
        have hlen : (Q ++ [k]).length = Q.length + 1 := by simp
        rw [hlen] at hcall
        have HSUM := hide hsum
        have HIXY := hide hIxy
        have HY := hide hy
        have hQl : Q.length ≤ 100 := by omega
        have HCALL := hide hcall
        have hba := HBW.out.size
        have y40 : (y : Int) ≤ 40 := by omega
        have hyy : IntKind.i64.wrap ((ka : Int) + (kb : Int)) = (ka : Int) + (kb : Int) := IntWalk.i64_in _ (by omega)
        have hba1 := HB1.out.size
        have hsplit : ((ka : Int) != (a : Int)) = false ∨ ((ka : Int) != (a : Int)) = true ∧ ((kb : Int) != (a : Int)) = false := by
          rcases hinc with h | h
          · exact .inl (by simp [h])
          · by_cases h2 : ka = a
            · exact .inl (by simp [h2])
            · exact .inr ⟨by simp; omega, by simp [h]⟩
        clear hcall hless hIxy hy hinc hlen
        rcases hsplit with g2 | ⟨g2, g3⟩
        · go_upto_region 9 with (first
            | (at_builtin; refine wpList_append_own_at _ rfl (.tmp 48) (.tmp 50) _ rfl w1.heap.size 3 i0 _ 1 8 Tryz.underlying45 hi0 iz0 iz1 iz2 rfl (by omega) _ _ _ rfl (HX1.out.alloc _) ⟨w4.heap.size, 0, none⟩ 1 1 [.int .i64 k] rfl rfl (World.news_of_block (heap_alloc_new w4 _)) (by simp [Value.oneCell']) (by unfold maxLen; omega) (by omega) (by have := HB4.out.size; simp; omega) ?_; intro v5 w5 hown5 hg5 _ hat5; obtain ⟨g5, cp5, hv5⟩ := own_addr hown5 (by omega); subst hv5; have HX5 := hide hown5; have HB5 := hide (own_low HB4.out HX1.out (Nat.le_refl _) hg5); clear hown5 hg5 hat5)
            | (at_builtin; refine wpList_append_any _ rfl (.tmp 46) (.tmp 47) _ rfl w1.heap.size 3 i0 _ 1 8 Tryz.underlying45 hi0 iz0 iz1 iz2 rfl (by decide) _ 0 [] rfl (World.ownsRow_made w1 #[] 0 (Nat.le_refl _) (by unfold maxLen; omega) rfl) w1.heap.size (some Ad) Q.length cap (Q.map fun (n : Nat) => Value.int .i64 n) rfl ((Nods.flat6 HN1.out).alloc (Nat.le_refl _) _) one_nods (by unfold maxLen; omega) (by omega) (by simp) ?_; intro v4 w4 hown4 hg4 _; rw [Nat.zero_add, List.nil_append] at hown4; obtain ⟨A4', cap4, hv4⟩ := owns_form hown4; subst hv4; have HX1 := hide hown4; have HB4 := hide (Below.grown (Below.allocT (Below.refl w1.heap.size w1) (Nat.le_refl _) _) hg4 (by simp) (fun j hj => by injection hj with hj; exact Nat.le_of_eq hj)); clear hown4 hg4))
          have hN5 : Nods w5 w5.heap.size (.slice (some ⟨g5, 0, none⟩) (Q.length + 1) cp5) (Q ++ [k]) := by
            have := Nods.of_own (l := Q ++ [k]) (base := w1.heap.size) (w := w5) (v := .slice (some ⟨g5, 0, none⟩) (Q.length + 1) cp5) (by rw [List.length_append, List.length_singleton, List.map_append]; exact HX5.out)
            exact this
          have hc5 := HCALL.out w5 g5 cp5 (Below.to HB1.out HB5.out (Nat.le_refl _)) hN5
          have HL5 := hide (HL1.out.to HB5.out)
          have HB1' := hide (Below.to HB1.out HB5.out (Nat.le_refl _))
          have x0 := (HB5.out.cell (p := ⟨wr.heap.size, 0, none⟩) lz).trans z0
          have x1 := (HB5.out.cell (p := ⟨wr.heap.size, 1, none⟩) lz).trans z1
          have lx : wr.heap.size < w5.heap.size := Nat.lt_of_lt_of_le lz HB5.out.size
          have v0 := cellOf HL5.out 0; have v1 := cellOf HL5.out 1; have v2 := cellOf HL5.out 2; have v3 := cellOf HL5.out 3; have v4 := cellOf HL5.out 4; have v5 := cellOf HL5.out 5
          have lv := box_lt HL5.out
          have hnil := neq_nil6
          clear hN5 d0 d1 d2 d3 d4 d5 ld z0 z1 z2 z3 lz
          by_cases hri : Rch l.rs k y b
          · have hyes : Calls Tryz.prog 250 #[.agg #[.slice A0 l.m.opts.length q0, .slice A1 l.m.rules.length q1, .slice A2 l.ss.length q2, .slice (some ⟨bu, offu, none⟩) l.us.length q3, .slice A4 l.ps.length q4, .slice A5 l.ws.length q5], .int .i64 y, .int .i64 b, .int .i64 k, .slice (some ⟨g5, 0, none⟩) (Q.length + 1) cp5] w5 (WkYes w5 l.rs k y b (Q ++ [k])) := hc5.mono (by
              rintro e w' (h | h)
              · exact h.2
              · exact absurd hri h.1)
            have HYES := hide hyes
            have HRI := hide hri
            clear hyes hri hc5
            go_wp2_with (go_at_call 250; refine HYES.out.mono ?_; rintro e w6 ⟨P, Ad6, cp6, hP6, rfl, hN6, hB6⟩; have HP6 := hide hP6; have HN6 := hide hN6; have HB6 := hide (Below.to HB1'.out hB6 (Nat.le_refl _)); clear hP6 hN6 hB6 v0 v1 v2 v3 v4 v5 lv x0 x1 lx)
            go_ret
            have hway : WayP l.rs back a (k :: P) b := .cons hkr HKB.out HIXY.out HAB.out HRI.out HP6.out
            refine .inl ⟨hway.rch T.out HB.out, k :: P, Ad6, cp6, hway, ?_, ?_, HB6.out⟩
            · rw [show (Q ++ k :: P).length = Q.length + (P.length + 1) by simp]; rfl
            · rw [show Q ++ k :: P = Q ++ [k] ++ P by simp]; exact HN6.out
          · have hno : Calls Tryz.prog 250 #[.agg #[.slice A0 l.m.opts.length q0, .slice A1 l.m.rules.length q1, .slice A2 l.ss.length q2, .slice (some ⟨bu, offu, none⟩) l.us.length q3, .slice A4 l.ps.length q4, .slice A5 l.ws.length q5], .int .i64 y, .int .i64 b, .int .i64 k, .slice (some ⟨g5, 0, none⟩) (Q.length + 1) cp5] w5 (WkNo w5) := hc5.mono (by
              rintro e w' (h | h)
              · exact absurd h.1 hri
              · exact h.2)
            have HNO := hide hno
            have HRI := hide hri
            clear hno hri hc5
            go_wp2_with (go_at_call 250; refine HNO.out.mono ?_; rintro e w6 ⟨rfl, hB6⟩; have HL6 := hide (HL5.out.to hB6); have HB6 := hide (Below.to HB1'.out hB6 (Nat.le_refl _)); clear hB6 v0 v1 v2 v3 v4 v5 lv x0 x1 lx)
            go_roundw
            case rel => exact ⟨k + 1, by omega, by go_num, fun j hj hne hi => by
                rcases Nat.lt_or_ge j k with h | h
                · exact hall.out j h hne hi
                · rw [show j = k from by omega, HY.out]; exact HRI.out, HL6.out, HB6.out⟩
            case measure => simp [intOf]; omega
        · go_upto_region 9 with (first
            | (at_builtin; refine wpList_append_own_at _ rfl (.tmp 48) (.tmp 50) _ rfl w1.heap.size 3 i0 _ 1 8 Tryz.underlying45 hi0 iz0 iz1 iz2 rfl (by omega) _ _ _ rfl (HX1.out.alloc _) ⟨w4.heap.size, 0, none⟩ 1 1 [.int .i64 k] rfl rfl (World.news_of_block (heap_alloc_new w4 _)) (by simp [Value.oneCell']) (by unfold maxLen; omega) (by omega) (by have := HB4.out.size; simp; omega) ?_; intro v5 w5 hown5 hg5 _ hat5; obtain ⟨g5, cp5, hv5⟩ := own_addr hown5 (by omega); subst hv5; have HX5 := hide hown5; have HB5 := hide (own_low HB4.out HX1.out (Nat.le_refl _) hg5); clear hown5 hg5 hat5)
            | (at_builtin; refine wpList_append_any _ rfl (.tmp 46) (.tmp 47) _ rfl w1.heap.size 3 i0 _ 1 8 Tryz.underlying45 hi0 iz0 iz1 iz2 rfl (by decide) _ 0 [] rfl (World.ownsRow_made w1 #[] 0 (Nat.le_refl _) (by unfold maxLen; omega) rfl) w1.heap.size (some Ad) Q.length cap (Q.map fun (n : Nat) => Value.int .i64 n) rfl ((Nods.flat6 HN1.out).alloc (Nat.le_refl _) _) one_nods (by unfold maxLen; omega) (by omega) (by simp) ?_; intro v4 w4 hown4 hg4 _; rw [Nat.zero_add, List.nil_append] at hown4; obtain ⟨A4', cap4, hv4⟩ := owns_form hown4; subst hv4; have HX1 := hide hown4; have HB4 := hide (Below.grown (Below.allocT (Below.refl w1.heap.size w1) (Nat.le_refl _) _) hg4 (by simp) (fun j hj => by injection hj with hj; exact Nat.le_of_eq hj)); clear hown4 hg4))
          have hN5 : Nods w5 w5.heap.size (.slice (some ⟨g5, 0, none⟩) (Q.length + 1) cp5) (Q ++ [k]) := by
            have := Nods.of_own (l := Q ++ [k]) (base := w1.heap.size) (w := w5) (v := .slice (some ⟨g5, 0, none⟩) (Q.length + 1) cp5) (by rw [List.length_append, List.length_singleton, List.map_append]; exact HX5.out)
            exact this
          have hc5 := HCALL.out w5 g5 cp5 (Below.to HB1.out HB5.out (Nat.le_refl _)) hN5
          have HL5 := hide (HL1.out.to HB5.out)
          have HB1' := hide (Below.to HB1.out HB5.out (Nat.le_refl _))
          have x0 := (HB5.out.cell (p := ⟨wr.heap.size, 0, none⟩) lz).trans z0
          have x1 := (HB5.out.cell (p := ⟨wr.heap.size, 1, none⟩) lz).trans z1
          have lx : wr.heap.size < w5.heap.size := Nat.lt_of_lt_of_le lz HB5.out.size
          have v0 := cellOf HL5.out 0; have v1 := cellOf HL5.out 1; have v2 := cellOf HL5.out 2; have v3 := cellOf HL5.out 3; have v4 := cellOf HL5.out 4; have v5 := cellOf HL5.out 5
          have lv := box_lt HL5.out
          have hnil := neq_nil6
          clear hN5 d0 d1 d2 d3 d4 d5 ld z0 z1 z2 z3 lz
          by_cases hri : Rch l.rs k y b
          · have hyes : Calls Tryz.prog 250 #[.agg #[.slice A0 l.m.opts.length q0, .slice A1 l.m.rules.length q1, .slice A2 l.ss.length q2, .slice (some ⟨bu, offu, none⟩) l.us.length q3, .slice A4 l.ps.length q4, .slice A5 l.ws.length q5], .int .i64 y, .int .i64 b, .int .i64 k, .slice (some ⟨g5, 0, none⟩) (Q.length + 1) cp5] w5 (WkYes w5 l.rs k y b (Q ++ [k])) := hc5.mono (by
              rintro e w' (h | h)
              · exact h.2
              · exact absurd hri h.1)
            have HYES := hide hyes
            have HRI := hide hri
            clear hyes hri hc5
            go_wp2_with (go_at_call 250; refine HYES.out.mono ?_; rintro e w6 ⟨P, Ad6, cp6, hP6, rfl, hN6, hB6⟩; have HP6 := hide hP6; have HN6 := hide hN6; have HB6 := hide (Below.to HB1'.out hB6 (Nat.le_refl _)); clear hP6 hN6 hB6 v0 v1 v2 v3 v4 v5 lv x0 x1 lx)
            go_ret
            have hway : WayP l.rs back a (k :: P) b := .cons hkr HKB.out HIXY.out HAB.out HRI.out HP6.out
            refine .inl ⟨hway.rch T.out HB.out, k :: P, Ad6, cp6, hway, ?_, ?_, HB6.out⟩
            · rw [show (Q ++ k :: P).length = Q.length + (P.length + 1) by simp]; rfl
            · rw [show Q ++ k :: P = Q ++ [k] ++ P by simp]; exact HN6.out
          · have hno : Calls Tryz.prog 250 #[.agg #[.slice A0 l.m.opts.length q0, .slice A1 l.m.rules.length q1, .slice A2 l.ss.length q2, .slice (some ⟨bu, offu, none⟩) l.us.length q3, .slice A4 l.ps.length q4, .slice A5 l.ws.length q5], .int .i64 y, .int .i64 b, .int .i64 k, .slice (some ⟨g5, 0, none⟩) (Q.length + 1) cp5] w5 (WkNo w5) := hc5.mono (by
              rintro e w' (h | h)
              · exact absurd h.1 hri
              · exact h.2)
            have HNO := hide hno
            have HRI := hide hri
            clear hno hri hc5
            go_wp2_with (go_at_call 250; refine HNO.out.mono ?_; rintro e w6 ⟨rfl, hB6⟩; have HL6 := hide (HL5.out.to hB6); have HB6 := hide (Below.to HB1'.out hB6 (Nat.le_refl _)); clear hB6 v0 v1 v2 v3 v4 v5 lv x0 x1 lx)
            go_roundw
            case rel => exact ⟨k + 1, by omega, by go_num, fun j hj hne hi => by
                rcases Nat.lt_or_ge j k with h | h
                · exact hall.out j h hne hi
                · rw [show j = k from by omega, HY.out]; exact HRI.out, HL6.out, HB6.out⟩
            case measure => simp [intOf]; omega
      · have hke : k = l.us.length := by omega
        subst hke
        have hno : ¬ Rch l.rs back a b := T.out.none_way HAB.out (fun j hj hne hi => hall.out j (by rw [← rs_len]; exact hj) hne hi)
        have HNO := hide hno
        clear hno
        go_wp2_with fail
        go_ret
        exact .inr ⟨HNO.out, rfl, HBW.out⟩
end Go.Proofs.YtehadoecnmfeoaaGreat
/- The greatest fill, asked from outside: walk. -/
namespace Go.Proofs.YtehadoecnmfeoaaGreat
open Go.RowKit
set_option linter.unusedVariables false
set_option linter.unusedSimpArgs false
def havE (l : Lo) (b : Bool) : Int := if l.err ≠ 0 then l.err else mustE b 1
theorem havE_ok {l : Lo} {b : Bool} (h : havE l b = 0) : LoOk l ∧ b = true := by
  unfold havE at h
  by_cases h1 : l.err = 0
  · rw [if_neg (by simp [h1])] at h
    refine ⟨Lo.err_ok h1, ?_⟩
    cases b with
    | true => rfl
    | false => exact absurd h (by decide)
  · rw [if_pos h1] at h
    exact absurd h h1
def wrsE (l : Lo) (run : Int) : Int := havE l (btw run 0 ((l.us.length : Int) - 1))
end Go.Proofs.YtehadoecnmfeoaaGreat
/- The elder way between two spots, its use of a run, its length: walks. -/
namespace Go.Proofs.YtehadoecnmfeoaaGreat
open Go.RowKit
set_option linter.unusedVariables false
set_option linter.unusedSimpArgs false
theorem LoOk.wayU {l : Lo} (h : LoOk l) {a b : Nat} {P P' : List Nat} (h1 : WayP l.rs (-1) a P b) (h2 : WayP l.rs (-1) a P' b) : P = P' := WayP.one h.tree h1 h2
set_option maxRecDepth 100000 in
set_option maxHeartbeats 1000000 in
theorem way_any (A0 A1 A2 A3 A4 A5 : Option Addr) (q0 q1 q2 q3 q4 q5 : Nat) (l : Lo) (ok : LoOk l) (a b : Nat) (P : List Nat) (w : World) (h : LoA w w.heap.size A0 A1 A2 A3 A4 A5 q0 q1 q2 q3 q4 q5 l) (ha : a < l.ss.length) (hb : b < l.ss.length) (hP : WayP l.rs (-1) a P b) :
    Calls Tryz.prog 229 #[.agg #[.slice A0 l.m.opts.length q0, .slice A1 l.m.rules.length q1, .slice A2 l.ss.length q2, .slice A3 l.us.length q3, .slice A4 l.ps.length q4, .slice A5 l.ws.length q5], .int .i64 a, .int .i64 b] w fun e w' => ∃ (Ad : Addr) (cap : Nat), e = .returned (.slice (some Ad) P.length cap) ∧ Nods w' w'.heap.size (.slice (some Ad) P.length cap) P ∧ Below w.heap.size w w' := by
  have H := hide h
  have OK := hide ok
  have HP := hide hP
  have s40 := ok.s40
  have hrch := hP.rch ok.tree (.inl rfl)
  have HR := hide hrch
  clear h ok hP hrch
  go_enter Tryz.func229, Tryz.ntmps229
  go_upto_region 1 with (fail)
  generalize hw0 : World.alloc _ _ = w0
  obtain ⟨hb0, hB0, hs0⟩ := alloc1 hw0
  have HB0 := hide hB0
  have c0 := cellOf hb0 0; have c1 := cellOf hb0 1; have c2 := cellOf hb0 2; have c3 := cellOf hb0 3; have c4 := cellOf hb0 4; have c5 := cellOf hb0 5
  have hlb := box_lt hb0
  clear hw0 hb0 hB0 hs0
  have hB1 : Below w.heap.size w (w0.alloc (.cells #[] 3 (0, 0))) := Below.allocT HB0.out (Nat.le_refl _) _
  have hwk := walk_any A0 A1 A2 A3 A4 A5 q0 q1 q2 q3 q4 q5 l OK.out l.ss.length a b (-1) [] ⟨w0.heap.size, 0, none⟩ 0 (w0.alloc (.cells #[] 3 (0, 0))) (H.out.up hB1) (sideN_le (T := OK.out.tree) (-1) a) (.inl rfl) ha hb (by simp; omega) ⟨_, w0.heap.size, 0, 0, rfl, Nat.le_refl _, .inr rfl, fun i j hi => by simp at hi⟩
  rw [List.length_nil] at hwk
  have hwk2 := hwk.mono (R' := fun e w' => ∃ (Ad : Addr) (cap : Nat), e = .returned (.slice (some Ad) P.length cap) ∧ Nods w' w'.heap.size (.slice (some Ad) P.length cap) P ∧ Below w.heap.size w w') (by
    rintro e w' (⟨_, P', Ad, cap, h1, h2, h3, h4⟩ | ⟨h1, _⟩)
    · obtain rfl := OK.out.wayU h1 HP.out
      rw [List.nil_append] at h2 h3
      exact ⟨Ad, cap, h2, h3, Below.to hB1 h4 (Nat.le_refl _)⟩
    · exact absurd HR.out h1)
  have HWK := hide hwk2
  clear hwk hwk2 hB1
  go_wp2_with (go_at_call 250; refine HWK.out.mono ?_; rintro e w2 ⟨Ad, cap, rfl, hn2, hB2⟩; have HN2 := hide hn2; have HB2 := hide hB2; clear hn2 hB2 c0 c1 c2 c3 c4 c5 hlb)
  go_ret
  exact ⟨Ad, cap, rfl, HN2.out, HB2.out⟩
set_option maxRecDepth 100000 in
set_option maxHeartbeats 2000000 in
theorem rends_any (i : Nat) (A0 A1 A2 A3 A4 A5 : Option Addr) (q0 q1 q2 q3 q4 q5 : Nat) (l : Lo) (w : World) (h : LoA w w.heap.size A0 A1 A2 A3 A4 A5 q0 q1 q2 q3 q4 q5 l) (ok : LoOk l) (hi : i < l.ws.length) :
    Calls Tryz.prog 168 #[.agg #[.slice A0 l.m.opts.length q0, .slice A1 l.m.rules.length q1, .slice A2 l.ss.length q2, .slice A3 l.us.length q3, .slice A4 l.ps.length q4, .slice A5 l.ws.length q5], .int .i64 i] w fun e w' => e = .returned (.tuple #[.int .i64 (endF l i : Nat), .int .i64 (endT l i : Nat)]) ∧ Below w.heap.size w w' := by
  obtain ⟨⟨a1, a2, a3⟩, b1, b2, b3⟩ := ok.wpin hi
  have p30 := ok.p30
  have w60 := ok.w60
  obtain ⟨bw, offw, x, Af, qf, HX, rfl, hbw, hq5, HFO, e0, e1, e2, e3, e4, e5, e6⟩ := h.wi hi
  rw [HX.out] at a1 a2 a3 b1 b2 b3
  obtain ⟨bf, off, y, HY, rfl, hbb, hq, f0, f1, f2⟩ := h.pl a2
  obtain ⟨bf', off', z, HZ, he, hbb', hq', g0, g1, g2⟩ := h.pl b2
  injection he with he
  injection he with he1 he2
  subst he1 he2
  rw [HY.out] at a3
  rw [HZ.out] at b3
  have hF : (endF l i : Int) = y.spot := by unfold endF; rw [HX.out, HY.out]; omega
  have hT : (endT l i : Int) = z.spot := by unfold endT; rw [HX.out, HZ.out]; omega
  rw [hF, hT]
  obtain ⟨nm, fp, fc, tp, tc, size, form⟩ := x
  simp only at a1 a2 b1 b2 HY HZ e0 e1 e2 e3 e4 e5 e6 f0 f1 f2 g0 g1 g2
  obtain ⟨kf, rfl⟩ := Int.eq_ofNat_of_zero_le a1
  obtain ⟨kt, rfl⟩ := Int.eq_ofNat_of_zero_le b1
  rw [Int.toNat_natCast] at a2 f0 f1 f2
  rw [Int.toNat_natCast] at b2 g0 g1 g2
  have ikf : (kf : Int) < (l.ps.length : Int) := by omega
  have ikt : (kt : Int) < (l.ps.length : Int) := by omega
  have iq : (l.ps.length : Int) ≤ (q4 : Int) := by omega
  have iw : (i : Int) < (l.ws.length : Int) := by omega
  have iq5 : (l.ws.length : Int) ≤ (q5 : Int) := by omega
  clear a1 b1 a3 b3 h ok hF hT
  go_enter Tryz.func168, Tryz.ntmps168
  go_upto_region 1 with (fail)
  generalize hw0 : World.alloc _ _ = w0
  obtain ⟨hb0, hB0, hs0⟩ := alloc1 hw0
  have c4 := cellOf hb0 4
  have c5 := cellOf hb0 5
  have l0 := box_lt hb0
  have l2 : bf < w0.heap.size := by omega
  have l3 : bw < w0.heap.size := by omega
  have k1 := (hB0.cell (p := ⟨bf, off + kf * 3 + 1, none⟩) hbb).trans f1
  have k2 := (hB0.cell (p := ⟨bf, off + kt * 3 + 1, none⟩) hbb).trans g1
  have k3 := (hB0.cell (p := ⟨bw, offw + i * 7 + 1, none⟩) hbw).trans e1
  have k4 := (hB0.cell (p := ⟨bw, offw + i * 7 + 3, none⟩) hbw).trans e3
  have HB0 := hide hB0
  clear hw0 hb0 hB0 hs0 e0 e1 e2 e3 e4 e5 e6 f0 f1 f2 g0 g1 g2
  refine wp_region_held_drew (S := (fun w' => Below w0.heap.size w0 w')) (by kernel_rfl) ?_ (fun hHeld => ?_)
  · try dsimp only
    exact (by repeat (first | exact Below.refl _ _ | assumption | refine Below.drew ?_ | refine Below.drewN ?_ _ | refine Below.allocT ?_ (Nat.le_refl _) _ | refine Below.setCell ?_ (by simp <;> omega) _ | refine Below.to ?_ (by assumption) (Nat.le_refl _)))
  refine zT 0 rfl ?_
  refine zT 1 rfl ?_
  refine zT 2 rfl ?_
  refine zT 3 rfl ?_
  refine zT 4 rfl ?_
  refine zT 5 rfl ?_
  refine zT 6 rfl ?_
  refine zT 7 rfl ?_
  refine zT 8 rfl ?_
  refine zT 9 rfl ?_
  refine zT 10 rfl ?_
  refine zT 11 rfl ?_
  refine zT 12 rfl ?_
  refine zT 13 rfl ?_
  refine zT 14 rfl ?_
  refine zT 15 rfl ?_
  refine zT 16 rfl ?_
  refine zT 17 rfl ?_
  refine zT 18 rfl ?_
  refine zT 19 rfl ?_
  refine zT 20 rfl ?_
  refine zT 21 rfl ?_
  refine zT 22 rfl ?_
  refine zT 23 rfl ?_
  refine zT 24 rfl ?_
  refine zT 25 rfl ?_
  refine wpAnyH_done (by kernel_rfl) ?_ _
  go_wp2_with fail
  go_ret2
  exact ⟨rfl, Below.to HB0.out hHeld (Nat.le_refl _)⟩
end Go.Proofs.YtehadoecnmfeoaaGreat
/- The elder greatest fill of a run: walks. -/
namespace Go.Proofs.YtehadoecnmfeoaaGreat
open Go.RowKit
set_option linter.unusedVariables false
set_option linter.unusedSimpArgs false
end Go.Proofs.YtehadoecnmfeoaaGreat
/- The runs that can be overfilled: walks. -/
namespace Go.Proofs.YtehadoecnmfeoaaGreat
open Go.RowKit
set_option linter.unusedVariables false
set_option linter.unusedSimpArgs false
def tigB (l : Lo) (k : Nat) : Bool := decide (worE l k = 0) && decide ((l.us.getD k Ru.o).room < worN l k)
def tigL (l : Lo) : List Nat := if l.err = 0 then (List.range l.us.length).filter (tigB l) else []
def TigP (L : List Nat) (er : Int) (w : World) (e : Ending) (w' : World) : Prop := ∃ v, e = .returned (.tuple #[v, .int .i64 er]) ∧ Nods w' w'.heap.size v L ∧ Below w.heap.size w w'
end Go.Proofs.YtehadoecnmfeoaaGreat
/- A loom copied: walk. -/
namespace Go.Proofs.YtehadoecnmfeoaaGreat
open Go.RowKit
set_option linter.unusedVariables false
set_option linter.unusedSimpArgs false
def spF (l : List Sp) (i j : Nat) : Value := spC (l.getD i Sp.o) j
def ruF (l : List Ru) (i j : Nat) : Value := ruC (l.getD i Ru.o) j
def plF (l : List Pl) (i j : Nat) : Value := plC (l.getD i Pl.o) j
def wiF (l : List Wi) (cv : Nat → Value) (i j : Nat) : Value := wiC (l.getD i Wi.o) (cv i) j
def nmF (l : List ByteArray) (i j : Nat) : Value := .string (l.getD i ByteArray.empty)
structure FoO (wr : World) (B : Nat) (v : Value) (L : List (List Int)) (vs : List Value) : Prop where
  len : vs.length = L.length
  own : wr.ownsRow B 46 1 v L.length vs
  row : ∀ i, i < L.length → wr.ownsRow B 3 1 (vs.getD i undef) (L.getD i []).length ((L.getD i []).map (Value.int .i64))
def IntsX (w : World) (X : Nat → Prop) (v : Value) (f : List Int) : Prop :=
  ∃ (A : Option Addr) (b off cap : Nat), v = .slice A f.length cap ∧ f.length ≤ cap ∧ (A = some ⟨b, off, none⟩ ∧ b < w.heap.size ∧ ¬ X b ∨ f.length = 0) ∧ ∀ i, i < f.length → w.cell? ⟨b, off + i, none⟩ = some (.int .i64 (f.getD i 0))
structure CpS (w0 wr : World) (rb p : Nat) (C0 C1 C2 C3 C4 C5 : Option Addr) (r0 r1 r2 r3 r4 r5 : Nat) (l : Lo) (cv : Nat → Value) (vs : List Value) : Prop where
  below : Below w0.heap.size w0 wr
  pw : w0.heap.size ≤ p
  box : wr.heap[p]? = some (.cells #[.slice C0 l.m.opts.length r0, .slice C1 l.m.rules.length r1, .slice C2 l.ss.length r2, .slice C3 l.us.length r3, .slice C4 l.ps.length r4, .slice C5 l.ws.length r5] 31 (0, 0))
  n : wr.ownsRow w0.heap.size 9 1 (.slice C0 l.m.opts.length r0) l.m.opts.length (flat l.m.opts.length 1 (nmF l.m.opts))
  f : FoO wr w0.heap.size (.slice C1 l.m.rules.length r1) l.m.rules vs
  s : wr.ownsRow w0.heap.size 155 3 (.slice C2 l.ss.length r2) l.ss.length (flat l.ss.length 3 (spF l.ss))
  u : wr.ownsRow w0.heap.size 157 4 (.slice C3 l.us.length r3) l.us.length (flat l.us.length 4 (ruF l.us))
  p : wr.ownsRow w0.heap.size 159 3 (.slice C4 l.ps.length r4) l.ps.length (flat l.ps.length 3 (plF l.ps))
  w : wr.ownsRow w0.heap.size 76 7 (.slice C5 l.ws.length r5) l.ws.length (flat l.ws.length 7 (wiF l.ws cv))
  x : ∀ i, i < l.ws.length → IntsX wr (fun b => b = rb ∨ (Value.slice C5 l.ws.length r5).ownBlock = some b) (cv i) (l.ws.getD i Wi.o).form
  rb : rb < w0.heap.size
def copR (w0 : World) (l : Lo) (cv : Nat → Value) (j : Nat) (v : Value) (w : World) : Prop :=
  match j with
  | 0 => w0.heap.size ≤ w.heap.size ∧ ∃ g, v = .slice (some ⟨g, 0, none⟩) 0 0 ∧ w.ownsRow w0.heap.size 155 3 v 0 []
  | 4 => w0.heap.size ≤ w.heap.size ∧ ∃ g, v = .slice (some ⟨g, 0, none⟩) 0 0 ∧ w.ownsRow w0.heap.size 157 4 v 0 []
  | 8 => w0.heap.size ≤ w.heap.size ∧ ∃ g, v = .slice (some ⟨g, 0, none⟩) 0 0 ∧ w.ownsRow w0.heap.size 159 3 v 0 []
  | 12 => w0.heap.size ≤ w.heap.size ∧ ∃ g, v = .slice (some ⟨g, 0, none⟩) 0 0 ∧ w.ownsRow w0.heap.size 76 7 v 0 []
  | 3 => w.ownsRow w0.heap.size 155 3 v l.ss.length (flat l.ss.length 3 (spF l.ss))
  | 7 => w.ownsRow w0.heap.size 157 4 v l.us.length (flat l.us.length 4 (ruF l.us))
  | 11 => w.ownsRow w0.heap.size 159 3 v l.ps.length (flat l.ps.length 3 (plF l.ps))
  | 15 => w.ownsRow w0.heap.size 76 7 v l.ws.length (flat l.ws.length 7 (wiF l.ws cv))
  | 16 => ∃ a b c d, v = .agg #[.slice none 0 0, .slice none 0 0, a, b, c, d] ∧ w.ownsRow w0.heap.size 155 3 a l.ss.length (flat l.ss.length 3 (spF l.ss)) ∧ w.ownsRow w0.heap.size 157 4 b l.us.length (flat l.us.length 4 (ruF l.us)) ∧
      w.ownsRow w0.heap.size 159 3 c l.ps.length (flat l.ps.length 3 (plF l.ps)) ∧ w.ownsRow w0.heap.size 76 7 d l.ws.length (flat l.ws.length 7 (wiF l.ws cv))
  | 17 => ∃ p, v = .pointer (some ⟨p, 0, none⟩) ∧ w0.heap.size ≤ p ∧ w.heap[p]? = some (.cells #[.slice none 0 0, .slice none 0 0, .slice none 0 0, .slice none 0 0, .slice none 0 0, .slice none 0 0] 31 (0, 0))
  | _ => True
end Go.Proofs.YtehadoecnmfeoaaGreat
/- The wires of a variant that use a run: walks. -/
namespace Go.Proofs.YtehadoecnmfeoaaGreat
open Go.RowKit
set_option linter.unusedVariables false
set_option linter.unusedSimpArgs false
def inB (l : Lo) (v : List Bool) (i : Nat) : Bool := holB l.m (l.ws.getD i Wi.o).form v
def carE (l : Lo) (run : Int) (v : List Bool) : Int := havE l (btw run 0 ((l.us.length : Int) - 1) && decide (v.length = l.m.opts.length))
def carL (l : Lo) (run : Int) (v : List Bool) : List Nat := if carE l run v = 0 then (List.range l.ws.length).filter (fun i => thruB l run.toNat i && inB l v i) else []
end Go.Proofs.YtehadoecnmfeoaaGreat
/- The example of the laws: walk. -/
namespace Go.Proofs.YtehadoecnmfeoaaGreat
open Go.RowKit
set_option linter.unusedVariables false
set_option linter.unusedSimpArgs false
def exL : Lo := ⟨⟨[⟨#[116, 111, 119]⟩, ⟨#[104, 101, 97, 116]⟩], []⟩, [⟨0, 0, 0⟩, ⟨100, 0, 0⟩, ⟨100, 50, 0⟩, ⟨200, 0, 0⟩], [⟨0, 1, 110, 5⟩, ⟨1, 2, 50, 3⟩, ⟨1, 3, 100, 3⟩],
  [⟨⟨#[97]⟩, 0, 2⟩, ⟨⟨#[98]⟩, 2, 2⟩, ⟨⟨#[99]⟩, 3, 2⟩], [⟨⟨#[120]⟩, 0, 0, 1, 0, 2, [0]⟩, ⟨⟨#[121]⟩, 0, 1, 2, 0, 2, [1]⟩, ⟨⟨#[122]⟩, 0, 0, 2, 1, 1, [1]⟩]⟩
def allocs (w : World) : List Obj → World
  | [] => w
  | o :: r => allocs (w.alloc o) r
theorem allocs_below (w : World) (B : Nat) (hB : B ≤ w.heap.size) : ∀ os : List Obj, Below B w (allocs w os)
  | [] => Below.refl _ _
  | o :: r => ((Below.refl B w).alloc hB o).trans (allocs_below (w.alloc o) B (by simp; omega) r)
theorem allocs_get (w : World) : ∀ (os : List Obj) (i : Nat), i < os.length → (allocs w os).heap[w.heap.size + i]? = os[i]?
  | o :: r, 0, _ => by
    show (allocs (w.alloc o) r).heap[w.heap.size]? = some o
    exact ((allocs_below (w.alloc o) (w.heap.size + 1) (by simp) r).block _ (by omega)).trans (heap_alloc_new w o)
  | o :: r, i + 1, h => by
    have := allocs_get (w.alloc o) r i (by simpa using h)
    show (allocs (w.alloc o) r).heap[w.heap.size + (i + 1)]? = r[i]?
    rw [← this]
    congr 1
    simp
    omega
end Go.Proofs.YtehadoecnmfeoaaGreat

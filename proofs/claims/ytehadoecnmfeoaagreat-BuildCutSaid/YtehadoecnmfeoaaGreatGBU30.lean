/- Part 30 of this claim's texts: walks and plain laws. -/
import Derived.Test.YtehadoecnmfeoaaGreatRows
import Derived.Test.YtehadoecnmfeoaaGreatGBU29
import Derived.Laws.EntriesVeiled
import Derived.Deep.RegionHeld3
import Derived.Deep.DrawnRows
import Derived.BigQuiet
import Derived.Test.YtehadoecnmfeoaaGreatGBU28
import Derived.Test.YtehadoecnmfeoaaGreatGBU27
/- The program's search for a way: walk of its closure. -/
namespace Go.Proofs.YtehadoecnmfeoaaGreat
open Go.RowKit
set_option linter.unusedVariables false
set_option linter.unusedSimpArgs false
def VyYes (w0 : World) (n : Nat) (A0 A1 A2 A3 A4 A5 : Option Addr) (q0 q1 q2 q3 q4 q5 : Nat) (l : Lo) (back : Int) (a b : Nat) (S R : List Nat) (e : Ending) (w' : World) : Prop :=
  ∃ (P : List Nat) (sv rv : Value), WayP l.rs back a P b ∧ e = .returned (.bool true) ∧ WyAt w0 w' n A0 A1 A2 A3 A4 A5 q0 q1 q2 q3 q4 q5 l b sv rv (S ++ spotsW l.rs a P) (R ++ P)
def VyNo (w0 : World) (n : Nat) (A0 A1 A2 A3 A4 A5 : Option Addr) (q0 q1 q2 q3 q4 q5 : Nat) (l : Lo) (b : Nat) (S R : List Nat) (e : Ending) (w' : World) : Prop :=
  ∃ (sv rv : Value), e = .returned (.bool false) ∧ WyAt w0 w' n A0 A1 A2 A3 A4 A5 q0 q1 q2 q3 q4 q5 l b sv rv S R
theorem wy_cap {w : World} {B e n : Nat} {v : Value} {xs : List Value} (h : w.ownsRow B e 1 v n xs) : ∃ A cap, v = .slice A n cap ∧ (n : Int) ≤ (cap : Int) := by
  rcases h.2 with ⟨h1, h2⟩ | ⟨g, cap, cur, h1, _, _, h2, h3, _⟩
  · exact ⟨none, 0, by rw [h1, h2], by omega⟩
  · exact ⟨_, cap, h1, by omega⟩
theorem wy_formR {w0 w : World} {n b k : Nat} {A0 A1 A2 A3 A4 A5 : Option Addr} {q0 q1 q2 q3 q4 q5 : Nat} {l : Lo} {sv rv : Value} {S R : List Nat} (h : WyAt w0 w n A0 A1 A2 A3 A4 A5 q0 q1 q2 q3 q4 q5 l b sv rv S (R ++ [k])) : ∃ A cap, rv = .slice A (R.length + 1) cap ∧ (R.length : Int) + 1 ≤ (cap : Int) := by
  have h1 := h.rr
  rw [List.length_append, List.length_singleton] at h1
  obtain ⟨A, cap, h2, h3⟩ := wy_cap h1
  exact ⟨A, cap, h2, by omega⟩
theorem wy_formS {w0 w : World} {n b k : Nat} {A0 A1 A2 A3 A4 A5 : Option Addr} {q0 q1 q2 q3 q4 q5 : Nat} {l : Lo} {sv rv : Value} {S R : List Nat} (h : WyAt w0 w n A0 A1 A2 A3 A4 A5 q0 q1 q2 q3 q4 q5 l b sv rv (S ++ [k]) R) : ∃ A cap, sv = .slice A (S.length + 1) cap ∧ (S.length : Int) + 1 ≤ (cap : Int) := by
  have h1 := h.sr
  rw [List.length_append, List.length_singleton] at h1
  obtain ⟨A, cap, h2, h3⟩ := wy_cap h1
  exact ⟨A, cap, h2, by omega⟩
theorem wy_form {w : World} {B : Nat} {v : Value} {S : List Nat} (h : w.ownsRow B 3 1 v S.length (nvL S)) : ∃ A cap, v = .slice A S.length cap := owns_form h
set_option maxRecDepth 100000 in
set_option maxHeartbeats 4000000 in
theorem wayV_any (A0 A1 A2 A3 A4 A5 : Option Addr) (q0 q1 q2 q3 q4 q5 : Nat) (l : Lo) (ok : LoOk l) (w0 : World) (n : Nat) (HA : LoA w0 n A0 A1 A2 A3 A4 A5 q0 q1 q2 q3 q4 q5 l) (b : Nat) (hbn : b < l.ss.length) : ∀ (m : Nat) (a : Nat) (back f : Int) (S R : List Nat) (sv rv : Value) (w : World), WyAt w0 w n A0 A1 A2 A3 A4 A5 q0 q1 q2 q3 q4 q5 l b sv rv S R → sideN l.rs l.ss.length back a ≤ m → ((back = -1 ∧ f = -1) ∨ ∃ j p : Nat, j < l.rs.length ∧ back = (j : Nat) ∧ f = (p : Nat) ∧ Inc l.rs j p a) → a < l.ss.length → S.length + m ≤ 200 → R.length + m ≤ 200 →
    Calls Tryz.prog 251 #[.int .i64 a, .int .i64 f, .pointer (some ⟨n + 2, 0, none⟩), .pointer (some ⟨n + 1, 0, none⟩), .pointer (some ⟨n, 0, none⟩), .pointer (some ⟨n + 3, 0, none⟩), .pointer (some ⟨n + 4, 0, none⟩)] w fun e w' => (Rch l.rs back a b ∧ VyYes w0 n A0 A1 A2 A3 A4 A5 q0 q1 q2 q3 q4 q5 l back a b S R e w') ∨ (¬ Rch l.rs back a b ∧ VyNo w0 n A0 A1 A2 A3 A4 A5 q0 q1 q2 q3 q4 q5 l b S R e w') := by
  obtain ⟨i0, hi0, iz0, iz1, iz2⟩ := info_parts infoInt
  have OK := hide ok
  have T := hide ok.tree
  have s40 := ok.s40
  have u40 := ok.u40
  have hin := ok.runsIn
  have HIN := hide hin
  have H := hide HA
  clear hin ok HA
  intro m
  induction m with
  | zero =>
    intro a back f S R sv rv w h hm hb ha hQ hQ2
    exfalso
    have : 0 < sideN l.rs l.ss.length back a := by
      unfold sideN
      rw [List.countP_pos_iff]
      exact ⟨a, by simpa using ha, by simpa using Rch.base⟩
    omega
  | succ m ih =>
    intro a back f S R sv rv w h hm hb ha hQ hQ2
    have W := hide h
    have hz := h.size
    have HB := hide hb
    have HM := hide hm
    have HIH := hide ih
    have hn0 := h.n0
    obtain ⟨As, caps, rfl⟩ := wy_form h.sr
    have t0 := cellOf h.tb 0
    have s0 := cellOf h.s 0
    have s1 := unfrozenOf h.s 0
    have ls : n + 2 < w.heap.size := by omega
    have lt : n + 1 < w.heap.size := by omega
    have hS2 : S.length ≤ 200 := by omega
    clear h hb hm ih hn0
    go_enter Tryz.func251, Tryz.ntmps251
    go_upto_region 1 with (fail)
    go_upto_region 2 with (at_builtin; go_must (refine wpList_append_own_at _ rfl (.tmp 13) (.tmp 15) _ rfl (n + 5) 3 i0 _ 1 8 Tryz.underlying45 hi0 iz0 iz1 iz2 rfl (by omega) _ _ _ rfl (World.ownsRow.alloc W.out.sr _) ⟨w.heap.size, 0, none⟩ 1 1 [.int .i64 a] rfl rfl (World.news_of_block (heap_alloc_new w _)) (by simp [Value.oneCell']) (by unfold maxLen; omega) (by omega) (by simp; omega) ?_); intro v1 w1 hown1 hg1 _ hat1; have hw1 := W.out.snoS hown1 hg1 hat1; obtain ⟨A1', cap1, hv1⟩ := owns_form hown1; subst hv1; have hob := ((hg1.block (n + 2) (by simp; omega) (fun e => by have := (W.out.sr.lt _ e.symm).1; omega)).trans (Below.heap_alloc _ _ _ ls)).trans W.out.s; have u0 := cellOf hob 0; have u1 := unfrozenOf hob 0; have lu := box_lt hob; have HW1 := hide hw1; clear hw1 hob hown1 hg1 hat1 s0 s1 ls t0 lt)
    generalize hw2 : World.setCell _ _ _ = w2 at HW1 ⊢
    clear hw2 u0 u1 lu
    have x0 := cellOf HW1.out.tb 0
    have lx := box_lt HW1.out.tb
    have c0 := cellOf HW1.out.box 0; have c1 := cellOf HW1.out.box 1; have c2 := cellOf HW1.out.box 2; have c3 := cellOf HW1.out.box 3; have c4 := cellOf HW1.out.box 4; have c5 := cellOf HW1.out.box 5
    have hlb := box_lt HW1.out.box
    by_cases hab : a = b
    · have e1 : ((a : Int) == (b : Int)) = true := by simp [hab]
      have HAB := hide hab
      clear hab
      go_wp2_with fail
      go_ret
      have hab := HAB.out
      subst hab
      refine .inl ⟨.base, [], .slice A1' (S.length + 1) cap1, rv, .nil, rfl, ?_⟩
      rw [List.append_nil]
      exact HW1.out
    have e1 : ((a : Int) == (b : Int)) = false := by simp; omega
    have hbb : back = -1 ∨ ∃ j p : Nat, j < l.rs.length ∧ back = (j : Nat) ∧ Inc l.rs j p a := by
      rcases HB.out with ⟨h1, _⟩ | ⟨j, p, hj, h1, _, hi⟩
      · exact .inl h1
      · exact .inr ⟨j, p, hj, h1, hi⟩
    have HBB := hide hbb
    clear hbb
    have HAB := hide hab
    have hz2 := HW1.out.size
    clear hab
    go_wp2_with fail
    clear c0 c1 c2 c3 c4 c5 hlb x0 lx
    go_loopw [10, 11, 12, 23] (fun _ _ _ i wr => ∃ (k : Nat) (sv1 rv1 : Value), k ≤ l.us.length ∧ i = .int .i64 k ∧ Hid (∀ j, j < k → (j : Int) ≠ back → ((l.rs.getD j (0, 0)).1 = a ∨ (l.rs.getD j (0, 0)).2 = a) → ¬ Rch l.rs j (farEnd l.rs j a) b) ∧ Hid (WyAt w0 wr n A0 A1 A2 A3 A4 A5 q0 q1 q2 q3 q4 q5 l b sv1 rv1 (S ++ [a]) R)) (fun _ _ _ i _ => l.us.length - (intOf i).toNat)
    case atStart => exact ⟨0, _, _, Nat.zero_le _, rfl, fun j hj => by omega, HW1.out⟩
    case round =>
      obtain ⟨k, sv1, rv1, hk, rfl, hall, HW⟩ := hrel
      have c0 := cellOf HW.out.box 0; have c1 := cellOf HW.out.box 1; have c2 := cellOf HW.out.box 2; have c3 := cellOf HW.out.box 3; have c4 := cellOf HW.out.box 4; have c5 := cellOf HW.out.box 5
      have hlb := box_lt HW.out.box
      by_cases hkl : k < l.us.length
      · obtain ⟨bu, offu, r, HRU, rfl, hbu, hq3, f0, f1, f2, f3⟩ := (H.out.below HW.out.below).ru hkl
        have hrin := HIN.out r (by rw [← HRU.out]; exact getD_mem3f hkl)
        obtain ⟨ra, rb, rl, rr⟩ := r
        obtain ⟨a1, a2, b1, b2⟩ := hrin
        simp only at a1 a2 b1 b2 f0 f1 f2 f3
        obtain ⟨ka, rfl⟩ := Int.eq_ofNat_of_zero_le a1
        obtain ⟨kb, rfl⟩ := Int.eq_ofNat_of_zero_le b1
        have hrs : l.rs.getD k (0, 0) = (ka, kb) := by rw [rs_getD l hkl, HRU.out]; simp
        have HRS := hide hrs
        have lbu : bu < wr.heap.size := by have := HW.out.size; omega
        have ik0 : (0 : Int) ≤ (k : Int) := by omega
        have ik : (k : Int) < (l.us.length : Int) := by omega
        have iq : (l.us.length : Int) ≤ (q3 : Int) := by omega
        have hkr : k < l.rs.length := by rw [rs_len]; exact hkl
        clear hrs
        go_upto_region 7 with (fail)
        generalize hw1 : World.alloc _ _ = w3
        obtain ⟨hb1, hB1, hs1⟩ := alloc1 hw1
        have z0 := cellOf hb1 0; have z1 := cellOf hb1 1; have z2 := cellOf hb1 2; have z3 := cellOf hb1 3
        have lz := box_lt hb1
        have HW3 := hide (HW.out.up hB1)
        clear hw1 hb1 hB1 hs1 c0 c1 c2 c3 c4 c5 hlb f0 f1 f2 f3 lbu
        by_cases hinc : ka = a ∨ kb = a
        case neg =>
          have g1 : ((a : Int) == (ka : Int)) = false := by simp; omega
          have g2 : ((a : Int) == (kb : Int)) = false := by simp; omega
          have HINC := hide hinc
          clear hinc
          go_wp2_with fail
          go_roundw
          case rel => exact ⟨k + 1, _, _, by omega, by go_num, fun j hj hne hi => by
              rcases Nat.lt_or_ge j k with h | h
              · exact hall.out j h hne hi
              · rw [show j = k from by omega, HRS.out] at hi; exact absurd hi HINC.out, HW3.out⟩
          case measure => simp [intOf]; omega
        have hback : ((farEnd l.rs k a : Nat) : Int) = f ↔ (k : Int) = back := by
          rcases HB.out with ⟨h1, h2⟩ | ⟨j, p, hj, h1, h2, hi⟩
          · rw [h1, h2]; constructor <;> intro h <;> omega
          · rw [h1, h2]
            have := T.out.back_same hj hkr hi (by rw [HRS.out]; exact hinc)
            constructor
            · intro h; have := this.1 (by omega); omega
            · intro h; have := this.2 (by omega); omega
        have hIxy : Inc l.rs k a (farEnd l.rs k a) := far_inc (by rw [HRS.out]; exact hinc)
        have hyl : farEnd l.rs k a < l.ss.length := (T.out.inc_lt hkr hIxy).2
        by_cases hka : ka = a
        · have hy : farEnd l.rs k a = kb := by unfold farEnd; rw [HRS.out]; simp [hka]
          rw [hy] at hback hIxy hyl
          have HY := hide hy
          have HINC := hide hinc
          have g1 : ((a : Int) == (ka : Int)) = true := by simp [hka]
          have gn : decide ((kb : Int) < 0) = false := by simp
          have gn2 : ¬ (kb : Int) < 0 := by omega
          clear hy hinc hka
          by_cases hf : ((kb : Nat) : Int) = f
          · have gf : ((kb : Int) == f) = true := by simpa using hf
            have HKB := hide (hback.1 hf)
            clear hf hback hIxy
            go_wp2_with fail
            go_roundw
            case rel => exact ⟨k + 1, _, _, by omega, by go_num, fun j hj hne hi => by
                rcases Nat.lt_or_ge j k with h | h
                · exact hall.out j h hne hi
                · rw [show j = k from by omega] at hne; exact absurd HKB.out hne, HW3.out⟩
            case measure => simp [intOf]; omega
          have gf : ((kb : Int) == f) = false := by simpa using hf
          have HKB : Hid ((k : Int) ≠ back) := fun h => hf (hback.2 h)
          have HIXY := hide hIxy
          have hless : sideN l.rs l.ss.length k kb ≤ m := by
            have := T.out.side_less hkr HKB.out (by
              rcases HB.out with ⟨h1, _⟩ | ⟨j, p, hj, h1, _, hi⟩
              · exact .inl h1
              · exact .inr ⟨j, p, hj, h1, hi⟩) hIxy
            have := HM.out
            omega
          have HLESS := hide hless
          obtain ⟨Ar, capr, rfl⟩ := wy_form HW3.out.rr
          have s0 := cellOf HW3.out.r 0
          have s1 := unfrozenOf HW3.out.r 0
          have ls := box_lt HW3.out.r
          have hR2 : R.length ≤ 200 := by omega
          have hz3 := HW3.out.size
          clear hf hback hIxy hless
          go_upto_region 15 with (at_builtin; go_must (refine wpList_append_own_at _ rfl (.tmp 48) (.tmp 50) _ rfl (n + 5) 3 i0 _ 1 8 Tryz.underlying45 hi0 iz0 iz1 iz2 rfl (by omega) _ _ _ rfl (World.ownsRow.alloc HW3.out.rr _) ⟨w3.heap.size, 0, none⟩ 1 1 [.int .i64 k] rfl rfl (World.news_of_block (heap_alloc_new w3 _)) (by simp [Value.oneCell']) (by unfold maxLen; omega) (by omega) (by simp; omega) ?_); intro v1 w4 hown1 hg1 _ hat1; have hw4 := HW3.out.snoR hown1 hg1 hat1; obtain ⟨A2', cap2, hv1⟩ := owns_form hown1; subst hv1; have hob := ((hg1.block (n + 3) (by simp; omega) (fun e => by have := (HW3.out.rr.lt _ e.symm).1; omega)).trans (Below.heap_alloc _ _ _ ls)).trans HW3.out.r; have u0 := cellOf hob 0; have u1 := unfrozenOf hob 0; have lu := box_lt hob; have HW4 := hide hw4; clear hw4 hob hown1 hg1 hat1 s0 s1 ls z0 z1 z2 z3 lz)
          generalize hw5 : World.setCell _ _ _ = w5 at HW4 ⊢
          clear hw5 u0 u1 lu
          have v0 := cellOf HW4.out.v 0
          have lv := box_lt HW4.out.v
          have hcall := HIH.out kb k a (S ++ [a]) (R ++ [k]) _ _ w5 HW4.out HLESS.out (.inr ⟨k, a, hkr, rfl, rfl, HIXY.out⟩) hyl (by simp; omega) (by simp; omega)
          by_cases hri : Rch l.rs k kb b
          · have hyes := Calls.mono hcall (show ∀ e w', _ → VyYes w0 n A0 A1 A2 _ A4 A5 q0 q1 q2 q3 q4 q5 l (k : Nat) kb b (S ++ [a]) (R ++ [k]) e w' from by
              rintro e w' (h | h)
              · exact h.2
              · exact absurd hri h.1)
            have HYES := hide hyes
            have HRI := hide hri
            clear hyes hri hcall
            go_wp2_with (go_at_call 251; refine HYES.out.mono ?_; rintro e w6 ⟨P, sv6, rv6, hP6, rfl, hW6⟩; have HP6 := hide hP6; have HW6 := hide hW6; clear hP6 hW6 v0 lv)
            go_ret
            have hway : WayP l.rs back a (k :: P) b := .cons hkr HKB.out HIXY.out HAB.out HRI.out HP6.out
            refine .inl ⟨hway.rch T.out HBB.out, k :: P, sv6, rv6, hway, rfl, ?_⟩
            have e1 : S ++ [a] ++ spotsW l.rs kb P = S ++ spotsW l.rs a (k :: P) := by simp [spotsW, HY.out]
            have e2 : R ++ [k] ++ P = R ++ k :: P := by simp
            rw [← e1, ← e2]
            exact HW6.out
          have hno := Calls.mono hcall (show ∀ e w', _ → VyNo w0 n A0 A1 A2 _ A4 A5 q0 q1 q2 q3 q4 q5 l b (S ++ [a]) (R ++ [k]) e w' from by
            rintro e w' (h | h)
            · exact absurd h.1 hri
            · exact h.2)
          have HNO := hide hno
          have HRI := hide hri
          clear hno hri hcall
          go_upto_region 18 with (go_at_call 251; refine HNO.out.mono ?_; rintro e w6 ⟨sv6, rv6, rfl, hW6⟩; obtain ⟨A6, cap6, hv6, hcap6⟩ := wy_formR hW6; subst hv6; have q0' := cellOf hW6.r 0; have q1' := unfrozenOf hW6.r 0; have lq := box_lt hW6.r; have HW6 := hide hW6; clear hW6 v0 lv)
          have HW7 := hide (HW6.out.popR)
          generalize hw7 : World.setCell _ _ _ = w7 at HW7 ⊢
          clear hw7 q0' q1' lq hcap6
          go_wp2_with fail
          go_roundw
          case rel => exact ⟨k + 1, _, _, by omega, by go_num, fun j hj hne hi => by
              rcases Nat.lt_or_ge j k with h | h
              · exact hall.out j h hne hi
              · rw [show j = k from by omega, HY.out]; exact HRI.out, HW7.out⟩
          case measure => simp [intOf]; omega
        · have hy : farEnd l.rs k a = ka := by unfold farEnd; rw [HRS.out]; simp [hka]
          rw [hy] at hback hIxy hyl
          have HY := hide hy
          have HINC := hide hinc
          have g1 : ((a : Int) == (ka : Int)) = false := by simp; omega
          have g2 : ((a : Int) == (kb : Int)) = true := by simp; omega
          have gn : decide ((ka : Int) < 0) = false := by simp
          have gn2 : ¬ (ka : Int) < 0 := by omega
          clear hy hinc hka
          by_cases hf : ((ka : Nat) : Int) = f
          · have gf : ((ka : Int) == f) = true := by simpa using hf
            have HKB := hide (hback.1 hf)
            clear hf hback hIxy
            go_wp2_with fail
            go_roundw
            case rel => exact ⟨k + 1, _, _, by omega, by go_num, fun j hj hne hi => by
                rcases Nat.lt_or_ge j k with h | h
                · exact hall.out j h hne hi
                · rw [show j = k from by omega] at hne; exact absurd HKB.out hne, HW3.out⟩
            case measure => simp [intOf]; omega
          have gf : ((ka : Int) == f) = false := by simpa using hf
          have HKB : Hid ((k : Int) ≠ back) := fun h => hf (hback.2 h)
          have HIXY := hide hIxy
          have hless : sideN l.rs l.ss.length k ka ≤ m := by
            have := T.out.side_less hkr HKB.out (by
              rcases HB.out with ⟨h1, _⟩ | ⟨j, p, hj, h1, _, hi⟩
              · exact .inl h1
              · exact .inr ⟨j, p, hj, h1, hi⟩) hIxy
            have := HM.out
            omega
          have HLESS := hide hless
          obtain ⟨Ar, capr, rfl⟩ := wy_form HW3.out.rr
          have s0 := cellOf HW3.out.r 0
          have s1 := unfrozenOf HW3.out.r 0
          have ls := box_lt HW3.out.r
          have hR2 : R.length ≤ 200 := by omega
          have hz3 := HW3.out.size
          clear hf hback hIxy hless
          go_upto_region 15 with (at_builtin; go_must (refine wpList_append_own_at _ rfl (.tmp 48) (.tmp 50) _ rfl (n + 5) 3 i0 _ 1 8 Tryz.underlying45 hi0 iz0 iz1 iz2 rfl (by omega) _ _ _ rfl (World.ownsRow.alloc HW3.out.rr _) ⟨w3.heap.size, 0, none⟩ 1 1 [.int .i64 k] rfl rfl (World.news_of_block (heap_alloc_new w3 _)) (by simp [Value.oneCell']) (by unfold maxLen; omega) (by omega) (by simp; omega) ?_); intro v1 w4 hown1 hg1 _ hat1; have hw4 := HW3.out.snoR hown1 hg1 hat1; obtain ⟨A2', cap2, hv1⟩ := owns_form hown1; subst hv1; have hob := ((hg1.block (n + 3) (by simp; omega) (fun e => by have := (HW3.out.rr.lt _ e.symm).1; omega)).trans (Below.heap_alloc _ _ _ ls)).trans HW3.out.r; have u0 := cellOf hob 0; have u1 := unfrozenOf hob 0; have lu := box_lt hob; have HW4 := hide hw4; clear hw4 hob hown1 hg1 hat1 s0 s1 ls z0 z1 z2 z3 lz)
          generalize hw5 : World.setCell _ _ _ = w5 at HW4 ⊢
          clear hw5 u0 u1 lu
          have v0 := cellOf HW4.out.v 0
          have lv := box_lt HW4.out.v
          have hcall := HIH.out ka k a (S ++ [a]) (R ++ [k]) _ _ w5 HW4.out HLESS.out (.inr ⟨k, a, hkr, rfl, rfl, HIXY.out⟩) hyl (by simp; omega) (by simp; omega)
          by_cases hri : Rch l.rs k ka b
          · have hyes := Calls.mono hcall (show ∀ e w', _ → VyYes w0 n A0 A1 A2 _ A4 A5 q0 q1 q2 q3 q4 q5 l (k : Nat) ka b (S ++ [a]) (R ++ [k]) e w' from by
              rintro e w' (h | h)
              · exact h.2
              · exact absurd hri h.1)
            have HYES := hide hyes
            have HRI := hide hri
            clear hyes hri hcall
            go_wp2_with (go_at_call 251; refine HYES.out.mono ?_; rintro e w6 ⟨P, sv6, rv6, hP6, rfl, hW6⟩; have HP6 := hide hP6; have HW6 := hide hW6; clear hP6 hW6 v0 lv)
            go_ret
            have hway : WayP l.rs back a (k :: P) b := .cons hkr HKB.out HIXY.out HAB.out HRI.out HP6.out
            refine .inl ⟨hway.rch T.out HBB.out, k :: P, sv6, rv6, hway, rfl, ?_⟩
            have e1 : S ++ [a] ++ spotsW l.rs ka P = S ++ spotsW l.rs a (k :: P) := by simp [spotsW, HY.out]
            have e2 : R ++ [k] ++ P = R ++ k :: P := by simp
            rw [← e1, ← e2]
            exact HW6.out
          have hno := Calls.mono hcall (show ∀ e w', _ → VyNo w0 n A0 A1 A2 _ A4 A5 q0 q1 q2 q3 q4 q5 l b (S ++ [a]) (R ++ [k]) e w' from by
            rintro e w' (h | h)
            · exact absurd h.1 hri
            · exact h.2)
          have HNO := hide hno
          have HRI := hide hri
          clear hno hri hcall
          go_upto_region 18 with (go_at_call 251; refine HNO.out.mono ?_; rintro e w6 ⟨sv6, rv6, rfl, hW6⟩; obtain ⟨A6, cap6, hv6, hcap6⟩ := wy_formR hW6; subst hv6; have q0' := cellOf hW6.r 0; have q1' := unfrozenOf hW6.r 0; have lq := box_lt hW6.r; have HW6 := hide hW6; clear hW6 v0 lv)
          have HW7 := hide (HW6.out.popR)
          generalize hw7 : World.setCell _ _ _ = w7 at HW7 ⊢
          clear hw7 q0' q1' lq hcap6
          go_wp2_with fail
          go_roundw
          case rel => exact ⟨k + 1, _, _, by omega, by go_num, fun j hj hne hi => by
              rcases Nat.lt_or_ge j k with h | h
              · exact hall.out j h hne hi
              · rw [show j = k from by omega, HY.out]; exact HRI.out, HW7.out⟩
          case measure => simp [intOf]; omega
      · have hke : k = l.us.length := by omega
        subst hke
        have hno : ¬ Rch l.rs back a b := T.out.none_way HAB.out (fun j hj hne hi => hall.out j (by rw [← rs_len]; exact hj) hne hi)
        have HNO := hide hno
        obtain ⟨A6, cap6, rfl, hcap6⟩ := wy_formS HW.out
        have q0' := cellOf HW.out.s 0
        have q1' := unfrozenOf HW.out.s 0
        have lq := box_lt HW.out.s
        clear hno
        go_upto_region 20 with (fail)
        have HW7 := hide (HW.out.popS)
        generalize hw7 : World.setCell _ _ _ = w7 at HW7 ⊢
        clear hw7
        go_wp2_with fail
        go_ret
        exact .inr ⟨HNO.out, _, _, rfl, HW7.out⟩
end Go.Proofs.YtehadoecnmfeoaaGreat
/- The program's way between two spots: walk. -/
namespace Go.Proofs.YtehadoecnmfeoaaGreat
open Go.RowKit
set_option linter.unusedVariables false
set_option linter.unusedSimpArgs false
theorem WyAt.setS {w0 w : World} {n b : Nat} {A0 A1 A2 A3 A4 A5 : Option Addr} {q0 q1 q2 q3 q4 q5 : Nat} {l : Lo} {sv rv : Value} {S R : List Nat} (h : WyAt w0 w n A0 A1 A2 A3 A4 A5 q0 q1 q2 q3 q4 q5 l b sv rv S R) : WyAt w0 (w.setCell ⟨n + 2, 0, none⟩ sv) n A0 A1 A2 A3 A4 A5 q0 q1 q2 q3 q4 q5 l b sv rv S R := by
  have hk : ∀ k, k ≠ n + 2 → (w.setCell ⟨n + 2, 0, none⟩ sv).heap[k]? = w.heap[k]? := fun k h3 => Below.heap_setCell _ _ _ _ h3
  exact ⟨Below.setCell h.below (by show n ≤ n + 2; omega) _, (hk n (by omega)).trans h.box, (hk _ (by omega)).trans h.tb, setCellOf h.s _, (hk _ (by omega)).trans h.r, (hk _ (by omega)).trans h.v, ownsRow_same h.sr fun k h1 => hk k (by have := (h.sr.lt k h1).1; omega), ownsRow_same h.rr fun k h1 => hk k (by have := (h.rr.lt k h1).1; omega), h.ne, h.n0⟩
theorem WyAt.setR {w0 w : World} {n b : Nat} {A0 A1 A2 A3 A4 A5 : Option Addr} {q0 q1 q2 q3 q4 q5 : Nat} {l : Lo} {sv rv : Value} {S R : List Nat} (h : WyAt w0 w n A0 A1 A2 A3 A4 A5 q0 q1 q2 q3 q4 q5 l b sv rv S R) : WyAt w0 (w.setCell ⟨n + 3, 0, none⟩ rv) n A0 A1 A2 A3 A4 A5 q0 q1 q2 q3 q4 q5 l b sv rv S R := by
  have hk : ∀ k, k ≠ n + 3 → (w.setCell ⟨n + 3, 0, none⟩ rv).heap[k]? = w.heap[k]? := fun k h3 => Below.heap_setCell _ _ _ _ h3
  exact ⟨Below.setCell h.below (by show n ≤ n + 3; omega) _, (hk n (by omega)).trans h.box, (hk _ (by omega)).trans h.tb, (hk _ (by omega)).trans h.s, setCellOf h.r _, (hk _ (by omega)).trans h.v, ownsRow_same h.sr fun k h1 => hk k (by have := (h.sr.lt k h1).1; omega), ownsRow_same h.rr fun k h1 => hk k (by have := (h.rr.lt k h1).1; omega), h.ne, h.n0⟩
theorem results_cell_cell {P : Program} {fn : Func} {p u : Tmp} {ty ty2 : TypeId} (h : fn.results = #[.cell p ty, .cell u ty2]) (tmps : Array Value) (w : World) :
    (results fn tmps).run P w = ((asAddr (tmps.getD p undef)).run P w).andThen fun a w₁ => ((loadVar ty a).run P w₁).andThen fun v w₂ => ((asAddr (tmps.getD u undef)).run P w₂).andThen fun a2 w₃ => ((loadVar ty2 a2).run P w₃).andThen fun v2 w₄ => .ok (.tuple #[v, v2]) w₄ := by
  simp only [results, h]
  simp [Sem.run_bind, Result.andThen]
  try (congr; done)
theorem alloc5x {w w0 : World} {o p q r s : Obj} (h : ((((w.alloc o).alloc p).alloc q).alloc r).alloc s = w0) : w0.heap[w.heap.size]? = some o ∧ w0.heap[w.heap.size + 1]? = some p ∧ w0.heap[w.heap.size + 1 + 1]? = some q ∧ w0.heap[w.heap.size + 1 + 1 + 1]? = some r ∧ w0.heap[w.heap.size + 1 + 1 + 1 + 1]? = some s ∧ Below w.heap.size w w0 := by
  have hw : allocs w [o, p, q, r, s] = w0 := h
  subst hw
  exact ⟨allocs_get w _ 0 (by simp), allocs_get w _ 1 (by simp), allocs_get w _ 2 (by simp), allocs_get w _ 3 (by simp), allocs_get w _ 4 (by simp), allocs_below w _ (Nat.le_refl _) _⟩
set_option maxRecDepth 100000 in
set_option maxHeartbeats 4000000 in
theorem wayO_any (a b : Nat) (A0 A1 A2 A3 A4 A5 : Option Addr) (q0 q1 q2 q3 q4 q5 : Nat) (l : Lo) (w : World) (h : LoA w w.heap.size A0 A1 A2 A3 A4 A5 q0 q1 q2 q3 q4 q5 l) (ok : LoOk l) (ha : a < l.ss.length) (hb : b < l.ss.length) :
    Calls Tryz.prog 230 #[.agg #[.slice A0 l.m.opts.length q0, .slice A1 l.m.rules.length q1, .slice A2 l.ss.length q2, .slice A3 l.us.length q3, .slice A4 l.ps.length q4, .slice A5 l.ws.length q5], .int .i64 a, .int .i64 b] w fun e w' => ∃ (P : List Nat) (sv rv : Value), WayP l.rs (-1) a P b ∧ e = .returned (.tuple #[sv, rv]) ∧ w'.ownsRow w.heap.size 3 1 sv (spotsW l.rs a P).length (nvL (spotsW l.rs a P)) ∧ w'.ownsRow w.heap.size 3 1 rv P.length (nvL P) ∧ Below w.heap.size w w' := by
  have H := hide h
  have OK := hide ok
  have T := hide ok.tree
  have s40 := ok.s40
  clear h ok
  go_enter Tryz.func230, Tryz.ntmps230
  go_upto_region 2 with (fail)
  generalize hw4 : World.alloc _ _ = w4
  obtain ⟨b0, b1, b2, b3, b4, hB4⟩ := alloc5x hw4
  have z0 := cellOf b4 0
  have z1 := unfrozenOf b4 0
  have lz := box_lt b4
  have hm : sideN l.rs l.ss.length (-1) a ≤ 40 := by
    unfold sideN
    exact Nat.le_trans List.countP_le_length (by simpa using s40)
  clear hw4
  go_upto_region 3 with (fail)
  have HWY : Hid (WyAt w (w4.setCell ⟨w.heap.size + 1 + 1 + 1 + 1, 0, none⟩ (.func (.func 251) #[] #[.pointer (some ⟨w.heap.size + 1 + 1, 0, none⟩), .pointer (some ⟨w.heap.size + 1, 0, none⟩), .pointer (some ⟨w.heap.size, 0, none⟩), .pointer (some ⟨w.heap.size + 1 + 1 + 1, 0, none⟩), .pointer (some ⟨w.heap.size + 1 + 1 + 1 + 1, 0, none⟩)])) w.heap.size A0 A1 A2 A3 A4 A5 q0 q1 q2 q3 q4 q5 l b (.slice none 0 0) (.slice none 0 0) [] []) := by
    refine ⟨Below.setCell hB4 (by show w.heap.size ≤ w.heap.size + 1 + 1 + 1 + 1; omega) _, (Below.heap_setCell _ _ _ _ (by show w.heap.size ≠ w.heap.size + 1 + 1 + 1 + 1; omega)).trans b0, (Below.heap_setCell _ _ _ _ (by show w.heap.size + 1 ≠ w.heap.size + 1 + 1 + 1 + 1; omega)).trans b1, (Below.heap_setCell _ _ _ _ (by show w.heap.size + 2 ≠ w.heap.size + 1 + 1 + 1 + 1; omega)).trans b2, (Below.heap_setCell _ _ _ _ (by show w.heap.size + 3 ≠ w.heap.size + 1 + 1 + 1 + 1; omega)).trans b3, setCellOf b4 _, World.ownsRow_nil _ _ _ _, World.ownsRow_nil _ _ _ _, fun g hg => by simp [Value.ownBlock] at hg, rfl⟩
  generalize hw5 : World.setCell _ _ _ = w5 at HWY ⊢
  have v0 : w5.cell? ⟨w.heap.size + 1 + 1 + 1 + 1, 0, none⟩ = _ := cellOf HWY.out.v 0
  have lv : w.heap.size + 1 + 1 + 1 + 1 < w5.heap.size := box_lt HWY.out.v
  have hcall := wayV_any A0 A1 A2 A3 A4 A5 q0 q1 q2 q3 q4 q5 l OK.out w w.heap.size H.out b hb _ a (-1) (-1) [] [] _ _ w5 HWY.out (Nat.le_refl _) (.inl ⟨rfl, rfl⟩) ha (by simp; omega) (by simp; omega)
  have hrch : Rch l.rs (-1) a b := T.out.all' ha hb
  have HCALL := hide hcall
  have HRCH := hide hrch
  clear hw5 b0 b1 b2 b3 b4 hB4 z0 z1 lz hcall hrch
  go_upto_region 4 with (go_at_call 251; refine HCALL.out.mono ?_; rintro e w6 h6; obtain ⟨_, P, sv, rv, hP, rfl, hW6⟩ | h6 := h6; rotate_left; exact absurd HRCH.out h6.1; skip; rw [List.nil_append, List.nil_append] at hW6; obtain ⟨A6, c6, hf6⟩ := owns_form hW6.sr; subst hf6; obtain ⟨A7, c7, hf7⟩ := owns_form hW6.rr; subst hf7; have HP := hide hP; have s0 : w6.cell? ⟨w.heap.size + 1 + 1, 0, none⟩ = _ := cellOf hW6.s 0; have s1 : w6.frozen? ⟨w.heap.size + 1 + 1, 0, none⟩ = _ := unfrozenOf hW6.s 0; have ls : w.heap.size + 1 + 1 < w6.heap.size := box_lt hW6.s; have r0 : w6.cell? ⟨w.heap.size + 1 + 1 + 1, 0, none⟩ = _ := cellOf hW6.r 0; have r1 : w6.frozen? ⟨w.heap.size + 1 + 1 + 1, 0, none⟩ = _ := unfrozenOf hW6.r 0; have lr : w.heap.size + 1 + 1 + 1 < w6.heap.size := box_lt hW6.r; have HW6 := hide hW6; clear hP hW6 v0 lv)
  go_region
  have HW7 := hide (HW6.out.setS.setR)
  generalize hw7 : World.setCell _ _ _ = w7 at HW7 ⊢
  have HW8 := hide (HW7.out.up (Below.drew (Below.refl _ _)))
  have d0 : w7.drew.cell? ⟨w.heap.size + 1 + 1, 0, none⟩ = _ := cellOf HW8.out.s 0
  have d1 : w7.drew.cell? ⟨w.heap.size + 1 + 1 + 1, 0, none⟩ = _ := cellOf HW8.out.r 0
  clear hw7 s0 s1 ls r0 r1 lr
  go_wp2_with fail
  refine bodyPost_ret (v := .tuple #[.slice A6 (spotsW l.rs a P).length c6, .slice A7 P.length c7]) ?_ rfl ⟨P, _, _, HP.out, rfl, owns_base HW8.out.sr (by omega), owns_base HW8.out.rr (by omega), HW8.out.below⟩
  rw [results_cell_cell rfl]
  go_simp
theorem wayP_any (a b : Nat) (A0 A1 A2 A3 A4 A5 : Option Addr) (q0 q1 q2 q3 q4 q5 : Nat) (l : Lo) (w : World) (h : LoA w w.heap.size A0 A1 A2 A3 A4 A5 q0 q1 q2 q3 q4 q5 l) (ok : LoOk l) (ha : a < l.ss.length) (hb : b < l.ss.length) :
    Calls Tryz.prog 230 #[.agg #[.slice A0 l.m.opts.length q0, .slice A1 l.m.rules.length q1, .slice A2 l.ss.length q2, .slice A3 l.us.length q3, .slice A4 l.ps.length q4, .slice A5 l.ws.length q5], .int .i64 a, .int .i64 b] w fun e w' => ∃ (P : List Nat) (sv rv : Value), WayP l.rs (-1) a P b ∧ e = .returned (.tuple #[sv, rv]) ∧ Nods w' w'.heap.size sv (spotsW l.rs a P) ∧ Nods w' w'.heap.size rv P ∧ Below w.heap.size w w' :=
  (wayO_any a b A0 A1 A2 A3 A4 A5 q0 q1 q2 q3 q4 q5 l w h ok ha hb).mono fun e w' => fun ⟨P, sv, rv, h1, h2, h3, h4, h5⟩ => ⟨P, sv, rv, h1, h2, Nods.of_own h3, Nods.of_own h4, h5⟩
end Go.Proofs.YtehadoecnmfeoaaGreat
/- Fill, both: walks. -/
namespace Go.Proofs.YtehadoecnmfeoaaGreat
open Go.RowKit
set_option linter.unusedVariables false
set_option linter.unusedSimpArgs false
/-- The sum of the sizes of some wires. -/
def filN (l : Lo) (T : List Nat) : Int := (szsL l T).sum
theorem sz_ok {l : Lo} (ok : LoOk l) {i : Nat} (hi : i < l.ws.length) : 1 ≤ (l.ws.getD i Wi.o).size ∧ (l.ws.getD i Wi.o).size ≤ 10000 := by
  have h := (LoOk.wi ok hi).1
  unfold wiOk at h
  simp only [Bool.and_eq_true, btw_iff] at h
  exact h.2
/-- A number and an error. -/
def FilP (n er : Int) (w : World) (e : Ending) (w' : World) : Prop := e = .returned (.tuple #[.int .i64 n, .int .i64 er]) ∧ Below w.heap.size w w'
end Go.Proofs.YtehadoecnmfeoaaGreat
/- The program's distance: walk. -/
namespace Go.Proofs.YtehadoecnmfeoaaGreat
open Go.RowKit
set_option linter.unusedVariables false
set_option linter.unusedSimpArgs false
theorem lenS_le {l : Lo} (ok : LoOk l) : ∀ {T : List Nat}, (∀ i ∈ T, i < l.us.length) → 0 ≤ (T.map (runLen l)).sum ∧ (T.map (runLen l)).sum ≤ 1000000 * T.length
  | [], _ => by simp
  | i :: T, h => by
    have h1 := lenS_le ok (T := T) fun j hj => h j (by simp [hj])
    have h2 := ok.len (h i (by simp))
    rw [List.map_cons, List.sum_cons, List.length_cons]
    omega
set_option maxRecDepth 100000 in
set_option maxHeartbeats 4000000 in
theorem distance_any (a b : Nat) (A0 A1 A2 A3 A4 A5 : Option Addr) (q0 q1 q2 q3 q4 q5 : Nat) (l : Lo) (w : World) (h : LoA w w.heap.size A0 A1 A2 A3 A4 A5 q0 q1 q2 q3 q4 q5 l) (ok : LoOk l) (ha : a < l.ss.length) (hb : b < l.ss.length) :
    Calls Tryz.prog 171 #[.agg #[.slice A0 l.m.opts.length q0, .slice A1 l.m.rules.length q1, .slice A2 l.ss.length q2, .slice A3 l.us.length q3, .slice A4 l.ps.length q4, .slice A5 l.ws.length q5], .int .i64 a, .int .i64 b] w fun e w' => e = .returned (.int .i64 (distN l.rs (runLen l) a b)) ∧ Below w.heap.size w w' := by
  have H := hide h
  have OK := hide ok
  have u40 := ok.u40
  clear h ok
  go_enter Tryz.func171, Tryz.ntmps171
  go_upto_region 1 with (fail)
  generalize hw0 : World.alloc _ _ = w0
  obtain ⟨hb0, hB0, hs0⟩ := alloc1 hw0
  have c0 := cellOf hb0 0; have c1 := cellOf hb0 1; have c2 := cellOf hb0 2; have c3 := cellOf hb0 3; have c4 := cellOf hb0 4; have c5 := cellOf hb0 5
  have hlb := box_lt hb0
  have HB0 := hide hB0
  have HL0 : Hid (LoBox w0 w.heap.size A0 A1 A2 A3 A4 A5 q0 q1 q2 q3 q4 q5 l) := hb0
  clear hw0 hb0 hB0 hs0
  go_wp2_with (go_at_call 230; refine (wayP_any a b A0 A1 A2 A3 A4 A5 q0 q1 q2 q3 q4 q5 l _ (H.out.up HB0.out) OK.out ha hb).mono ?_; rintro e w2 ⟨P, sv, rv, hP, rfl, hn1, hn2, hB2⟩; obtain ⟨At, qt, hv2⟩ := Sl.form hn2; subst hv2; have HP := hide hP; have HN2 := hide hn2; have HL2 := hide (HL0.out.to hB2); have HB2 := hide (Below.to HB0.out hB2 (Nat.le_refl _)); clear hP hn1 hn2 hB2 c0 c1 c2 c3 c4 c5 hlb)
  have hPm : ∀ i ∈ P, i < l.us.length := fun i hi => by have := HP.out.lt i hi; rwa [rs_len] at this
  have hPl : P.length ≤ 40 := Nat.le_trans (nodup_len (HP.out.mem OK.out.tree).1 hPm) u40
  have HPM := hide hPm
  clear hPm
  go_loopw [6, 10, 20] (fun o _ i wr => ∃ (k : Nat) (s : Int), i = .int .i64 k ∧ o = .int .i64 s ∧ k ≤ P.length ∧ Hid (((P.take k).map (runLen l)).sum = s) ∧ Hid (Below w2.heap.size w2 wr)) (fun _ _ i _ => P.length - (intOf i).toNat)
  case atStart => exact ⟨0, 0, rfl, rfl, Nat.zero_le _, rfl, Below.refl _ _⟩
  case round =>
    obtain ⟨k, s, rfl, rfl, hk, HSs, HBr⟩ := hrel
    by_cases hkl : k < P.length
    · obtain ⟨bt, ot, rfl, hbt, _, ct⟩ := (HN2.out.up HBr.out).at hkl
      have hqt := Nods.cap HN2.out
      obtain ⟨i, hi⟩ : ∃ i, P.getD k 0 = i := ⟨_, rfl⟩
      have hil := HPM.out i (by rw [← hi]; exact getD_mem3 hkl)
      have hsz := OK.out.len hil
      have hts := take_snoc hkl
      rw [hi] at hts ct
      have hsb := lenS_le OK.out (T := P.take k) fun j hj => HPM.out j (List.mem_of_mem_take hj)
      rw [HSs.out, List.length_take] at hsb
      have hnew : ((P.take (k + 1)).map (runLen l)).sum = s + runLen l i := by rw [hts, List.map_append, List.sum_append, HSs.out]; simp
      unfold runLen at hsz
      obtain ⟨bu, offu, r, HRU, rfl, hbu, hq3, _, _, e2, _⟩ := H.out.ru hil
      have hri : runLen l i = r.len := by unfold runLen; rw [HRU.out]
      rw [HRU.out] at hsz
      rw [hri] at hnew
      have HNEW := hide hnew
      have hBw := Below.to HB2.out HBr.out (Nat.le_refl _)
      have z2 := (hBw.cell (p := ⟨bu, offu + i * 4 + 2, none⟩) hbu).trans e2
      have lbu : bu < wr.heap.size := Nat.lt_of_lt_of_le hbu hBw.size
      have y3 := cellOf (box_to HL2.out HBr.out) 3
      have ly := box_lt (box_to HL2.out HBr.out)
      have ik : (k : Int) < (P.length : Int) := by omega
      have iqt : (P.length : Int) ≤ (qt : Int) := by omega
      have ii : (i : Int) < (l.us.length : Int) := by omega
      have iq : (l.us.length : Int) ≤ (q3 : Int) := by omega
      have hsl : 0 ≤ s ∧ s ≤ 40000000 := by omega
      clear hi hqt hts hsb hnew hBw e2 hri
      go_wp2_with fail
      go_roundw
      case rel => exact ⟨k + 1, s + r.len, by go_num, by go_num, by omega, HNEW.out, HBr.out⟩
      case measure => simp [intOf]; omega
    · have hke : k = P.length := by omega
      subst hke
      have hS := HSs.out
      rw [List.take_length, HP.out.dist OK.out.tree] at hS
      have HS2 := hide hS
      clear hS
      go_wp2_with fail
      go_ret
      refine ⟨?_, Below.to HB2.out HBr.out (Nat.le_refl _)⟩
      rw [HS2.out]
      rfl
end Go.Proofs.YtehadoecnmfeoaaGreat
/- The elder distance: walk. -/
namespace Go.Proofs.YtehadoecnmfeoaaGreat
open Go.RowKit
set_option linter.unusedVariables false
set_option linter.unusedSimpArgs false
end Go.Proofs.YtehadoecnmfeoaaGreat
/- Distance: walks. -/
namespace Go.Proofs.YtehadoecnmfeoaaGreat
open Go.RowKit
set_option linter.unusedVariables false
set_option linter.unusedSimpArgs false
def disB (l : Lo) (a b : Int) : Bool := btw a 0 ((l.ss.length : Int) - 1) && btw b 0 ((l.ss.length : Int) - 1)
def disE (l : Lo) (a b : Int) : Int := havE l (disB l a b)
open Classical in
noncomputable def disN (l : Lo) (a b : Int) : Int := if disE l a b = 0 then distN l.rs (runLen l) a.toNat b.toNat else 0
end Go.Proofs.YtehadoecnmfeoaaGreat
/- Distance, both: walks. -/
namespace Go.Proofs.YtehadoecnmfeoaaGreat
open Go.RowKit
set_option linter.unusedVariables false
set_option linter.unusedSimpArgs false
end Go.Proofs.YtehadoecnmfeoaaGreat

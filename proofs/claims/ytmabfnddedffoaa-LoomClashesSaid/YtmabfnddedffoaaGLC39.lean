/- Part 39 of this claim's texts: walks and plain laws. -/
import Derived.Test.YtmabfnddedffoaaRows
import Derived.Test.YtmabfnddedffoaaGLC38
import Derived.Laws.EntriesVeiled
import Derived.Deep.RegionHeld3
import Derived.ArgAppend
import Derived.Deep.DrawnRows
import Derived.Test.YtmabfnddedffoaaGLC3
/- The elder route and length: walks. -/
namespace Go.Proofs.Ytmabfnddedffoaa
open Go.RowKit
set_option linter.unusedVariables false
set_option linter.unusedSimpArgs false
theorem grownNone_below {w w' : World} (h : w.grownBy w' none) : Below w.heap.size w w' := ⟨h.os, h.tape, h.output, h.size, fun k hk => h.block k hk (by simp)⟩
set_option maxRecDepth 100000 in
set_option maxHeartbeats 4000000 in
theorem rrouteO_any (i : Nat) (A0 A1 A2 A3 A4 A5 : Option Addr) (q0 q1 q2 q3 q4 q5 : Nat) (l : Lo) (w : World) (h : LoA w w.heap.size A0 A1 A2 A3 A4 A5 q0 q1 q2 q3 q4 q5 l) (ok : LoOk l) (hi : i < l.ws.length) :
    Calls Try.prog 105 #[.agg #[.slice A0 l.m.opts.length q0, .slice A1 l.m.rules.length q1, .slice A2 l.ss.length q2, .slice A3 l.us.length q3, .slice A4 l.ps.length q4, .slice A5 l.ws.length q5], .int .i64 i] w fun e w' => ∃ v, e = .returned v ∧ w'.ownsRow w.heap.size 3 1 v (rouW l i).length (nvL (rouW l i)) ∧ Below w.heap.size w w' := by
  obtain ⟨i0, hi0, iz0, iz1, iz2⟩ := info_parts infoInt
  have H := hide h
  have OK := hide ok
  obtain ⟨hea, heb⟩ := ok.ends hi
  have hP := wayL_is ok hea heb
  obtain ⟨P, hPe⟩ : ∃ P, wayL l (endF l i) (endT l i) = P := ⟨_, rfl⟩
  obtain ⟨x, hx⟩ : ∃ x, endF l i = x := ⟨_, rfl⟩
  obtain ⟨y, hy⟩ : ∃ y, endT l i = y := ⟨_, rfl⟩
  obtain ⟨Q, hQ⟩ : ∃ Q, spotsW l.rs x P = Q := ⟨_, rfl⟩
  have hW : rouW l i = Q := by unfold rouW; rw [hPe, hx, hQ]
  rw [hPe, hx, hy] at hP
  rw [hx] at hea
  rw [hy] at heb
  have hPl : P.length ≤ 40 := by
    have h2 := nodup_len (n := l.rs.length) (hP.mem ok.tree).1 (fun j hj => hP.lt j hj)
    rw [rs_len] at h2
    exact Nat.le_trans h2 ok.u40
  have hQl : Q.length = P.length + 1 := by rw [← hQ]; exact spotsW_len _ _ _
  have hQ0 : Q.getD 0 0 = x := by rw [← hQ]; exact spotsW_first _ _ _
  have hst : ∀ t, t < P.length → P.getD t 0 < l.us.length ∧ farEnd l.rs (P.getD t 0) (Q.getD t 0) = Q.getD (t + 1) 0 ∧ ((l.rs.getD (P.getD t 0) (0, 0)).1 = Q.getD t 0 ∨ (l.rs.getD (P.getD t 0) (0, 0)).2 = Q.getD t 0) := fun t ht => by
    obtain ⟨h1, h2⟩ := hP.step t ht
    rw [hQ] at h2
    rw [rs_len] at h1
    exact ⟨h1, inc_far h2, inc_ends h2⟩
  have hQT : Q.take 1 = [x] := by
    cases Q with
    | nil => simp at hQl
    | cons a t =>
      simp only [List.getD_cons_zero] at hQ0
      simp [hQ0]
  have HP := hide hP
  have HST := hide hst
  have HQL := hide hQl
  have HQ0 := hide hQ0
  have HQT := hide hQT
  have HX := hide hx
  have HY := hide hy
  have HIN := hide ok.runsIn
  have s40 := ok.s40
  rw [hW]
  clear h ok hPe hQ hP hst hQl hQ0 hx hy hW hQT
  go_enter Try.func105, Try.ntmps105
  go_upto_region 1 with (fail)
  generalize hw0 : World.alloc _ _ = w0
  obtain ⟨hb0, hB0, hs0⟩ := alloc1 hw0
  have c0 := cellOf hb0 0; have c1 := cellOf hb0 1; have c2 := cellOf hb0 2; have c3 := cellOf hb0 3; have c4 := cellOf hb0 4; have c5 := cellOf hb0 5
  have hlb := box_lt hb0
  have HB0 := hide hB0
  have HL0 : Hid (LoBox w0 w.heap.size A0 A1 A2 A3 A4 A5 q0 q1 q2 q3 q4 q5 l) := hb0
  clear hw0 hb0 hB0 hs0
  go_upto_region 3 with (go_at_call 108; refine (rends_any i A0 A1 A2 A3 A4 A5 q0 q1 q2 q3 q4 q5 l _ (H.out.up HB0.out) OK.out hi).mono ?_; rw [HX.out, HY.out]; rintro e w1 ⟨rfl, hB1⟩; have HL1 := hide (HL0.out.to hB1); have HB1 := hide (Below.to HB0.out hB1 (Nat.le_refl _)); clear hB1 c0 c1 c2 c3 c4 c5 hlb)
  generalize hw2 : World.alloc _ _ = w2
  obtain ⟨hb2, hB2, hs2⟩ := alloc1 hw2
  have HB2 := hide (Below.to HB1.out hB2 (Nat.le_refl _))
  have HL2 := hide (HL1.out.to hB2)
  have HBK2 := hide hb2
  have d0 := cellOf HL2.out 0; have d1 := cellOf HL2.out 1; have d2 := cellOf HL2.out 2; have d3 := cellOf HL2.out 3; have d4 := cellOf HL2.out 4; have d5 := cellOf HL2.out 5
  have ld := box_lt HL2.out
  clear hw2 hb2 hB2 hs2
  go_upto_region 4 with (go_at_call 140; refine (way_any A0 A1 A2 A3 A4 A5 q0 q1 q2 q3 q4 q5 l OK.out x y P _ (H.out.up HB2.out) hea heb HP.out).mono ?_; rintro e w3 ⟨At, qt, rfl, hn3, hB3⟩; have HN3 := hide hn3; have HL3 := hide (HL2.out.to hB3); have HBK3 := hide (box_to HBK2.out hB3); have HB3 := hide (Below.to HB2.out hB3 (Nat.le_refl _)); clear hn3 hB3 d0 d1 d2 d3 d4 d5 ld)
  go_wp2_with fail
  go_loopw [5, 7, 9] (fun a o i wr => ∃ (k t : Nat) (A : Option Addr) (cap : Nat) (S : List Nat), i = .int .i64 k ∧ a = .int .i64 t ∧ o = .slice A S.length cap ∧ k ≤ P.length ∧ Hid (Q.getD k 0 = t) ∧ Hid (Q.take (k + 1) = S) ∧ Hid (Below w3.heap.size w3 wr) ∧ Hid (LoBox wr w.heap.size A0 A1 A2 A3 A4 A5 q0 q1 q2 q3 q4 q5 l) ∧ ((k = 0 ∧ t = x ∧ S = [x] ∧ A = some ⟨w1.heap.size, 0, none⟩ ∧ cap = 1) ∨ Hid (wr.ownsRow w3.heap.size 3 1 (.slice A S.length cap) S.length (S.map fun (n : Nat) => Value.int .i64 n)))) (fun _ _ i _ => P.length - (intOf i).toNat)
  case atStart => exact ⟨0, x, _, _, [x], rfl, rfl, rfl, Nat.zero_le _, HQ0.out, HQT.out, Below.refl _ _, HL3.out, .inl ⟨rfl, rfl, rfl, rfl, rfl⟩⟩
  case round =>
    obtain ⟨k, t, A, cap, S, rfl, rfl, rfl, hk, HQt, HS, HBr, HLr, hO⟩ := hrel
    have hSl : S.length ≤ 41 := by rw [← HS.out, List.length_take, HQL.out]; omega
    by_cases hkl : k < P.length
    · obtain ⟨bt, ot, hAt, hbt, _, ct⟩ := (HN3.out.up HBr.out).at hkl
      injection hAt with hAt
      subst hAt
      have hqt := Nods.cap HN3.out
      have hts := take_snoc (T := Q) (k := k + 1) (by rw [HQL.out]; omega)
      rw [HS.out] at hts
      obtain ⟨h1, h2, h3⟩ := HST.out k hkl
      rw [HQt.out] at h2 h3
      obtain ⟨u, hu⟩ : ∃ u, P.getD k 0 = u := ⟨_, rfl⟩
      obtain ⟨nx, hnx⟩ : ∃ nx, Q.getD (k + 1) 0 = nx := ⟨_, rfl⟩
      rw [hnx] at h2 hts
      rw [hu] at h1 h2 h3 ct
      have hsum := far_sum h3
      rw [h2] at hsum
      have hBw := Below.to HB3.out HBr.out (Nat.le_refl _)
      obtain ⟨bu, offu, r, HRU, rfl, hbu, hq3, f0, f1, _, _⟩ := (H.out.below hBw).ru h1
      have hrin := HIN.out r (by rw [← HRU.out]; exact getD_mem3 h1)
      rw [rs_getD l h1, HRU.out] at hsum h3
      simp only at hsum h3
      have hnx0 : (r.a + r.b - (t : Int)) = (nx : Nat) := by omega
      have htl : (t : Int) ≤ 40 := by omega
      have w1a : IntKind.i64.wrap (r.a + r.b) = r.a + r.b := IntWalk.i64_in _ (by omega)
      have w1b : IntKind.i64.wrap (r.a + r.b - (t : Int)) = (nx : Nat) := by rw [hnx0]; exact IntWalk.i64_in _ (by omega)
      have lbu : bu < wr.heap.size := Nat.lt_of_lt_of_le hbu hBw.size
      have y2 := cellOf HLr.out 2
      have y3 := cellOf HLr.out 3
      have ly := box_lt HLr.out
      have lbt : bt < wr.heap.size := hbt
      have ik : (k : Int) < (P.length : Int) := by omega
      have iqt : (P.length : Int) ≤ (qt : Int) := by omega
      have iu : (u : Int) < (l.us.length : Int) := by omega
      have iq : (l.us.length : Int) ≤ (q3 : Int) := by omega
      have HNX := hide hnx
      have HTS := hide hts
      have HO := hide hO
      clear hqt h1 h2 h3 hts hu hsum hrin hnx0 hnx htl hBw hO
      go_upto_region 7 with (fail)
      refine wp_region_held_drew (S := (fun w' => Below wr.heap.size wr w')) (by kernel_rfl) ?_ (fun hHeld => ?_)
      · try dsimp only
        exact (by repeat (first | exact Below.refl _ _ | assumption | refine Below.drew ?_ | refine Below.drewN ?_ _ | refine Below.allocT ?_ (Nat.le_refl _) _ | refine Below.setCell ?_ (by simp <;> omega) _ | refine Below.to ?_ (by assumption) (Nat.le_refl _)))
      refine zT 0 rfl ?_
      try simp only [zX]
      refine zT 1 rfl ?_
      try simp only [zX]
      refine zT 2 rfl ?_
      try simp only [zX]
      refine zT 3 rfl ?_
      try simp only [zX]
      refine zT 4 rfl ?_
      try simp only [zX]
      refine zT 5 rfl ?_
      try simp only [zX]
      refine zT 6 rfl ?_
      try simp only [zX]
      refine zT 7 rfl ?_
      try simp only [zX]
      refine zT 8 rfl ?_
      try simp only [zX]
      refine zT 9 rfl ?_
      try simp only [zX]
      refine zT 10 rfl ?_
      try simp only [zX]
      refine zT 11 rfl ?_
      try simp only [zX]
      refine zT 12 rfl ?_
      try simp only [zX]
      refine zT 13 rfl ?_
      try simp only [zX]
      refine zT 14 rfl ?_
      try simp only [zX]
      refine zT 15 rfl ?_
      try simp only [zX]
      refine zT 16 rfl ?_
      try simp only [zX]
      refine zT 17 rfl ?_
      try simp only [zX]
      refine zT 18 rfl ?_
      try simp only [zX]
      refine zT 19 rfl ?_
      try simp only [zX]
      refine zT 20 rfl ?_
      try simp only [zX]
      refine zT 21 rfl ?_
      try simp only [zX]
      refine wpAnyH_done (by kernel_rfl) ?_ _
      generalize World.drew wr = wd at hHeld ⊢
      have HB5 := hide (Below.to HBr.out hHeld (Nat.le_refl _))
      have HL5 := hide (HLr.out.to hHeld)
      clear f0 f1 ct y2 y3 ly lbt lbu
      rcases HO.out with ⟨hk0, ht0, hS0, hA0, hc0⟩ | hown
      · subst hk0 hS0 hA0 hc0
        have hcx : wd.cell? ⟨w1.heap.size, 0, none⟩ = some (.int .i64 (x : Nat)) := by
          have h5 := cellOf (box_to HBK3.out HB5.out) 0
          exact h5
        have lcx : w1.heap.size < wd.heap.size := Nat.lt_of_lt_of_le (box_lt HBK3.out) HB5.out.size
        have HCX := hide hcx
        clear hHeld hcx HO
        go_wp2_with (at_builtin; go_must (refine wpList_append_grows _ rfl (.tmp 49) (.tmp 51) _ rfl 3 i0 _ 1 8 Try.underlying41 hi0 iz0 iz1 iz2 rfl (by omega) _ 1 1 [.int .i64 (x : Nat)] rfl (by intro q; cases q) rfl (by
          intro b hb j u hj
          injection hb with hb
          subst hb
          match j, hj with
          | 0, hj =>
            injection hj with hj
            subst hj
            exact (((Below.refl _ wd).alloc (Nat.le_refl _) _).cell (p := ⟨w1.heap.size, 0, none⟩) lcx).trans HCX.out) ⟨wd.heap.size, 0, none⟩ 1 1 [.int .i64 (nx : Nat)] rfl rfl (World.news_of_block (heap_alloc_new wd _)) (by simp [Value.oneCell']) (by omega) (by unfold maxLen; omega) (by omega) ?_); intro v1 w6 hown1 hg1; obtain ⟨A6', cap6, hv6⟩ := owns_form hown1; subst hv6; have hB6 := Below.to ((Below.refl wd.heap.size wd).alloc (Nat.le_refl _) _) (grownNone_below hg1) (Nat.le_refl _); have HO6 := hide (owns_base hown1 (show w3.heap.size ≤ _ from Nat.le_trans HB5.out.size (by simp))); have HL6 := hide (HL5.out.to hB6); have HB6 := hide (Below.to HB5.out hB6 (Nat.le_refl _)); clear hown1 hg1 hB6)
        go_roundw
        case rel => exact ⟨0 + 1, nx, A6', cap6, [x] ++ [nx], by go_num, rfl, rfl, by omega, HNX.out, HTS.out, HB6.out, HL6.out, .inr HO6.out⟩
        case measure => simp [intOf]; omega
      · have HO5 := hide (owns_below hown hHeld)
        clear hHeld HO hown
        go_wp2_with (at_builtin; go_must (refine wpList_append_own_at _ rfl (.tmp 49) (.tmp 51) _ rfl (w3.heap.size) 3 i0 _ 1 8 Try.underlying41 hi0 iz0 iz1 iz2 rfl (by omega) _ _ _ rfl ((HO5.out).alloc _) ⟨wd.heap.size, 0, none⟩ 1 1 [.int .i64 (nx : Nat)] rfl rfl (World.news_of_block (heap_alloc_new wd _)) (by simp [Value.oneCell']) (by have h1 := hSl; unfold maxLen; omega) (by have h1 := hSl; omega) (by have h1 := HB5.out.size; simp; omega) ?_); intro v1 w3 hown1 hg1 _ hat1; obtain ⟨A6', cap6, hv6⟩ := owns_form hown1; subst hv6; have HL6 := hide ((hg1.block w.heap.size (by have := box_lt HL5.out; simp; omega) (fun e => by have h1 := (HO5.out.lt _ e.symm).1; have h2 := box_lt HL3.out; omega)).trans (box_to HL5.out ((Below.refl _ wd).alloc (Nat.le_refl _) _))); have HB6 := hide (Below.grown (Below.to HB5.out ((Below.refl wd.heap.size wd).alloc (Nat.le_refl _) _) (Nat.le_refl _)) hg1 (by have := HB5.out.size; simp; omega) (fun j hj => (HO5.out.lt j hj).1)); have HO6 := hide hown1; clear hown1 hg1 hat1)
        go_roundw
        case rel => exact ⟨k + 1, nx, A6', cap6, S ++ [nx], by go_num, rfl, by rw [List.length_append, List.length_singleton], by omega, HNX.out, HTS.out, HB6.out, HL6.out, .inr (by show World.ownsRow _ _ _ _ _ _ _; rw [List.length_append, List.length_singleton, List.map_append]; exact HO6.out)⟩
        case measure => simp [intOf]; omega
    · have hke : k = P.length := by omega
      subst hke
      have hS := HS.out
      rw [List.take_of_length_le (by rw [HQL.out]; omega)] at hS
      subst hS
      have hnd : wr.ownsRow w.heap.size 3 1 (.slice A Q.length cap) Q.length (nvL Q) := by
        rcases hO with ⟨hk0, ht0, hS0, hA0, hc0⟩ | hown
        · rw [hS0, hA0, hc0]
          exact own_one (box_to HBK3.out HBr.out) HB1.out.size
        · exact owns_base hown.out HB3.out.size
      have HND := hide hnd
      clear hnd hO
      go_wp2_with fail
      go_ret
      exact ⟨_, rfl, HND.out, Below.to HB3.out HBr.out (Nat.le_refl _)⟩
end Go.Proofs.Ytmabfnddedffoaa

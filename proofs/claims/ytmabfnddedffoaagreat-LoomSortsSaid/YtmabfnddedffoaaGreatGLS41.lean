/- Part 41 of this claim's texts: walks and plain laws. -/
import Derived.Test.YtmabfnddedffoaaGreatRows
import Derived.Test.YtmabfnddedffoaaGreatGLS40
import Derived.Test.YtmabfnddedffoaaGreatGLS27
import Derived.Test.YtmabfnddedffoaaGreatGLS21
import Derived.Test.YtmabfnddedffoaaGreatGLS22
import Derived.Test.YtmabfnddedffoaaGreatGLS29
import Derived.Test.YtmabfnddedffoaaGreatGLS30
import Derived.Deep.DeepMust
import Derived.Deep.RegionHeld3
import Derived.Deep.DrawnRows
import Derived.Test.YtmabfnddedffoaaGreatGLS35
import Derived.Test.YtmabfnddedffoaaGreatGLS3
import Derived.Test.YtmabfnddedffoaaGreatGLS11
/- The wires of all variants and of none (program): walk. -/
namespace Go.Proofs.YtmabfnddedffoaaGreat
open Go.RowKit
set_option linter.unusedVariables false
set_option linter.unusedSimpArgs false
/-- Two lists of numbers and an error. -/
def SrtP (X Y : List Nat) (er : Int) (w : World) (e : Ending) (w' : World) : Prop := ∃ u v, e = .returned (.tuple #[u, v, .int .i64 er]) ∧ Nods w' w'.heap.size u X ∧ Nods w' w'.heap.size v Y ∧ Below w.heap.size w w'
/-- Two lists of the call's own, beside a boxed loom. -/
structure Sr2 (w0 wr : World) (B lb : Nat) (A0 A1 A2 A3 A4 A5 : Option Addr) (q0 q1 q2 q3 q4 q5 : Nat) (l : Lo) (u v : Value) (S T : List Nat) : Prop where
  a : ReaS w0 wr B lb A0 A1 A2 A3 A4 A5 q0 q1 q2 q3 q4 q5 l u S
  b : ReaS w0 wr B lb A0 A1 A2 A3 A4 A5 q0 q1 q2 q3 q4 q5 l v T
  ap : ∀ k, u.ownBlock = some k → v.ownBlock ≠ some k
section
variable {w0 wr w' : World} {B lb : Nat} {A0 A1 A2 A3 A4 A5 : Option Addr} {q0 q1 q2 q3 q4 q5 : Nat} {l : Lo} {u v u1 : Value} {S T : List Nat} {m : Nat} {o : Obj}
theorem Sr2.to (h : Sr2 w0 wr B lb A0 A1 A2 A3 A4 A5 q0 q1 q2 q3 q4 q5 l u v S T) (hb : Below wr.heap.size wr w') : Sr2 w0 w' B lb A0 A1 A2 A3 A4 A5 q0 q1 q2 q3 q4 q5 l u v S T := ⟨h.a.to hb, h.b.to hb, h.ap⟩
theorem Sr2.swap (h : Sr2 w0 wr B lb A0 A1 A2 A3 A4 A5 q0 q1 q2 q3 q4 q5 l u v S T) : Sr2 w0 wr B lb A0 A1 A2 A3 A4 A5 q0 q1 q2 q3 q4 q5 l v u T S := ⟨h.b, h.a, fun k hk e => h.ap k e hk⟩
theorem Sr2.push (h : Sr2 w0 wr B lb A0 A1 A2 A3 A4 A5 q0 q1 q2 q3 q4 q5 l u v S T) (hown : w'.ownsRow B 3 1 u1 (S.length + 1) ((S.map fun (n : Nat) => Value.int .i64 n) ++ [.int .i64 (m : Nat)])) (hg : (wr.alloc o).grownBy w' u.ownBlock) (hat : u1.ownBlock = u.ownBlock ∨ u1.ownBlock = some (wr.alloc o).heap.size) : Sr2 w0 w' B lb A0 A1 A2 A3 A4 A5 q0 q1 q2 q3 q4 q5 l u1 v (S ++ [m]) T := by
  have hb : w'.ownsRow B 3 1 v T.length (T.map fun (n : Nat) => Value.int .i64 n) := (h.b.own.alloc o).kept hg (by
    cases hv : v.ownBlock with
    | none => exact .inl rfl
    | some k => exact .inr (fun e => h.ap k e.symm hv))
  have ha := h.a.push hown hg
  refine ⟨ha, ReaS.mk' ha.below ha.box hb ha.lt, fun k hk e => ?_⟩
  have h1 := (h.b.own.lt k e).2
  rcases hat with hat | hat
  · rw [hat] at hk
    exact h.ap k hk e
  · rw [hat] at hk
    injection hk with hk
    simp at hk
    omega
end
set_option maxRecDepth 100000 in
set_option maxHeartbeats 4000000 in
theorem Sorts_any (A0 A1 A2 A3 A4 A5 : Option Addr) (q0 q1 q2 q3 q4 q5 : Nat) (l : Lo) (w : World) (hs : SizedL l) (h : LoA w w.heap.size A0 A1 A2 A3 A4 A5 q0 q1 q2 q3 q4 q5 l) (hN : l.m.opts.length ≤ 12) :
    Calls Tryz.prog 6 #[.agg #[.slice A0 l.m.opts.length q0, .slice A1 l.m.rules.length q1, .slice A2 l.ss.length q2, .slice A3 l.us.length q3, .slice A4 l.ps.length q4, .slice A5 l.ws.length q5]] w (SrtP (srtA l) (srtN l) (srtE l) w) := by
  obtain ⟨i0, hi0, iz0, iz1, iz2⟩ := info_parts infoInt
  have H := hide h
  have HS := hide hs
  clear h hs
  by_cases hz : l.err = 0
  case neg =>
    obtain ⟨h1, h2, h3⟩ := srt_err hz
    rw [h1, h2, h3]
    obtain ⟨z, hze⟩ : ∃ z, l.err = z := ⟨_, rfl⟩
    rw [hze] at hz ⊢
    have HZ := hide hze
    have hz1 : (z != 0) = true := by simpa using hz
    clear hz hze h1 h2 h3
    go_enter Tryz.func6, Tryz.ntmps6
    go_upto_region 1 with (fail)
    generalize hw0 : World.alloc _ _ = w0
    obtain ⟨hb0, hB0, hs0⟩ := alloc1 hw0
    have HB0 := hide hB0
    have c0 := cellOf hb0 0; have c1 := cellOf hb0 1; have c2 := cellOf hb0 2; have c3 := cellOf hb0 3; have c4 := cellOf hb0 4; have c5 := cellOf hb0 5
    have hlb := box_lt hb0
    clear hw0 hb0 hB0 hs0
    go_wp2_with (go_at_call 15; refine (Check_any A0 A1 A2 A3 A4 A5 q0 q1 q2 q3 q4 q5 l _ HS.out (H.out.up HB0.out)).mono ?_; rw [HZ.out]; rintro e w1 ⟨rfl, hB1⟩; have HB1 := hide (Below.to HB0.out hB1 (Nat.le_refl _)); clear hB1 c0 c1 c2 c3 c4 c5 hlb)
    go_ret3
    exact ⟨_, _, rfl, Sl.nil _ _ _ _, Sl.nil _ _ _ _, HB1.out⟩
  case pos =>
  have ok := Lo.err_ok hz
  have OK := hide ok
  have HZ := hide hz
  have w60 := ok.w60
  have HYE := hide ok.yes_err
  obtain ⟨n0, hn0⟩ : ∃ n, cntE l.m [-1] = n := ⟨_, rfl⟩
  have HN0 := hide hn0
  have hn4 : n0 ≤ 4096 := by rw [← hn0]; exact cnt_le6 hN
  by_cases hz0 : n0 = 0
  case pos =>
    obtain ⟨h1, h2, h3⟩ := srt_none hz (by rw [hn0]; exact hz0)
    rw [h1, h2, h3]
    subst hz0
    clear hz ok hn0 h1 h2 h3
    go_enter Tryz.func6, Tryz.ntmps6
    go_upto_region 1 with (fail)
    generalize hw0 : World.alloc _ _ = w0
    obtain ⟨hb0, hB0, hs0⟩ := alloc1 hw0
    have HB0 := hide hB0
    have HL0 : Hid (LoBox w0 w.heap.size A0 A1 A2 A3 A4 A5 q0 q1 q2 q3 q4 q5 l) := hb0
    have c0 := cellOf hb0 0; have c1 := cellOf hb0 1; have c2 := cellOf hb0 2; have c3 := cellOf hb0 3; have c4 := cellOf hb0 4; have c5 := cellOf hb0 5
    have hlb := box_lt hb0
    clear hw0 hb0 hB0 hs0
    go_wp2_with (first
      | (go_at_call 15; refine (Check_any A0 A1 A2 A3 A4 A5 q0 q1 q2 q3 q4 q5 l _ HS.out (H.out.up HB0.out)).mono ?_; rw [HZ.out]; rintro e w1 ⟨rfl, hB1⟩; have HB1 := hide (Below.to HB0.out hB1 (Nat.le_refl _)); have HL1 := hide (HL0.out.to hB1); have d0 := cellOf (HL0.out.to hB1) 0; have d1 := cellOf (HL0.out.to hB1) 1; have d2 := cellOf (HL0.out.to hB1) 2; have d3 := cellOf (HL0.out.to hB1) 3; have d4 := cellOf (HL0.out.to hB1) 4; have d5 := cellOf (HL0.out.to hB1) 5; have ld := box_lt (HL0.out.to hB1); clear hB1 c0 c1 c2 c3 c4 c5 hlb)
      | (go_at_call 16; refine (Count_any l.m [-1] _ _ _ _ HS.out.m (by unfold maxLen; decide) ((H.out.up (Below.allocT HB1.out (Nat.le_refl _) _)).m) (ints_box (l := [-1]) (heap_new _ _ _ rfl) (by simp)) (fun _ => hN)).mono ?_; rw [HN0.out, HYE.out]; rintro e w2 ⟨rfl, hB2⟩; have HB2 : Hid (Below w.heap.size w w2) := Below.to (Below.allocT HB1.out (Nat.le_refl _) _) hB2 (Nat.le_refl _); clear hB2 d0 d1 d2 d3 d4 d5 ld))
    go_ret3
    exact ⟨_, _, rfl, Sl.nil _ _ _ _, Sl.nil _ _ _ _, HB2.out⟩
  case neg =>
  obtain ⟨h1, h2, h3⟩ := srt_some hz (by rw [hn0]; exact hz0)
  rw [h1]
  have HA := hide h2
  have HNV := hide h3
  have hz1 : ((n0 : Int) == 0) = false := by simpa using hz0
  have HZ0 := hide hz0
  clear hz ok hn0 h1 h2 h3 hz0
  go_enter Tryz.func6, Tryz.ntmps6
  go_upto_region 1 with (fail)
  generalize hw0 : World.alloc _ _ = w00
  obtain ⟨hb0, hB0, hs0⟩ := alloc1 hw0
  have HB00 := hide hB0
  have HL00 : Hid (LoBox w00 w.heap.size A0 A1 A2 A3 A4 A5 q0 q1 q2 q3 q4 q5 l) := hb0
  have c0 := cellOf hb0 0; have c1 := cellOf hb0 1; have c2 := cellOf hb0 2; have c3 := cellOf hb0 3; have c4 := cellOf hb0 4; have c5 := cellOf hb0 5
  have hlb := box_lt hb0
  clear hw0 hb0 hB0 hs0
  go_wp2_with (first
    | (go_at_call 15; refine (Check_any A0 A1 A2 A3 A4 A5 q0 q1 q2 q3 q4 q5 l _ HS.out (H.out.up HB00.out)).mono ?_; rw [HZ.out]; rintro e w1 ⟨rfl, hB1⟩; have HB1 := hide (Below.to HB00.out hB1 (Nat.le_refl _)); have HL1 := hide (HL00.out.to hB1); have d0 := cellOf (HL00.out.to hB1) 0; have d1 := cellOf (HL00.out.to hB1) 1; have d2 := cellOf (HL00.out.to hB1) 2; have d3 := cellOf (HL00.out.to hB1) 3; have d4 := cellOf (HL00.out.to hB1) 4; have d5 := cellOf (HL00.out.to hB1) 5; have ld := box_lt (HL00.out.to hB1); clear hB1 c0 c1 c2 c3 c4 c5 hlb)
    | (go_at_call 16; refine (Count_any l.m [-1] _ _ _ _ HS.out.m (by unfold maxLen; decide) ((H.out.up (Below.allocT HB1.out (Nat.le_refl _) _)).m) (ints_box (l := [-1]) (heap_new _ _ _ rfl) (by simp)) (fun _ => hN)).mono ?_; rw [HN0.out, HYE.out]; rintro e w0 ⟨rfl, hB2⟩; have HL0 := hide ((HL1.out.to ((Below.refl _ _).alloc (Nat.le_refl _) _)).to hB2); have HB0 : Hid (Below w.heap.size w w0) := Below.to (Below.allocT HB1.out (Nat.le_refl _) _) hB2 (Nat.le_refl _); have e0 := cellOf HL0.out 0; have e1 := cellOf HL0.out 1; have e2 := cellOf HL0.out 2; have e3 := cellOf HL0.out 3; have e4 := cellOf HL0.out 4; have e5 := cellOf HL0.out 5; have le := box_lt HL0.out; clear hB2 d0 d1 d2 d3 d4 d5 ld))
  clear e0 e1 e2 e3 e4 e5 le
  go_loopw [2, 3, 7, 8, 9, 10, 31] (fun p q _ _ _ _ i wr => ∃ (k : Nat) (A C : Option Addr) (ca cc : Nat) (S T : List Nat), i = .int .i64 k ∧ p = .slice A S.length ca ∧ q = .slice C T.length cc ∧ k ≤ l.ws.length ∧ Hid ((List.range k).filter (alwB l) = S) ∧ Hid ((List.range k).filter (nevB l) = T) ∧ Hid (Sr2 w wr w0.heap.size w.heap.size A0 A1 A2 A3 A4 A5 q0 q1 q2 q3 q4 q5 l (.slice A S.length ca) (.slice C T.length cc) S T)) (fun _ _ _ _ _ _ i _ => l.ws.length - (intOf i).toNat)
  case atStart => exact ⟨0, _, _, _, _, [], [], rfl, rfl, rfl, Nat.zero_le _, rfl, rfl, ⟨ReaS.mk' HB0.out HL0.out (World.ownsRow_nil _ _ _ _) ⟨HB0.out.size, Nat.le_refl _⟩, ReaS.mk' HB0.out HL0.out (World.ownsRow_nil _ _ _ _) ⟨HB0.out.size, Nat.le_refl _⟩, fun k hk => by cases hk⟩⟩
  case round =>
    obtain ⟨k, A, C, ca, cc, S, T, rfl, rfl, rfl, hk, HSS, HTT, R⟩ := hrel
    have hSl : S.length ≤ 60 := by rw [← HSS.out]; exact filter_len6 _ _ (by omega)
    have hTl : T.length ≤ 60 := by rw [← HTT.out]; exact filter_len6 _ _ (by omega)
    by_cases hkl : k < l.ws.length
    · have c0 := cellOf R.out.a.box 0; have c1 := cellOf R.out.a.box 1; have c2 := cellOf R.out.a.box 2; have c3 := cellOf R.out.a.box 3; have c4 := cellOf R.out.a.box 4; have c5 := cellOf R.out.a.box 5
      have lc := box_lt R.out.a.box
      obtain ⟨bw, offw, x, Af, qf, HX, rfl, hbw, hq5, HFO, e0, e1, e2, e3, e4, e5, e6⟩ := (H.out.up R.out.a.below).wi hkl
      have hfl : x.form.length ≤ maxLen := (HS.out.wn x (by rw [← HX.out]; exact getD_mem3f hkl)).2
      have ii : (k : Int) < (l.ws.length : Int) := by omega
      have iq : (l.ws.length : Int) ≤ (q5 : Int) := by omega
      have ik0 : (0 : Int) ≤ (k : Int) := by omega
      obtain ⟨c, hc⟩ : ∃ c, cntE l.m (l.ws.getD k Wi.o).form = c := ⟨_, rfl⟩
      have hfe := OK.out.form_err hkl
      have HAK : Hid (alwB l k = decide (c = n0)) := by show _ = _; unfold alwB; rw [hc, HN0.out]
      have HNK : Hid (nevB l k = decide (c = 0)) := by show _ = _; unfold nevB; rw [hc]
      rw [HX.out] at hc hfe
      have HC := hide hc
      have HFE := hide hfe
      have hc4 : c ≤ 4096 := by rw [← hc]; exact cnt_le6 hN
      clear hc hfe
      go_upto_region 12 with (fail)
      generalize hw1 : World.alloc _ _ = w1
      obtain ⟨hb1, hB1, hs1⟩ := alloc1 hw1
      have R1 := hide (R.out.to hB1)
      have HFO1 := hide (HFO.out.up hB1)
      have z6 := cellOf hb1 6
      have lz := box_lt hb1
      have d0 := cellOf R1.out.a.box 0; have d1 := cellOf R1.out.a.box 1; have d2 := cellOf R1.out.a.box 2; have d3 := cellOf R1.out.a.box 3; have d4 := cellOf R1.out.a.box 4; have d5 := cellOf R1.out.a.box 5
      have ld := box_lt R1.out.a.box
      clear hw1 hb1 hB1 hs1 c0 c1 c2 c3 c4 c5 lc e0 e1 e2 e3 e4 e5 e6
      by_cases hca : c = n0
      · subst hca
        have g1 : ((c : Int) == (c : Int)) = true := by simp
        have HY : Hid (alwB l k = true) := by show _ = _; rw [HAK.out]; simp
        have HW : Hid (nevB l k = false) := by show _ = _; rw [HNK.out]; exact decide_eq_false HZ0.out
        go_wp2_with (first
          | (go_at_call 16; refine (Count_any l.m x.form _ _ _ _ HS.out.m hfl ((H.out.up R1.out.a.below).m) HFO1.out (fun _ => hN)).mono ?_; rw [HC.out, HFE.out]; rintro e w2 ⟨rfl, hB2⟩; have R2 := hide (R1.out.to hB2); clear hB2 d0 d1 d2 d3 d4 d5 ld z6 lz)
          | (at_builtin; go_must (refine wpList_append_own_at _ rfl (.tmp 52) (.tmp 54) _ rfl (w0.heap.size) 3 i0 _ 1 8 Tryz.underlying35 hi0 iz0 iz1 iz2 rfl (by omega) _ _ _ rfl ((R2.out.a.own).alloc _) ⟨w2.heap.size, 0, none⟩ 1 1 [.int .i64 (k : Nat)] rfl rfl (World.news_of_block (heap_alloc_new w2 _)) (by simp [Value.oneCell']) (by have h1 := hSl; unfold maxLen; omega) (by have h1 := hSl; omega) (by have h1 := R2.out.a.lt.2; simp; omega) ?_); intro v1 w3 hown1 hg1 _ hat1; obtain ⟨A2, ca2, hv2⟩ := owns_form hown1; subst hv2; have R3 := hide (R2.out.push hown1 hg1 hat1); clear hown1 hg1 hat1))
        go_roundw
        case rel => exact ⟨k + 1, A2, C, ca2, cc, S ++ [k], T, by go_num, by rw [List.length_append, List.length_singleton], rfl, by omega, by show _ = _; rw [filter_range_succ, HY.out, if_pos rfl, HSS.out], by show _ = _; rw [filter_range_succ, HW.out, if_neg (by simp), HTT.out], by rw [List.length_append, List.length_singleton]; exact R3.out⟩
        case measure => simp [intOf]; omega
      · have g1 : ((c : Int) == (n0 : Int)) = false := by simp; omega
        have HY : Hid (alwB l k = false) := by show _ = _; rw [HAK.out]; exact decide_eq_false hca
        by_cases hc0 : c = 0
        · subst hc0
          have HW : Hid (nevB l k = true) := by show _ = _; rw [HNK.out]; simp
          go_wp2_with (first
            | (go_at_call 16; refine (Count_any l.m x.form _ _ _ _ HS.out.m hfl ((H.out.up R1.out.a.below).m) HFO1.out (fun _ => hN)).mono ?_; rw [HC.out, HFE.out]; rintro e w2 ⟨rfl, hB2⟩; have R2 := hide (R1.out.to hB2).swap; clear hB2 d0 d1 d2 d3 d4 d5 ld z6 lz)
            | (at_builtin; go_must (refine wpList_append_own_at _ rfl (.tmp 59) (.tmp 61) _ rfl (w0.heap.size) 3 i0 _ 1 8 Tryz.underlying35 hi0 iz0 iz1 iz2 rfl (by omega) _ _ _ rfl ((R2.out.a.own).alloc _) ⟨w2.heap.size, 0, none⟩ 1 1 [.int .i64 (k : Nat)] rfl rfl (World.news_of_block (heap_alloc_new w2 _)) (by simp [Value.oneCell']) (by have h1 := hTl; unfold maxLen; omega) (by have h1 := hTl; omega) (by have h1 := R2.out.a.lt.2; simp; omega) ?_); intro v1 w3 hown1 hg1 _ hat1; obtain ⟨A2, ca2, hv2⟩ := owns_form hown1; subst hv2; have R3 := hide (R2.out.push hown1 hg1 hat1).swap; clear hown1 hg1 hat1))
          go_roundw
          case rel => exact ⟨k + 1, A, A2, ca, ca2, S, T ++ [k], by go_num, rfl, by rw [List.length_append, List.length_singleton], by omega, by show _ = _; rw [filter_range_succ, HY.out, if_neg (by simp), HSS.out], by show _ = _; rw [filter_range_succ, HW.out, if_pos rfl, HTT.out], by rw [List.length_append, List.length_singleton]; exact R3.out⟩
          case measure => simp [intOf]; omega
        · have g2 : ((c : Int) == 0) = false := by simpa using hc0
          have HW : Hid (nevB l k = false) := by show _ = _; rw [HNK.out]; exact decide_eq_false hc0
          go_wp2_with (go_at_call 16; refine (Count_any l.m x.form _ _ _ _ HS.out.m hfl ((H.out.up R1.out.a.below).m) HFO1.out (fun _ => hN)).mono ?_; rw [HC.out, HFE.out]; rintro e w2 ⟨rfl, hB2⟩; have R2 := hide (R1.out.to hB2); clear hB2 d0 d1 d2 d3 d4 d5 ld z6 lz)
          go_roundw
          case rel => exact ⟨k + 1, A, C, ca, cc, S, T, by go_num, rfl, rfl, by omega, by show _ = _; rw [filter_range_succ, HY.out, if_neg (by simp), HSS.out], by show _ = _; rw [filter_range_succ, HW.out, if_neg (by simp), HTT.out], R2.out⟩
          case measure => simp [intOf]; omega
    · have hke : k = l.ws.length := by omega
      subst hke
      go_wp2_with fail
      go_ret3
      exact ⟨_, _, rfl, by rw [HA.out, HSS.out]; exact R.out.a.nd, by rw [HNV.out, HTT.out]; exact R.out.b.nd, R.out.a.below⟩
end Go.Proofs.YtmabfnddedffoaaGreat
/- The wires of all variants and of none (the elder): walk. -/
namespace Go.Proofs.YtmabfnddedffoaaGreat
open Go.RowKit
set_option linter.unusedVariables false
set_option linter.unusedSimpArgs false
theorem forms_none (w : World) (B : Nat) : Forms w B (.slice none 0 0) [] := ⟨fun _ => undef, Sl.nil _ _ _ _, fun i hi => absurd hi (by simp)⟩
set_option maxRecDepth 100000 in
set_option maxHeartbeats 8000000 in
theorem rSorts_any (A0 A1 A2 A3 A4 A5 : Option Addr) (q0 q1 q2 q3 q4 q5 : Nat) (l : Lo) (w : World) (hs : SizedL l) (h : LoA w w.heap.size A0 A1 A2 A3 A4 A5 q0 q1 q2 q3 q4 q5 l) (hN : l.m.opts.length ≤ 12) :
    Calls Tryz.prog 8 #[.agg #[.slice A0 l.m.opts.length q0, .slice A1 l.m.rules.length q1, .slice A2 l.ss.length q2, .slice A3 l.us.length q3, .slice A4 l.ps.length q4, .slice A5 l.ws.length q5]] w (SrtP (srtA l) (srtN l) (srtE l) w) := by
  obtain ⟨i0, hi0, iz0, iz1, iz2⟩ := info_parts infoInt
  have H := hide h
  have HS := hide hs
  clear h hs
  by_cases hz : l.err = 0
  case neg =>
    obtain ⟨h1, h2, h3⟩ := srt_err hz
    rw [h1, h2, h3]
    obtain ⟨z, hze⟩ : ∃ z, l.err = z := ⟨_, rfl⟩
    rw [hze] at hz ⊢
    have HZ := hide hze
    have hz1 : (z != 0) = true := by simpa using hz
    clear hz hze h1 h2 h3
    go_enter Tryz.func8, Tryz.ntmps8
    go_upto_region 1 with (fail)
    generalize hw0 : World.alloc _ _ = w0
    obtain ⟨hb0, hB0, hs0⟩ := alloc1 hw0
    have HB0 := hide hB0
    have c0 := cellOf hb0 0; have c1 := cellOf hb0 1; have c2 := cellOf hb0 2; have c3 := cellOf hb0 3; have c4 := cellOf hb0 4; have c5 := cellOf hb0 5
    have hlb := box_lt hb0
    clear hw0 hb0 hB0 hs0
    go_wp2_with (go_at_call 18; refine (rCheck_any A0 A1 A2 A3 A4 A5 q0 q1 q2 q3 q4 q5 l _ HS.out (H.out.up HB0.out)).mono ?_; rw [HZ.out]; rintro e w1 ⟨rfl, hB1⟩; have HB1 := hide (Below.to HB0.out hB1 (Nat.le_refl _)); clear hB1 c0 c1 c2 c3 c4 c5 hlb)
    go_ret3
    exact ⟨_, _, rfl, Sl.nil _ _ _ _, Sl.nil _ _ _ _, HB1.out⟩
  case pos =>
  have ok := Lo.err_ok hz
  have OK := hide ok
  have HZ := hide hz
  have w60 := ok.w60
  obtain ⟨n0, hn0⟩ : ∃ n, cntE l.m [-1] = n := ⟨_, rfl⟩
  have HN0 := hide hn0
  by_cases hz0 : n0 = 0
  case pos =>
    obtain ⟨h1, h2, h3⟩ := srt_none hz (by rw [hn0]; exact hz0)
    rw [h1, h2, h3]
    have HM : Hid (meeB l.m [] = false) := by show _ = _; rw [ok.any, hn0]; simp [hz0]
    clear hz ok hn0 h1 h2 h3 hz0
    go_enter Tryz.func8, Tryz.ntmps8
    go_upto_region 1 with (fail)
    generalize hw0 : World.alloc _ _ = w0
    obtain ⟨hb0, hB0, hs0⟩ := alloc1 hw0
    have HB0 := hide hB0
    have HL0 : Hid (LoBox w0 w.heap.size A0 A1 A2 A3 A4 A5 q0 q1 q2 q3 q4 q5 l) := hb0
    have c0 := cellOf hb0 0; have c1 := cellOf hb0 1; have c2 := cellOf hb0 2; have c3 := cellOf hb0 3; have c4 := cellOf hb0 4; have c5 := cellOf hb0 5
    have hlb := box_lt hb0
    clear hw0 hb0 hB0 hs0
    go_wp2_with (first
      | (go_at_call 18; refine (rCheck_any A0 A1 A2 A3 A4 A5 q0 q1 q2 q3 q4 q5 l _ HS.out (H.out.up HB0.out)).mono ?_; rw [HZ.out]; rintro e w1 ⟨rfl, hB1⟩; have HB1 := hide (Below.to HB0.out hB1 (Nat.le_refl _)); have HL1 := hide (HL0.out.to hB1); have d0 := cellOf (HL0.out.to hB1) 0; have d1 := cellOf (HL0.out.to hB1) 1; have d2 := cellOf (HL0.out.to hB1) 2; have d3 := cellOf (HL0.out.to hB1) 3; have d4 := cellOf (HL0.out.to hB1) 4; have d5 := cellOf (HL0.out.to hB1) 5; have ld := box_lt (HL0.out.to hB1); clear hB1 c0 c1 c2 c3 c4 c5 hlb)
      | (go_at_call 19; refine (rMeets_any l.m [] _ _ _ _ HS.out.m ⟨by unfold maxLen; simp, fun g hg => by simp at hg⟩ (H.out.up HB1.out).m (forms_none _ _) (fun _ => hN)).mono ?_; rw [HM.out]; rintro e w2 ⟨v2, rfl, hb2, hB2⟩; have HB2 : Hid (Below w.heap.size w w2) := Below.to HB1.out hB2 (Nat.le_refl _); clear hb2 hB2 d0 d1 d2 d3 d4 d5 ld))
    go_ret3
    exact ⟨_, _, rfl, Sl.nil _ _ _ _, Sl.nil _ _ _ _, HB2.out⟩
  case neg =>
  obtain ⟨h1, h2, h3⟩ := srt_some hz (by rw [hn0]; exact hz0)
  rw [h1]
  have HA := hide h2
  have HNV := hide h3
  have HZ0 := hide hz0
  have HM : Hid (meeB l.m [] = true) := by show _ = _; rw [ok.any, hn0]; simp [hz0]
  clear hz ok hn0 h1 h2 h3 hz0
  go_enter Tryz.func8, Tryz.ntmps8
  go_upto_region 1 with (fail)
  generalize hw0 : World.alloc _ _ = w00
  obtain ⟨hb0, hB0, hs0⟩ := alloc1 hw0
  have HB00 := hide hB0
  have HL00 : Hid (LoBox w00 w.heap.size A0 A1 A2 A3 A4 A5 q0 q1 q2 q3 q4 q5 l) := hb0
  have c0 := cellOf hb0 0; have c1 := cellOf hb0 1; have c2 := cellOf hb0 2; have c3 := cellOf hb0 3; have c4 := cellOf hb0 4; have c5 := cellOf hb0 5
  have hlb := box_lt hb0
  clear hw0 hb0 hB0 hs0
  go_wp2_with (first
    | (go_at_call 18; refine (rCheck_any A0 A1 A2 A3 A4 A5 q0 q1 q2 q3 q4 q5 l _ HS.out (H.out.up HB00.out)).mono ?_; rw [HZ.out]; rintro e w1 ⟨rfl, hB1⟩; have HB1 := hide (Below.to HB00.out hB1 (Nat.le_refl _)); have HL1 := hide (HL00.out.to hB1); have d0 := cellOf (HL00.out.to hB1) 0; have d1 := cellOf (HL00.out.to hB1) 1; have d2 := cellOf (HL00.out.to hB1) 2; have d3 := cellOf (HL00.out.to hB1) 3; have d4 := cellOf (HL00.out.to hB1) 4; have d5 := cellOf (HL00.out.to hB1) 5; have ld := box_lt (HL00.out.to hB1); clear hB1 c0 c1 c2 c3 c4 c5 hlb)
    | (go_at_call 19; refine (rMeets_any l.m [] _ _ _ _ HS.out.m ⟨by unfold maxLen; simp, fun g hg => by simp at hg⟩ (H.out.up HB1.out).m (forms_none _ _) (fun _ => hN)).mono ?_; rw [HM.out]; rintro e w0 ⟨v2, rfl, hb2, hB2⟩; have HL0 := hide (HL1.out.to hB2); have HB0 : Hid (Below w.heap.size w w0) := Below.to HB1.out hB2 (Nat.le_refl _); clear hb2 hB2 d0 d1 d2 d3 d4 d5 ld))
  go_loopw [9, 10, 11, 12, 13, 14, 15, 16, 17] (fun p q i _ _ _ _ _ _ wr => ∃ (k : Nat) (A C : Option Addr) (ca cc : Nat) (S T : List Nat), i = .int .i64 k ∧ p = .slice A S.length ca ∧ q = .slice C T.length cc ∧ k ≤ l.ws.length ∧ Hid ((List.range k).filter (alwB l) = S) ∧ Hid ((List.range k).filter (nevB l) = T) ∧ Hid (Sr2 w wr w0.heap.size w.heap.size A0 A1 A2 A3 A4 A5 q0 q1 q2 q3 q4 q5 l (.slice A S.length ca) (.slice C T.length cc) S T)) (fun _ _ i _ _ _ _ _ _ _ => l.ws.length - (intOf i).toNat)
  case atStart => exact ⟨0, _, _, _, _, [], [], rfl, rfl, rfl, Nat.zero_le _, rfl, rfl, ⟨ReaS.mk' HB0.out HL0.out (World.ownsRow_nil _ _ _ _) ⟨HB0.out.size, Nat.le_refl _⟩, ReaS.mk' HB0.out HL0.out (World.ownsRow_nil _ _ _ _) ⟨HB0.out.size, Nat.le_refl _⟩, fun k hk => by cases hk⟩⟩
  case round =>
    obtain ⟨k, A, C, ca, cc, S, T, rfl, rfl, rfl, hk, HSS, HTT, R⟩ := hrel
    have hSl : S.length ≤ 60 := by rw [← HSS.out]; exact filter_len6 _ _ (by omega)
    have hTl : T.length ≤ 60 := by rw [← HTT.out]; exact filter_len6 _ _ (by omega)
    by_cases hkl : k < l.ws.length
    · have c0 := cellOf R.out.a.box 0; have c1 := cellOf R.out.a.box 1; have c2 := cellOf R.out.a.box 2; have c3 := cellOf R.out.a.box 3; have c4 := cellOf R.out.a.box 4; have c5 := cellOf R.out.a.box 5
      have lc := box_lt R.out.a.box
      obtain ⟨bw, offw, x, Af, qf, HX, rfl, hbw, hq5, HFO, e0, e1, e2, e3, e4, e5, e6⟩ := (H.out.up R.out.a.below).wi hkl
      have hfl : x.form.length ≤ maxLen := (HS.out.wn x (by rw [← HX.out]; exact getD_mem3f hkl)).2
      have ii : (k : Int) < (l.ws.length : Int) := by omega
      have iq : (l.ws.length : Int) ≤ (q5 : Int) := by omega
      have ik0 : (0 : Int) ≤ (k : Int) := by omega
      obtain ⟨a, ha⟩ : ∃ a, alwB l k = a := ⟨_, rfl⟩
      obtain ⟨b, hb⟩ : ∃ b, nevB l k = b := ⟨_, rfl⟩
      have him : impB l.m [-1] x.form = a := by rw [← HX.out, OK.out.implied hkl, ha]
      have hme : meeB l.m [x.form] = !b := by rw [← HX.out, OK.out.met hkl, hb]
      have hno : a = true → b = false := fun h => by rw [← hb]; exact alw_nev (by rw [HN0.out]; exact HZ0.out) (by rw [ha]; exact h)
      have HIM := hide him
      have HME := hide hme
      have HY := hide ha
      have HW := hide hb
      have HNO := hide hno
      have HH1 := hide (H.out.up R.out.a.below)
      clear ha hb him hme hno hq5 e0 e1 e2 e3 e4 e5
      go_upto_region 11 with (fail)
      refine wp_region_held_drew (S := (fun w' => Below wr.heap.size wr w')) (by kernel_rfl) ?_ (fun hHeld => ?_)
      · try dsimp only
        exact (by repeat (first | exact Below.refl _ _ | assumption | refine Below.drew ?_ | refine Below.drewN ?_ _ | refine Below.allocT ?_ (Nat.le_refl _) _ | refine Below.setCell ?_ (by simp <;> omega) _ | refine Below.to ?_ (by assumption) (Nat.le_refl _)))
      refine zT 0 rfl ?_
      try simp only [zX]
      refine zT 1 rfl ?_
      try simp only [zX]
      refine zT 3 rfl ?_
      try simp only [zX]
      refine zT 4 rfl ?_
      try simp only [zX]
      refine zT 5 rfl ?_
      try simp only [zX]
      refine zT 6 rfl ?_
      try simp only [zX]
      refine zT 7 rfl ?_
      try simp only [zX]
      refine zT 8 rfl ?_
      try simp only [zX]
      refine wpAnyH_ready (rs := [2]) (by kernel_rfl) (by simp) ?_
      refine AllReadyH.cons rfl (fun K hK => ?_) AllReadyH.nil
      go_simp
      refine hK.out _ _ ?_ (fun hNext => ?_)
      · try dsimp only
        exact (by repeat (first | exact Below.refl _ _ | assumption | refine Below.drew ?_ | refine Below.drewN ?_ _ | refine Below.allocT ?_ (Nat.le_refl _) _ | refine Below.setCell ?_ (by simp <;> omega) _ | refine Below.to ?_ (by assumption) (Nat.le_refl _)))
      clear hK K hHeld
      have hHeld := hNext
      clear hNext
      (try dsimp only at hHeld)
      try simp only [zX]
      refine wpAnyH_ready (rs := [9]) (by kernel_rfl) (by simp) ?_
      refine AllReadyH.cons rfl (fun K hK => ?_) AllReadyH.nil
      go_simp
      ((go_at_call 20; refine (rImplies_any l.m [-1] x.form _ _ _ _ _ HS.out.m (by unfold maxLen; decide) hfl (HH1.out.up hHeld).m (ints_box (l := [-1]) (heap_new _ _ _ rfl) (by simp)) (HFO.out.up hHeld) (fun _ => hN)).mono ?_; rw [HIM.out]; rintro e w2 ⟨v3, rfl, hb2, hB2⟩; clear hb2))
      (try dsimp only)
      refine hK.out _ _ ?_ (fun hNext => ?_)
      · try dsimp only
        exact (by repeat (first | exact Below.refl _ _ | assumption | refine Below.drew ?_ | refine Below.drewN ?_ _ | refine Below.allocT ?_ (Nat.le_refl _) _ | refine Below.setCell ?_ (by simp <;> omega) _ | refine Below.to ?_ (by assumption) (Nat.le_refl _)))
      clear hK K hHeld
      have hHeld := hNext
      clear hNext
      (try dsimp only at hHeld)
      try simp only [zX]
      refine zT 10 rfl ?_
      try simp only [zX]
      refine zT 11 rfl ?_
      try simp only [zX]
      refine zT 12 rfl ?_
      try simp only [zX]
      refine zT 13 rfl ?_
      try simp only [zX]
      refine zT 14 rfl ?_
      try simp only [zX]
      refine zT 15 rfl ?_
      try simp only [zX]
      refine zT 16 rfl ?_
      try simp only [zX]
      refine wpAnyH_done (by kernel_rfl) ?_ _
      have R2 := hide (R.out.to hHeld)
      have e7 := (hHeld.cell (p := ⟨bw, offw + k * 7 + 6, none⟩) hbw).trans e6
      have lbw : bw < w2.heap.size := Nat.lt_of_lt_of_le hbw hHeld.size
      have HH2 := hide (HH1.out.up hHeld)
      have HF2 := hide (HFO.out.up hHeld)
      have d0 := cellOf R2.out.a.box 0; have d1 := cellOf R2.out.a.box 1; have d2 := cellOf R2.out.a.box 2; have d3 := cellOf R2.out.a.box 3; have d4 := cellOf R2.out.a.box 4; have d5 := cellOf R2.out.a.box 5
      have ld := box_lt R2.out.a.box
      clear hHeld c0 c1 c2 c3 c4 c5 lc e6 hbw
      go_upto_region 12 with (fail)
      refine wp_region_held_drew (S := (fun w' => Below w2.heap.size w2 w')) (by kernel_rfl) ?_ (fun hHeld => ?_)
      · try dsimp only
        exact (by repeat (first | exact Below.refl _ _ | assumption | refine Below.drew ?_ | refine Below.drewN ?_ _ | refine Below.allocT ?_ (Nat.le_refl _) _ | refine Below.setCell ?_ (by simp <;> omega) _ | refine Below.to ?_ (by assumption) (Nat.le_refl _)))
      refine zT 0 rfl ?_
      try simp only [zX]
      refine zT 1 rfl ?_
      try simp only [zX]
      refine zT 2 rfl ?_
      try simp only [zX]
      refine zT 3 rfl ?_
      try simp only [zX]
      refine zT 4 rfl ?_
      try simp only [zX]
      refine zT 5 rfl ?_
      try simp only [zX]
      refine zT 6 rfl ?_
      try simp only [zX]
      refine zT 7 rfl ?_
      try simp only [zX]
      refine wpAnyH_ready (rs := [8]) (by kernel_rfl) (by simp) ?_
      refine AllReadyH.cons rfl (fun K hK => ?_) AllReadyH.nil
      go_simp
      refine hK.out _ _ ?_ (fun hNext => ?_)
      · try dsimp only
        exact (by repeat (first | exact Below.refl _ _ | assumption | refine Below.drew ?_ | refine Below.drewN ?_ _ | refine Below.allocT ?_ (Nat.le_refl _) _ | refine Below.setCell ?_ (by simp <;> omega) _ | refine Below.to ?_ (by assumption) (Nat.le_refl _)))
      clear hK K hHeld
      have hHeld := hNext
      clear hNext
      (try dsimp only at hHeld)
      try simp only [zX]
      refine wpAnyH_ready (rs := [9]) (by kernel_rfl) (by simp) ?_
      refine AllReadyH.cons rfl (fun K hK => ?_) AllReadyH.nil
      go_simp
      ((go_at_call 19; refine (rMeets_any l.m [x.form] _ _ _ _ HS.out.m (sized_one hfl) (HH2.out.up hHeld).m (forms_one (heap_new _ _ _ rfl) (by simp) (HF2.out.up hHeld)) (fun _ => hN)).mono ?_; rw [HME.out]; rintro e w4 ⟨v4, rfl, hb2, hB4⟩; clear hb2))
      (try dsimp only)
      refine hK.out _ _ ?_ (fun hNext => ?_)
      · try dsimp only
        exact (by repeat (first | exact Below.refl _ _ | assumption | refine Below.drew ?_ | refine Below.drewN ?_ _ | refine Below.allocT ?_ (Nat.le_refl _) _ | refine Below.setCell ?_ (by simp <;> omega) _ | refine Below.to ?_ (by assumption) (Nat.le_refl _)))
      clear hK K hHeld
      have hHeld := hNext
      clear hNext
      (try dsimp only at hHeld)
      try simp only [zX]
      refine zT 10 rfl ?_
      try simp only [zX]
      refine zT 11 rfl ?_
      try simp only [zX]
      refine zT 12 rfl ?_
      try simp only [zX]
      refine zT 13 rfl ?_
      try simp only [zX]
      refine zT 14 rfl ?_
      try simp only [zX]
      refine zT 15 rfl ?_
      try simp only [zX]
      refine zT 16 rfl ?_
      try simp only [zX]
      refine wpAnyH_done (by kernel_rfl) ?_ _
      have R4 := hide (R2.out.to hHeld)
      clear hHeld d0 d1 d2 d3 d4 d5 ld e7 lbw
      cases a with
      | true =>
        have hbf := HNO.out rfl
        subst hbf
        go_wp2_with (at_builtin; go_must (refine wpList_append_own_at _ rfl (.tmp 68) (.tmp 70) _ rfl (w0.heap.size) 3 i0 _ 1 8 Tryz.underlying35 hi0 iz0 iz1 iz2 rfl (by omega) _ _ _ rfl ((R4.out.a.own).alloc _) ⟨w4.heap.size, 0, none⟩ 1 1 [.int .i64 (k : Nat)] rfl rfl (World.news_of_block (heap_alloc_new w4 _)) (by simp [Value.oneCell']) (by have h1 := hSl; unfold maxLen; omega) (by have h1 := hSl; omega) (by have h1 := R4.out.a.lt.2; simp; omega) ?_); intro v1 w3 hown1 hg1 _ hat1; obtain ⟨A2, ca2, hv2⟩ := owns_form hown1; subst hv2; have R5 := hide (R4.out.push hown1 hg1 hat1); clear hown1 hg1 hat1)
        go_roundw
        case rel => exact ⟨k + 1, A2, C, ca2, cc, S ++ [k], T, by go_num, by rw [List.length_append, List.length_singleton], rfl, by omega, by show _ = _; rw [filter_range_succ, HY.out, if_pos rfl, HSS.out], by show _ = _; rw [filter_range_succ, HW.out, if_neg (by simp), HTT.out], by rw [List.length_append, List.length_singleton]; exact R5.out⟩
        case measure => simp [intOf]; omega
      | false =>
        cases b with
        | true =>
          have R4s := hide R4.out.swap
          go_wp2_with (at_builtin; go_must (refine wpList_append_own_at _ rfl (.tmp 74) (.tmp 76) _ rfl (w0.heap.size) 3 i0 _ 1 8 Tryz.underlying35 hi0 iz0 iz1 iz2 rfl (by omega) _ _ _ rfl ((R4s.out.a.own).alloc _) ⟨w4.heap.size, 0, none⟩ 1 1 [.int .i64 (k : Nat)] rfl rfl (World.news_of_block (heap_alloc_new w4 _)) (by simp [Value.oneCell']) (by have h1 := hTl; unfold maxLen; omega) (by have h1 := hTl; omega) (by have h1 := R4s.out.a.lt.2; simp; omega) ?_); intro v1 w3 hown1 hg1 _ hat1; obtain ⟨A2, ca2, hv2⟩ := owns_form hown1; subst hv2; have R5 := hide (R4s.out.push hown1 hg1 hat1).swap; clear hown1 hg1 hat1)
          go_roundw
          case rel => exact ⟨k + 1, A, A2, ca, ca2, S, T ++ [k], by go_num, rfl, by rw [List.length_append, List.length_singleton], by omega, by show _ = _; rw [filter_range_succ, HY.out, if_neg (by simp), HSS.out], by show _ = _; rw [filter_range_succ, HW.out, if_pos rfl, HTT.out], by rw [List.length_append, List.length_singleton]; exact R5.out⟩
          case measure => simp [intOf]; omega
        | false =>
          go_wp2_with fail
          go_roundw
          case rel => exact ⟨k + 1, A, C, ca, cc, S, T, by go_num, rfl, rfl, by omega, by show _ = _; rw [filter_range_succ, HY.out, if_neg (by simp), HSS.out], by show _ = _; rw [filter_range_succ, HW.out, if_neg (by simp), HTT.out], R4.out⟩
          case measure => simp [intOf]; omega
    · have hke : k = l.ws.length := by omega
      subst hke
      have c0 := cellOf R.out.a.box 0; have c1 := cellOf R.out.a.box 1; have c2 := cellOf R.out.a.box 2; have c3 := cellOf R.out.a.box 3; have c4 := cellOf R.out.a.box 4; have c5 := cellOf R.out.a.box 5
      have lc := box_lt R.out.a.box
      go_wp2_with fail
      go_ret3
      exact ⟨_, _, rfl, by rw [HA.out, HSS.out]; exact R.out.a.nd, by rw [HNV.out, HTT.out]; exact R.out.b.nd, R.out.a.below⟩
end Go.Proofs.YtmabfnddedffoaaGreat
/- The laws' looms, opened: no condition. -/
namespace Go.Proofs.YtmabfnddedffoaaGreat
open Go.Joins Go.ChangeShapes Go.WideShapes Go.ChangeAt Go.RowKit Go.Deep
set_option maxRecDepth 100000
set_option linter.unusedVariables false
set_option linter.unusedSimpArgs false
section
variable {H : Type} {enc : TypeId × Value → H} {W : World} {base b0 : Nat} {r : Reach} {spare : Nat → Bool} {held : Bool} {v : Value} {d : DataW H} {p : List MemPlace}
theorem open_lo (hv : Value.okWide Tryz.prog W r b0 31 v) (h : DataW.Trod enc Tryz.prog W base spare held 31 v d p) :
    ∃ (A0 A1 A2 A3 A4 A5 : Option Addr) (q0 q1 q2 q3 q4 q5 : Nat), ∃ l : Lo, v = .agg #[.slice A0 l.m.opts.length q0, .slice A1 l.m.rules.length q1, .slice A2 l.ss.length q2, .slice A3 l.us.length q3, .slice A4 l.ps.length q4, .slice A5 l.ws.length q5] ∧ LoA W W.heap.size A0 A1 A2 A3 A4 A5 q0 q1 q2 q3 q4 q5 l ∧ SizedL l := by
  obtain ⟨ov, rv, sv, uv, pv, wv, l, rfl, hl, hs, _⟩ := open_loom hv h
  obtain ⟨A0, A1, A2, A3, A4, A5, q0, q1, q2, q3, q4, q5, rfl, rfl, rfl, rfl, rfl, rfl, hla⟩ := hl.form
  exact ⟨A0, A1, A2, A3, A4, A5, q0, q1, q2, q3, q4, q5, l, rfl, hla, hs⟩
end
end Go.Proofs.YtmabfnddedffoaaGreat

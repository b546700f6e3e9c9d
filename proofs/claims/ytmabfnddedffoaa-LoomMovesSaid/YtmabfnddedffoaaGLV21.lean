/- Part 21 of this claim's texts: walks and plain laws. -/
import Derived.Test.YtmabfnddedffoaaRows
import Derived.Test.YtmabfnddedffoaaGLV14
import Derived.Test.YtmabfnddedffoaaGLV13
import Derived.Test.YtmabfnddedffoaaGLV20
import Derived.Deep.RegionHeld3
import Derived.Deep.DrawnRows
import Derived.Test.YtmabfnddedffoaaGLV3
import Derived.Test.YtmabfnddedffoaaGLV11
import Derived.Test.YtmabfnddedffoaaGLV1
/- The ends of a wire, the wires through a run: walks. -/
namespace Go.Proofs.Ytmabfnddedffoaa
open Go.RowKit
set_option linter.unusedVariables false
set_option linter.unusedSimpArgs false
theorem LoOk.runsIn {l : Lo} (h : LoOk l) : RunsIn l := by
  intro x hx
  have h1 := h.us x hx
  unfold Ru.ok at h1
  simp only [Bool.and_eq_true, btw_iff] at h1
  obtain ⟨⟨⟨⟨⟨h2, h3⟩, _⟩, _⟩, _⟩, _⟩ := h1
  omega
theorem LoOk.pos {l : Lo} (h : LoOk l) : 0 < l.ss.length := by have := h.tree.len; omega
theorem LoOk.wpin {l : Lo} (h : LoOk l) {i : Nat} (hi : i < l.ws.length) : (0 ≤ (l.ws.getD i Wi.o).fp ∧ (l.ws.getD i Wi.o).fp.toNat < l.ps.length ∧ 0 ≤ (l.ps.getD (l.ws.getD i Wi.o).fp.toNat Pl.o).spot) ∧ (0 ≤ (l.ws.getD i Wi.o).tp ∧ (l.ws.getD i Wi.o).tp.toNat < l.ps.length ∧ 0 ≤ (l.ps.getD (l.ws.getD i Wi.o).tp.toNat Pl.o).spot) := by
  obtain ⟨h1, _⟩ := h.wi hi
  unfold wiOk at h1
  simp only [Bool.and_eq_true] at h1
  obtain ⟨⟨⟨⟨_, h2⟩, h3⟩, _⟩, _⟩ := h1
  obtain ⟨a1, a2, a3, _⟩ := h.pin h2
  obtain ⟨b1, b2, b3, _⟩ := h.pin h3
  exact ⟨⟨a1, a2, a3⟩, b1, b2, b3⟩
set_option maxRecDepth 100000 in
set_option maxHeartbeats 2000000 in
theorem ends_any (x : Wi) (Af : Option Addr) (n qf : Nat) (A0 A1 A2 A3 A4 A5 : Option Addr) (q0 q1 q2 q3 q4 q5 : Nat) (l : Lo) (w : World) (h : LoA w w.heap.size A0 A1 A2 A3 A4 A5 q0 q1 q2 q3 q4 q5 l) (hf0 : 0 ≤ x.fp) (hf : x.fp.toNat < l.ps.length) (ht0 : 0 ≤ x.tp) (ht : x.tp.toNat < l.ps.length) (hpl : l.ps.length ≤ 30) :
    Calls Try.prog 102 #[.agg #[.slice A0 l.m.opts.length q0, .slice A1 l.m.rules.length q1, .slice A2 l.ss.length q2, .slice A3 l.us.length q3, .slice A4 l.ps.length q4, .slice A5 l.ws.length q5], .agg #[.string x.name, .int .i64 x.fp, .int .i64 x.fc, .int .i64 x.tp, .int .i64 x.tc, .int .i64 x.size, .slice Af n qf]] w fun e w' => e = .returned (.tuple #[.int .i64 (l.ps.getD x.fp.toNat Pl.o).spot, .int .i64 (l.ps.getD x.tp.toNat Pl.o).spot]) ∧ Below w.heap.size w w' := by
  obtain ⟨bf, off, y, HY, rfl, hbb, hq, e0, e1, e2⟩ := h.pl hf
  obtain ⟨bf', off', z, HZ, he, hbb', hq', f0, f1, f2⟩ := h.pl ht
  injection he with he
  injection he with he1 he2
  subst he1 he2
  rw [HY.out, HZ.out]
  obtain ⟨nm, fp, fc, tp, tc, size, form⟩ := x
  simp only at hf0 hf ht0 ht HY HZ e0 e1 e2 f0 f1 f2 ⊢
  obtain ⟨kf, rfl⟩ := Int.eq_ofNat_of_zero_le hf0
  obtain ⟨kt, rfl⟩ := Int.eq_ofNat_of_zero_le ht0
  rw [Int.toNat_natCast] at hf HY e0 e1 e2
  rw [Int.toNat_natCast] at ht HZ f0 f1 f2
  have ikf : (kf : Int) < (l.ps.length : Int) := by omega
  have ikt : (kt : Int) < (l.ps.length : Int) := by omega
  have iq : (l.ps.length : Int) ≤ (q4 : Int) := by omega
  clear hf0 ht0 h
  go_enter Try.func102, Try.ntmps102
  go_upto_region 1 with (fail)
  generalize hw0 : World.alloc _ _ = w0
  obtain ⟨hb0, hb1, hB0, hs0⟩ := alloc2 hw0
  have c4 := cellOf hb0 4
  have d1 := cellOf hb1 1
  have d3 := cellOf hb1 3
  have l0 := box_lt hb0
  have l1 := box_lt hb1
  have l2 : bf < w0.heap.size := by omega
  have g1 := (hB0.cell (p := ⟨bf, off + kf * 3 + 1, none⟩) hbb).trans e1
  have g2 := (hB0.cell (p := ⟨bf, off + kt * 3 + 1, none⟩) hbb).trans f1
  have HB0 := hide hB0
  clear hw0 hb0 hb1 hB0 hs0 e0 e1 e2 f0 f1 f2
  refine wp_region_held_drew (S := (fun w' => Below w0.heap.size w0 w')) (by kernel_rfl) ?_ (fun hHeld => ?_)
  · try dsimp only
    exact (by repeat (first | exact Below.refl _ _ | assumption | refine Below.drew ?_ | refine Below.drewN ?_ _ | refine Below.allocT ?_ (Nat.le_refl _) _ | refine Below.setCell ?_ (by simp <;> omega) _ | refine Below.to ?_ (by assumption) (Nat.le_refl _)))
  refine zT 0 rfl ?_
  try simp only [zX]
  refine zT 1 rfl ?_
  try simp only [zX]
  refine zT 2 rfl ?_
  try simp only [zX]
  refine zT 3 rfl ?_
  try simp only [zX]
  refine zT 4 rfl ?_
  try simp only [zX]
  refine zT 5 rfl ?_
  try simp only [zX]
  refine zT 6 rfl ?_
  try simp only [zX]
  refine zT 7 rfl ?_
  try simp only [zX]
  refine zT 8 rfl ?_
  try simp only [zX]
  refine zT 9 rfl ?_
  try simp only [zX]
  refine zT 10 rfl ?_
  try simp only [zX]
  refine zT 11 rfl ?_
  try simp only [zX]
  refine zT 12 rfl ?_
  try simp only [zX]
  refine zT 13 rfl ?_
  try simp only [zX]
  refine zT 14 rfl ?_
  try simp only [zX]
  refine zT 15 rfl ?_
  try simp only [zX]
  refine zT 16 rfl ?_
  try simp only [zX]
  refine zT 17 rfl ?_
  try simp only [zX]
  refine wpAnyH_done (by kernel_rfl) ?_ _
  go_wp2_with fail
  go_ret2
  exact ⟨rfl, Below.to HB0.out hHeld (Nat.le_refl _)⟩
theorem filter_range_succ (p : Nat → Bool) (k : Nat) : (List.range (k + 1)).filter p = if p k then (List.range k).filter p ++ [k] else (List.range k).filter p := by
  rw [List.range_succ, List.filter_append]
  cases h : p k <;> simp [h]
theorem filter_range_len (p : Nat → Bool) (k : Nat) : ((List.range k).filter p).length ≤ k := by
  have := List.length_filter_le p (List.range k)
  simpa using this
set_option maxRecDepth 100000 in
set_option maxHeartbeats 4000000 in
theorem through_any (run : Nat) (A0 A1 A2 A3 A4 A5 : Option Addr) (q0 q1 q2 q3 q4 q5 : Nat) (l : Lo) (w : World) (h : LoA w w.heap.size A0 A1 A2 A3 A4 A5 q0 q1 q2 q3 q4 q5 l) (ok : LoOk l) (hr : run < l.us.length) :
    Calls Try.prog 110 #[.agg #[.slice A0 l.m.opts.length q0, .slice A1 l.m.rules.length q1, .slice A2 l.ss.length q2, .slice A3 l.us.length q3, .slice A4 l.ps.length q4, .slice A5 l.ws.length q5], .int .i64 run] w fun e w' => ∃ v, e = .returned v ∧ Nods w' w'.heap.size v (thruL l run) ∧ Below w.heap.size w w' := by
  obtain ⟨i0, hi0, iz0, iz1, iz2⟩ := info_parts infoInt
  have H := hide h
  have OK := hide ok
  have hin := ok.runsIn
  have u40 := ok.u40
  have s40 := ok.s40
  have w60 := ok.w60
  have p30 := ok.p30
  obtain ⟨bu, offu, r, HRU, rfl, hbu, hq3, e0, e1, e2, e3⟩ := h.ru hr
  have hrin := hin r (by rw [← HRU.out]; exact getD_mem3 hr)
  obtain ⟨ra, rb, rl, rr⟩ := r
  simp only at hrin e0 e1 e2 e3
  obtain ⟨ka, rfl⟩ := Int.eq_ofNat_of_zero_le hrin.1
  have hka : ka < l.ss.length := by omega
  have hside : sideL l run = stR l.rs run ka l.ss.length := by
    unfold sideL
    rw [rs_getD l hr, HRU.out]
    rfl
  obtain ⟨S, hS⟩ : ∃ S, stR l.rs run ka l.ss.length = S := ⟨_, rfl⟩
  have HSI : Hid (sideL l run = S) := hside.trans hS
  have HSS := hide hS
  have HIN := hide hin
  have hSl : S.length ≤ 40 := by rw [← hS]; exact Nat.le_trans (stR_len hka hin.rs _) s40
  have ir : (run : Int) < (l.us.length : Int) := by omega
  have iq : (l.us.length : Int) ≤ (q3 : Int) := by omega
  clear hside hS hin hrin ok h
  go_enter Try.func110, Try.ntmps110
  go_upto_region 1 with (fail)
  generalize hw0 : World.alloc _ _ = w0
  obtain ⟨hb0, hB0, hs0⟩ := alloc1 hw0
  have HL0 : Hid (LoBox w0 w.heap.size A0 A1 A2 (some ⟨bu, offu, none⟩) A4 A5 q0 q1 q2 q3 q4 q5 l) := hb0
  have c0 := cellOf hb0 0; have c1 := cellOf hb0 1; have c2 := cellOf hb0 2; have c3 := cellOf hb0 3; have c4 := cellOf hb0 4; have c5 := cellOf hb0 5
  have l0 := box_lt hb0
  have l2 : bu < w0.heap.size := by omega
  have g0 := (hB0.cell (p := ⟨bu, offu + run * 4, none⟩) hbu).trans e0
  have HB0 := hide hB0
  have HH0 := hide (H.out.up hB0)
  clear hw0 hb0 hB0 hs0 e0 e1 e2 e3
  refine wp_region_held_drew (S := (fun w' => Below w0.heap.size w0 w')) (by kernel_rfl) ?_ (fun hHeld => ?_)
  · try dsimp only
    exact (by repeat (first | exact Below.refl _ _ | assumption | refine Below.drew ?_ | refine Below.drewN ?_ _ | refine Below.allocT ?_ (Nat.le_refl _) _ | refine Below.setCell ?_ (by simp <;> omega) _ | refine Below.to ?_ (by assumption) (Nat.le_refl _)))
  refine zT 0 rfl ?_
  try simp only [zX]
  refine zT 1 rfl ?_
  try simp only [zX]
  refine zT 2 rfl ?_
  try simp only [zX]
  refine zT 3 rfl ?_
  try simp only [zX]
  refine zT 4 rfl ?_
  try simp only [zX]
  refine zT 5 rfl ?_
  try simp only [zX]
  refine zT 6 rfl ?_
  try simp only [zX]
  refine zT 7 rfl ?_
  try simp only [zX]
  refine wpAnyH_ready (rs := [8]) (by kernel_rfl) (by simp) ?_
  refine AllReadyH.cons rfl (fun K hK => ?_) AllReadyH.nil
  go_simp
  ((go_at_call 62; refine (reached_any A0 A1 A2 (some ⟨bu, offu, none⟩) A4 A5 q0 q1 q2 q3 q4 q5 l ka run _ (HH0.out.up (by assumption)) HIN.out hka s40 u40).mono ?_; rintro e w6 ⟨v6, rfl, hn6, hB6⟩; rw [HSS.out] at hn6; obtain ⟨A6, q6, hv6⟩ := Sl.form hn6; subst hv6; have HN6 := hide hn6; clear hn6))
  (try dsimp only)
  refine hK.out _ _ ?_ (fun hNext => ?_)
  · try dsimp only
    exact (by repeat (first | exact Below.refl _ _ | assumption | refine Below.drew ?_ | refine Below.drewN ?_ _ | refine Below.allocT ?_ (Nat.le_refl _) _ | refine Below.setCell ?_ (by simp <;> omega) _ | refine Below.to ?_ (by assumption) (Nat.le_refl _)))
  clear hK K hHeld
  have hHeld := hNext
  clear hNext
  (try dsimp only at hHeld)
  try simp only [zX]
  refine zT 9 rfl ?_
  try simp only [zX]
  refine wpAnyH_done (by kernel_rfl) ?_ _
  have HB6 := hide (Below.to HB0.out hHeld (Nat.le_refl _))
  have HL6 := hide (HL0.out.to hHeld)
  have R0 : Hid (ReaS w w6 w6.heap.size w.heap.size A0 A1 A2 (some ⟨bu, offu, none⟩) A4 A5 q0 q1 q2 q3 q4 q5 l (.slice none 0 0) []) := ReaS.mk' HB6.out HL6.out (World.ownsRow_nil _ _ _ _) ⟨HB6.out.size, Nat.le_refl _⟩
  have d0 := cellOf HL6.out 0; have d1 := cellOf HL6.out 1; have d2 := cellOf HL6.out 2; have d3 := cellOf HL6.out 3; have d4 := cellOf HL6.out 4; have d5 := cellOf HL6.out 5
  have l6 := box_lt HL6.out
  clear hB6 hHeld c0 c1 c2 c3 c4 c5 l0 g0
  go_wp2_with fail
  clear d0 d1 d2 d3 d4 d5 l6
  go_loopw [4, 6, 7, 8, 9, 22] (fun o _ _ _ _ i wr => ∃ (k : Nat) (A : Option Addr) (cap : Nat) (T : List Nat), i = .int .i64 k ∧ o = .slice A T.length cap ∧ k ≤ l.ws.length ∧ Hid ((List.range k).filter (thruB l run) = T) ∧ Hid (Below w6.heap.size w6 wr) ∧ Hid (ReaS w wr w6.heap.size w.heap.size A0 A1 A2 (some ⟨bu, offu, none⟩) A4 A5 q0 q1 q2 q3 q4 q5 l (.slice A T.length cap) T)) (fun _ _ _ _ _ i _ => l.ws.length - (intOf i).toNat)
  case atStart => exact ⟨0, _, _, [], rfl, rfl, Nat.zero_le _, rfl, Below.refl _ _, R0.out⟩
  case round =>
    obtain ⟨k, A, cap, T, rfl, rfl, hk, HT, HBr, R⟩ := hrel
    have hTl : T.length ≤ 60 := by rw [← HT.out]; exact Nat.le_trans (filter_range_len _ _) (by omega)
    by_cases hkl : k < l.ws.length
    · obtain ⟨bw, offw, x, Af, qf, HX, rfl, hbw, hq5, HFO, e0, e1, e2, e3, e4, e5, e6⟩ := (H.out.below R.out.below).wi hkl
      obtain ⟨⟨a1, a2, a3⟩, b1, b2, b3⟩ := OK.out.wpin hkl
      rw [HX.out] at a1 a2 a3 b1 b2 b3
      have lbw : bw < wr.heap.size := Nat.lt_of_lt_of_le hbw R.out.below.size
      have ik : (k : Int) < (l.ws.length : Int) := by omega
      have iq5 : (l.ws.length : Int) ≤ (q5 : Int) := by omega
      obtain ⟨ef, hef⟩ := Int.eq_ofNat_of_zero_le a3
      obtain ⟨et, het⟩ := Int.eq_ofNat_of_zero_le b3
      have hth : thruB l run k = (decide (ef ∈ S) != decide (et ∈ S)) := by
        unfold thruB endF endT
        rw [HX.out, hef, het, HSI.out, Int.toNat_natCast, Int.toNat_natCast]
      obtain ⟨ca, hca⟩ : ∃ c, decide (ef ∈ S) = c := ⟨_, rfl⟩
      obtain ⟨cb, hcb⟩ : ∃ c, decide (et ∈ S) = c := ⟨_, rfl⟩
      rw [hca, hcb] at hth
      have HTH := hide hth
      have HCA := hide hca
      have HCB := hide hcb
      clear hth hca hcb a3 b3
      go_upto_region 5 with (fail)
      generalize hw1 : World.alloc _ _ = w1
      obtain ⟨hb1, hB1, hs1⟩ := alloc1 hw1
      have R1 := hide (R.out.to hB1)
      have HBr1 := hide (Below.to HBr.out hB1 (Nat.le_refl _))
      have HB1 := hide (Below.to R.out.below hB1 (Nat.le_refl _))
      have d0 := cellOf (R.out.to hB1).box 0; have d1 := cellOf (R.out.to hB1).box 1; have d2 := cellOf (R.out.to hB1).box 2; have d3 := cellOf (R.out.to hB1).box 3; have d4 := cellOf (R.out.to hB1).box 4; have d5 := cellOf (R.out.to hB1).box 5
      have z0 := cellOf hb1 0; have z1 := cellOf hb1 1; have z2 := cellOf hb1 2; have z3 := cellOf hb1 3; have z4 := cellOf hb1 4; have z5 := cellOf hb1 5; have z6 := cellOf hb1 6
      have l1 := box_lt hb1
      have l2 := box_lt (R.out.to hB1).box
      have hen := ends_any x Af x.form.length qf A0 A1 A2 _ A4 _ q0 q1 q2 q3 q4 q5 l w1 (H.out.up HB1.out) a1 a2 b1 b2 p30
      rw [hef, het] at hen
      have HEN := hide hen
      clear hw1 hb1 hB1 hs1 e0 e1 e2 e3 e4 e5 e6 hen hef het
      cases ca
      case false =>
        cases cb
        case false =>
          have HY : Hid (thruB l run k = false) := HTH.out
          go_wp2_with (first | (go_at_call 102; refine HEN.out.mono ?_; rintro e w2 ⟨rfl, hB2⟩; have R2 := hide (R1.out.to hB2); have HN2 := hide (HN6.out.up (Below.to HBr1.out hB2 (Nat.le_refl _))); have HBr2 := hide (Below.to HBr1.out hB2 (Nat.le_refl _)); clear hB2 d0 d1 d2 d3 d4 d5 l1 l2) | (go_at_call 99; refine (containsN_any S _ _ _ _ _ (by unfold maxLen; omega) HN2.out (by first | exact HCA.out | exact HCB.out)).mono ?_; rintro e w4 ⟨rfl, rfl⟩))
          go_roundw
          case rel => exact ⟨k + 1, _, _, T, by go_num, rfl, by omega, by show _ = _; rw [filter_range_succ, HY.out, if_neg (by simp), HT.out], HBr2.out, R2.out⟩
          case measure => simp [intOf]; omega
        case true =>
          have HY : Hid (thruB l run k = true) := HTH.out
          go_wp2_with (first | (go_at_call 102; refine HEN.out.mono ?_; rintro e w2 ⟨rfl, hB2⟩; have R2 := hide (R1.out.to hB2); have HN2 := hide (HN6.out.up (Below.to HBr1.out hB2 (Nat.le_refl _))); have HBr2 := hide (Below.to HBr1.out hB2 (Nat.le_refl _)); clear hB2 d0 d1 d2 d3 d4 d5 l1 l2) | (go_at_call 99; refine (containsN_any S _ _ _ _ _ (by unfold maxLen; omega) HN2.out (by first | exact HCA.out | exact HCB.out)).mono ?_; rintro e w4 ⟨rfl, rfl⟩) | (at_builtin; go_must (refine wpList_append_own_at _ rfl (.tmp 40) (.tmp 42) _ rfl (w6.heap.size) 3 i0 _ 1 8 Try.underlying41 hi0 iz0 iz1 iz2 rfl (by omega) _ _ _ rfl ((R2.out.own).alloc _) ⟨w2.heap.size, 0, none⟩ 1 1 [.int .i64 (k : Nat)] rfl rfl (World.news_of_block (heap_alloc_new w2 _)) (by simp [Value.oneCell']) (by have h1 := hTl; unfold maxLen; omega) (by have h1 := hTl; omega) (by have h1 := R2.out.lt.2; simp; omega) ?_); intro v1 w3 hown1 hg1 _ hat1; obtain ⟨A6', cap6, hv6⟩ := owns_form hown1; subst hv6; have R5 := hide (R2.out.push hown1 hg1); have HBr3 := hide (Below.grown (Below.to HBr2.out ((Below.refl _ w2).alloc (Nat.le_refl _) _) (Nat.le_refl _)) hg1 (by have := R2.out.lt.2; simp; omega) (fun j hj => (R2.out.own.lt j hj).1)); clear hown1 hg1 hat1))
          go_roundw
          case rel => exact ⟨k + 1, A6', cap6, T ++ [k], by go_num, by rw [List.length_append, List.length_singleton], by omega, by show _ = _; rw [filter_range_succ, HY.out, if_pos rfl, HT.out], HBr3.out, by rw [List.length_append, List.length_singleton]; exact R5.out⟩
          case measure => simp [intOf]; omega
      case true =>
        cases cb
        case false =>
          have HY : Hid (thruB l run k = true) := HTH.out
          go_wp2_with (first | (go_at_call 102; refine HEN.out.mono ?_; rintro e w2 ⟨rfl, hB2⟩; have R2 := hide (R1.out.to hB2); have HN2 := hide (HN6.out.up (Below.to HBr1.out hB2 (Nat.le_refl _))); have HBr2 := hide (Below.to HBr1.out hB2 (Nat.le_refl _)); clear hB2 d0 d1 d2 d3 d4 d5 l1 l2) | (go_at_call 99; refine (containsN_any S _ _ _ _ _ (by unfold maxLen; omega) HN2.out (by first | exact HCA.out | exact HCB.out)).mono ?_; rintro e w4 ⟨rfl, rfl⟩) | (at_builtin; go_must (refine wpList_append_own_at _ rfl (.tmp 40) (.tmp 42) _ rfl (w6.heap.size) 3 i0 _ 1 8 Try.underlying41 hi0 iz0 iz1 iz2 rfl (by omega) _ _ _ rfl ((R2.out.own).alloc _) ⟨w2.heap.size, 0, none⟩ 1 1 [.int .i64 (k : Nat)] rfl rfl (World.news_of_block (heap_alloc_new w2 _)) (by simp [Value.oneCell']) (by have h1 := hTl; unfold maxLen; omega) (by have h1 := hTl; omega) (by have h1 := R2.out.lt.2; simp; omega) ?_); intro v1 w3 hown1 hg1 _ hat1; obtain ⟨A6', cap6, hv6⟩ := owns_form hown1; subst hv6; have R5 := hide (R2.out.push hown1 hg1); have HBr3 := hide (Below.grown (Below.to HBr2.out ((Below.refl _ w2).alloc (Nat.le_refl _) _) (Nat.le_refl _)) hg1 (by have := R2.out.lt.2; simp; omega) (fun j hj => (R2.out.own.lt j hj).1)); clear hown1 hg1 hat1))
          go_roundw
          case rel => exact ⟨k + 1, A6', cap6, T ++ [k], by go_num, by rw [List.length_append, List.length_singleton], by omega, by show _ = _; rw [filter_range_succ, HY.out, if_pos rfl, HT.out], HBr3.out, by rw [List.length_append, List.length_singleton]; exact R5.out⟩
          case measure => simp [intOf]; omega
        case true =>
          have HY : Hid (thruB l run k = false) := HTH.out
          go_wp2_with (first | (go_at_call 102; refine HEN.out.mono ?_; rintro e w2 ⟨rfl, hB2⟩; have R2 := hide (R1.out.to hB2); have HN2 := hide (HN6.out.up (Below.to HBr1.out hB2 (Nat.le_refl _))); have HBr2 := hide (Below.to HBr1.out hB2 (Nat.le_refl _)); clear hB2 d0 d1 d2 d3 d4 d5 l1 l2) | (go_at_call 99; refine (containsN_any S _ _ _ _ _ (by unfold maxLen; omega) HN2.out (by first | exact HCA.out | exact HCB.out)).mono ?_; rintro e w4 ⟨rfl, rfl⟩))
          go_roundw
          case rel => exact ⟨k + 1, _, _, T, by go_num, rfl, by omega, by show _ = _; rw [filter_range_succ, HY.out, if_neg (by simp), HT.out], HBr2.out, R2.out⟩
          case measure => simp [intOf]; omega
    · have hke : k = l.ws.length := by omega
      subst hke
      go_wp2_with fail
      go_ret
      exact ⟨_, rfl, by have := R.out.nd; rw [← HT.out] at this; unfold thruL; rw [HT.out] at this ⊢; exact this, R.out.below⟩
end Go.Proofs.Ytmabfnddedffoaa
/- The first variant of the greatest sum. Plain laws. -/
namespace Go.Proofs.Ytmabfnddedffoaa
set_option linter.unusedVariables false
/-- What is known of the nodes after some choices l. -/
structure Pick (ks : List Kn) (N : Nat) (ws : List Int) (nodes : List Nat) (M : Int) (l : List Bool) (ns : List Nat) : Prop where
  len : ns.length = nodes.length
  lt : ∀ n ∈ ns, n < ks.length
  top : ∀ n ∈ ns, l.length ≤ topK ks n
  val : ∀ y, valI ks (vf (l ++ y)) ns ws = valI ks (vf (l ++ y)) nodes ws
  best : bestK ks N nodes ws l = M
  find : (exts N []).find? (fun x => valI ks (vf x) nodes ws == M) = (exts (N - l.length) l).find? (fun x => valI ks (vf x) nodes ws == M)
section
variable {N : Nat} {ks : List Kn} (h : WF N ks) {ws : List Int} {nodes : List Nat} {M : Int}
include h
omit h in
theorem Pick.start (hn : ∀ n ∈ nodes, n < ks.length) (hM : bestK ks N nodes ws [] = M) : Pick ks N ws nodes M [] nodes :=
  ⟨rfl, hn, fun n _ => Nat.zero_le _, fun y => rfl, hM, rfl⟩
omit h in
theorem Pick.bestK {l : List Bool} {ns : List Nat} (p : Pick ks N ws nodes M l ns) : Go.Proofs.Ytmabfnddedffoaa.bestK ks N ns ws l = M := by
  rw [← p.best]
  unfold Go.Proofs.Ytmabfnddedffoaa.bestK
  congr 1
  refine List.map_congr_left fun x hx => ?_
  obtain ⟨y, rfl, _⟩ := exts_prefix hx
  exact p.val y
/-- What best gives for the nodes one step on. -/
theorem Pick.ahead {l : List Bool} {ns : List Nat} (p : Pick ks N ws nodes M l ns) (hl : l.length < N) (b : Bool) : Go.Proofs.Ytmabfnddedffoaa.bestK ks N (ns.map fun n => brK ks n l.length b) ws [] = Go.Proofs.Ytmabfnddedffoaa.bestK ks N nodes ws (l ++ [b]) := by
  have hlt : ∀ n ∈ ns.map fun n => brK ks n l.length b, n < ks.length := by
    intro n hm
    rw [List.mem_map] at hm
    obtain ⟨x, hx, rfl⟩ := hm
    exact brK_lt h (p.lt x hx) hl
  have htt : ∀ n ∈ ns.map fun n => brK ks n l.length b, l.length + 1 ≤ topK ks n := by
    intro n hm
    rw [List.mem_map] at hm
    obtain ⟨x, hx, rfl⟩ := hm
    exact brK_top h (p.lt x hx) hl (p.top x hx)
  have h1 := bestK_lift h (ws := ws) hlt (l.length + 1) 0 (by omega) (fun n hm => by have := htt n hm; omega)
  rw [show List.replicate 0 false = ([] : List Bool) from rfl, Nat.zero_add] at h1
  rw [h1, bestK_len h (l' := l ++ [b]) hlt (by simp) (fun n hm => by have := htt n hm; simp; omega), bestK_br h p.lt hl]
  unfold Go.Proofs.Ytmabfnddedffoaa.bestK
  congr 1
  refine List.map_congr_left fun x hx => ?_
  obtain ⟨y, rfl, _⟩ := exts_prefix hx
  rw [List.append_assoc]
  exact p.val _
omit h in
theorem bestK_find {l : List Bool} (hM : leastI < M) (hb : bestK ks N nodes ws l = M) : ((exts (N - l.length) l).find? fun x => valI ks (vf x) nodes ws == M).isSome = true := by
  rw [List.find?_isSome]
  have h1 := maxL_attained ((exts (N - l.length) l).map fun x => valI ks (vf x) nodes ws) (by unfold bestK at hb; rw [hb]; exact hM)
  rw [List.mem_map] at h1
  obtain ⟨x, hx, he⟩ := h1
  exact ⟨x, hx, by rw [he]; unfold bestK at hb; rw [hb]; simp⟩
omit h in
theorem bestK_none {l : List Bool} (hb : bestK ks N nodes ws l < M) : ((exts (N - l.length) l).find? fun x => valI ks (vf x) nodes ws == M) = none := by
  rw [List.find?_eq_none]
  intro x hx e
  have h1 := maxL_mem ((exts (N - l.length) l).map fun x => valI ks (vf x) nodes ws) (valI ks (vf x) nodes ws) (List.mem_map.2 ⟨x, hx, rfl⟩)
  have h2 : valI ks (vf x) nodes ws = M := by simpa using e
  unfold bestK at hb
  omega
theorem Pick.next {l : List Bool} {ns : List Nat} (p : Pick ks N ws nodes M l ns) (hl : l.length < N) (hM : leastI < M) {b : Bool} (hb : b = decide (Go.Proofs.Ytmabfnddedffoaa.bestK ks N nodes ws (l ++ [false]) < M)) : Pick ks N ws nodes M (l ++ [b]) (ns.map fun n => brK ks n l.length b) := by
  have hs := bestK_split (ks := ks) (nodes := nodes) (ws := ws) hl
  rw [p.best] at hs
  have hne : N - l.length = (N - (l ++ [false]).length) + 1 := by simp; omega
  have hx : (exts (N - l.length) l) = exts (N - (l ++ [false]).length) (l ++ [false]) ++ exts (N - (l ++ [true]).length) (l ++ [true]) := by
    rw [hne]; simp only [exts, List.length_append, List.length_singleton]
  refine ⟨by rw [List.length_map]; exact p.len, ?_, ?_, ?_, ?_, ?_⟩
  · intro n hm
    rw [List.mem_map] at hm
    obtain ⟨x, hx, rfl⟩ := hm
    exact brK_lt h (p.lt x hx) hl
  · intro n hm
    rw [List.mem_map] at hm
    obtain ⟨x, hx, rfl⟩ := hm
    have := brK_top h (b := b) (p.lt x hx) hl (p.top x hx)
    simp; omega
  · intro y
    have h1 := p.val ([b] ++ y)
    rw [← List.append_assoc] at h1
    rw [← h1]
    refine valI_congr (by simp) fun i hi => ?_
    have hi' : i < ns.length := by simpa using hi
    rw [getD_map _ _ 0 _ hi']
    exact brK_ev h (p.lt _ (by rw [List.getD_eq_getElem?_getD, List.getElem?_eq_getElem hi']; exact List.getElem_mem _)) hl _ (vf_at l b y)
  · cases b with
    | true =>
      have : Go.Proofs.Ytmabfnddedffoaa.bestK ks N nodes ws (l ++ [false]) < M := by simpa using hb.symm
      omega
    | false =>
      have : ¬ Go.Proofs.Ytmabfnddedffoaa.bestK ks N nodes ws (l ++ [false]) < M := by simpa using hb.symm
      omega
  · rw [p.find, hx, List.find?_append]
    cases b with
    | true =>
      have : Go.Proofs.Ytmabfnddedffoaa.bestK ks N nodes ws (l ++ [false]) < M := by simpa using hb.symm
      rw [bestK_none this]; rfl
    | false =>
      have : ¬ Go.Proofs.Ytmabfnddedffoaa.bestK ks N nodes ws (l ++ [false]) < M := by simpa using hb.symm
      have h2 := bestK_find (ks := ks) (N := N) (nodes := nodes) (ws := ws) (l := l ++ [false]) hM (by omega)
      obtain ⟨x, hx⟩ := Option.isSome_iff_exists.1 h2
      rw [hx]; rfl
omit h in
theorem Pick.finish {l : List Bool} {ns : List Nat} (p : Pick ks N ws nodes M l ns) (hl : l.length = N) (hM : leastI < M) : (exts N []).find? (fun x => valI ks (vf x) nodes ws == M) = some l := by
  have h1 := bestK_find hM p.best
  rw [p.find]
  rw [hl, Nat.sub_self] at h1 ⊢
  simp only [exts] at h1 ⊢
  rw [List.find?_cons] at h1 ⊢
  split
  · rfl
  · rename_i e
    rw [e] at h1
    simp at h1
end
/-! by formulas -/
def fsum (v : Nat → Bool) : List (List Int) → List Int → Int
  | f :: fs, x :: xs => (if evF1 v f then x else 0) + fsum v fs xs
  | _, _ => 0
/-- What a variant is worth: it has to be buildable. -/
def valF (m : Mo) (fs : List (List Int)) (ws : List Int) (x : List Bool) : Int := if allF (vf x) m.rules then fsum (vf x) fs ws else leastI
def bestF (m : Mo) (fs : List (List Int)) (ws : List Int) : Int := maxL ((exts m.opts.length []).map (valF m fs ws))
theorem wsum_fsum {ks : List Kn} {v : Nat → Bool} : ∀ {ns : List Nat} {fs : List (List Int)} {ws : List Int}, ns.length = fs.length → (∀ i, i < ns.length → ev ks v (ns.getD i 0) = evF1 v (fs.getD i [])) → wsum ks v ns ws = fsum v fs ws
  | [], [], ws, _, _ => by cases ws <;> rfl
  | x :: a, y :: b, [], _, _ => rfl
  | x :: a, y :: b, w :: ws, hl, h => by
    have h0 := h 0 (by simp)
    simp only [List.getD_cons_zero] at h0
    simp only [wsum, fsum, h0]
    rw [wsum_fsum (by simpa using hl) fun i hi => by have := h (i + 1) (by simpa using hi); simpa using this]
  | [], y :: b, _, hl, _ => by simp at hl
  | x :: a, [], _, hl, _ => by simp at hl
theorem valI_valF {ks : List Kn} {m : Mo} {n : Nat} {ns : List Nat} {fs : List (List Int)} {ws : List Int} {x : List Bool} (h0 : ev ks (vf x) n = allF (vf x) m.rules) (hl : ns.length = fs.length) (h : ∀ i, i < ns.length → ev ks (vf x) (ns.getD i 0) = evF1 (vf x) (fs.getD i [])) : valI ks (vf x) (n :: ns) ws = valF m fs ws x := by
  unfold valI valF
  simp only [h0]
  rw [wsum_fsum hl h]
end Go.Proofs.Ytmabfnddedffoaa

/- Move answers as the elder program does, changes the lengths of the plug's own wires alone, and back again gives the loom: for every loom, plug and spot; no condition. -/
import Derived.Test.YtmabfnddedffoaaRows
import Derived.Test.YtmabfnddedffoaaGLV26
import Derived.Test.YtmabfnddedffoaaGLV28
import Derived.Test.YtmabfnddedffoaaGLV35
import Derived.Test.YtmabfnddedffoaaGLV39
import Derived.Test.YtmabfnddedffoaaGLV40
import Derived.Deep.DeepMust
import Derived.Deep.RegionHeld3
import Derived.Deep.DrawnRows
import Derived.Test.YtmabfnddedffoaaGLV3
namespace Go.Proofs.Ytmabfnddedffoaa
open Go.Joins Go.ChangeShapes Go.WideShapes Go.ChangeAt Go.RowKit Go.Deep
set_option linter.unusedVariables false
set_option linter.unusedSimpArgs false
theorem loZ_sized : SizedL Lo.z := by
  refine ⟨⟨?_, ?_, ⟨?_, ?_⟩⟩, ?_, ?_, ?_, ?_, ?_, ?_⟩ <;> simp [Lo.z]
theorem movR_sized {l : Lo} (p s : Int) (h : SizedL l) : SizedL (movR l p s) := by
  by_cases he : movE l p s = 0
  · rw [movR_ok he]
    obtain ⟨_, h0, h1, _⟩ := movE_ok he
    exact movL_sized _ _ (by omega) h
  · rw [movR_bad he]
    exact loZ_sized
set_option maxRecDepth 100000 in
set_option maxHeartbeats 2000000 in
theorem loomMoves_walk (p s : Int) (A0 A1 A2 A3 A4 A5 : Option Addr) (q0 q1 q2 q3 q4 q5 : Nat) (l : Lo) (w : World) (hs : SizedL l) (h : LoA w w.heap.size A0 A1 A2 A3 A4 A5 q0 q1 q2 q3 q4 q5 l) :
    Calls Try.prog 9 #[.agg #[.slice A0 l.m.opts.length q0, .slice A1 l.m.rules.length q1, .slice A2 l.ss.length q2, .slice A3 l.us.length q3, .slice A4 l.ps.length q4, .slice A5 l.ws.length q5], .int .i64 p, .int .i64 s] w fun e w' => e = .returned (.bool true) ∧ Below w.heap.size w w' := by
  have H := hide h
  have HS := hide hs
  clear h hs
  cases hfar : farB l with
  | true =>
    have HFAR := hide hfar
    clear hfar
    go_enter Try.func9, Try.ntmps9
    go_upto_region 1 with (fail)
    generalize hw0 : World.alloc _ _ = w0
    obtain ⟨hb0, hB0, hs0⟩ := alloc1 hw0
    have HB0 := hide hB0
    have c0 := cellOf hb0 0; have c1 := cellOf hb0 1; have c2 := cellOf hb0 2; have c3 := cellOf hb0 3; have c4 := cellOf hb0 4; have c5 := cellOf hb0 5
    have hlb := box_lt hb0
    clear hw0 hb0 hB0 hs0
    go_wp2_with (first | (go_at_call 14; refine (Far_any A0 A1 A2 A3 A4 A5 q0 q1 q2 q3 q4 q5 l _ HS.out (H.out.up HB0.out)).mono ?_; rw [HFAR.out]; rintro e w1 ⟨rfl, hB1⟩; have HB1 := hide (Below.to HB0.out hB1 (Nat.le_refl _)); clear hB1 c0 c1 c2 c3 c4 c5 hlb) | (go_at_call 15; refine (works_loom _).mono ?_; rintro e w2 ⟨rfl, hB2⟩))
    go_ret
    exact ⟨rfl, Below.to HB1.out hB2 (Nat.le_refl _)⟩
  | false =>
  have HFAR := hide hfar
  clear hfar
  obtain ⟨er, her⟩ : ∃ z, movE l p s = z := ⟨_, rfl⟩
  obtain ⟨lo, hlo⟩ : ∃ z, movR l p s = z := ⟨_, rfl⟩
  have HE := hide her
  have HLO := hide hlo
  have HSLO : Hid (SizedL lo) := by show SizedL _; rw [← hlo]; exact movR_sized p s HS.out
  have n1 : (er != er) = false := by simp
  clear her hlo
  go_enter Try.func9, Try.ntmps9
  go_upto_region 1 with (fail)
  generalize hw0 : World.alloc _ _ = w0
  obtain ⟨hb0, hB0, hs0⟩ := alloc1 hw0
  have HL0 : Hid (LoBox w0 w.heap.size A0 A1 A2 A3 A4 A5 q0 q1 q2 q3 q4 q5 l) := hb0
  have HB0 := hide hB0
  have c0 := cellOf hb0 0; have c1 := cellOf hb0 1; have c2 := cellOf hb0 2; have c3 := cellOf hb0 3; have c4 := cellOf hb0 4; have c5 := cellOf hb0 5
  have hlb := box_lt hb0
  clear hw0 hb0 hB0 hs0
  go_upto_region 3 with (go_at_call 14; refine (Far_any A0 A1 A2 A3 A4 A5 q0 q1 q2 q3 q4 q5 l _ HS.out (H.out.up HB0.out)).mono ?_; rw [HFAR.out]; rintro e w1 ⟨rfl, hB1⟩; have d0 := cellOf (HL0.out.to hB1) 0; have d1 := cellOf (HL0.out.to hB1) 1; have d2 := cellOf (HL0.out.to hB1) 2; have d3 := cellOf (HL0.out.to hB1) 3; have d4 := cellOf (HL0.out.to hB1) 4; have d5 := cellOf (HL0.out.to hB1) 5; have ld := box_lt (HL0.out.to hB1); have HL1 := hide (HL0.out.to hB1); have HB1 := hide (Below.to HB0.out hB1 (Nat.le_refl _)); clear hB1 c0 c1 c2 c3 c4 c5 hlb)
  go_upto_region 4 with (first | (go_at_call 16; refine (Copy_any A0 A1 A2 A3 A4 A5 q0 q1 q2 q3 q4 q5 l _ HS.out HFAR.out (H.out.up HB1.out)).mono ?_; rintro e w2 ⟨C0, C1, C2, C3, C4, C5, r0, r1, r2, r3, r4, r5, rfl, hl2, hB2⟩; have HC2 := hide hl2; have HL2 := hide (HL1.out.to hB2); have HB2 := hide (Below.to HB1.out hB2 (Nat.le_refl _)); clear hl2 hB2 d0 d1 d2 d3 d4 d5 ld) | (go_at_call 41; refine (Move_any p s C0 C1 C2 C3 C4 C5 r0 r1 r2 r3 r4 r5 l _ HS.out HFAR.out HC2.out).mono ?_; rw [HLO.out, HE.out]; rintro e w3 ⟨E0, E1, E2, E3, E4, E5, e0, e1, e2, e3, e4, e5, rfl, hl3, hB3⟩; have HE3 := hide hl3; have HL3 := hide (HL2.out.to hB3); have HB3 := hide (Below.to HB2.out hB3 (Nat.le_refl _)); clear hl3 hB3))
  generalize hwa : World.alloc _ _ = wa
  obtain ⟨hb0, hB0, hs0⟩ := alloc1 hwa
  obtain ⟨pa, hpa⟩ : ∃ n, w3.heap.size = n := ⟨_, rfl⟩
  rw [hpa] at hb0
  rw [hpa]
  have HPA : Hid (LoBox wa pa E0 E1 E2 E3 E4 E5 e0 e1 e2 e3 e4 e5 lo) := hb0
  have HEA := hide (HE3.out.up hB0)
  have HLA := hide (HL3.out.to hB0)
  have HBA := hide (Below.to HB3.out hB0 (Nat.le_refl _))
  have c0 := cellOf HLA.out 0; have c1 := cellOf HLA.out 1; have c2 := cellOf HLA.out 2; have c3 := cellOf HLA.out 3; have c4 := cellOf HLA.out 4; have c5 := cellOf HLA.out 5
  have hlb := box_lt HLA.out
  clear hwa hb0 hB0 hs0 hpa
  go_upto_region 5 with (go_at_call 42; refine (rMove_any p s A0 A1 A2 A3 A4 A5 q0 q1 q2 q3 q4 q5 l _ HS.out HFAR.out (H.out.up HBA.out)).mono ?_; rw [HLO.out, HE.out]; rintro e w4 ⟨D0, D1, D2, D3, D4, D5, d0, d1, d2, d3, d4, d5, rfl, hl4, hB4⟩; have HD4 := hide hl4; have HE4 := hide (HEA.out.up hB4); have HPA4 := hide (HPA.out.to hB4); have HL4 := hide (HLA.out.to hB4); have HB4 := hide (Below.to HBA.out hB4 (Nat.le_refl _)); clear hl4 hB4 c0 c1 c2 c3 c4 c5 hlb)
  generalize hwb : World.alloc _ _ = wb
  obtain ⟨hb0, hB0, hs0⟩ := alloc1 hwb
  obtain ⟨pb, hpb⟩ : ∃ n, w4.heap.size = n := ⟨_, rfl⟩
  rw [hpb] at hb0
  rw [hpb]
  have HPB : Hid (LoBox wb pb D0 D1 D2 D3 D4 D5 d0 d1 d2 d3 d4 d5 lo) := hb0
  have HPAB := hide (HPA4.out.to hB0)
  have HDB := hide (HD4.out.up hB0)
  have HEB := hide (HE4.out.up hB0)
  have HLB := hide (HL4.out.to hB0)
  have HBB := hide (Below.to HB4.out hB0 (Nat.le_refl _))
  have c0 := cellOf HPAB.out 0; have c1 := cellOf HPAB.out 1; have c2 := cellOf HPAB.out 2; have c3 := cellOf HPAB.out 3; have c4 := cellOf HPAB.out 4; have c5 := cellOf HPAB.out 5
  have hlb := box_lt HPAB.out
  have d0 := cellOf HPB.out 0; have d1 := cellOf HPB.out 1; have d2 := cellOf HPB.out 2; have d3 := cellOf HPB.out 3; have d4 := cellOf HPB.out 4; have d5 := cellOf HPB.out 5
  have ld := box_lt HPB.out
  clear hwb hb0 hB0 hs0 hpb
  by_cases her0 : er = 0
  case neg =>
    have n2 : (er != 0) = true := by simpa using her0
    go_wp2_with (first | (go_at_call 19; refine (Same_any _ _ _ _ _ _ _ _ _ _ _ _ _ _ _ _ _ _ _ _ _ _ _ _ lo _ HSLO.out HEB.out HDB.out).mono ?_; rintro e w5 ⟨rfl, hB5⟩; have HB5 := hide (Below.to HBB.out hB5 (Nat.le_refl _)); clear hB5 c0 c1 c2 c3 c4 c5 hlb d0 d1 d2 d3 d4 d5 ld) | (go_at_call 15; refine (works_loom _).mono ?_; rintro e w6 ⟨rfl, hB6⟩))
    go_ret
    exact ⟨rfl, Below.to HB5.out hB6 (Nat.le_refl _)⟩
  case pos =>
  subst her0
  obtain ⟨ok, p0, p1, s0, s1⟩ := movE_ok HE.out
  have hlo := HLO.out
  rw [movR_ok HE.out] at hlo
  obtain ⟨j, rfl⟩ := Int.eq_ofNat_of_zero_le p0
  rw [Int.toNat_natCast] at hlo
  subst hlo
  have hj : j < l.ps.length := by omega
  have OK := hide ok
  have hlz : l.err = 0 := by
    have he := HE.out
    by_cases h0 : l.err = 0
    · exact h0
    · rw [movE_err h0] at he
      exact he
  have HLZ := hide hlz
  have HFLO : Hid (farB (movL l j s) = false) := by show _ = _; rw [movL_far l j s hj]; exact HFAR.out
  clear ok hlz
  go_upto_region 9 with (go_at_call 19; refine (Same_any _ _ _ _ _ _ _ _ _ _ _ _ _ _ _ _ _ _ _ _ _ _ _ _ (movL l j s) _ HSLO.out HEB.out HDB.out).mono ?_; rintro e w5 ⟨rfl, hB5⟩; have HB5 := hide (Below.to HBB.out hB5 (Nat.le_refl _)); have HPA5 := hide (HPAB.out.to hB5); have HE5 := hide (HEB.out.up hB5); have HL5 := hide (HLB.out.to hB5); clear hB5 c0 c1 c2 c3 c4 c5 hlb d0 d1 d2 d3 d4 d5 ld)
  obtain ⟨bp, offp, x, HX, hA4, hbp, hq4, ep0, ep1, ep2⟩ := (H.out.up HB5.out).pl hj
  subst hA4
  have lbp : bp < w5.heap.size := hbp
  have ij : (j : Int) < (l.ps.length : Int) := by omega
  have ij0 : (0 : Int) ≤ (j : Int) := by omega
  have iq4 : (l.ps.length : Int) ≤ (q4 : Int) := by omega
  have hback : movR (movL l j s) j x.spot = l ∧ movE (movL l j s) j x.spot = 0 := by
    have h1 := movE_back hj s0 s1 HLZ.out
    have h2 := movL_back l j s hj
    rw [HX.out] at h1 h2
    exact ⟨by rw [movR_ok h1, Int.toNat_natCast, h2], h1⟩
  have HBK := hide hback
  have c0 := cellOf HPA5.out 0; have c1 := cellOf HPA5.out 1; have c2 := cellOf HPA5.out 2; have c3 := cellOf HPA5.out 3; have c4 := cellOf HPA5.out 4; have c5 := cellOf HPA5.out 5
  have hlb := box_lt HPA5.out
  have d0 := cellOf HL5.out 0; have d1 := cellOf HL5.out 1; have d2 := cellOf HL5.out 2; have d3 := cellOf HL5.out 3; have d4 := cellOf HL5.out 4; have d5 := cellOf HL5.out 5
  have ld := box_lt HL5.out
  clear hback hbp hq4 ep0 ep2
  go_cut [11, 12] from 49 to 61 (fun q er wc => er = .int .i64 0 ∧ ∃ (pz : Nat) (F0 F1 F2 F3 F4 F5 : Option Addr) (f0 f1 f2 f3 f4 f5 : Nat), q = .pointer (some ⟨pz, 0, none⟩) ∧ Hid (LoBox wc pz F0 F1 F2 F3 F4 F5 f0 f1 f2 f3 f4 f5 l) ∧ Hid (LoA wc wc.heap.size F0 F1 F2 F3 F4 F5 f0 f1 f2 f3 f4 f5 l) ∧ Hid (Below w5.heap.size w5 wc))
  case first =>
    refine wp_region_held_drew (S := (fun w' => Below w5.heap.size w5 w')) (by kernel_rfl) ?_ (fun hHeld => ?_)
    · try dsimp only
      exact (by repeat (first | (with_reducible exact Below.refl _ _) | (with_reducible assumption) | (with_reducible refine Below.drew ?_) | (with_reducible refine Below.drewN ?_ _) | (with_reducible refine Below.allocT ?_ (Nat.le_refl _) _) | (with_reducible refine Below.setCell ?_ (by simp <;> omega) _) | refine Below.to ?_ (by assumption) (Nat.le_refl _)))
    refine zT 0 rfl ?_
    try simp only [zX]
    refine zT 2 rfl ?_
    try simp only [zX]
    refine zT 3 rfl ?_
    try simp only [zX]
    refine zT 4 rfl ?_
    try simp only [zX]
    refine zT 5 rfl ?_
    try simp only [zX]
    refine zT 6 rfl ?_
    try simp only [zX]
    refine zT 7 rfl ?_
    try simp only [zX]
    refine zT 8 rfl ?_
    try simp only [zX]
    refine wpAnyH_ready (rs := [1, 13]) (by kernel_rfl) (by simp) ?_
    refine (AllReadyH.cons rfl (fun K hK => ?o1_9_1) (AllReadyH.cons rfl (fun K hK => ?o1_9_13) AllReadyH.nil))
    case' o1_9_1 =>
      go_simp
      ((first | (go_at_call 16; refine (Copy_any _ _ _ _ _ _ _ _ _ _ _ _ (movL l j s) _ HSLO.out HFLO.out (HE5.out.up hHeld)).mono ?_; rintro e w6 ⟨G0, G1, G2, G3, G4, G5, g0, g1, g2, g3, g4, g5, rfl, hl6, hB6⟩; (try have hz6 := heap_below (w := (World.alloc w5 _).drew) (heap_alloc_new w5 _) hB6); have HG6 := hide hl6; have hs6 : w5.heap.size ≤ w6.heap.size := (Below.to hHeld hB6 (Nat.le_refl _)).size; clear hl6) | (go_at_call 41; refine (MoveO_any _ _ _ _ _ _ _ _ _ _ _ _ _ _ (movL l j s) _ HSLO.out HFLO.out (HG6.out.up (by repeat (first | exact Below.refl _ _ | assumption | refine Below.drew ?_ | refine Below.drewN ?_ _ | refine Below.allocT ?_ (Nat.le_refl _) _ | refine Below.setCell ?_ (by simp <;> omega) _ | refine Below.to ?_ (by assumption) (Nat.le_refl _))))).mono ?_; rw [HBK.out.1, HBK.out.2]; rintro e w7 ⟨F0, F1, F2, F3, F4, F5, f0, f1, f2, f3, f4, f5, cf, vf, rfl, hl7, hB7⟩; (first | (have hz7 := heap_below hz6 hB7; have y0 := cellOf hz7 0; have v0 := unfrozenOf hz7 0; have y1 := cellOf hz7 1; have v1 := unfrozenOf hz7 1; have y2 := cellOf hz7 2; have v2 := unfrozenOf hz7 2; have y3 := cellOf hz7 3; have v3 := unfrozenOf hz7 3; have y4 := cellOf hz7 4; have v4 := unfrozenOf hz7 4; have y5 := cellOf hz7 5; have v5 := unfrozenOf hz7 5; have lr := box_lt hz7) | (have hz7 := heap_below (heap_alloc_new w6 _) hB7; have y0 := cellOf hz7 0; have v0 := unfrozenOf hz7 0; have y1 := cellOf hz7 1; have v1 := unfrozenOf hz7 1; have y2 := cellOf hz7 2; have v2 := unfrozenOf hz7 2; have y3 := cellOf hz7 3; have v3 := unfrozenOf hz7 3; have y4 := cellOf hz7 4; have v4 := unfrozenOf hz7 4; have y5 := cellOf hz7 5; have v5 := unfrozenOf hz7 5; have lr := box_lt hz7) | skip); have HF7 := hide hl7; have hs7 : w5.heap.size ≤ w7.heap.size := (Below.to hHeld hB7 (Nat.le_refl _)).size; clear hl7)))
      (try dsimp only)
      refine hK.out _ _ ?_ (fun hNext => ?_)
      · try dsimp only
        exact (by repeat (first | (with_reducible exact Below.refl _ _) | (with_reducible assumption) | (with_reducible refine Below.drew ?_) | (with_reducible refine Below.drewN ?_ _) | (with_reducible refine Below.allocT ?_ (Nat.le_refl _) _) | (with_reducible refine Below.setCell ?_ (by simp <;> omega) _) | refine Below.to ?_ (by assumption) (Nat.le_refl _)))
      clear hK K hHeld
      have hHeld := hNext
      clear hNext
      (try dsimp only at hHeld)
      try simp only [zX]
      refine wpAnyH_ready (rs := [9, 13]) (by kernel_rfl) (by simp) ?_
      refine (AllReadyH.cons rfl (fun K hK => ?o1_10_9) (AllReadyH.cons rfl (fun K hK => ?o1_10_13) AllReadyH.nil))
      case' o1_10_9 =>
        go_simp
        ((first | (go_at_call 16; refine (Copy_any _ _ _ _ _ _ _ _ _ _ _ _ (movL l j s) _ HSLO.out HFLO.out (HE5.out.up hHeld)).mono ?_; rintro e w6 ⟨G0, G1, G2, G3, G4, G5, g0, g1, g2, g3, g4, g5, rfl, hl6, hB6⟩; (try have hz6 := heap_below (w := (World.alloc w5 _).drew) (heap_alloc_new w5 _) hB6); have HG6 := hide hl6; have hs6 : w5.heap.size ≤ w6.heap.size := (Below.to hHeld hB6 (Nat.le_refl _)).size; clear hl6) | (go_at_call 41; refine (MoveO_any _ _ _ _ _ _ _ _ _ _ _ _ _ _ (movL l j s) _ HSLO.out HFLO.out (HG6.out.up (by repeat (first | exact Below.refl _ _ | assumption | refine Below.drew ?_ | refine Below.drewN ?_ _ | refine Below.allocT ?_ (Nat.le_refl _) _ | refine Below.setCell ?_ (by simp <;> omega) _ | refine Below.to ?_ (by assumption) (Nat.le_refl _))))).mono ?_; rw [HBK.out.1, HBK.out.2]; rintro e w7 ⟨F0, F1, F2, F3, F4, F5, f0, f1, f2, f3, f4, f5, cf, vf, rfl, hl7, hB7⟩; (first | (have hz7 := heap_below hz6 hB7; have y0 := cellOf hz7 0; have v0 := unfrozenOf hz7 0; have y1 := cellOf hz7 1; have v1 := unfrozenOf hz7 1; have y2 := cellOf hz7 2; have v2 := unfrozenOf hz7 2; have y3 := cellOf hz7 3; have v3 := unfrozenOf hz7 3; have y4 := cellOf hz7 4; have v4 := unfrozenOf hz7 4; have y5 := cellOf hz7 5; have v5 := unfrozenOf hz7 5; have lr := box_lt hz7) | (have hz7 := heap_below (heap_alloc_new w6 _) hB7; have y0 := cellOf hz7 0; have v0 := unfrozenOf hz7 0; have y1 := cellOf hz7 1; have v1 := unfrozenOf hz7 1; have y2 := cellOf hz7 2; have v2 := unfrozenOf hz7 2; have y3 := cellOf hz7 3; have v3 := unfrozenOf hz7 3; have y4 := cellOf hz7 4; have v4 := unfrozenOf hz7 4; have y5 := cellOf hz7 5; have v5 := unfrozenOf hz7 5; have lr := box_lt hz7) | skip); have HF7 := hide hl7; have hs7 : w5.heap.size ≤ w7.heap.size := (Below.to hHeld hB7 (Nat.le_refl _)).size; clear hl7)))
        (try dsimp only)
        refine hK.out _ _ ?_ (fun hNext => ?_)
        · try dsimp only
          exact (by repeat (first | (with_reducible exact Below.refl _ _) | (with_reducible assumption) | (with_reducible refine Below.drew ?_) | (with_reducible refine Below.drewN ?_ _) | (with_reducible refine Below.allocT ?_ (Nat.le_refl _) _) | (with_reducible refine Below.setCell ?_ (by simp <;> omega) _) | refine Below.to ?_ (by assumption) (Nat.le_refl _)))
        clear hK K hHeld
        have hHeld := hNext
        clear hNext
        (try dsimp only at hHeld)
        try simp only [zX]
        refine zT 10 rfl ?_
        try simp only [zX]
        refine zT 11 rfl ?_
        try simp only [zX]
        refine zT 12 rfl ?_
        try simp only [zX]
        refine wpAnyH_ready (rs := [13]) (by kernel_rfl) (by simp) ?_
        refine (AllReadyH.cons rfl (fun K hK => ?_) AllReadyH.nil)
        go_simp
        refine hK.out _ _ ?_ (fun hNext => ?_)
        · try dsimp only
          exact (by repeat (first | (with_reducible exact Below.refl _ _) | (with_reducible assumption) | (with_reducible refine Below.drew ?_) | (with_reducible refine Below.drewN ?_ _) | (with_reducible refine Below.allocT ?_ (Nat.le_refl _) _) | (with_reducible refine Below.setCell ?_ (by simp <;> omega) _) | refine Below.to ?_ (by assumption) (Nat.le_refl _)))
        clear hK K hHeld
        have hHeld := hNext
        clear hNext
        (try dsimp only at hHeld)
        try simp only [zX]
        refine wpAnyH_ready (rs := [14]) (by kernel_rfl) (by simp) ?_
        refine (AllReadyH.cons rfl (fun K hK => ?_) AllReadyH.nil)
        go_simp
        refine hK.out _ _ ?_ (fun hNext => ?_)
        · try dsimp only
          exact (by repeat (first | (with_reducible exact Below.refl _ _) | (with_reducible assumption) | (with_reducible refine Below.drew ?_) | (with_reducible refine Below.drewN ?_ _) | (with_reducible refine Below.allocT ?_ (Nat.le_refl _) _) | (with_reducible refine Below.setCell ?_ (by simp <;> omega) _) | refine Below.to ?_ (by assumption) (Nat.le_refl _)))
        clear hK K hHeld
        have hHeld := hNext
        clear hNext
        (try dsimp only at hHeld)
        try simp only [zX]
        refine zT 15 rfl ?_
        try simp only [zX]
        refine wpAnyH_done (by kernel_rfl) ?_ _
      case' o1_10_13 =>
        go_simp
        refine hK.out _ _ ?_ (fun hNext => ?_)
        · try dsimp only
          exact (by repeat (first | (with_reducible exact Below.refl _ _) | (with_reducible assumption) | (with_reducible refine Below.drew ?_) | (with_reducible refine Below.drewN ?_ _) | (with_reducible refine Below.allocT ?_ (Nat.le_refl _) _) | (with_reducible refine Below.setCell ?_ (by simp <;> omega) _) | refine Below.to ?_ (by assumption) (Nat.le_refl _)))
        clear hK K hHeld
        have hHeld := hNext
        clear hNext
        (try dsimp only at hHeld)
        try simp only [zX]
        refine wpAnyH_ready (rs := [9]) (by kernel_rfl) (by simp) ?_
        refine (AllReadyH.cons rfl (fun K hK => ?_) AllReadyH.nil)
        go_simp
        ((first | (go_at_call 16; refine (Copy_any _ _ _ _ _ _ _ _ _ _ _ _ (movL l j s) _ HSLO.out HFLO.out (HE5.out.up hHeld)).mono ?_; rintro e w6 ⟨G0, G1, G2, G3, G4, G5, g0, g1, g2, g3, g4, g5, rfl, hl6, hB6⟩; (try have hz6 := heap_below (w := (World.alloc w5 _).drew) (heap_alloc_new w5 _) hB6); have HG6 := hide hl6; have hs6 : w5.heap.size ≤ w6.heap.size := (Below.to hHeld hB6 (Nat.le_refl _)).size; clear hl6) | (go_at_call 41; refine (MoveO_any _ _ _ _ _ _ _ _ _ _ _ _ _ _ (movL l j s) _ HSLO.out HFLO.out (HG6.out.up (by repeat (first | exact Below.refl _ _ | assumption | refine Below.drew ?_ | refine Below.drewN ?_ _ | refine Below.allocT ?_ (Nat.le_refl _) _ | refine Below.setCell ?_ (by simp <;> omega) _ | refine Below.to ?_ (by assumption) (Nat.le_refl _))))).mono ?_; rw [HBK.out.1, HBK.out.2]; rintro e w7 ⟨F0, F1, F2, F3, F4, F5, f0, f1, f2, f3, f4, f5, cf, vf, rfl, hl7, hB7⟩; (first | (have hz7 := heap_below hz6 hB7; have y0 := cellOf hz7 0; have v0 := unfrozenOf hz7 0; have y1 := cellOf hz7 1; have v1 := unfrozenOf hz7 1; have y2 := cellOf hz7 2; have v2 := unfrozenOf hz7 2; have y3 := cellOf hz7 3; have v3 := unfrozenOf hz7 3; have y4 := cellOf hz7 4; have v4 := unfrozenOf hz7 4; have y5 := cellOf hz7 5; have v5 := unfrozenOf hz7 5; have lr := box_lt hz7) | (have hz7 := heap_below (heap_alloc_new w6 _) hB7; have y0 := cellOf hz7 0; have v0 := unfrozenOf hz7 0; have y1 := cellOf hz7 1; have v1 := unfrozenOf hz7 1; have y2 := cellOf hz7 2; have v2 := unfrozenOf hz7 2; have y3 := cellOf hz7 3; have v3 := unfrozenOf hz7 3; have y4 := cellOf hz7 4; have v4 := unfrozenOf hz7 4; have y5 := cellOf hz7 5; have v5 := unfrozenOf hz7 5; have lr := box_lt hz7) | skip); have HF7 := hide hl7; have hs7 : w5.heap.size ≤ w7.heap.size := (Below.to hHeld hB7 (Nat.le_refl _)).size; clear hl7)))
        (try dsimp only)
        refine hK.out _ _ ?_ (fun hNext => ?_)
        · try dsimp only
          exact (by repeat (first | (with_reducible exact Below.refl _ _) | (with_reducible assumption) | (with_reducible refine Below.drew ?_) | (with_reducible refine Below.drewN ?_ _) | (with_reducible refine Below.allocT ?_ (Nat.le_refl _) _) | (with_reducible refine Below.setCell ?_ (by simp <;> omega) _) | refine Below.to ?_ (by assumption) (Nat.le_refl _)))
        clear hK K hHeld
        have hHeld := hNext
        clear hNext
        (try dsimp only at hHeld)
        try simp only [zX]
        refine zT 10 rfl ?_
        try simp only [zX]
        refine zT 11 rfl ?_
        try simp only [zX]
        refine zT 12 rfl ?_
        try simp only [zX]
        refine wpAnyH_ready (rs := [14]) (by kernel_rfl) (by simp) ?_
        refine (AllReadyH.cons rfl (fun K hK => ?_) AllReadyH.nil)
        go_simp
        refine hK.out _ _ ?_ (fun hNext => ?_)
        · try dsimp only
          exact (by repeat (first | (with_reducible exact Below.refl _ _) | (with_reducible assumption) | (with_reducible refine Below.drew ?_) | (with_reducible refine Below.drewN ?_ _) | (with_reducible refine Below.allocT ?_ (Nat.le_refl _) _) | (with_reducible refine Below.setCell ?_ (by simp <;> omega) _) | refine Below.to ?_ (by assumption) (Nat.le_refl _)))
        clear hK K hHeld
        have hHeld := hNext
        clear hNext
        (try dsimp only at hHeld)
        try simp only [zX]
        refine zT 15 rfl ?_
        try simp only [zX]
        refine wpAnyH_done (by kernel_rfl) ?_ _
    case' o1_9_13 =>
      go_simp
      refine hK.out _ _ ?_ (fun hNext => ?_)
      · try dsimp only
        exact (by repeat (first | (with_reducible exact Below.refl _ _) | (with_reducible assumption) | (with_reducible refine Below.drew ?_) | (with_reducible refine Below.drewN ?_ _) | (with_reducible refine Below.allocT ?_ (Nat.le_refl _) _) | (with_reducible refine Below.setCell ?_ (by simp <;> omega) _) | refine Below.to ?_ (by assumption) (Nat.le_refl _)))
      clear hK K hHeld
      have hHeld := hNext
      clear hNext
      (try dsimp only at hHeld)
      try simp only [zX]
      refine wpAnyH_ready (rs := [1]) (by kernel_rfl) (by simp) ?_
      refine (AllReadyH.cons rfl (fun K hK => ?_) AllReadyH.nil)
      go_simp
      ((first | (go_at_call 16; refine (Copy_any _ _ _ _ _ _ _ _ _ _ _ _ (movL l j s) _ HSLO.out HFLO.out (HE5.out.up hHeld)).mono ?_; rintro e w6 ⟨G0, G1, G2, G3, G4, G5, g0, g1, g2, g3, g4, g5, rfl, hl6, hB6⟩; (try have hz6 := heap_below (w := (World.alloc w5 _).drew) (heap_alloc_new w5 _) hB6); have HG6 := hide hl6; have hs6 : w5.heap.size ≤ w6.heap.size := (Below.to hHeld hB6 (Nat.le_refl _)).size; clear hl6) | (go_at_call 41; refine (MoveO_any _ _ _ _ _ _ _ _ _ _ _ _ _ _ (movL l j s) _ HSLO.out HFLO.out (HG6.out.up (by repeat (first | exact Below.refl _ _ | assumption | refine Below.drew ?_ | refine Below.drewN ?_ _ | refine Below.allocT ?_ (Nat.le_refl _) _ | refine Below.setCell ?_ (by simp <;> omega) _ | refine Below.to ?_ (by assumption) (Nat.le_refl _))))).mono ?_; rw [HBK.out.1, HBK.out.2]; rintro e w7 ⟨F0, F1, F2, F3, F4, F5, f0, f1, f2, f3, f4, f5, cf, vf, rfl, hl7, hB7⟩; (first | (have hz7 := heap_below hz6 hB7; have y0 := cellOf hz7 0; have v0 := unfrozenOf hz7 0; have y1 := cellOf hz7 1; have v1 := unfrozenOf hz7 1; have y2 := cellOf hz7 2; have v2 := unfrozenOf hz7 2; have y3 := cellOf hz7 3; have v3 := unfrozenOf hz7 3; have y4 := cellOf hz7 4; have v4 := unfrozenOf hz7 4; have y5 := cellOf hz7 5; have v5 := unfrozenOf hz7 5; have lr := box_lt hz7) | (have hz7 := heap_below (heap_alloc_new w6 _) hB7; have y0 := cellOf hz7 0; have v0 := unfrozenOf hz7 0; have y1 := cellOf hz7 1; have v1 := unfrozenOf hz7 1; have y2 := cellOf hz7 2; have v2 := unfrozenOf hz7 2; have y3 := cellOf hz7 3; have v3 := unfrozenOf hz7 3; have y4 := cellOf hz7 4; have v4 := unfrozenOf hz7 4; have y5 := cellOf hz7 5; have v5 := unfrozenOf hz7 5; have lr := box_lt hz7) | skip); have HF7 := hide hl7; have hs7 : w5.heap.size ≤ w7.heap.size := (Below.to hHeld hB7 (Nat.le_refl _)).size; clear hl7)))
      (try dsimp only)
      refine hK.out _ _ ?_ (fun hNext => ?_)
      · try dsimp only
        exact (by repeat (first | (with_reducible exact Below.refl _ _) | (with_reducible assumption) | (with_reducible refine Below.drew ?_) | (with_reducible refine Below.drewN ?_ _) | (with_reducible refine Below.allocT ?_ (Nat.le_refl _) _) | (with_reducible refine Below.setCell ?_ (by simp <;> omega) _) | refine Below.to ?_ (by assumption) (Nat.le_refl _)))
      clear hK K hHeld
      have hHeld := hNext
      clear hNext
      (try dsimp only at hHeld)
      try simp only [zX]
      refine wpAnyH_ready (rs := [9]) (by kernel_rfl) (by simp) ?_
      refine (AllReadyH.cons rfl (fun K hK => ?_) AllReadyH.nil)
      go_simp
      ((first | (go_at_call 16; refine (Copy_any _ _ _ _ _ _ _ _ _ _ _ _ (movL l j s) _ HSLO.out HFLO.out (HE5.out.up hHeld)).mono ?_; rintro e w6 ⟨G0, G1, G2, G3, G4, G5, g0, g1, g2, g3, g4, g5, rfl, hl6, hB6⟩; (try have hz6 := heap_below (w := (World.alloc w5 _).drew) (heap_alloc_new w5 _) hB6); have HG6 := hide hl6; have hs6 : w5.heap.size ≤ w6.heap.size := (Below.to hHeld hB6 (Nat.le_refl _)).size; clear hl6) | (go_at_call 41; refine (MoveO_any _ _ _ _ _ _ _ _ _ _ _ _ _ _ (movL l j s) _ HSLO.out HFLO.out (HG6.out.up (by repeat (first | exact Below.refl _ _ | assumption | refine Below.drew ?_ | refine Below.drewN ?_ _ | refine Below.allocT ?_ (Nat.le_refl _) _ | refine Below.setCell ?_ (by simp <;> omega) _ | refine Below.to ?_ (by assumption) (Nat.le_refl _))))).mono ?_; rw [HBK.out.1, HBK.out.2]; rintro e w7 ⟨F0, F1, F2, F3, F4, F5, f0, f1, f2, f3, f4, f5, cf, vf, rfl, hl7, hB7⟩; (first | (have hz7 := heap_below hz6 hB7; have y0 := cellOf hz7 0; have v0 := unfrozenOf hz7 0; have y1 := cellOf hz7 1; have v1 := unfrozenOf hz7 1; have y2 := cellOf hz7 2; have v2 := unfrozenOf hz7 2; have y3 := cellOf hz7 3; have v3 := unfrozenOf hz7 3; have y4 := cellOf hz7 4; have v4 := unfrozenOf hz7 4; have y5 := cellOf hz7 5; have v5 := unfrozenOf hz7 5; have lr := box_lt hz7) | (have hz7 := heap_below (heap_alloc_new w6 _) hB7; have y0 := cellOf hz7 0; have v0 := unfrozenOf hz7 0; have y1 := cellOf hz7 1; have v1 := unfrozenOf hz7 1; have y2 := cellOf hz7 2; have v2 := unfrozenOf hz7 2; have y3 := cellOf hz7 3; have v3 := unfrozenOf hz7 3; have y4 := cellOf hz7 4; have v4 := unfrozenOf hz7 4; have y5 := cellOf hz7 5; have v5 := unfrozenOf hz7 5; have lr := box_lt hz7) | skip); have HF7 := hide hl7; have hs7 : w5.heap.size ≤ w7.heap.size := (Below.to hHeld hB7 (Nat.le_refl _)).size; clear hl7)))
      (try dsimp only)
      refine hK.out _ _ ?_ (fun hNext => ?_)
      · try dsimp only
        exact (by repeat (first | (with_reducible exact Below.refl _ _) | (with_reducible assumption) | (with_reducible refine Below.drew ?_) | (with_reducible refine Below.drewN ?_ _) | (with_reducible refine Below.allocT ?_ (Nat.le_refl _) _) | (with_reducible refine Below.setCell ?_ (by simp <;> omega) _) | refine Below.to ?_ (by assumption) (Nat.le_refl _)))
      clear hK K hHeld
      have hHeld := hNext
      clear hNext
      (try dsimp only at hHeld)
      try simp only [zX]
      refine zT 10 rfl ?_
      try simp only [zX]
      refine zT 11 rfl ?_
      try simp only [zX]
      refine zT 12 rfl ?_
      try simp only [zX]
      refine wpAnyH_ready (rs := [14]) (by kernel_rfl) (by simp) ?_
      refine (AllReadyH.cons rfl (fun K hK => ?_) AllReadyH.nil)
      go_simp
      refine hK.out _ _ ?_ (fun hNext => ?_)
      · try dsimp only
        exact (by repeat (first | (with_reducible exact Below.refl _ _) | (with_reducible assumption) | (with_reducible refine Below.drew ?_) | (with_reducible refine Below.drewN ?_ _) | (with_reducible refine Below.allocT ?_ (Nat.le_refl _) _) | (with_reducible refine Below.setCell ?_ (by simp <;> omega) _) | refine Below.to ?_ (by assumption) (Nat.le_refl _)))
      clear hK K hHeld
      have hHeld := hNext
      clear hNext
      (try dsimp only at hHeld)
      try simp only [zX]
      refine zT 15 rfl ?_
      try simp only [zX]
      refine wpAnyH_done (by kernel_rfl) ?_ _
    · generalize hwz : World.setCell _ _ _ = wz at hHeld ⊢
      have HHD := hide hHeld
      have hsz6 := hB6.size
      have hlk : w5.heap.size < w6.heap.size := by
        have h1 : w5.heap.size + 1 ≤ w6.heap.size := by simpa using hsz6
        omega
      obtain ⟨hz, hgz⟩ := set6 hz7 hwz
      have hlz := (HF7.out.kept hgz hlk).loom
      have HZ := hide hz
      have HLZ2 := hide hlz
      clear hwz hz hgz hlz hHeld hsz6 hlk hz7 y0 y1 y2 y3 y4 y5 v0 v1 v2 v3 v4 v5 lr hB6 hB7
      go_wp2_with fail
      go_meet
      case rel => exact ⟨rfl, _, _, _, _, _, _, _, _, _, _, _, _, _, rfl, HZ.out, HLZ2.out, HHD.out⟩
    · generalize hwz : World.setCell _ _ _ = wz at hHeld ⊢
      have HHD := hide hHeld
      have hsz6 := hB6.size
      have hlk : w6.heap.size < (w6.alloc (.cells #[.slice none 0 0, .slice none 0 0, .slice none 0 0, .slice none 0 0, .slice none 0 0, .slice none 0 0] 31)).heap.size := by simp
      obtain ⟨hz, hgz⟩ := set6 hz7 hwz
      have hlz := (HF7.out.kept hgz hlk).loom
      have HZ := hide hz
      have HLZ2 := hide hlz
      clear hwz hz hgz hlz hHeld hsz6 hlk hz7 y0 y1 y2 y3 y4 y5 v0 v1 v2 v3 v4 v5 lr hB6 hB7
      go_wp2_with fail
      go_meet
      case rel => exact ⟨rfl, _, _, _, _, _, _, _, _, _, _, _, _, _, rfl, HZ.out, HLZ2.out, HHD.out⟩
    · generalize hwz : World.alloc _ _ = wz at hHeld ⊢
      have HHD := hide hHeld
      obtain ⟨hz, hb7z, _⟩ := alloc1 hwz
      have hlz := (HF7.out.to hb7z).loom
      have HZ := hide hz
      have HLZ2 := hide hlz
      clear hwz hz hlz hHeld hb7z hB6 hB7
      go_wp2_with fail
      go_meet
      case rel => exact ⟨rfl, _, _, _, _, _, _, _, _, _, _, _, _, _, rfl, HZ.out, HLZ2.out, HHD.out⟩
  case rest =>
    obtain ⟨rfl, pz, F0, F1, F2, F3, F4, F5, f0, f1, f2, f3, f4, f5, rfl, HZ, HFZ, HBZ⟩ := hcut
    rename_i wc
    have HLZc := hide (HL5.out.to HBZ.out)
    have HPAc := hide (HPA5.out.to HBZ.out)
    have HEc := hide (HE5.out.up HBZ.out)
    have HBc := hide (Below.to HB5.out HBZ.out (Nat.le_refl _))
    have Hc := hide (H.out.up HBc.out)
    have e0 := cellOf HZ.out 0; have e1 := cellOf HZ.out 1; have e2 := cellOf HZ.out 2; have e3 := cellOf HZ.out 3; have e4 := cellOf HZ.out 4; have e5 := cellOf HZ.out 5
    have le := box_lt HZ.out
    have f0 := cellOf HLZc.out 0; have f1 := cellOf HLZc.out 1; have f2 := cellOf HLZc.out 2; have f3 := cellOf HLZc.out 3; have f4 := cellOf HLZc.out 4; have f5 := cellOf HLZc.out 5
    have lf := box_lt HLZc.out
    clear c0 c1 c2 c3 c4 c5 hlb d0 d1 d2 d3 d4 d5 ld lbp ep1
    go_upto_region 12 with (go_at_call 19; refine (Same_any _ _ _ _ _ _ _ _ _ _ _ _ _ _ _ _ _ _ _ _ _ _ _ _ l _ HS.out HFZ.out Hc.out).mono ?_; rintro e w8 ⟨rfl, hB8⟩; have HL8 := hide (HLZc.out.to hB8); have HPA8 := hide (HPAc.out.to hB8); have HE8 := hide (HEc.out.up hB8); have HB8 := hide (Below.to HBc.out hB8 (Nat.le_refl _)); clear hB8 e0 e1 e2 e3 e4 e5 le f0 f1 f2 f3 f4 f5 lf)
    go_wp2_with fail
    go_loopw [13, 14, 15, 16, 17, 18] (fun i _ _ _ _ _ wr => ∃ k : Nat, i = .int .i64 k ∧ k ≤ l.ws.length ∧ Hid (Below w8.heap.size w8 wr)) (fun i _ _ _ _ _ _ => l.ws.length - (intOf i).toNat)
    case atStart => exact ⟨0, rfl, Nat.zero_le _, Below.refl _ _⟩
    case round =>
      obtain ⟨k, rfl, hk, HBr⟩ := hrel
      have hw12 : l.ws.length ≤ 12 := (far_small HFAR.out).2.2.2.2.2
      have HLr := hide (HL8.out.to HBr.out)
      have HPAr := hide (HPA8.out.to HBr.out)
      have HEr := hide (HE8.out.up HBr.out)
      have HBwr := hide (Below.to HB8.out HBr.out (Nat.le_refl _))
      have c0 := cellOf HLr.out 0; have c1 := cellOf HLr.out 1; have c2 := cellOf HLr.out 2; have c3 := cellOf HLr.out 3; have c4 := cellOf HLr.out 4; have c5 := cellOf HLr.out 5
      have lc := box_lt HLr.out
      by_cases hkl : k < l.ws.length
      · obtain ⟨a, ha⟩ : ∃ a, lenN l (k : Int) = a := ⟨_, rfl⟩
        obtain ⟨b, hb⟩ : ∃ b, lenN (movL l j s) (k : Int) = b := ⟨_, rfl⟩
        have hle := movL_err hj s0 s1 HLZ.out
        have hr1 := rouE_zero HLZ.out hkl
        have hr2 := rouE_zero (l := movL l j s) hle hkl
        obtain ⟨bw, offw, x2, Af, qf, HX2, rfl, hbw, hq5, HFO, x0, x1, x2', x3, x4, x5, x6⟩ := H.out.wi hkl
        have hab : ¬ x2.fp = (j : Int) → ¬ x2.tp = (j : Int) → a = b := fun h1 h2 => by
          rw [← ha, ← hb, lenN_zero HLZ.out hkl, lenN_zero (l := movL l j s) hle hkl]
          exact (movL_lenW OK.out j s hkl (by rw [HX2.out]; exact h1) (by rw [HX2.out]; exact h2)).symm
        have HAB := hide hab
        have HA := hide ha
        have HBN := hide hb
        have HR1 := hide hr1
        have HR2 := hide hr2
        have ik : (k : Int) < (l.ws.length : Int) := by omega
        have ik0 : (0 : Int) ≤ (k : Int) := by omega
        have iq5 : (l.ws.length : Int) ≤ (q5 : Int) := by omega
        have X1 := hide x1
        have X3 := hide x3
        clear ha hb hle hr1 hr2 hab hq5 x0 x1 x2' x3 x4 x5 x6 HFO
        go_upto_region 16 with (first | (go_at_call 16; refine (Copy_any A0 A1 A2 A3 _ _ q0 q1 q2 q3 q4 q5 l _ HS.out HFAR.out (H.out.up HBwr.out)).mono ?_; rintro e y2 ⟨C0', C1', C2', C3', C4', C5', r0', r1', r2', r3', r4', r5', rfl, hl2, hB2⟩; have HC2' := hide hl2; have HBy2 := hide (Below.to HBr.out hB2 (Nat.le_refl _)); clear hl2 hB2 c0 c1 c2 c3 c4 c5 lc) | (go_at_call 34; refine (Length_any (k : Int) _ _ _ _ _ _ _ _ _ _ _ _ l _ HS.out HC2'.out).mono ?_; rw [HA.out, HR1.out]; rintro e y3 ⟨rfl, hB3⟩; have HBy3 := hide (Below.to HBy2.out hB3 (Nat.le_refl _)); clear hB3))
        have d0 := cellOf (HPA8.out.to HBy3.out) 0; have d1 := cellOf (HPA8.out.to HBy3.out) 1; have d2 := cellOf (HPA8.out.to HBy3.out) 2; have d3 := cellOf (HPA8.out.to HBy3.out) 3; have d4 := cellOf (HPA8.out.to HBy3.out) 4; have d5 := cellOf (HPA8.out.to HBy3.out) 5
        have ld := box_lt (HPA8.out.to HBy3.out)
        have HE3' := hide (HE8.out.up HBy3.out)
        go_upto_region 17 with (first | (go_at_call 16; refine (Copy_any _ _ _ _ _ _ _ _ _ _ _ _ (movL l j s) _ HSLO.out HFLO.out HE3'.out).mono ?_; rintro e y4 ⟨D0', D1', D2', D3', D4', D5', t0', t1', t2', t3', t4', t5', rfl, hl4, hB4⟩; have HD4' := hide hl4; have HBy4 := hide (Below.to HBy3.out hB4 (Nat.le_refl _)); clear hl4 hB4 d0 d1 d2 d3 d4 d5 ld) | (go_at_call 34; refine (Length_any (k : Int) _ _ _ _ _ _ _ _ _ _ _ _ (movL l j s) _ HSLO.out HD4'.out).mono ?_; rw [HBN.out, HR2.out]; rintro e y5 ⟨rfl, hB5⟩; have HBy5 := hide (Below.to HBy4.out hB5 (Nat.le_refl _)); clear hB5))
        have HBw5 := hide (Below.to HB8.out HBy5.out (Nat.le_refl _))
        have z1 := (HBw5.out.cell (p := ⟨bw, offw + k * 7 + 1, none⟩) hbw).trans X1.out
        have z3 := (HBw5.out.cell (p := ⟨bw, offw + k * 7 + 3, none⟩) hbw).trans X3.out
        have lbw : bw < y5.heap.size := Nat.lt_of_lt_of_le hbw HBw5.out.size
        have e0 := cellOf (HL8.out.to HBy5.out) 0; have e1 := cellOf (HL8.out.to HBy5.out) 1; have e2 := cellOf (HL8.out.to HBy5.out) 2; have e3 := cellOf (HL8.out.to HBy5.out) 3; have e4 := cellOf (HL8.out.to HBy5.out) 4; have e5 := cellOf (HL8.out.to HBy5.out) 5
        have le := box_lt (HL8.out.to HBy5.out)
        by_cases hf : x2.fp = (j : Int)
        · have g1 : (x2.fp == (j : Int)) = true := by simpa using hf
          go_wp2_with fail
          go_roundw
          case rel => exact ⟨k + 1, by go_num, by omega, HBy5.out⟩
          case measure => simp [intOf]; omega
        · have g1 : (x2.fp == (j : Int)) = false := by simpa using hf
          by_cases ht : x2.tp = (j : Int)
          · have g2 : (x2.tp == (j : Int)) = true := by simpa using ht
            go_wp2_with fail
            go_roundw
            case rel => exact ⟨k + 1, by go_num, by omega, HBy5.out⟩
            case measure => simp [intOf]; omega
          · have g2 : (x2.tp == (j : Int)) = false := by simpa using ht
            have hab := HAB.out hf ht
            subst hab
            have g3 : (a != a) = false := by simp
            go_wp2_with fail
            go_roundw
            case rel => exact ⟨k + 1, by go_num, by omega, HBy5.out⟩
            case measure => simp [intOf]; omega
      · have hke : k = l.ws.length := by omega
        subst hke
        go_wp2_with (go_at_call 15; refine (works_loom _).mono ?_; rintro e w9 ⟨rfl, hB9⟩)
        go_ret
        exact ⟨rfl, Below.to HBwr.out hB9 (Nat.le_refl _)⟩
theorem own_LoomMoves : ownKnob Try.prog.godebug = none := by kernel_rfl
theorem laid_LoomMoves : laidOutB Try.prog = true := by kernel_rfl
theorem par_LoomMoves : ∀ t ∈ Try.f9.params.toList, Try.prog.readableRec t = true ∧ t < Try.prog.types.size := by
  rw [Try.params9]
  intro t ht
  simp only [List.mem_cons, List.not_mem_nil, or_false] at ht
  rcases ht with rfl | rfl | rfl <;> exact ⟨by kernel_rfl, of_decide_eq_true (by kernel_rfl)⟩
set_option maxRecDepth 100000 in
theorem loomMoves_lifted (os : Os) (started : os.Started) (H : Type) (enc : TypeId × Value → H) :
    ReturnsInHanded {} Try.checked os 9 .any (Rows.loomMovesSpec.pre6 enc Try.prog Try.f9 Rows.loomMovesRow.domain false) (Rows.loomMovesSpec.post enc Try.prog Try.f9 false true false false) := by
  refine returnsInHanded_of_change (C := Try.checked) own_LoomMoves started (by kernel_rfl) Try.func9
    (ChangeSpec.witness6 (enc := enc) (C := Try.checked) false ⟨#[], #[.agg #[.slice none 0 0, .slice none 0 0, .slice none 0 0, .slice none 0 0, .slice none 0 0, .slice none 0 0], .int .i64 0, .int .i64 0], []⟩ 8 (by kernel_rfl) (by kernel_rfl) (by kernel_rfl) (by kernel_rfl)) ?_
  intro W base args ds gs before hval0 hW hcnd _
  have hval : ∀ (j : Nat) t v, Try.f9.params[j]? = some t → args[j]? = some v → Value.okWide Try.prog W .any base t v := hval0
  have hW' := hW
  obtain ⟨p, q, hA0, hV, rfl, hfz, hnd⟩ := hW
  have hA : DataW.TrodAll enc Try.prog W 0 (fun _ => true) true Try.f9.params.toList args.toList ds p := hA0
  have hAll := hA
  have hltp : ∀ x ∈ p, x.block < W.heap.size := fun x hx => hW'.lt x (List.mem_append_left _ hx)
  rw [Try.params9] at hA hval
  obtain ⟨v0, v1, v2, d0, d1, d2, p0, p1, p2, rfl, rfl, rfl, h0, h1, h2⟩ := trodAll_three hA
  obtain ⟨rfl, rfl⟩ := trodVars_none hV
  obtain ⟨A0, A1, A2, A3, A4, A5, q0, q1, q2, q3, q4, q5, l, rfl, hla, hsz⟩ := open_lo (hval 0 31 v0 rfl rfl) h0
  obtain ⟨p, rfl, _⟩ := open_int (hval 1 3 v1 rfl rfl) h1
  obtain ⟨s, rfl, _⟩ := open_int (hval 2 3 v2 rfl rfl) h2
  refine (loomMoves_walk p s A0 A1 A2 A3 A4 A5 q0 q1 q2 q3 q4 q5 l W hsz hla).mono fun e W2 ⟨he, hb⟩ => ?_
  subst he
  exact ⟨_, rfl, post_of_below (pv := []) hW' (fun _ _ _ => trodAll_mk1 (shut_bool Try.underlying4 _)) (fun sp hsp => trodAll_stays laid_LoomMoves hb sp _ _ _ _ par_LoomMoves hAll hltp (fun x hx => hsp x (List.mem_append_left _ hx))) (fun _ _ => rfl) rfl hb
    (ok_one (by kernel_rfl) rfl (okWide_bool_mk Try.underlying4 _))⟩
theorem loomMoves_holds : Rows.LoomMovesSaid :=
  OpenClaim.holds_of_wide 9 Try.f9 rfl rfl rfl rfl rfl rfl rfl ⟨rfl, rfl, rfl, rfl, rfl⟩ rfl rfl rfl rfl rfl (by kernel_rfl) Try.func9 (by kernel_rfl)
    (of_decide_eq_true (by kernel_rfl)) (by unfold Func.isWrapper; first | (rw [if_pos (by decide +kernel)]; kernel_rfl) | (rw [if_neg (by decide +kernel)]; exact ⟨rfl, rfl⟩))
    (fun os started H enc _ => loomMoves_lifted os started H enc)
#print axioms loomMoves_holds

end Go.Proofs.Ytmabfnddedffoaa

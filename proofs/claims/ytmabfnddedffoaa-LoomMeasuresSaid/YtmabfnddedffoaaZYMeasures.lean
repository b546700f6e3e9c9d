/- The theorem of stage 6: distances are a measure, routes have their length, spots are joined by it: for every loom and three numbers; no condition. -/
import Derived.Test.YtmabfnddedffoaaRows
import Derived.Test.YtmabfnddedffoaaGLM26
import Derived.Test.YtmabfnddedffoaaGLM28
import Derived.Test.YtmabfnddedffoaaGLM38
import Derived.Laws.IdiomArrays
import Derived.Deep.RegionHeld3
import Derived.Deep.DrawnRows
import Derived.Deep.DeepMust
import Derived.Test.YtmabfnddedffoaaGLM3
namespace Go.Proofs.Ytmabfnddedffoaa
open Go.Joins Go.ChangeShapes Go.WideShapes Go.ChangeAt Go.RowKit Go.Deep
set_option linter.unusedVariables false
set_option linter.unusedSimpArgs false
section
variable {H : Type} {enc : TypeId × Value → H} {W : World} {base b0 : Nat} {r : Reach} {spare : Nat → Bool} {held : Bool} {v : Value} {d : DataW H} {p : List MemPlace}
set_option maxRecDepth 100000 in
theorem open_three (hv : Value.okWide Try.prog W r b0 79 v) (h : DataW.Trod enc Try.prog W base spare held 79 v d p) : ∃ a b c : Int, v = .agg #[.int .i64 a, .int .i64 b, .int .i64 c] := by
  have hC : Try.prog.cellsOf 79 = 3 := by kernel_rfl
  have hI : Try.prog.cellsOf 3 = 1 := by kernel_rfl
  simp only [Value.okWide, Try.underlying79] at hv
  obtain ⟨⟨cs⟩, rfl, hsz, _⟩ := hv
  rw [hC] at hsz
  match cs, hsz with
  | [c0, c1, c2], _ =>
    obtain ⟨fuel, hf⟩ := h
    obtain ⟨y0, y1, y2, m, _, h0, h1, h2⟩ := trod_array3 Try.underlying79 hI hf
    obtain ⟨a, e0, _⟩ := int_cell h0
    obtain ⟨b, e1, _⟩ := int_cell h1
    obtain ⟨c, e2, _⟩ := int_cell h2
    subst e0 e1 e2
    exact ⟨a, b, c, rfl⟩
end
theorem rouE_zero {l : Lo} {i : Nat} (he : l.err = 0) (hi : i < l.ws.length) : rouE l i = 0 ∧ rouL l i = rouW l i ∧ lenN l i = lenW l i := by
  have h1 : rouE l i = 0 := by
    unfold rouE havE
    rw [if_neg (by simp [he]), btw_t (by omega) (by omega)]
    rfl
  refine ⟨h1, ?_, ?_⟩
  · unfold rouL; rw [if_pos h1, Int.toNat_natCast]
  · unfold lenN; rw [if_pos h1, Int.toNat_natCast]
set_option maxRecDepth 100000 in
set_option maxHeartbeats 8000000 in
theorem loomMeasures_walk (a0 a1 a2 : Int) (A0 A1 A2 A3 A4 A5 : Option Addr) (q0 q1 q2 q3 q4 q5 : Nat) (l : Lo) (w : World) (hs : SizedL l) (h : LoA w w.heap.size A0 A1 A2 A3 A4 A5 q0 q1 q2 q3 q4 q5 l) :
    Calls Try.prog 11 #[.agg #[.slice A0 l.m.opts.length q0, .slice A1 l.m.rules.length q1, .slice A2 l.ss.length q2, .slice A3 l.us.length q3, .slice A4 l.ps.length q4, .slice A5 l.ws.length q5], .agg #[.int .i64 a0, .int .i64 a1, .int .i64 a2]] w fun e w' => e = .returned (.bool true) ∧ Below w.heap.size w w' := by
  have H := hide h
  have HS := hide hs
  clear h hs
  cases hfar : farB l with
  | true =>
    have HFAR := hide hfar
    clear hfar
    go_enter Try.func11, Try.ntmps11
    go_upto_region 1 with (fail)
    generalize hw0 : World.alloc _ _ = w0
    obtain ⟨hb0, hb1, hB0, hs0⟩ := alloc2 hw0
    have HB0 := hide hB0
    have c0 := cellOf hb0 0; have c1 := cellOf hb0 1; have c2 := cellOf hb0 2; have c3 := cellOf hb0 3; have c4 := cellOf hb0 4; have c5 := cellOf hb0 5
    have hlb := box_lt hb0
    clear hw0 hb0 hb1 hB0 hs0
    go_wp2_with (first | (go_at_call 14; refine (Far_any A0 A1 A2 A3 A4 A5 q0 q1 q2 q3 q4 q5 l _ HS.out (H.out.up HB0.out)).mono ?_; rw [HFAR.out]; rintro e w1 ⟨rfl, hB1⟩; have HB1 := hide (Below.to HB0.out hB1 (Nat.le_refl _)); clear hB1 c0 c1 c2 c3 c4 c5 hlb) | (go_at_call 15; refine (works_loom _).mono ?_; rintro e w2 ⟨rfl, hB2⟩))
    go_ret
    exact ⟨rfl, Below.to HB1.out hB2 (Nat.le_refl _)⟩
  | false =>
  have HFAR := hide hfar
  clear hfar
  obtain ⟨er, her⟩ : ∃ z, l.err = z := ⟨_, rfl⟩
  have HE := hide her
  by_cases her0 : er = 0
  case neg =>
    have hz1 : (er != 0) = true := by simpa using her0
    clear her her0
    go_enter Try.func11, Try.ntmps11
    go_upto_region 1 with (fail)
    generalize hw0 : World.alloc _ _ = w0
    obtain ⟨hb0, hb1, hB0, hs0⟩ := alloc2 hw0
    have HL0 : Hid (LoBox w0 w.heap.size A0 A1 A2 A3 A4 A5 q0 q1 q2 q3 q4 q5 l) := hb0
    have HB0 := hide hB0
    have c0 := cellOf hb0 0; have c1 := cellOf hb0 1; have c2 := cellOf hb0 2; have c3 := cellOf hb0 3; have c4 := cellOf hb0 4; have c5 := cellOf hb0 5
    have hlb := box_lt hb0
    clear hw0 hb0 hb1 hB0 hs0
    go_wp2_with (first | (go_at_call 14; refine (Far_any A0 A1 A2 A3 A4 A5 q0 q1 q2 q3 q4 q5 l _ HS.out (H.out.up HB0.out)).mono ?_; rw [HFAR.out]; rintro e w1 ⟨rfl, hB1⟩; have d0 := cellOf (HL0.out.to hB1) 0; have d1 := cellOf (HL0.out.to hB1) 1; have d2 := cellOf (HL0.out.to hB1) 2; have d3 := cellOf (HL0.out.to hB1) 3; have d4 := cellOf (HL0.out.to hB1) 4; have d5 := cellOf (HL0.out.to hB1) 5; have ld := box_lt (HL0.out.to hB1); have HB1 := hide (Below.to HB0.out hB1 (Nat.le_refl _)); clear hB1 c0 c1 c2 c3 c4 c5 hlb) | (go_at_call 18; refine (rCheck_any A0 A1 A2 A3 A4 A5 q0 q1 q2 q3 q4 q5 l _ HS.out (H.out.up HB1.out)).mono ?_; rw [HE.out]; rintro e w2 ⟨rfl, hB2⟩; have HB2 := hide (Below.to HB1.out hB2 (Nat.le_refl _)); clear hB2 d0 d1 d2 d3 d4 d5 ld) | (go_at_call 15; refine (works_loom _).mono ?_; rintro e w3 ⟨rfl, hB3⟩))
    go_ret
    exact ⟨rfl, Below.to HB2.out hB3 (Nat.le_refl _)⟩
  case pos =>
  subst her0
  have OK := hide (Lo.err_ok her)
  obtain ⟨z1, hz1⟩ : ∃ z, disE l a0 a1 = z := ⟨_, rfl⟩
  obtain ⟨z2, hz2⟩ : ∃ z, disE l a1 a2 = z := ⟨_, rfl⟩
  obtain ⟨z3, hz3⟩ : ∃ z, disE l a0 a2 = z := ⟨_, rfl⟩
  obtain ⟨z4, hz4⟩ : ∃ z, disE l a1 a0 = z := ⟨_, rfl⟩
  obtain ⟨d1, hd1⟩ : ∃ z, disN l a0 a1 = z := ⟨_, rfl⟩
  obtain ⟨d2, hd2⟩ : ∃ z, disN l a1 a2 = z := ⟨_, rfl⟩
  obtain ⟨d3, hd3⟩ : ∃ z, disN l a0 a2 = z := ⟨_, rfl⟩
  obtain ⟨d4, hd4⟩ : ∃ z, disN l a1 a0 = z := ⟨_, rfl⟩
  have HZ1 := hide hz1
  have HZ2 := hide hz2
  have HZ3 := hide hz3
  have HZ4 := hide hz4
  have HD1 := hide hd1
  have HD2 := hide hd2
  have HD3 := hide hd3
  have HD4 := hide hd4
  clear her hz1 hz2 hz3 hz4 hd1 hd2 hd3 hd4
  go_enter Try.func11, Try.ntmps11
  go_upto_region 1 with (fail)
  generalize hw0 : World.alloc _ _ = w0
  obtain ⟨hb0, hb1, hB0, hs0⟩ := alloc2 hw0
  have HL0 : Hid (LoBox w0 w.heap.size A0 A1 A2 A3 A4 A5 q0 q1 q2 q3 q4 q5 l) := hb0
  have HA0 := hide hb1
  have HB0 := hide hB0
  have c0 := cellOf hb0 0; have c1 := cellOf hb0 1; have c2 := cellOf hb0 2; have c3 := cellOf hb0 3; have c4 := cellOf hb0 4; have c5 := cellOf hb0 5
  have hlb := box_lt hb0
  clear hw0 hb0 hb1 hB0 hs0
  go_upto_region 3 with (first | (go_at_call 14; refine (Far_any A0 A1 A2 A3 A4 A5 q0 q1 q2 q3 q4 q5 l _ HS.out (H.out.up HB0.out)).mono ?_; rw [HFAR.out]; rintro e w1 ⟨rfl, hB1⟩; have d0 := cellOf (HL0.out.to hB1) 0; have d1 := cellOf (HL0.out.to hB1) 1; have d2 := cellOf (HL0.out.to hB1) 2; have d3 := cellOf (HL0.out.to hB1) 3; have d4 := cellOf (HL0.out.to hB1) 4; have d5 := cellOf (HL0.out.to hB1) 5; have ld := box_lt (HL0.out.to hB1); have HL1 := hide (HL0.out.to hB1); have HA1 := hide (box_to HA0.out hB1); have HB1 := hide (Below.to HB0.out hB1 (Nat.le_refl _)); clear hB1 c0 c1 c2 c3 c4 c5 hlb) | (go_at_call 18; refine (rCheck_any A0 A1 A2 A3 A4 A5 q0 q1 q2 q3 q4 q5 l _ HS.out (H.out.up HB1.out)).mono ?_; rw [HE.out]; rintro e w2 ⟨rfl, hB2⟩; have HL2 := hide (HL1.out.to hB2); have HA2 := hide (box_to HA1.out hB2); have HB2 := hide (Below.to HB1.out hB2 (Nat.le_refl _)); have e0 := cellOf HL2.out 0; have e1 := cellOf HL2.out 1; have e2 := cellOf HL2.out 2; have e3 := cellOf HL2.out 3; have e4 := cellOf HL2.out 4; have e5 := cellOf HL2.out 5; have le := box_lt HL2.out; clear hB2 d0 d1 d2 d3 d4 d5 ld))
  go_upto_region 4 with (go_at_call 16; refine (Copy_any A0 A1 A2 A3 A4 A5 q0 q1 q2 q3 q4 q5 l _ HS.out HFAR.out (H.out.up HB2.out)).mono ?_; rintro e w3 ⟨C0, C1, C2, C3, C4, C5, r0, r1, r2, r3, r4, r5, rfl, hl3, hB3⟩; have HC3 := hide hl3; have HL3 := hide (HL2.out.to hB3); have HA3 := hide (box_to HA2.out hB3); have HB3 := hide (Below.to HB2.out hB3 (Nat.le_refl _)); clear hl3 hB3 e0 e1 e2 e3 e4 e5 le)
  generalize hw4 : World.alloc _ _ = w4
  obtain ⟨hb4, hB4, hs4⟩ := alloc1 hw4
  obtain ⟨bm, hbm⟩ : ∃ b, w3.heap.size = b := ⟨_, rfl⟩
  rw [hbm] at hb4
  rw [hbm]
  have HM4 : Hid (LoBox w4 bm C0 C1 C2 C3 C4 C5 r0 r1 r2 r3 r4 r5 l) := hb4
  have HC4 := hide (HC3.out.up hB4)
  have HL4 := hide (HL3.out.to hB4)
  have HA4 := hide (box_to HA3.out hB4)
  have HB4 := hide (Below.to HB3.out hB4 (Nat.le_refl _))
  have BB4 := hide (Below.refl w4.heap.size w4)
  have m0 := cellOf HM4.out 0; have m1 := cellOf HM4.out 1; have m2 := cellOf HM4.out 2; have m3 := cellOf HM4.out 3; have m4 := cellOf HM4.out 4; have m5 := cellOf HM4.out 5
  have lm := box_lt HM4.out
  have ha4 := HA4.out
  have x0 := cellOf ha4 0; have x1 := cellOf ha4 1; have x2 := cellOf ha4 2
  have lx := box_lt HA4.out
  clear hw4 hb4 hB4 hs4 hbm ha4
  go_upto_region 5 with (go_at_call 26; refine (Distance_any a0 a1 C0 C1 C2 C3 C4 C5 r0 r1 r2 r3 r4 r5 l _ HS.out HC4.out).mono ?_; rw [HD1.out, HZ1.out]; rintro e w5 ⟨rfl, hB⟩; have HM5 := hide (HM4.out.to hB); have HC5 := hide (HC4.out.up hB); have HL5 := hide (HL4.out.to hB); have HA5 := hide (box_to HA4.out hB); have BB5 := hide (Below.to BB4.out hB (Nat.le_refl _)); clear hB m0 m1 m2 m3 m4 m5 lm x0 x1 x2 lx; have m0 := cellOf HM5.out 0; have m1 := cellOf HM5.out 1; have m2 := cellOf HM5.out 2; have m3 := cellOf HM5.out 3; have m4 := cellOf HM5.out 4; have m5 := cellOf HM5.out 5; have lm := box_lt HM5.out; have ha := HA5.out; have x0 := cellOf ha 0; have x1 := cellOf ha 1; have x2 := cellOf ha 2; have lx := box_lt HA5.out; clear ha)
  go_upto_region 6 with (go_at_call 26; refine (Distance_any a1 a2 C0 C1 C2 C3 C4 C5 r0 r1 r2 r3 r4 r5 l _ HS.out HC5.out).mono ?_; rw [HD2.out, HZ2.out]; rintro e w6 ⟨rfl, hB⟩; have HM6 := hide (HM5.out.to hB); have HC6 := hide (HC5.out.up hB); have HL6 := hide (HL5.out.to hB); have HA6 := hide (box_to HA5.out hB); have BB6 := hide (Below.to BB5.out hB (Nat.le_refl _)); clear hB m0 m1 m2 m3 m4 m5 lm x0 x1 x2 lx; have m0 := cellOf HM6.out 0; have m1 := cellOf HM6.out 1; have m2 := cellOf HM6.out 2; have m3 := cellOf HM6.out 3; have m4 := cellOf HM6.out 4; have m5 := cellOf HM6.out 5; have lm := box_lt HM6.out; have ha := HA6.out; have x0 := cellOf ha 0; have x1 := cellOf ha 1; have x2 := cellOf ha 2; have lx := box_lt HA6.out; clear ha)
  go_upto_region 7 with (go_at_call 26; refine (Distance_any a0 a2 C0 C1 C2 C3 C4 C5 r0 r1 r2 r3 r4 r5 l _ HS.out HC6.out).mono ?_; rw [HD3.out, HZ3.out]; rintro e w7 ⟨rfl, hB⟩; have HM7 := hide (HM6.out.to hB); have HC7 := hide (HC6.out.up hB); have HL7 := hide (HL6.out.to hB); have HA7 := hide (box_to HA6.out hB); have BB7 := hide (Below.to BB6.out hB (Nat.le_refl _)); clear hB m0 m1 m2 m3 m4 m5 lm x0 x1 x2 lx; have m0 := cellOf HM7.out 0; have m1 := cellOf HM7.out 1; have m2 := cellOf HM7.out 2; have m3 := cellOf HM7.out 3; have m4 := cellOf HM7.out 4; have m5 := cellOf HM7.out 5; have lm := box_lt HM7.out; have ha := HA7.out; have x0 := cellOf ha 0; have x1 := cellOf ha 1; have x2 := cellOf ha 2; have lx := box_lt HA7.out; clear ha)
  go_upto_region 8 with (go_at_call 26; refine (Distance_any a1 a0 C0 C1 C2 C3 C4 C5 r0 r1 r2 r3 r4 r5 l _ HS.out HC7.out).mono ?_; rw [HD4.out, HZ4.out]; rintro e w8 ⟨rfl, hB⟩; have HM8 := hide (HM7.out.to hB); have HC8 := hide (HC7.out.up hB); have HL8 := hide (HL7.out.to hB); have HA8 := hide (box_to HA7.out hB); have BB8 := hide (Below.to BB7.out hB (Nat.le_refl _)); clear hB m0 m1 m2 m3 m4 m5 lm x0 x1 x2 lx; have m0 := cellOf HM8.out 0; have m1 := cellOf HM8.out 1; have m2 := cellOf HM8.out 2; have m3 := cellOf HM8.out 3; have m4 := cellOf HM8.out 4; have m5 := cellOf HM8.out 5; have lm := box_lt HM8.out; have ha := HA8.out; have x0 := cellOf ha 0; have x1 := cellOf ha 1; have x2 := cellOf ha 2; have lx := box_lt HA8.out; clear ha)
  by_cases hq1 : z1 = 0
  case neg =>
    have g1 : (z1 != 0) = true := by simpa using hq1
    clear hq1 m0 m1 m2 m3 m4 m5 lm x0 x1 x2 lx
    go_wp2_with (go_at_call 15; refine (works_loom _).mono ?_; rintro e w9 ⟨rfl, hB9⟩)
    go_ret
    exact ⟨rfl, Below.to (Below.to HB4.out BB8.out (Nat.le_refl _)) hB9 (Nat.le_refl _)⟩
  case pos =>
  subst hq1
  by_cases hq2 : z2 = 0
  case neg =>
    have g1 : (z2 != 0) = true := by simpa using hq2
    clear hq2 m0 m1 m2 m3 m4 m5 lm x0 x1 x2 lx
    go_wp2_with (go_at_call 15; refine (works_loom _).mono ?_; rintro e w9 ⟨rfl, hB9⟩)
    go_ret
    exact ⟨rfl, Below.to (Below.to HB4.out BB8.out (Nat.le_refl _)) hB9 (Nat.le_refl _)⟩
  case pos =>
  subst hq2
  obtain ⟨_, u0, u1, v0, v1⟩ := disE_ok HZ1.out
  obtain ⟨_, _, _, t0, t1⟩ := disE_ok HZ2.out
  obtain ⟨p0, rfl⟩ := Int.eq_ofNat_of_zero_le u0
  obtain ⟨p1, rfl⟩ := Int.eq_ofNat_of_zero_le v0
  obtain ⟨p2, rfl⟩ := Int.eq_ofNat_of_zero_le t0
  have i0 : p0 < l.ss.length := by omega
  have i1 : p1 < l.ss.length := by omega
  have i2 : p2 < l.ss.length := by omega
  obtain ⟨_, k1⟩ := disE_zero (a := p0) (b := p1) HE.out i0 i1
  obtain ⟨_, k2⟩ := disE_zero (a := p1) (b := p2) HE.out i1 i2
  obtain ⟨e3, k3⟩ := disE_zero (a := p0) (b := p2) HE.out i0 i2
  obtain ⟨e4, k4⟩ := disE_zero (a := p1) (b := p0) HE.out i1 i0
  have q3 : z3 = 0 := by rw [← HZ3.out]; exact e3
  have q4 : z4 = 0 := by rw [← HZ4.out]; exact e4
  subst q3 q4
  have c1 := HD1.out
  have c2 := HD2.out
  have c3 := HD3.out
  have c4 := HD4.out
  rw [k1] at c1
  rw [k2] at c2
  rw [k3] at c3
  rw [k4, distN_symm, c1] at c4
  subst c4
  have hlen : ∀ k, k < l.rs.length → 1 ≤ runLen l k := fun k hk => (OK.out.len (by rwa [rs_len] at hk)).1
  have hz := distN_zero OK.out.tree hlen i0 i1
  have ht1 := distN_tri (rs := l.rs) (f := runLen l) (fun k hk => by have := hlen k hk; omega) p0 p2 p1
  have ht2 := distN_tri (rs := l.rs) (f := runLen l) (fun k hk => by have := hlen k hk; omega) p1 p0 p2
  have ht3 := distN_tri (rs := l.rs) (f := runLen l) (fun k hk => by have := hlen k hk; omega) p0 p1 p2
  rw [distN_symm l.rs (runLen l) p2 p1, c1, c2, c3] at ht1
  rw [distN_symm l.rs (runLen l) p1 p0, c1, c2, c3] at ht2
  rw [c1, c2, c3] at ht3
  have b1 := OK.out.dist (x := p0) (z := p1)
  have b2 := OK.out.dist (x := p1) (z := p2)
  have b3 := OK.out.dist (x := p0) (z := p2)
  rw [c1] at b1 hz
  rw [c2] at b2
  rw [c3] at b3
  have hj2 := join_two l.rs (runLen l) p0 p1
  rw [c1] at hj2
  have hj3 := OK.out.tree.join_three (runLen l) i0 i1 i2
  rw [c1, c2, c3] at hj3
  have hsj := splice_join OK.out i0 i1 i2
  obtain ⟨tj, htj⟩ : ∃ z, joinN l.rs (runLen l) [p0, p1, p2] = z := ⟨_, rfl⟩
  rw [htj] at hj3 hsj
  have hg2 := givE_zero (l := l) (ts := [(p0 : Int), (p1 : Int)]) HE.out (by simp) (by simp) (fun t ht => by simp at ht; omega)
  have hg3 := givE_zero (l := l) (ts := [(p0 : Int), (p1 : Int), (p2 : Int)]) HE.out (by simp) (by simp) (fun t ht => by simp at ht; omega)
  have hJ2 : joiN l [(p0 : Int), (p1 : Int)] = d1 := by unfold joiN; rw [if_pos hg2]; exact hj2
  have hJ3 : joiN l [(p0 : Int), (p1 : Int), (p2 : Int)] = tj := by unfold joiN; rw [if_pos hg3]; exact htj
  have hS3 : splM l [(p0 : Int), (p1 : Int), (p2 : Int)] = tj := by unfold splM; rw [if_pos hg3]; exact hsj
  obtain ⟨sn, hsn⟩ : ∃ z, splS l [(p0 : Int), (p1 : Int), (p2 : Int)] = z := ⟨_, rfl⟩
  have G2 := hide (And.intro hg2 hJ2)
  have G3 := hide (And.intro hg3 hJ3)
  have GS := hide (And.intro hS3 hsn)
  have gz : (d1 == 0) = ((p0 : Int) == (p1 : Int)) := by
    by_cases e : p0 = p1
    · subst e
      have h1 : d1 = 0 := hz.2 rfl
      rw [h1]
      simp
    · have h1 : ¬ d1 = 0 := fun q => e (hz.1 q)
      have a1 : (d1 == 0) = false := by simpa using h1
      have a2 : ((p0 : Int) == (p1 : Int)) = false := by simp; omega
      rw [a1, a2]
  have gt1 : decide (d2 + d3 < d1) = false := by simp; omega
  have gt2 : decide (d1 + d3 < d2) = false := by simp; omega
  have gt3 : decide (d1 + d2 < d3) = false := by simp; omega
  have gd : (d1 != d1) = false := by simp
  have gj : (2 * tj != d1 + d2 + d3) = false := by simp; omega
  have gt : (tj != tj) = false := by simp
  have tjr : 0 ≤ tj ∧ tj ≤ 120000000 := by omega
  clear u0 u1 v0 v1 t0 t1 k1 k2 e3 k3 e4 k4 c1 c2 c3 hlen hz ht1 ht2 ht3 hj2 hj3 hsj htj hg2 hg3 hJ2 hJ3 hS3 hsn
  go_upto_region 12 with (fail)
  go_upto_region 13 with (go_at_call 30; go_must (refine (Joined_any (some ⟨w8.heap.size, 0, none⟩) 2 [(p0 : Int), (p1 : Int)] C0 C1 C2 C3 C4 C5 r0 r1 r2 r3 r4 r5 l _ HS.out (by unfold maxLen; simp) (HC8.out.up ((Below.refl _ _).alloc (Nat.le_refl _) _)) (ints_two (heap_alloc_new w8 _) (by simp))).mono ?_); rw [G2.out.1, G2.out.2]; rintro e w9 ⟨rfl, hB'⟩; have hB := Below.to ((Below.refl w8.heap.size w8).alloc (Nat.le_refl _) _) hB' (Nat.le_refl _); clear hB'; have HM9 := hide (HM8.out.to hB); have HC9 := hide (HC8.out.up hB); have HL9 := hide (HL8.out.to hB); have HA9 := hide (box_to HA8.out hB); have BB9 := hide (Below.to BB8.out hB (Nat.le_refl _)); clear hB m0 m1 m2 m3 m4 m5 lm x0 x1 x2 lx; have m0 := cellOf HM9.out 0; have m1 := cellOf HM9.out 1; have m2 := cellOf HM9.out 2; have m3 := cellOf HM9.out 3; have m4 := cellOf HM9.out 4; have m5 := cellOf HM9.out 5; have lm := box_lt HM9.out; have ha := HA9.out; have x0 := cellOf ha 0; have x1 := cellOf ha 1; have x2 := cellOf ha 2; have lx := box_lt HA9.out; clear ha)
  go_upto_region 14 with (go_at_call 30; go_must (refine (Joined_any (some ⟨w9.heap.size, 0, none⟩) 3 [(p0 : Int), (p1 : Int), (p2 : Int)] C0 C1 C2 C3 C4 C5 r0 r1 r2 r3 r4 r5 l _ HS.out (by unfold maxLen; simp) (HC9.out.up ((Below.refl _ _).alloc (Nat.le_refl _) _)) (ints_three (heap_alloc_new w9 _) (by simp))).mono ?_); rw [G3.out.1, G3.out.2]; rintro e w10 ⟨rfl, hB'⟩; have hB := Below.to ((Below.refl w9.heap.size w9).alloc (Nat.le_refl _) _) hB' (Nat.le_refl _); clear hB'; have HM10 := hide (HM9.out.to hB); have HC10 := hide (HC9.out.up hB); have HL10 := hide (HL9.out.to hB); have HA10 := hide (box_to HA9.out hB); have BB10 := hide (Below.to BB9.out hB (Nat.le_refl _)); clear hB m0 m1 m2 m3 m4 m5 lm x0 x1 x2 lx; have m0 := cellOf HM10.out 0; have m1 := cellOf HM10.out 1; have m2 := cellOf HM10.out 2; have m3 := cellOf HM10.out 3; have m4 := cellOf HM10.out 4; have m5 := cellOf HM10.out 5; have lm := box_lt HM10.out; have ha := HA10.out; have x0 := cellOf ha 0; have x1 := cellOf ha 1; have x2 := cellOf ha 2; have lx := box_lt HA10.out; clear ha)
  go_upto_region 15 with (go_at_call 28; go_must (refine (Splice_any (some ⟨w10.heap.size, 0, none⟩) 3 [(p0 : Int), (p1 : Int), (p2 : Int)] C0 C1 C2 C3 C4 C5 r0 r1 r2 r3 r4 r5 l _ HS.out (by unfold maxLen; simp) (HC10.out.up ((Below.refl _ _).alloc (Nat.le_refl _) _)) (ints_three (heap_alloc_new w10 _) (by simp))).mono ?_); rw [G3.out.1, GS.out.1, GS.out.2]; rintro e w11 ⟨rfl, hB'⟩; have hB := Below.to ((Below.refl w10.heap.size w10).alloc (Nat.le_refl _) _) hB' (Nat.le_refl _); clear hB'; have HM11 := hide (HM10.out.to hB); have HC11 := hide (HC10.out.up hB); have HL11 := hide (HL10.out.to hB); have HA11 := hide (box_to HA10.out hB); have BB11 := hide (Below.to BB10.out hB (Nat.le_refl _)); clear hB m0 m1 m2 m3 m4 m5 lm x0 x1 x2 lx; have m0 := cellOf HM11.out 0; have m1 := cellOf HM11.out 1; have m2 := cellOf HM11.out 2; have m3 := cellOf HM11.out 3; have m4 := cellOf HM11.out 4; have m5 := cellOf HM11.out 5; have lm := box_lt HM11.out; have ha := HA11.out; have x0 := cellOf ha 0; have x1 := cellOf ha 1; have x2 := cellOf ha 2; have lx := box_lt HA11.out; clear ha)
  clear gz gt1 gt2 gt3 m0 m1 m2 m3 m4 m5 lm x0 x1 x2 lx
  go_wp2_with fail
  clear gd gj gt
  have hw60 := OK.out.w60
  go_loopw [21, 22, 23, 24, 25, 26, 27, 28] (fun i _ _ _ _ _ _ _ wr => ∃ k : Nat, i = .int .i64 k ∧ k ≤ l.ws.length ∧ Hid (Below w11.heap.size w11 wr)) (fun i _ _ _ _ _ _ _ _ => l.ws.length - (intOf i).toNat)
  case atStart => exact ⟨0, rfl, Nat.zero_le _, Below.refl _ _⟩
  case round =>
    obtain ⟨k, rfl, hk, HBr⟩ := hrel
    obtain ⟨wk, hwk⟩ : ∃ wk : World, wk = wr := ⟨_, rfl⟩
    subst hwk
    have HLk := hide (HL11.out.to HBr.out)
    have HMk := hide (HM11.out.to HBr.out)
    have HCk := hide (HC11.out.up HBr.out)
    have c0 := cellOf HLk.out 0; have c1 := cellOf HLk.out 1; have c2 := cellOf HLk.out 2; have c3 := cellOf HLk.out 3; have c4 := cellOf HLk.out 4; have c5 := cellOf HLk.out 5
    have lc := box_lt HLk.out
    have m0 := cellOf HMk.out 0; have m1 := cellOf HMk.out 1; have m2 := cellOf HMk.out 2; have m3 := cellOf HMk.out 3; have m4 := cellOf HMk.out 4; have m5 := cellOf HMk.out 5
    have lm := box_lt HMk.out
    by_cases hkl : k < l.ws.length
    · have ik : (k : Int) < (l.ws.length : Int) := by omega
      obtain ⟨r1', r2', r3'⟩ := rouE_zero HE.out hkl
      obtain ⟨Q, hQ⟩ : ∃ Q, rouW l k = Q := ⟨_, rfl⟩
      obtain ⟨n, hn⟩ : ∃ z, lenW l k = z := ⟨_, rfl⟩
      rw [hQ] at r2'
      rw [hn] at r3'
      have hql := rouW_len OK.out hkl
      rw [hQ] at hql
      have hqlt : ∀ t, t < Q.length → Q.getD t 0 < l.ss.length := fun t ht => by rw [← hQ] at ht ⊢; exact rouW_lt OK.out hkl ht
      obtain ⟨ze, hze⟩ : ∃ z, endT l k = z := ⟨_, rfl⟩
      obtain ⟨za, hza⟩ : ∃ z, endF l k = z := ⟨_, rfl⟩
      have hends := OK.out.rou_ends hkl
      rw [hQ, hza, hze] at hends
      have hst : ∀ t, t + 1 < Q.length → distN l.rs (runLen l) (Q.getD t 0) ze = distN l.rs (runLen l) (Q.getD t 0) (Q.getD (t + 1) 0) + distN l.rs (runLen l) (Q.getD (t + 1) 0) ze := fun t ht => by
        have := OK.out.rou_step hkl (t := t) (by rw [hQ]; exact ht)
        rwa [hQ, hze] at this
      have hn0 : distN l.rs (runLen l) (Q.getD 0 0) ze = n := by rw [← hn, hends.1]; unfold lenW; rw [hza, hze]
      have RR := hide (And.intro r1' (And.intro r2' r3'))
      have HQLT := hide hqlt
      have HST := hide hst
      have HEND := hide hends
      have HN0 := hide hn0
      have HZE := hide (And.intro hza hze)
      have gq : ((Q.length : Int) == 0) = false := beq_eq_false_iff_ne.2 (by omega)
      have gq2 : ¬ Q = [] := fun e => by rw [e] at hql; simp at hql
      clear r1' r2' r3' hqlt hst hends hn0 hQ hn hza hze
      go_upto_region 21 with (go_at_call 32; refine (Route_any k C0 C1 C2 C3 C4 C5 r0 r1 r2 r3 r4 r5 l _ HS.out HCk.out).mono ?_; rw [RR.out.1, RR.out.2.1]; rintro e w12 ⟨v12, rfl, hn12, hB⟩; obtain ⟨Aq, cq, hsv⟩ := Sl.form hn12; subst hsv; have HN12 := hide hn12; have HM12 := hide (HMk.out.to hB); have HC12 := hide (HCk.out.up hB); have BB12 := hide (Below.to HBr.out hB (Nat.le_refl _)); clear hB hn12 m0 m1 m2 m3 m4 m5 lm c0 c1 c2 c3 c4 c5 lc; have m0 := cellOf HM12.out 0; have m1 := cellOf HM12.out 1; have m2 := cellOf HM12.out 2; have m3 := cellOf HM12.out 3; have m4 := cellOf HM12.out 4; have m5 := cellOf HM12.out 5; have lm := box_lt HM12.out)
      go_upto_region 22 with (go_at_call 34; refine (Length_any k C0 C1 C2 C3 C4 C5 r0 r1 r2 r3 r4 r5 l _ HS.out HC12.out).mono ?_; rw [RR.out.1, RR.out.2.2]; rintro e w13 ⟨rfl, hB⟩; have HN13 := hide (Sl.up HN12.out hB); have BB13 := hide (Below.to BB12.out hB (Nat.le_refl _)); clear hB m0 m1 m2 m3 m4 m5 lm)
      go_wp2_with fail
      go_loopw [24, 26, 27, 28] (fun o i _ _ wr => ∃ (t : Nat) (x : Int), i = .int .i64 t ∧ o = .int .i64 x ∧ 1 ≤ t ∧ t ≤ Q.length ∧ Hid (distN l.rs (runLen l) (Q.getD (t - 1) 0) ze = x) ∧ Hid (Below w13.heap.size w13 wr)) (fun _ i _ _ _ => Q.length - (intOf i).toNat)
      case atStart => exact ⟨1, n, rfl, rfl, by omega, by omega, HN0.out, Below.refl _ _⟩
      case round =>
        obtain ⟨t, x, rfl, rfl, ht1, ht, HX, HBt⟩ := hrel
        have hBB := Below.to BB13.out HBt.out (Nat.le_refl _)
        by_cases htl : t < Q.length
        · obtain ⟨bt, ot, hAt, hbt, _, ca⟩ := (show Nods wr wr.heap.size (.slice Aq Q.length cq) Q from Sl.up HN13.out HBt.out).at (show t - 1 < Q.length by omega)
          obtain ⟨bt2, ot2, hAt2, _, _, cb⟩ := (show Nods wr wr.heap.size (.slice Aq Q.length cq) Q from Sl.up HN13.out HBt.out).at htl
          have hqt := Nods.cap HN13.out
          subst hAt
          injection hAt2 with hAt2
          injection hAt2 with m1' m2'
          subst m1' m2'
          have la := HQLT.out (t - 1) (by omega)
          have lb := HQLT.out t htl
          have hstep := HST.out (t - 1) (by omega)
          rw [show t - 1 + 1 = t by omega, HX.out] at hstep
          obtain ⟨qa, hqa⟩ : ∃ q, Q.getD (t - 1) 0 = q := ⟨_, rfl⟩
          obtain ⟨qb, hqb⟩ : ∃ q, Q.getD t 0 = q := ⟨_, rfl⟩
          rw [hqa] at ca la hstep
          rw [hqb] at cb lb hstep
          obtain ⟨de, dd⟩ := disE_zero HE.out la lb
          obtain ⟨d, hd⟩ : ∃ d, distN l.rs (runLen l) qa qb = d := ⟨_, rfl⟩
          obtain ⟨x', hx'⟩ : ∃ d, distN l.rs (runLen l) qb ze = d := ⟨_, rfl⟩
          rw [hd, hx'] at hstep
          rw [hd] at dd
          have bd := OK.out.dist (x := qa) (z := qb)
          have bx := OK.out.dist (x := qb) (z := ze)
          rw [hd] at bd
          rw [hx'] at bx
          have hxx : x - d = x' := by omega
          have hx0 : 0 ≤ x ∧ x ≤ 80000000 := by omega
          have HXX := hide hxx
          have HX' : Hid (distN l.rs (runLen l) (Q.getD (t + 1 - 1) 0) ze = x') := by show _ = _; rw [Nat.add_sub_cancel, hqb]; exact hx'
          have HDD := hide (And.intro de dd)
          have wk : IntKind.i64.wrap ((t : Int) - 1) = ((t - 1 : Nat) : Int) := by rw [IntWalk.i64_in _ (by omega)]; omega
          have ik1 : ((t - 1 : Nat) : Int) < (Q.length : Int) := by omega
          have ik2 : (t : Int) < (Q.length : Int) := by omega
          have iqt : (Q.length : Int) ≤ (cq : Int) := by omega
          have HMt := hide (HM11.out.to hBB)
          have HCt := hide (HC11.out.up hBB)
          have m0 := cellOf HMt.out 0; have m1 := cellOf HMt.out 1; have m2 := cellOf HMt.out 2; have m3 := cellOf HMt.out 3; have m4 := cellOf HMt.out 4; have m5 := cellOf HMt.out 5
          have lm := box_lt HMt.out
          have lbt : bt < wr.heap.size := hbt
          clear hqa hqb hstep de dd hd hx' hxx hbt hqt hBB la lb HMk HCk HLk
          go_upto_region 27 with (fail)
          refine wp_region_held_drew (S := (fun w' => Below wr.heap.size wr w')) (by kernel_rfl) ?_ (fun hHeld => ?_)
          · try dsimp only
            exact (by repeat (first | exact Below.refl _ _ | assumption | refine Below.drew ?_ | refine Below.drewN ?_ _ | refine Below.allocT ?_ (Nat.le_refl _) _ | refine Below.setCell ?_ (by simp <;> omega) _ | refine Below.to ?_ (by assumption) (Nat.le_refl _)))
          refine zT 0 rfl ?_
          try simp only [zX]
          refine zT 1 rfl ?_
          try simp only [zX]
          refine zT 2 rfl ?_
          try simp only [zX]
          refine zT 3 rfl ?_
          try simp only [zX]
          refine zT 4 rfl ?_
          try simp only [zX]
          refine zT 5 rfl ?_
          try simp only [zX]
          refine zT 6 rfl ?_
          try simp only [zX]
          refine zT 7 rfl ?_
          try simp only [zX]
          refine zT 8 rfl ?_
          try simp only [zX]
          refine zT 9 rfl ?_
          try simp only [zX]
          refine wpAnyH_ready (rs := [10]) (by kernel_rfl) (by simp) ?_
          refine AllReadyH.cons rfl (fun K hK => ?_) AllReadyH.nil
          go_simp
          ((go_at_call 26; refine (Distance_any qa qb _ _ _ _ _ _ _ _ _ _ _ _ l _ HS.out (HCt.out.up (by repeat (first | exact Below.refl _ _ | assumption | refine Below.drew ?_ | refine Below.drewN ?_ _ | refine Below.allocT ?_ (Nat.le_refl _) _ | refine Below.setCell ?_ (by simp <;> omega) _ | refine Below.to ?_ (by assumption) (Nat.le_refl _))))).mono ?_; rw [HDD.out.1, HDD.out.2]; rintro e w14 ⟨rfl, hB14⟩))
          (try dsimp only)
          refine hK.out _ _ ?_ (fun hNext => ?_)
          · try dsimp only
            exact (by repeat (first | exact Below.refl _ _ | assumption | refine Below.drew ?_ | refine Below.drewN ?_ _ | refine Below.allocT ?_ (Nat.le_refl _) _ | refine Below.setCell ?_ (by simp <;> omega) _ | refine Below.to ?_ (by assumption) (Nat.le_refl _)))
          clear hK K hHeld
          have hHeld := hNext
          clear hNext
          (try dsimp only at hHeld)
          try simp only [zX]
          refine zT 11 rfl ?_
          try simp only [zX]
          refine zT 12 rfl ?_
          try simp only [zX]
          refine zT 13 rfl ?_
          try simp only [zX]
          refine zT 14 rfl ?_
          try simp only [zX]
          refine zT 15 rfl ?_
          try simp only [zX]
          refine wpAnyH_done (by kernel_rfl) ?_ _
          have HB14 := hide (Below.to HBt.out hHeld (Nat.le_refl _))
          clear hHeld m0 m1 m2 m3 m4 m5 lm ca cb lbt wk
          go_wp2_with fail
          go_roundw
          case rel => exact ⟨t + 1, x - d, by go_num, by go_num, by omega, by omega, by rw [HXX.out]; exact HX'.out, HB14.out⟩
          case measure => simp [intOf]; omega
        · have hte : t = Q.length := by omega
          subst hte
          have hx0 : x = 0 := by rw [← HX.out, HEND.out.2, distN_self]
          subst hx0
          obtain ⟨bt, ot, hAt, hbt, _, ca⟩ := (show Nods wr wr.heap.size (.slice Aq Q.length cq) Q from Sl.up HN13.out HBt.out).at (show 0 < Q.length by omega)
          obtain ⟨bt2, ot2, hAt2, _, _, cb⟩ := (show Nods wr wr.heap.size (.slice Aq Q.length cq) Q from Sl.up HN13.out HBt.out).at (show Q.length - 1 < Q.length by omega)
          have hqt := Nods.cap HN13.out
          subst hAt
          injection hAt2 with hAt2
          injection hAt2 with m1' m2'
          subst m1' m2'
          rw [HEND.out.1, Nat.add_zero] at ca
          rw [HEND.out.2] at cb
          have hB11 := Below.to (Below.to HB4.out BB11.out (Nat.le_refl _)) hBB (Nat.le_refl _)
          have HHr := hide (H.out.up hB11)
          obtain ⟨bw, offw, x, Af, qf, HX', rfl, hbw, hq5, HFO, e0, e1, e2, e3, e4, e5, e6⟩ := HHr.out.wi hkl
          obtain ⟨⟨p1', p2', p3'⟩, p4', p5', p6'⟩ := OK.out.wpin hkl
          rw [HX'.out] at p1' p2' p3' p4' p5' p6'
          obtain ⟨bf, off, y, HY, rfl, hbb, hq, g0, g1, g2⟩ := HHr.out.pl p2'
          obtain ⟨bf', off', y', HY', he, hbb', hq', f0, f1, f2⟩ := HHr.out.pl p5'
          injection he with he
          injection he with he1 he2
          subst he1 he2
          have s1 : y.spot = (za : Nat) := by rw [← HZE.out.1]; rw [HY.out] at p3'; unfold endF; rw [HX'.out, HY.out]; omega
          have s2 : y'.spot = (ze : Nat) := by rw [← HZE.out.2]; rw [HY'.out] at p6'; unfold endT; rw [HX'.out, HY'.out]; omega
          rw [s1] at g1
          rw [s2] at f1
          obtain ⟨nm, fp, fc, tp, tc, size, form⟩ := x
          simp only at p1' p2' p4' p5' e0 e1 e2 e3 e4 e5 e6 g1 f1
          obtain ⟨kf, rfl⟩ := Int.eq_ofNat_of_zero_le p1'
          obtain ⟨kt, rfl⟩ := Int.eq_ofNat_of_zero_le p4'
          rw [Int.toNat_natCast] at p2' g1
          rw [Int.toNat_natCast] at p5' f1
          have ikf : (kf : Int) < (l.ps.length : Int) := by omega
          have ikt : (kt : Int) < (l.ps.length : Int) := by omega
          have iqp : (l.ps.length : Int) ≤ (q4 : Int) := by omega
          have iq : (l.ws.length : Int) ≤ (q5 : Int) := by omega
          have iqt : (Q.length : Int) ≤ (cq : Int) := by omega
          have wk : IntKind.i64.wrap ((Q.length : Int) - 1) = ((Q.length - 1 : Nat) : Int) := by rw [IntWalk.i64_in _ (by omega)]; omega
          have ik1 : ((Q.length - 1 : Nat) : Int) < (Q.length : Int) := by omega
          have ik0 : (0 : Int) < (Q.length : Int) := by omega
          have ikn : 0 < Q.length := by omega
          have ikm : (0 : Int) ≤ 0 := by omega
          have hnq : ¬ (Q.length : Int) < (Q.length : Int) := by omega
          have HLr := hide (HL11.out.to hBB)
          have c0 := cellOf HLr.out 0; have c1 := cellOf HLr.out 1; have c2 := cellOf HLr.out 2; have c3 := cellOf HLr.out 3; have c4 := cellOf HLr.out 4; have c5 := cellOf HLr.out 5
          have lc := box_lt HLr.out
          clear gq gq2
          clear s1 s2 p1' p2' p3' p4' p5' p6' g0 g2 f0 f2 hbb' hq' hq hBB hB11 HHr hqt
          go_upto_region 31 with (fail)
          refine wp_region_held_drew (S := (fun w' => Below wr.heap.size wr w')) (by kernel_rfl) ?_ (fun hHeld => ?_)
          · try dsimp only
            exact (by repeat (first | exact Below.refl _ _ | assumption | refine Below.drew ?_ | refine Below.drewN ?_ _ | refine Below.allocT ?_ (Nat.le_refl _) _ | refine Below.setCell ?_ (by simp <;> omega) _ | refine Below.to ?_ (by assumption) (Nat.le_refl _)))
          refine zT 0 rfl ?_
          try simp only [zX]
          refine zT 1 rfl ?_
          try simp only [zX]
          refine zT 2 rfl ?_
          try simp only [zX]
          refine zT 3 rfl ?_
          try simp only [zX]
          refine zT 4 rfl ?_
          try simp only [zX]
          refine zT 5 rfl ?_
          try simp only [zX]
          refine zT 6 rfl ?_
          try simp only [zX]
          refine zT 7 rfl ?_
          try simp only [zX]
          refine zT 8 rfl ?_
          try simp only [zX]
          refine zT 9 rfl ?_
          try simp only [zX]
          refine zT 10 rfl ?_
          try simp only [zX]
          refine zT 11 rfl ?_
          try simp only [zX]
          refine zT 12 rfl ?_
          try simp only [zX]
          refine zT 13 rfl ?_
          try simp only [zX]
          refine zT 14 rfl ?_
          try simp only [zX]
          refine zT 15 rfl ?_
          try simp only [zX]
          refine zT 16 rfl ?_
          try simp only [zX]
          refine zT 17 rfl ?_
          try simp only [zX]
          refine zT 18 rfl ?_
          try simp only [zX]
          refine zT 19 rfl ?_
          try simp only [zX]
          refine zT 20 rfl ?_
          try simp only [zX]
          refine zT 21 rfl ?_
          try simp only [zX]
          refine zT 22 rfl ?_
          try simp only [zX]
          refine zT 23 rfl ?_
          try simp only [zX]
          refine zT 24 rfl ?_
          try simp only [zX]
          refine zT 25 rfl ?_
          try simp only [zX]
          refine zT 26 rfl ?_
          try simp only [zX]
          refine zT 27 rfl ?_
          try simp only [zX]
          refine zT 28 rfl ?_
          try simp only [zX]
          refine zT 29 rfl ?_
          try simp only [zX]
          refine zT 30 rfl ?_
          try simp only [zX]
          refine zT 31 rfl ?_
          try simp only [zX]
          refine zT 32 rfl ?_
          try simp only [zX]
          refine zT 33 rfl ?_
          try simp only [zX]
          refine zT 34 rfl ?_
          try simp only [zX]
          refine zT 35 rfl ?_
          try simp only [zX]
          refine zT 36 rfl ?_
          try simp only [zX]
          refine zT 37 rfl ?_
          try simp only [zX]
          refine zT 38 rfl ?_
          try simp only [zX]
          refine zT 39 rfl ?_
          try simp only [zX]
          refine zT 40 rfl ?_
          try simp only [zX]
          refine wpAnyH_done (by kernel_rfl) ?_ _
          generalize World.drew wr = wd at hHeld ⊢
          have HBd := hide (Below.to (Below.to BB13.out HBt.out (Nat.le_refl _)) hHeld (Nat.le_refl _))
          clear hHeld c0 c1 c2 c3 c4 c5 lc ca cb e0 e1 e2 e3 e4 e5 e6 g1 f1 wk
          go_wp2_with fail
          go_roundw
          case rel => exact ⟨k + 1, by go_num, by omega, HBd.out⟩
          case measure => simp [intOf]; omega
    · have hke : k = l.ws.length := by omega
      subst hke
      go_wp2_with (go_at_call 15; refine (works_loom _).mono ?_; rintro e w19 ⟨rfl, hB19⟩)
      go_ret
      exact ⟨rfl, Below.to (Below.to (Below.to HB4.out BB11.out (Nat.le_refl _)) HBr.out (Nat.le_refl _)) hB19 (Nat.le_refl _)⟩
theorem own_LoomMeasures : ownKnob Try.prog.godebug = none := by kernel_rfl
theorem laid_LoomMeasures : laidOutB Try.prog = true := by kernel_rfl
theorem par_LoomMeasures : ∀ t ∈ Try.f11.params.toList, Try.prog.readableRec t = true ∧ t < Try.prog.types.size := by
  rw [Try.params11]
  intro t ht
  simp only [List.mem_cons, List.not_mem_nil, or_false] at ht
  rcases ht with rfl | rfl <;> exact ⟨by kernel_rfl, of_decide_eq_true (by kernel_rfl)⟩
set_option maxRecDepth 100000 in
theorem loomMeasures_lifted (os : Os) (started : os.Started) (H : Type) (enc : TypeId × Value → H) :
    ReturnsInHanded {} Try.checked os 11 .any (Rows.loomMeasuresSpec.pre6 enc Try.prog Try.f11 Rows.loomMeasuresRow.domain false) (Rows.loomMeasuresSpec.post enc Try.prog Try.f11 false true false false) := by
  refine returnsInHanded_of_change (C := Try.checked) own_LoomMeasures started (by kernel_rfl) Try.func11
    (ChangeSpec.witness6 (enc := enc) (C := Try.checked) false ⟨#[], #[.agg #[.slice none 0 0, .slice none 0 0, .slice none 0 0, .slice none 0 0, .slice none 0 0, .slice none 0 0], .agg #[.int .i64 0, .int .i64 0, .int .i64 0]], []⟩ 8 (by kernel_rfl) (by kernel_rfl) (by kernel_rfl) (by kernel_rfl)) ?_
  intro W base args ds gs before hval0 hW hcnd _
  have hval : ∀ (j : Nat) t v, Try.f11.params[j]? = some t → args[j]? = some v → Value.okWide Try.prog W .any base t v := hval0
  have hW' := hW
  obtain ⟨p, q, hA0, hV, rfl, hfz, hnd⟩ := hW
  have hA : DataW.TrodAll enc Try.prog W 0 (fun _ => true) true Try.f11.params.toList args.toList ds p := hA0
  have hAll := hA
  have hltp : ∀ x ∈ p, x.block < W.heap.size := fun x hx => hW'.lt x (List.mem_append_left _ hx)
  rw [Try.params11] at hA hval
  obtain ⟨v0, v1, d0, d1, p0, p1, rfl, rfl, rfl, h0, h1⟩ := trodAll_two hA
  obtain ⟨rfl, rfl⟩ := trodVars_none hV
  obtain ⟨A0, A1, A2, A3, A4, A5, q0, q1, q2, q3, q4, q5, l, rfl, hla, hsz⟩ := open_lo (hval 0 31 v0 rfl rfl) h0
  obtain ⟨a0, a1, a2, rfl⟩ := open_three (hval 1 79 v1 rfl rfl) h1
  refine (loomMeasures_walk a0 a1 a2 A0 A1 A2 A3 A4 A5 q0 q1 q2 q3 q4 q5 l W hsz hla).mono fun e W2 ⟨he, hb⟩ => ?_
  subst he
  exact ⟨_, rfl, post_of_below (pv := []) hW' (fun _ _ _ => trodAll_mk1 (shut_bool Try.underlying4 _)) (fun sp hsp => trodAll_stays laid_LoomMeasures hb sp _ _ _ _ par_LoomMeasures hAll hltp (fun x hx => hsp x (List.mem_append_left _ hx))) (fun _ _ => rfl) rfl hb
    (ok_one (by kernel_rfl) rfl (okWide_bool_mk Try.underlying4 _))⟩
theorem loomMeasures_holds : Rows.LoomMeasuresSaid :=
  OpenClaim.holds_of_wide 11 Try.f11 rfl rfl rfl rfl rfl rfl rfl ⟨rfl, rfl, rfl, rfl, rfl⟩ rfl rfl rfl rfl rfl (by kernel_rfl) Try.func11 (by kernel_rfl)
    (of_decide_eq_true (by kernel_rfl)) (by unfold Func.isWrapper; first | (rw [if_pos (by decide +kernel)]; kernel_rfl) | (rw [if_neg (by decide +kernel)]; exact ⟨rfl, rfl⟩))
    (fun os started H enc _ => loomMeasures_lifted os started H enc)
#print axioms loomMeasures_holds

end Go.Proofs.Ytmabfnddedffoaa

/- A splice at another spot is never shorter; without clashes no pin has two wires in a buildable variant: for every loom, variant and list; no condition. -/
import Derived.Test.YtmabfnddedffoaaRows
import Derived.Test.YtmabfnddedffoaaGLO28
import Derived.Test.YtmabfnddedffoaaGLO30
import Derived.Test.YtmabfnddedffoaaGLO39
import Derived.Deep.RegionHeld3
import Derived.Deep.DrawnRows
import Derived.Deep.DeepMust
import Derived.Test.YtmabfnddedffoaaGLO3
namespace Go.Proofs.Ytmabfnddedffoaa
open Go.Joins Go.ChangeShapes Go.WideShapes Go.ChangeAt Go.RowKit Go.Deep
set_option linter.unusedVariables false
set_option linter.unusedSimpArgs false
/-- Two wires in cells of their own. -/
structure TwoC (wr wc : World) (ba bb : Nat) (Af Ag : Option Addr) (qf qg : Nat) (x y : Wi) : Prop where
  below : Below wr.heap.size wr wc
  a : wc.heap[ba]? = some (.cells #[.string x.name, .int .i64 x.fp, .int .i64 x.fc, .int .i64 x.tp, .int .i64 x.tc, .int .i64 x.size, .slice Af x.form.length qf] 68 (0, 0))
  b : wc.heap[bb]? = some (.cells #[.string y.name, .int .i64 y.fp, .int .i64 y.fc, .int .i64 y.tp, .int .i64 y.tc, .int .i64 y.size, .slice Ag y.form.length qg] 68 (0, 0))
theorem alloc2e {w w0 : World} {o p : Obj} (h : ((w.alloc o).alloc p).drew = w0) : w0.heap[w.heap.size]? = some o ∧ w0.heap[w.heap.size + 1]? = some p ∧ Below w.heap.size w w0 := by
  subst h
  obtain ⟨h1, h2, h3, h4⟩ := alloc2 (w := w) (o := o) (p := p) rfl
  exact ⟨h1, h2, Below.drew h3⟩
set_option maxRecDepth 100000 in
set_option maxHeartbeats 8000000 in
theorem loomOneEach_walk (v : List Bool) (Av : Option Addr) (qv : Nat) (As : Option Addr) (qs : Nat) (ts : List Int) (A0 A1 A2 A3 A4 A5 : Option Addr) (q0 q1 q2 q3 q4 q5 : Nat) (l : Lo) (w : World) (hs : SizedL l) (hm : ts.length ≤ maxLen) (h : LoA w w.heap.size A0 A1 A2 A3 A4 A5 q0 q1 q2 q3 q4 q5 l) (hv : Bols w w.heap.size (.slice Av v.length qv) v) (hts : Ints w w.heap.size (.slice As ts.length qs) ts) :
    Calls Try.prog 13 #[.agg #[.slice A0 l.m.opts.length q0, .slice A1 l.m.rules.length q1, .slice A2 l.ss.length q2, .slice A3 l.us.length q3, .slice A4 l.ps.length q4, .slice A5 l.ws.length q5], .slice Av v.length qv, .slice As ts.length qs] w fun e w' => e = .returned (.bool true) ∧ Below w.heap.size w w' := by
  obtain ⟨i0, hi0, iz0, iz1, iz2⟩ := info_parts infoInt
  have H := hide h
  have HS := hide hs
  have HV := hide hv
  have HTS := hide hts
  clear h hs hv hts
  have hm2 := hm
  unfold maxLen at hm2
  cases hfar : farB l with
  | true =>
    have HFAR := hide hfar
    clear hfar
    go_enter Try.func13, Try.ntmps13
    go_upto_region 1 with (fail)
    generalize hw0 : World.alloc _ _ = w0
    obtain ⟨hb0, hB0, hs0⟩ := alloc1 hw0
    have HB0 := hide hB0
    have c0 := cellOf hb0 0; have c1 := cellOf hb0 1; have c2 := cellOf hb0 2; have c3 := cellOf hb0 3; have c4 := cellOf hb0 4; have c5 := cellOf hb0 5
    have hlb := box_lt hb0
    clear hw0 hb0 hB0 hs0
    go_wp2_with (first | (go_at_call 14; refine (Far_any A0 A1 A2 A3 A4 A5 q0 q1 q2 q3 q4 q5 l _ HS.out (H.out.up HB0.out)).mono ?_; rw [HFAR.out]; rintro e w1 ⟨rfl, hB1⟩; have HB1 := hide (Below.to HB0.out hB1 (Nat.le_refl _)); clear hB1 c0 c1 c2 c3 c4 c5 hlb) | (go_at_call 15; refine (works_loom _).mono ?_; rintro e w2 ⟨rfl, hB2⟩))
    go_ret
    exact ⟨rfl, Below.to HB1.out hB2 (Nat.le_refl _)⟩
  | false =>
  have HFAR := hide hfar
  obtain ⟨hopt, _⟩ := far_small hfar
  have hN : l.m.opts.length ≤ 12 := by omega
  clear hfar
  by_cases h50 : v.length ≤ 50
  case neg =>
    have hgt : (50 : Int) < (v.length : Int) := by omega
    clear h50
    go_enter Try.func13, Try.ntmps13
    go_upto_region 1 with (fail)
    generalize hw0 : World.alloc _ _ = w0
    obtain ⟨hb0, hB0, hs0⟩ := alloc1 hw0
    have HB0 := hide hB0
    have c0 := cellOf hb0 0; have c1 := cellOf hb0 1; have c2 := cellOf hb0 2; have c3 := cellOf hb0 3; have c4 := cellOf hb0 4; have c5 := cellOf hb0 5
    have hlb := box_lt hb0
    clear hw0 hb0 hB0 hs0
    go_wp2_with (first | (go_at_call 14; refine (Far_any A0 A1 A2 A3 A4 A5 q0 q1 q2 q3 q4 q5 l _ HS.out (H.out.up HB0.out)).mono ?_; rw [HFAR.out]; rintro e w1 ⟨rfl, hB1⟩; have HB1 := hide (Below.to HB0.out hB1 (Nat.le_refl _)); clear hB1 c0 c1 c2 c3 c4 c5 hlb) | (go_at_call 15; refine (works_loom _).mono ?_; rintro e w2 ⟨rfl, hB2⟩))
    go_ret
    exact ⟨rfl, Below.to HB1.out hB2 (Nat.le_refl _)⟩
  case pos =>
  have hgt : ¬ (50 : Int) < (v.length : Int) := by omega
  by_cases ht50 : ts.length ≤ 50
  case neg =>
    have hgt2 : (50 : Int) < (ts.length : Int) := by omega
    clear ht50
    go_enter Try.func13, Try.ntmps13
    go_upto_region 1 with (fail)
    generalize hw0 : World.alloc _ _ = w0
    obtain ⟨hb0, hB0, hs0⟩ := alloc1 hw0
    have HB0 := hide hB0
    have c0 := cellOf hb0 0; have c1 := cellOf hb0 1; have c2 := cellOf hb0 2; have c3 := cellOf hb0 3; have c4 := cellOf hb0 4; have c5 := cellOf hb0 5
    have hlb := box_lt hb0
    clear hw0 hb0 hB0 hs0
    go_wp2_with (first | (go_at_call 14; refine (Far_any A0 A1 A2 A3 A4 A5 q0 q1 q2 q3 q4 q5 l _ HS.out (H.out.up HB0.out)).mono ?_; rw [HFAR.out]; rintro e w1 ⟨rfl, hB1⟩; have HB1 := hide (Below.to HB0.out hB1 (Nat.le_refl _)); clear hB1 c0 c1 c2 c3 c4 c5 hlb) | (go_at_call 15; refine (works_loom _).mono ?_; rintro e w2 ⟨rfl, hB2⟩))
    go_ret
    exact ⟨rfl, Below.to HB1.out hB2 (Nat.le_refl _)⟩
  case pos =>
  have hgt2 : ¬ (50 : Int) < (ts.length : Int) := by omega
  obtain ⟨er, her⟩ : ∃ z, l.err = z := ⟨_, rfl⟩
  have HE := hide her
  by_cases her0 : er = 0
  case neg =>
    have hz1 : (er != 0) = true := by simpa using her0
    clear her her0
    go_enter Try.func13, Try.ntmps13
    go_upto_region 1 with (fail)
    generalize hw0 : World.alloc _ _ = w0
    obtain ⟨hb0, hB0, hs0⟩ := alloc1 hw0
    have HL0 : Hid (LoBox w0 w.heap.size A0 A1 A2 A3 A4 A5 q0 q1 q2 q3 q4 q5 l) := hb0
    have HB0 := hide hB0
    have c0 := cellOf hb0 0; have c1 := cellOf hb0 1; have c2 := cellOf hb0 2; have c3 := cellOf hb0 3; have c4 := cellOf hb0 4; have c5 := cellOf hb0 5
    have hlb := box_lt hb0
    clear hw0 hb0 hB0 hs0
    go_wp2_with (first | (go_at_call 14; refine (Far_any A0 A1 A2 A3 A4 A5 q0 q1 q2 q3 q4 q5 l _ HS.out (H.out.up HB0.out)).mono ?_; rw [HFAR.out]; rintro e w1 ⟨rfl, hB1⟩; have d0 := cellOf (HL0.out.to hB1) 0; have d1 := cellOf (HL0.out.to hB1) 1; have d2 := cellOf (HL0.out.to hB1) 2; have d3 := cellOf (HL0.out.to hB1) 3; have d4 := cellOf (HL0.out.to hB1) 4; have d5 := cellOf (HL0.out.to hB1) 5; have ld := box_lt (HL0.out.to hB1); have HB1 := hide (Below.to HB0.out hB1 (Nat.le_refl _)); clear hB1 c0 c1 c2 c3 c4 c5 hlb) | (go_at_call 18; refine (rCheck_any A0 A1 A2 A3 A4 A5 q0 q1 q2 q3 q4 q5 l _ HS.out (H.out.up HB1.out)).mono ?_; rw [HE.out]; rintro e w2 ⟨rfl, hB2⟩; have HB2 := hide (Below.to HB1.out hB2 (Nat.le_refl _)); clear hB2 d0 d1 d2 d3 d4 d5 ld) | (go_at_call 15; refine (works_loom _).mono ?_; rintro e w3 ⟨rfl, hB3⟩))
    go_ret
    exact ⟨rfl, Below.to HB2.out hB3 (Nat.le_refl _)⟩
  case pos =>
  subst her0
  have OK := hide (Lo.err_ok her)
  obtain ⟨be, hbe⟩ : ∃ z, buiE l.m v = z := ⟨_, rfl⟩
  obtain ⟨bb, hbb⟩ : ∃ z, buiB l.m v = z := ⟨_, rfl⟩
  obtain ⟨br, hbr⟩ : ∃ z, buiR l.m v = z := ⟨_, rfl⟩
  obtain ⟨z, hz⟩ : ∃ z, givE l ts = z := ⟨_, rfl⟩
  obtain ⟨s1, hs1⟩ : ∃ z, splS l ts = z := ⟨_, rfl⟩
  obtain ⟨s2, hs2⟩ : ∃ z, splM l ts = z := ⟨_, rfl⟩
  obtain ⟨K, hK⟩ : ∃ z, claE l = z := ⟨_, rfl⟩
  have hKl : K.length ≤ 3600 := by
    have h1 := claO_len l l.ws.length
    have h2 := OK.out.w60
    have h3 : l.ws.length * l.ws.length ≤ 60 * 60 := Nat.mul_le_mul h2 h2
    rw [← hK]
    unfold claE
    rw [if_pos HE.out]
    omega
  have HBE := hide hbe
  have HBV := hide hbb
  have HBR := hide hbr
  have HZ := hide hz
  have HS1 := hide hs1
  have HS2 := hide hs2
  have HK := hide hK
  have hs40 := OK.out.s40
  have hw60 := OK.out.w60
  clear her hbe hbb hbr hz hs1 hs2 hK
  go_enter Try.func13, Try.ntmps13
  go_upto_region 1 with (fail)
  generalize hw0 : World.alloc _ _ = w0
  obtain ⟨hb0, hB0, hs0⟩ := alloc1 hw0
  have HL0 : Hid (LoBox w0 w.heap.size A0 A1 A2 A3 A4 A5 q0 q1 q2 q3 q4 q5 l) := hb0
  have HB0 := hide hB0
  have c0 := cellOf hb0 0; have c1 := cellOf hb0 1; have c2 := cellOf hb0 2; have c3 := cellOf hb0 3; have c4 := cellOf hb0 4; have c5 := cellOf hb0 5
  have hlb := box_lt hb0
  clear hw0 hb0 hB0 hs0
  go_upto_region 3 with (first | (go_at_call 14; refine (Far_any A0 A1 A2 A3 A4 A5 q0 q1 q2 q3 q4 q5 l _ HS.out (H.out.up HB0.out)).mono ?_; rw [HFAR.out]; rintro e w1 ⟨rfl, hB1⟩; have d0 := cellOf (HL0.out.to hB1) 0; have d1 := cellOf (HL0.out.to hB1) 1; have d2 := cellOf (HL0.out.to hB1) 2; have d3 := cellOf (HL0.out.to hB1) 3; have d4 := cellOf (HL0.out.to hB1) 4; have d5 := cellOf (HL0.out.to hB1) 5; have ld := box_lt (HL0.out.to hB1); have HL1 := hide (HL0.out.to hB1); have HB1 := hide (Below.to HB0.out hB1 (Nat.le_refl _)); clear hB1 c0 c1 c2 c3 c4 c5 hlb) | (go_at_call 18; refine (rCheck_any A0 A1 A2 A3 A4 A5 q0 q1 q2 q3 q4 q5 l _ HS.out (H.out.up HB1.out)).mono ?_; rw [HE.out]; rintro e w2 ⟨rfl, hB2⟩; have HL2 := hide (HL1.out.to hB2); have HB2 := hide (Below.to HB1.out hB2 (Nat.le_refl _)); have e0 := cellOf HL2.out 0; have e1 := cellOf HL2.out 1; have e2 := cellOf HL2.out 2; have e3 := cellOf HL2.out 3; have e4 := cellOf HL2.out 4; have e5 := cellOf HL2.out 5; have le := box_lt HL2.out; clear hB2 d0 d1 d2 d3 d4 d5 ld))
  go_upto_region 4 with (go_at_call 16; refine (Copy_any A0 A1 A2 A3 A4 A5 q0 q1 q2 q3 q4 q5 l _ HS.out HFAR.out (H.out.up HB2.out)).mono ?_; rintro e w4 ⟨C0, C1, C2, C3, C4, C5, r0, r1, r2, r3, r4, r5, rfl, hl4, hB4⟩; have HC4 := hide hl4; have HL4 := hide (HL2.out.to hB4); have HB4 := hide (Below.to HB2.out hB4 (Nat.le_refl _)); clear hl4 hB4 e0 e1 e2 e3 e4 e5 le)
  generalize hw5 : World.alloc _ _ = w5
  obtain ⟨hb5, hB5, hs5⟩ := alloc1 hw5
  obtain ⟨bm, hbm⟩ : ∃ b, w4.heap.size = b := ⟨_, rfl⟩
  rw [hbm] at hb5
  rw [hbm]
  have HM5 : Hid (LoBox w5 bm C0 C1 C2 C3 C4 C5 r0 r1 r2 r3 r4 r5 l) := hb5
  have HC5 := hide (HC4.out.up hB5)
  have HL5 := hide (HL4.out.to hB5)
  have HB5 := hide (Below.to HB4.out hB5 (Nat.le_refl _))
  have HT5 := hide (Ints.up HTS.out HB5.out)
  have m0 := cellOf HM5.out 0; have m1 := cellOf HM5.out 1; have m2 := cellOf HM5.out 2; have m3 := cellOf HM5.out 3; have m4 := cellOf HM5.out 4; have m5 := cellOf HM5.out 5
  have lm := box_lt HM5.out
  clear hw5 hb5 hB5 hs5 hbm
  go_upto_region 4 with (fail)
  refine wp_region_held_drew (S := (fun w' => Below w5.heap.size w5 w')) (by kernel_rfl) ?_ (fun hHeld => ?_)
  · try dsimp only
    exact (by repeat (first | exact Below.refl _ _ | assumption | refine Below.drew ?_ | refine Below.drewN ?_ _ | refine Below.allocT ?_ (Nat.le_refl _) _ | refine Below.setCell ?_ (by simp <;> omega) _ | refine Below.to ?_ (by assumption) (Nat.le_refl _)))
  refine zT 0 rfl ?_
  try simp only [zX]
  refine zT 2 rfl ?_
  try simp only [zX]
  refine wpAnyH_ready (rs := [1]) (by kernel_rfl) (by simp) ?_
  refine AllReadyH.cons rfl (fun K hK => ?_) AllReadyH.nil
  go_simp
  refine hK.out _ _ ?_ (fun hNext => ?_)
  · try dsimp only
    exact (by repeat (first | exact Below.refl _ _ | assumption | refine Below.drew ?_ | refine Below.drewN ?_ _ | refine Below.allocT ?_ (Nat.le_refl _) _ | refine Below.setCell ?_ (by simp <;> omega) _ | refine Below.to ?_ (by assumption) (Nat.le_refl _)))
  clear hK K hHeld
  have hHeld := hNext
  clear hNext
  (try dsimp only at hHeld)
  try simp only [zX]
  refine wpAnyH_ready (rs := [3]) (by kernel_rfl) (by simp) ?_
  refine AllReadyH.cons rfl (fun K hK => ?_) AllReadyH.nil
  (refine step_append_any _ (by rfl) (.tmp 51) (.tmp 52) _ (by rfl) w5.heap.size 3 i0 _ 1 8 Try.underlying41 hi0 iz0 iz1 iz2 (by rfl) (by decide) (.slice (some ⟨w5.heap.size, 0, none⟩) 0 0) 0 [] (by rfl) (World.ownsRow_made _ #[] 0 (Nat.le_refl _) (by unfold maxLen; omega) rfl) w5.heap.size As ts.length qs (ts.map (Value.int .i64)) (by rfl) ((Ints.flat6 HT5.out).alloc (Nat.le_refl _) _) one_ints6 (by unfold maxLen; omega) (by omega) (by simp) ?_; intro v7 w7 hown7 hg7 _; rw [Nat.zero_add, List.nil_append] at hown7; have hB7 : Below w5.heap.size w5 w7 := (Below.allocT (Below.drew (Below.refl _ w5)) (Nat.le_refl _) _).grown hg7 (by simp) (fun k e => by simp [Value.ownBlock] at e; omega); obtain ⟨A7, cap7, hv7⟩ := owns_form hown7; subst hv7; have HT7 := hide (ints_own6 hown7); clear hown7 hg7)
  (try dsimp only)
  refine hK.out _ _ ?_ (fun hNext => ?_)
  · try dsimp only
    exact (by repeat (first | exact Below.refl _ _ | assumption | refine Below.drew ?_ | refine Below.drewN ?_ _ | refine Below.allocT ?_ (Nat.le_refl _) _ | refine Below.setCell ?_ (by simp <;> omega) _ | refine Below.to ?_ (by assumption) (Nat.le_refl _)))
  clear hK K hHeld
  have hHeld := hNext
  clear hNext
  (try dsimp only at hHeld)
  try simp only [zX]
  refine wpAnyH_ready (rs := [4]) (by kernel_rfl) (by simp) ?_
  refine AllReadyH.cons rfl (fun K hK => ?_) AllReadyH.nil
  go_simp
  ((go_at_call 28; refine (Splice_any A7 cap7 ts _ _ _ _ _ _ _ _ _ _ _ _ l _ HS.out hm (HC5.out.up (by repeat (first | exact Below.refl _ _ | assumption | refine Below.drew ?_ | refine Below.drewN ?_ _ | refine Below.allocT ?_ (Nat.le_refl _) _ | refine Below.setCell ?_ (by simp <;> omega) _ | refine Below.to ?_ (by assumption) (Nat.le_refl _)))) HT7.out).mono ?_; rw [HS1.out, HS2.out, HZ.out]; rintro e w8 ⟨rfl, hB8⟩))
  (try dsimp only)
  refine hK.out _ _ ?_ (fun hNext => ?_)
  · try dsimp only
    exact (by repeat (first | exact Below.refl _ _ | assumption | refine Below.drew ?_ | refine Below.drewN ?_ _ | refine Below.allocT ?_ (Nat.le_refl _) _ | refine Below.setCell ?_ (by simp <;> omega) _ | refine Below.to ?_ (by assumption) (Nat.le_refl _)))
  clear hK K hHeld
  have hHeld := hNext
  clear hNext
  (try dsimp only at hHeld)
  try simp only [zX]
  refine zT 5 rfl ?_
  try simp only [zX]
  refine zT 6 rfl ?_
  try simp only [zX]
  refine zT 7 rfl ?_
  try simp only [zX]
  refine zT 8 rfl ?_
  try simp only [zX]
  refine zT 9 rfl ?_
  try simp only [zX]
  refine zT 10 rfl ?_
  try simp only [zX]
  refine zT 11 rfl ?_
  try simp only [zX]
  refine wpAnyH_done (by kernel_rfl) ?_ _
  have HB8 := hide (Below.to HB5.out hHeld (Nat.le_refl _))
  have HM8 := hide (HM5.out.to hHeld)
  have HC8 := hide (HC5.out.up hHeld)
  have HL8 := hide (HL5.out.to hHeld)
  clear hHeld m0 m1 m2 m3 m4 m5 lm
  obtain ⟨cz, hcz⟩ : ∃ b, (z == 0) = b := ⟨_, rfl⟩
  go_upto_if 59 with (fail)
  have HCZ := hide hcz
  clear hcz
  go_cut [11, 12, 13, 14, 15] from 60 to 100 (fun _ _ _ _ _ wc => Hid (Below w8.heap.size w8 wc))
  case first =>
    by_cases hz0 : z = 0
    case neg =>
      have g1 : cz = false := by rw [← HCZ.out]; simpa using hz0
      subst g1
      clear hz0
      go_wp2_with fail
      go_meet
      case rel => exact Below.refl _ _
    case pos =>
    subst hz0
    have g1 : cz = true := by rw [← HCZ.out]; rfl
    subst g1
    clear HCZ
    obtain ⟨ok, l1, l2, hin⟩ := givE_ok HZ.out
    obtain ⟨T, hT⟩ : ∃ T, ts.map Int.toNat = T := ⟨_, rfl⟩
    obtain ⟨sp, hsp⟩ : ∃ z, (spliceN l T).1 = z := ⟨_, rfl⟩
    have q1 : s1 = (sp : Nat) := by rw [← HS1.out, ← hsp]; unfold splS; rw [if_pos HZ.out, hT]
    have q2 : (spliceN l T).2 = s2 := by rw [← HS2.out]; unfold splM; rw [if_pos HZ.out, hT]
    have hbest : ∀ k, k < l.ss.length → s2 ≤ sumD l k T ∧ (k = sp → sumD l k T = s2) := fun k hk => by
      obtain ⟨a, b⟩ := splice_least OK.out T hk
      rw [q2] at a b
      rw [hsp] at b
      exact ⟨a, fun e => by rw [e]; exact b.symm⟩
    subst q1
    have hTl : T.length = ts.length := by rw [← hT, List.length_map]
    have hTg : ∀ p, p < ts.length → ts.getD p 0 = (T.getD p 0 : Nat) ∧ T.getD p 0 < l.ss.length := fun p hp => by
      obtain ⟨h1, h2⟩ := hin _ (getD_mem3 (z := 0) hp)
      have h3 := toNat_at hp
      rw [hT] at h3
      omega
    have HBEST := hide hbest
    have HTL := hide hTl
    have HTG := hide hTg
    clear hin hT hsp q2 hbest hTl hTg ok
    go_wp2_with fail
    go_loopw [11, 12, 13, 14, 15] (fun i _ _ _ _ wr => ∃ k : Nat, i = .int .i64 k ∧ k ≤ l.ss.length ∧ Hid (Below w8.heap.size w8 wr)) (fun i _ _ _ _ _ => l.ss.length - (intOf i).toNat)
    case atStart => exact ⟨0, rfl, Nat.zero_le _, Below.refl _ _⟩
    case round =>
      obtain ⟨k, rfl, hk, HBr⟩ := hrel
      have HLk := hide (HL8.out.to HBr.out)
      have c0 := cellOf HLk.out 0; have c1 := cellOf HLk.out 1; have c2 := cellOf HLk.out 2; have c3 := cellOf HLk.out 3; have c4 := cellOf HLk.out 4; have c5 := cellOf HLk.out 5
      have lc := box_lt HLk.out
      by_cases hkl : k < l.ss.length
      · have ik : (k : Int) < (l.ss.length : Int) := by omega
        go_wp2_with fail
        clear c0 c1 c2 c3 c4 c5 lc
        go_loopw [12, 13, 14, 15] (fun o i _ _ wr => ∃ (p : Nat) (x : Int), i = .int .i64 p ∧ o = .int .i64 x ∧ p ≤ ts.length ∧ Hid (sumD l k (T.take p) = x) ∧ Hid (Below w8.heap.size w8 wr)) (fun _ i _ _ _ => ts.length - (intOf i).toNat)
        case atStart => exact ⟨0, 0, rfl, rfl, Nat.zero_le _, by show sumD _ _ _ = _; simp [sumD], HBr.out⟩
        case round =>
          clear HBr HLk
          obtain ⟨p, x, rfl, rfl, hp, HSU, HBr⟩ := hrel
          by_cases hpl : p < ts.length
          · have hBw := Below.to HB8.out HBr.out (Nat.le_refl _)
            obtain ⟨bt, ot, t, HT, rfl, hbt, hqt, ct⟩ := (Ints.up HTS.out hBw).at hpl
            obtain ⟨h1, h2⟩ := HTG.out p hpl
            rw [HT.out] at h1
            obtain ⟨u, hu⟩ : ∃ u, T.getD p 0 = u := ⟨_, rfl⟩
            rw [hu] at h1 h2
            subst h1
            have hsum := sumD_take (l := l) (s := k) (show p < T.length by rw [HTL.out]; exact hpl) hu
            rw [HSU.out] at hsum
            have hrng := sumD_range OK.out k (T.take p)
            rw [HSU.out, List.length_take] at hrng
            have hd := OK.out.dist (x := k) (z := u)
            obtain ⟨de, dd⟩ := disE_zero HE.out hkl h2
            obtain ⟨d, hdd⟩ : ∃ d, distN l.rs (runLen l) k u = d := ⟨_, rfl⟩
            rw [hdd] at hsum hd dd
            have HDD := hide (And.intro de dd)
            have HSUM := hide hsum
            have hs2' : 0 ≤ x ∧ x ≤ 1600000000 := by omega
            have ip : (p : Int) < (ts.length : Int) := by omega
            have iqt : (ts.length : Int) ≤ (qs : Int) := by omega
            have HMr := hide (HM8.out.to HBr.out)
            have HCr := hide (HC8.out.up HBr.out)
            have m0 := cellOf HMr.out 0; have m1 := cellOf HMr.out 1; have m2 := cellOf HMr.out 2; have m3 := cellOf HMr.out 3; have m4 := cellOf HMr.out 4; have m5 := cellOf HMr.out 5
            have lm := box_lt HMr.out
            have lbt : bt < wr.heap.size := hbt
            clear hu h2 hsum hrng hdd de dd hqt hBw
            go_upto_region 13 with (fail)
            refine wp_region_held_drew (S := (fun w' => Below wr.heap.size wr w')) (by kernel_rfl) ?_ (fun hHeld => ?_)
            · try dsimp only
              exact (by repeat (first | exact Below.refl _ _ | assumption | refine Below.drew ?_ | refine Below.drewN ?_ _ | refine Below.allocT ?_ (Nat.le_refl _) _ | refine Below.setCell ?_ (by simp <;> omega) _ | refine Below.to ?_ (by assumption) (Nat.le_refl _)))
            refine zT 0 rfl ?_
            try simp only [zX]
            refine zT 1 rfl ?_
            try simp only [zX]
            refine zT 2 rfl ?_
            try simp only [zX]
            refine zT 3 rfl ?_
            try simp only [zX]
            refine zT 4 rfl ?_
            try simp only [zX]
            refine zT 5 rfl ?_
            try simp only [zX]
            refine wpAnyH_ready (rs := [6]) (by kernel_rfl) (by simp) ?_
            refine AllReadyH.cons rfl (fun K hK => ?_) AllReadyH.nil
            go_simp
            ((go_at_call 26; refine (Distance_any k u _ _ _ _ _ _ _ _ _ _ _ _ l _ HS.out (HCr.out.up (by repeat (first | exact Below.refl _ _ | assumption | refine Below.drew ?_ | refine Below.drewN ?_ _ | refine Below.allocT ?_ (Nat.le_refl _) _ | refine Below.setCell ?_ (by simp <;> omega) _ | refine Below.to ?_ (by assumption) (Nat.le_refl _))))).mono ?_; rw [HDD.out.1, HDD.out.2]; rintro e w9 ⟨rfl, hB9⟩))
            (try dsimp only)
            refine hK.out _ _ ?_ (fun hNext => ?_)
            · try dsimp only
              exact (by repeat (first | exact Below.refl _ _ | assumption | refine Below.drew ?_ | refine Below.drewN ?_ _ | refine Below.allocT ?_ (Nat.le_refl _) _ | refine Below.setCell ?_ (by simp <;> omega) _ | refine Below.to ?_ (by assumption) (Nat.le_refl _)))
            clear hK K hHeld
            have hHeld := hNext
            clear hNext
            (try dsimp only at hHeld)
            try simp only [zX]
            refine zT 7 rfl ?_
            try simp only [zX]
            refine zT 8 rfl ?_
            try simp only [zX]
            refine zT 9 rfl ?_
            try simp only [zX]
            refine zT 10 rfl ?_
            try simp only [zX]
            refine zT 11 rfl ?_
            try simp only [zX]
            refine wpAnyH_done (by kernel_rfl) ?_ _
            have HB9 := hide (Below.to HBr.out hHeld (Nat.le_refl _))
            clear hHeld m0 m1 m2 m3 m4 m5 lm ct lbt
            go_wp2_with fail
            go_roundw
            case rel => exact ⟨p + 1, x + d, by go_num, by go_num, by omega, HSUM.out, HB9.out⟩
            case measure => simp [intOf]; omega
          · have hpe : p = ts.length := by omega
            subst hpe
            have hS := HSU.out
            rw [← HTL.out, List.take_length] at hS
            obtain ⟨b1, b2⟩ := HBEST.out k hkl
            rw [hS] at b1 b2
            have gl : decide (x < s2) = false := decide_eq_false (by omega)
            clear hS
            by_cases hks : k = sp
            · have hx : x = s2 := b2 hks
              subst hx hks
              have gk : ((k : Int) == (k : Int)) = true := by simp
              have gx : (x != x) = false := by simp
              go_wp2_with fail
              go_roundw
              case rel => exact ⟨k + 1, by go_num, by omega, HBr.out⟩
              case measure => simp [intOf]; omega
            · have gk : ((k : Int) == (sp : Int)) = false := by simp; omega
              clear hks b2
              go_wp2_with fail
              go_roundw
              case rel => exact ⟨k + 1, by go_num, by omega, HBr.out⟩
              case measure => simp [intOf]; omega
      · have hke : k = l.ss.length := by omega
        subst hke
        go_wp2_with fail
        go_meet
        case rel => exact HBr.out
  case rest =>
    have HBc := hcut
    clear hcut
    have HMc := hide (HM8.out.to HBc.out)
    have HCc := hide (HC8.out.up HBc.out)
    have HLc := hide (HL8.out.to HBc.out)
    have HBB := hide (Below.to HB8.out HBc.out (Nat.le_refl _))
    have m0 := cellOf HMc.out 0; have m1 := cellOf HMc.out 1; have m2 := cellOf HMc.out 2; have m3 := cellOf HMc.out 3; have m4 := cellOf HMc.out 4; have m5 := cellOf HMc.out 5
    have lm := box_lt HMc.out
    go_upto_region 20 with (go_at_call 43; refine (Clashes_any _ _ _ _ _ _ _ _ _ _ _ _ l _ HS.out HCc.out hN).mono ?_; rw [HK.out, HE.out]; rintro e w10 ⟨v10, rfl, hv10, hB10⟩; obtain ⟨Ak, ck, hvk⟩ := Sl.form hv10; subst hvk; have HL10 := hide (HLc.out.to hB10); have HB10 := hide (Below.to HBB.out hB10 (Nat.le_refl _)); have c0 := cellOf (HLc.out.to hB10) 0; have c1 := cellOf (HLc.out.to hB10) 1; have c2 := cellOf (HLc.out.to hB10) 2; have c3 := cellOf (HLc.out.to hB10) 3; have c4 := cellOf (HLc.out.to hB10) 4; have c5 := cellOf (HLc.out.to hB10) 5; have lc := box_lt (HLc.out.to hB10); clear hv10 hB10 m0 m1 m2 m3 m4 m5 lm)
    go_upto_region 21 with (go_at_call 47; refine (rBuildable_any l.m v _ _ _ _ (SizedL.m HS.out) (H.out.up HB10.out).m (Sl.up HV.out HB10.out)).mono ?_; rw [HBR.out, HBV.out, HBE.out]; rintro e w11 ⟨rfl, hB11⟩; have HL11 := hide (HL10.out.to hB11); have HB11 := hide (Below.to HB10.out hB11 (Nat.le_refl _)); clear hB11 c0 c1 c2 c3 c4 c5 lc)
    by_cases hbe0 : be = 0
    case neg =>
      have hz1 : (be != 0) = true := by simpa using hbe0
      clear hbe0
      go_wp2_with (go_at_call 15; refine (works_loom _).mono ?_; rintro e w19 ⟨rfl, hB19⟩)
      go_ret
      exact ⟨rfl, Below.to HB11.out hB19 (Nat.le_refl _)⟩
    case pos =>
    subst hbe0
    cases bb with
    | false =>
      go_wp2_with (go_at_call 15; refine (works_loom _).mono ?_; rintro e w19 ⟨rfl, hB19⟩)
      go_ret
      exact ⟨rfl, Below.to HB11.out hB19 (Nat.le_refl _)⟩
    | true =>
    by_cases hK0 : 0 < K.length
    · have gK : (0 : Int) < (K.length : Int) := by omega
      have gK2 : decide (0 < K.length) = true := decide_eq_true hK0
      clear hK0
      go_wp2_with (go_at_call 15; refine (works_loom _).mono ?_; rintro e w19 ⟨rfl, hB19⟩)
      go_ret
      exact ⟨rfl, Below.to HB11.out hB19 (Nat.le_refl _)⟩
    have hKn : K = [] := by cases K with
      | nil => rfl
      | cons a t => simp at hK0
    have gK : ¬ (0 : Int) < (K.length : Int) := by rw [hKn]; simp
    have gK2 : decide (0 < K.length) = false := by rw [hKn]; simp
    obtain ⟨_, hvl, hall⟩ := bui_all HBE.out HBV.out
    have hns : ∀ i k, i < k → k < l.ws.length → inB l v i = true → inB l v k = true → sharB (l.ws.getD i Wi.o) (l.ws.getD k Wi.o) = false := fun i k hi hk a b => OK.out.no_share HE.out (HK.out.trans hKn) hvl hall hi hk a b
    have HNS := hide hns
    clear hvl hall hns hK0 hKl hKn
    have c0 := cellOf HL11.out 0; have c1 := cellOf HL11.out 1; have c2 := cellOf HL11.out 2; have c3 := cellOf HL11.out 3; have c4 := cellOf HL11.out 4; have c5 := cellOf HL11.out 5
    have lc := box_lt HL11.out
    go_wp2_with fail
    clear c0 c1 c2 c3 c4 c5 lc
    go_loopw [21, 22, 23, 24, 25, 26, 27, 28] (fun i _ _ _ _ _ _ _ wr => ∃ p : Nat, i = .int .i64 p ∧ p ≤ l.ws.length ∧ Hid (Below w11.heap.size w11 wr)) (fun i _ _ _ _ _ _ _ _ => l.ws.length - (intOf i).toNat)
    case atStart => exact ⟨0, rfl, Nat.zero_le _, Below.refl _ _⟩
    case round =>
      obtain ⟨p, rfl, hp, HBr⟩ := hrel
      have HLk := hide (HL11.out.to HBr.out)
      have c0 := cellOf HLk.out 0; have c1 := cellOf HLk.out 1; have c2 := cellOf HLk.out 2; have c3 := cellOf HLk.out 3; have c4 := cellOf HLk.out 4; have c5 := cellOf HLk.out 5
      have lc := box_lt HLk.out
      by_cases hpl : p < l.ws.length
      · have ip : (p : Int) < (l.ws.length : Int) := by omega
        go_wp2_with fail
        clear c0 c1 c2 c3 c4 c5 lc
        go_loopw [22, 23, 24, 25, 26, 27, 28] (fun i _ _ _ _ _ _ wr => ∃ k : Nat, i = .int .i64 k ∧ p < k ∧ k ≤ l.ws.length ∧ Hid (Below w11.heap.size w11 wr)) (fun i _ _ _ _ _ _ _ => l.ws.length - (intOf i).toNat)
        case atStart => exact ⟨p + 1, by go_num, by omega, by omega, HBr.out⟩
        case round =>
          clear HBr HLk
          obtain ⟨k, rfl, hpk, hk, HBr⟩ := hrel
          have HLk := hide (HL11.out.to HBr.out)
          have c0 := cellOf HLk.out 0; have c1 := cellOf HLk.out 1; have c2 := cellOf HLk.out 2; have c3 := cellOf HLk.out 3; have c4 := cellOf HLk.out 4; have c5 := cellOf HLk.out 5
          have lc := box_lt HLk.out
          by_cases hkl : k < l.ws.length
          · have hBw := Below.to HB11.out HBr.out (Nat.le_refl _)
            obtain ⟨bw, offw, x, Af, qf, HX, rfl, hbw, hq5, HFO, z0, z1, z2, z3, z4, z5, z6⟩ := (H.out.up hBw).wi hpl
            obtain ⟨bv, offv, y, Ag, qg, HY, he5, hbv, hq5', HFY, y0, y1, y2, y3, y4, y5, y6⟩ := (H.out.up hBw).wi hkl
            injection he5 with he5
            injection he5 with he5a he5b
            subst he5a he5b
            have hxl := SizedL.form HS.out hpl
            rw [HX.out] at hxl
            have hyl := SizedL.form HS.out hkl
            rw [HY.out] at hyl
            have hshr := HNS.out p k hpk hkl
            rw [HX.out, HY.out] at hshr
            obtain ⟨o1, ho1⟩ : ∃ b, inB l v p = b := ⟨_, rfl⟩
            obtain ⟨o2, ho2⟩ : ∃ b, inB l v k = b := ⟨_, rfl⟩
            rw [ho1, ho2] at hshr
            have ho1' : holB l.m x.form v = o1 := by rw [← ho1]; unfold inB; rw [HX.out]
            have ho2' : holB l.m y.form v = o2 := by rw [← ho2]; unfold inB; rw [HY.out]
            have HO1 := hide ho1'
            have HO2 := hide ho2'
            have HSHR := hide hshr
            have ik : (k : Int) < (l.ws.length : Int) := by omega
            have iq : (l.ws.length : Int) ≤ (q5 : Int) := by omega
            have lbw : bw < wr.heap.size := hbw
            clear hbv hq5' ho1 ho2 ho1' ho2' hshr hBw
            go_upto_region 31 with (fail)
            go_cut [23, 24] from 144 to 153 (fun pa pb wc => ∃ ba bb : Nat, pa = .pointer (some ⟨ba, 0, none⟩) ∧ pb = .pointer (some ⟨bb, 0, none⟩) ∧ Hid (TwoC wr wc ba bb Af Ag qf qg x y))
            case first =>
              refine wp_region_held_drew (S := (fun w' => Below wr.heap.size wr w')) (by kernel_rfl) ?_ (fun hHeld => ?_)
              · try dsimp only
                exact (by repeat (first | exact Below.refl _ _ | assumption | refine Below.drew ?_ | refine Below.drewN ?_ _ | refine Below.allocT ?_ (Nat.le_refl _) _ | refine Below.setCell ?_ (by simp <;> omega) _ | refine Below.to ?_ (by assumption) (Nat.le_refl _)))
              refine zT 0 rfl ?_
              try simp only [zX]
              refine zT 1 rfl ?_
              try simp only [zX]
              refine zT 2 rfl ?_
              try simp only [zX]
              refine zT 3 rfl ?_
              try simp only [zX]
              refine zT 4 rfl ?_
              try simp only [zX]
              refine zT 5 rfl ?_
              try simp only [zX]
              refine zT 6 rfl ?_
              try simp only [zX]
              refine zT 7 rfl ?_
              try simp only [zX]
              refine zT 8 rfl ?_
              try simp only [zX]
              refine zT 9 rfl ?_
              try simp only [zX]
              refine wpAnyH_ready (rs := [10, 11]) (by kernel_rfl) (by simp) ?_
              refine (AllReadyH.cons rfl (fun K hK => ?o1_11_10) (AllReadyH.cons rfl (fun K hK => ?o1_11_11) AllReadyH.nil))
              case' o1_11_10 =>
                go_simp
                refine hK.out _ _ ?_ (fun hNext => ?_)
                · try dsimp only
                  exact (by repeat (first | exact Below.refl _ _ | assumption | refine Below.drew ?_ | refine Below.drewN ?_ _ | refine Below.allocT ?_ (Nat.le_refl _) _ | refine Below.setCell ?_ (by simp <;> omega) _ | refine Below.to ?_ (by assumption) (Nat.le_refl _)))
                clear hK K hHeld
                have hHeld := hNext
                clear hNext
                (try dsimp only at hHeld)
                try simp only [zX]
                refine wpAnyH_ready (rs := [11]) (by kernel_rfl) (by simp) ?_
                refine (AllReadyH.cons rfl (fun K hK => ?_) AllReadyH.nil)
                go_simp
                refine hK.out _ _ ?_ (fun hNext => ?_)
                · try dsimp only
                  exact (by repeat (first | exact Below.refl _ _ | assumption | refine Below.drew ?_ | refine Below.drewN ?_ _ | refine Below.allocT ?_ (Nat.le_refl _) _ | refine Below.setCell ?_ (by simp <;> omega) _ | refine Below.to ?_ (by assumption) (Nat.le_refl _)))
                clear hK K hHeld
                have hHeld := hNext
                clear hNext
                (try dsimp only at hHeld)
                try simp only [zX]
                refine wpAnyH_ready (rs := [12]) (by kernel_rfl) (by simp) ?_
                refine (AllReadyH.cons rfl (fun K hK => ?_) AllReadyH.nil)
                go_simp
                refine hK.out _ _ ?_ (fun hNext => ?_)
                · try dsimp only
                  exact (by repeat (first | exact Below.refl _ _ | assumption | refine Below.drew ?_ | refine Below.drewN ?_ _ | refine Below.allocT ?_ (Nat.le_refl _) _ | refine Below.setCell ?_ (by simp <;> omega) _ | refine Below.to ?_ (by assumption) (Nat.le_refl _)))
                clear hK K hHeld
                have hHeld := hNext
                clear hNext
                (try dsimp only at hHeld)
                try simp only [zX]
                refine wpAnyH_ready (rs := [13]) (by kernel_rfl) (by simp) ?_
                refine (AllReadyH.cons rfl (fun K hK => ?_) AllReadyH.nil)
                go_simp
                refine hK.out _ _ ?_ (fun hNext => ?_)
                · try dsimp only
                  exact (by repeat (first | exact Below.refl _ _ | assumption | refine Below.drew ?_ | refine Below.drewN ?_ _ | refine Below.allocT ?_ (Nat.le_refl _) _ | refine Below.setCell ?_ (by simp <;> omega) _ | refine Below.to ?_ (by assumption) (Nat.le_refl _)))
                clear hK K hHeld
                have hHeld := hNext
                clear hNext
                (try dsimp only at hHeld)
                try simp only [zX]
                refine wpAnyH_done (by kernel_rfl) ?_ _
              case' o1_11_11 =>
                go_simp
                refine hK.out _ _ ?_ (fun hNext => ?_)
                · try dsimp only
                  exact (by repeat (first | exact Below.refl _ _ | assumption | refine Below.drew ?_ | refine Below.drewN ?_ _ | refine Below.allocT ?_ (Nat.le_refl _) _ | refine Below.setCell ?_ (by simp <;> omega) _ | refine Below.to ?_ (by assumption) (Nat.le_refl _)))
                clear hK K hHeld
                have hHeld := hNext
                clear hNext
                (try dsimp only at hHeld)
                try simp only [zX]
                refine wpAnyH_ready (rs := [10]) (by kernel_rfl) (by simp) ?_
                refine (AllReadyH.cons rfl (fun K hK => ?_) AllReadyH.nil)
                go_simp
                refine hK.out _ _ ?_ (fun hNext => ?_)
                · try dsimp only
                  exact (by repeat (first | exact Below.refl _ _ | assumption | refine Below.drew ?_ | refine Below.drewN ?_ _ | refine Below.allocT ?_ (Nat.le_refl _) _ | refine Below.setCell ?_ (by simp <;> omega) _ | refine Below.to ?_ (by assumption) (Nat.le_refl _)))
                clear hK K hHeld
                have hHeld := hNext
                clear hNext
                (try dsimp only at hHeld)
                try simp only [zX]
                refine wpAnyH_ready (rs := [12]) (by kernel_rfl) (by simp) ?_
                refine (AllReadyH.cons rfl (fun K hK => ?_) AllReadyH.nil)
                go_simp
                refine hK.out _ _ ?_ (fun hNext => ?_)
                · try dsimp only
                  exact (by repeat (first | exact Below.refl _ _ | assumption | refine Below.drew ?_ | refine Below.drewN ?_ _ | refine Below.allocT ?_ (Nat.le_refl _) _ | refine Below.setCell ?_ (by simp <;> omega) _ | refine Below.to ?_ (by assumption) (Nat.le_refl _)))
                clear hK K hHeld
                have hHeld := hNext
                clear hNext
                (try dsimp only at hHeld)
                try simp only [zX]
                refine wpAnyH_ready (rs := [13]) (by kernel_rfl) (by simp) ?_
                refine (AllReadyH.cons rfl (fun K hK => ?_) AllReadyH.nil)
                go_simp
                refine hK.out _ _ ?_ (fun hNext => ?_)
                · try dsimp only
                  exact (by repeat (first | exact Below.refl _ _ | assumption | refine Below.drew ?_ | refine Below.drewN ?_ _ | refine Below.allocT ?_ (Nat.le_refl _) _ | refine Below.setCell ?_ (by simp <;> omega) _ | refine Below.to ?_ (by assumption) (Nat.le_refl _)))
                clear hK K hHeld
                have hHeld := hNext
                clear hNext
                (try dsimp only at hHeld)
                try simp only [zX]
                refine wpAnyH_done (by kernel_rfl) ?_ _
              all_goals
                generalize hwq : World.drew _ = wq at hHeld ⊢
                obtain ⟨g0, g1, gB⟩ := alloc2e hwq
                have G0 := hide g0
                have G1 := hide g1
                have GB := hide gB
                clear hwq hHeld g0 g1 gB
                go_wp2_with fail
                go_meet
                case rel => exact ⟨_, _, rfl, rfl, ⟨GB.out, by first | exact G0.out | exact G1.out, by first | exact G0.out | exact G1.out⟩⟩
            case rest =>
              obtain ⟨ba, bb, rfl, rfl, HTC⟩ := hcut
              clear c0 c1 c2 c3 c4 c5 lc z0 z1 z2 z3 z4 z5 z6 y0 y1 y2 y3 y4 y5 y6 lbw
              have HBc := hide (Below.to HBr.out HTC.out.below (Nat.le_refl _))
              have hBw := Below.to HB11.out HBc.out (Nat.le_refl _)
              have HLc := hide (HLk.out.to HTC.out.below)
              have c0 := cellOf HLc.out 0; have c1 := cellOf HLc.out 1; have c2 := cellOf HLc.out 2; have c3 := cellOf HLc.out 3; have c4 := cellOf HLc.out 4; have c5 := cellOf HLc.out 5
              have lc := box_lt HLc.out
              have hta := HTC.out.a
              have htb := HTC.out.b
              have x0 := cellOf hta 0; have x1 := cellOf hta 1; have x2 := cellOf hta 2; have x3 := cellOf hta 3; have x4 := cellOf hta 4; have x5 := cellOf hta 5; have x6 := cellOf hta 6
              have y0 := cellOf htb 0; have y1 := cellOf htb 1; have y2 := cellOf htb 2; have y3 := cellOf htb 3; have y4 := cellOf htb 4; have y5 := cellOf htb 5; have y6 := cellOf htb 6
              have lx := box_lt hta
              have ly := box_lt htb
              have HTA := hide hta
              have HTB := hide htb
              have HHc := hide (H.out.up hBw)
              have HFc := hide (Ints.up HFO.out HTC.out.below)
              have HGc := hide (Ints.up HFY.out HTC.out.below)
              have HVc := hide (Sl.up HV.out hBw)
              clear hta htb hBw
              go_upto_region 33 with (go_at_call 49; refine (rHolds_any l.m x.form v _ _ _ _ _ (SizedL.m HS.out) hxl HHc.out.m HFc.out HVc.out).mono ?_; rw [HO1.out]; rintro e w13 ⟨rfl, hB13⟩; have HX13 := hide (box_to HTA.out hB13); have HY13 := hide (box_to HTB.out hB13); have HH13 := hide (HHc.out.up hB13); have HG13 := hide (Ints.up HGc.out hB13); have HV13 := hide (Sl.up HVc.out hB13); have HL13 := hide (HLc.out.to hB13); have HB13 := hide (Below.to HBc.out hB13 (Nat.le_refl _)); clear hB13 c0 c1 c2 c3 c4 c5 lc x0 x1 x2 x3 x4 x5 x6 lx y0 y1 y2 y3 y4 y5 y6 ly; have c0 := cellOf HL13.out 0; have c1 := cellOf HL13.out 1; have c2 := cellOf HL13.out 2; have c3 := cellOf HL13.out 3; have c4 := cellOf HL13.out 4; have c5 := cellOf HL13.out 5; have lc := box_lt HL13.out; have htb := HY13.out; have y0 := cellOf htb 0; have y1 := cellOf htb 1; have y2 := cellOf htb 2; have y3 := cellOf htb 3; have y4 := cellOf htb 4; have y5 := cellOf htb 5; have y6 := cellOf htb 6; have ly := box_lt HY13.out; clear htb)
              go_upto_region 34 with (go_at_call 49; refine (rHolds_any l.m y.form v _ _ _ _ _ (SizedL.m HS.out) hyl HH13.out.m HG13.out HV13.out).mono ?_; rw [HO2.out]; rintro e w14 ⟨rfl, hB14⟩; have hta := box_to HX13.out hB14; have htb := box_to HY13.out hB14; have HB14 := hide (Below.to HB13.out hB14 (Nat.le_refl _)); clear hB14 c0 c1 c2 c3 c4 c5 lc y0 y1 y2 y3 y4 y5 y6 ly; have x0 := cellOf hta 0; have x1 := cellOf hta 1; have x2 := cellOf hta 2; have x3 := cellOf hta 3; have x4 := cellOf hta 4; have x5 := cellOf hta 5; have x6 := cellOf hta 6; have y0 := cellOf htb 0; have y1 := cellOf htb 1; have y2 := cellOf htb 2; have y3 := cellOf htb 3; have y4 := cellOf htb 4; have y5 := cellOf htb 5; have y6 := cellOf htb 6; have lx := box_lt hta; have ly := box_lt htb; clear hta htb)
              cases o1 with
              | false =>
                go_wp2_with fail
                go_roundw
                case rel => exact ⟨k + 1, by go_num, by omega, by omega, HB14.out⟩
                case measure => simp [intOf]; omega
              | true =>
                cases o2 with
                | false =>
                  go_wp2_with fail
                  go_roundw
                  case rel => exact ⟨k + 1, by go_num, by omega, by omega, HB14.out⟩
                  case measure => simp [intOf]; omega
                | true =>
                  have hsh := HSHR.out rfl rfl
                  unfold sharB at hsh
                  rw [Bool.or_eq_false_iff, Bool.or_eq_false_iff, Bool.or_eq_false_iff] at hsh
                  obtain ⟨⟨⟨f1, f2⟩, f3⟩, f4⟩ := hsh
                  have h1 := fun w => pinEq x.fp x.fc y.fp y.fc w
                  have h2 := fun w => pinEq x.fp x.fc y.tp y.tc w
                  have h3 := fun w => pinEq x.tp x.tc y.fp y.fc w
                  have h4 := fun w => pinEq x.tp x.tc y.tp y.tc w
                  rw [show (x.fp == y.fp && x.fc == y.fc) = false from f1] at h1
                  rw [show (x.fp == y.tp && x.fc == y.tc) = false from f2] at h2
                  rw [show (x.tp == y.fp && x.tc == y.fc) = false from f3] at h3
                  rw [show (x.tp == y.tp && x.tc == y.tc) = false from f4] at h4
                  clear f1 f2 f3 f4
                  go_wp2_with fail
                  clear h1 h2 h3 h4
                  go_roundw
                  case rel => exact ⟨k + 1, by go_num, by omega, by omega, HB14.out⟩
                  case measure => simp [intOf]; omega
          · have hke : k = l.ws.length := by omega
            subst hke
            go_wp2_with fail
            go_roundw
            case rel => exact ⟨p + 1, by go_num, by omega, HBr.out⟩
            case measure => simp [intOf]; omega
      · have hpe : p = l.ws.length := by omega
        subst hpe
        go_wp2_with (go_at_call 15; refine (works_loom _).mono ?_; rintro e w19 ⟨rfl, hB19⟩)
        go_ret
        exact ⟨rfl, Below.to (Below.to HB11.out HBr.out (Nat.le_refl _)) hB19 (Nat.le_refl _)⟩
theorem own_LoomOneEach : ownKnob Try.prog.godebug = none := by kernel_rfl
theorem laid_LoomOneEach : laidOutB Try.prog = true := by kernel_rfl
theorem par_LoomOneEach : ∀ t ∈ Try.f13.params.toList, Try.prog.readableRec t = true ∧ t < Try.prog.types.size := by
  rw [Try.params13]
  intro t ht
  simp only [List.mem_cons, List.not_mem_nil, or_false] at ht
  rcases ht with rfl | rfl | rfl <;> exact ⟨by kernel_rfl, of_decide_eq_true (by kernel_rfl)⟩
set_option maxRecDepth 100000 in
theorem loomOneEach_lifted (os : Os) (started : os.Started) (H : Type) (enc : TypeId × Value → H) :
    ReturnsInHanded {} Try.checked os 13 .any (Rows.loomOneEachSpec.pre6 enc Try.prog Try.f13 Rows.loomOneEachRow.domain false) (Rows.loomOneEachSpec.post enc Try.prog Try.f13 false true false false) := by
  refine returnsInHanded_of_change (C := Try.checked) own_LoomOneEach started (by kernel_rfl) Try.func13
    (ChangeSpec.witness6 (enc := enc) (C := Try.checked) false ⟨#[], #[.agg #[.slice none 0 0, .slice none 0 0, .slice none 0 0, .slice none 0 0, .slice none 0 0, .slice none 0 0], .slice none 0 0, .slice none 0 0], []⟩ 8 (by kernel_rfl) (by kernel_rfl) (by kernel_rfl) (by kernel_rfl)) ?_
  intro W base args ds gs before hval0 hW hcnd _
  have hval : ∀ (j : Nat) t v, Try.f13.params[j]? = some t → args[j]? = some v → Value.okWide Try.prog W .any base t v := hval0
  have hW' := hW
  obtain ⟨p, q, hA0, hV, rfl, hfz, hnd⟩ := hW
  have hA : DataW.TrodAll enc Try.prog W 0 (fun _ => true) true Try.f13.params.toList args.toList ds p := hA0
  have hAll := hA
  have hltp : ∀ x ∈ p, x.block < W.heap.size := fun x hx => hW'.lt x (List.mem_append_left _ hx)
  rw [Try.params13] at hA hval
  obtain ⟨v0, v1, v2, d0, d1, d2, p0, p1, p2, rfl, rfl, rfl, h0, h1, h2⟩ := trodAll_three hA
  obtain ⟨rfl, rfl⟩ := trodVars_none hV
  obtain ⟨A0, A1, A2, A3, A4, A5, q0, q1, q2, q3, q4, q5, l, rfl, hla, hsz⟩ := open_lo (hval 0 31 v0 rfl rfl) h0
  obtain ⟨vs, hvs, hvl⟩ := open_bools (hval 1 38 v1 rfl rfl) h1
  obtain ⟨Av, qv, rfl⟩ := Sl.form hvs
  obtain ⟨ts, hts, htl⟩ := open_formula Try.underlying41 (hval 2 41 v2 rfl rfl) h2
  obtain ⟨As, qs, rfl⟩ := Ints.form hts
  refine (loomOneEach_walk vs Av qv As qs ts A0 A1 A2 A3 A4 A5 q0 q1 q2 q3 q4 q5 l W hsz htl.1 hla hvs hts).mono fun e W2 ⟨he, hb⟩ => ?_
  subst he
  exact ⟨_, rfl, post_of_below (pv := []) hW' (fun _ _ _ => trodAll_mk1 (shut_bool Try.underlying4 _)) (fun sp hsp => trodAll_stays laid_LoomOneEach hb sp _ _ _ _ par_LoomOneEach hAll hltp (fun x hx => hsp x (List.mem_append_left _ hx))) (fun _ _ => rfl) rfl hb
    (ok_one (by kernel_rfl) rfl (okWide_bool_mk Try.underlying4 _))⟩
theorem loomOneEach_holds : Rows.LoomOneEachSaid :=
  OpenClaim.holds_of_wide 13 Try.f13 rfl rfl rfl rfl rfl rfl rfl ⟨rfl, rfl, rfl, rfl, rfl⟩ rfl rfl rfl rfl rfl (by kernel_rfl) Try.func13 (by kernel_rfl)
    (of_decide_eq_true (by kernel_rfl)) (by unfold Func.isWrapper; first | (rw [if_pos (by decide +kernel)]; kernel_rfl) | (rw [if_neg (by decide +kernel)]; exact ⟨rfl, rfl⟩))
    (fun os started H enc _ => loomOneEach_lifted os started H enc)
#print axioms loomOneEach_holds

end Go.Proofs.Ytmabfnddedffoaa

/- No buildable variant fills a run more than Worst, Tight shows what is overfilled, copper is that of all runs: for every loom and variant; no condition. -/
import Derived.Test.YtmabfnddedffoaaRows
import Derived.Test.YtmabfnddedffoaaGLN27
import Derived.Test.YtmabfnddedffoaaGLN29
import Derived.Test.YtmabfnddedffoaaGLN36
import Derived.Deep.RegionHeld3
import Derived.Deep.DrawnRows
import Derived.Test.YtmabfnddedffoaaGLN3
namespace Go.Proofs.Ytmabfnddedffoaa
open Go.Joins Go.ChangeShapes Go.WideShapes Go.ChangeAt Go.RowKit Go.Deep
set_option linter.unusedVariables false
set_option linter.unusedSimpArgs false
theorem any_take7 {q : Nat → Bool} {ts : List Nat} {p : Nat} (hp : p < ts.length) : (ts.take (p + 1)).any q = ((ts.take p).any q || q (ts.getD p 0)) := by
  rw [take_snoc hp, List.any_append]
  simp
theorem sumN_mono_le {f : Nat → Int} {a b : Nat} (hf : ∀ k, k < b → 0 ≤ f k) (h : a ≤ b) : sumN f a ≤ sumN f b := by
  induction b with
  | zero => rw [show a = 0 by omega]; exact Int.le_refl _
  | succ b ih =>
    rcases Nat.lt_or_ge a (b + 1) with h1 | h1
    · have h2 := ih (fun k hk => hf k (by omega)) (by omega)
      have h3 := hf b (by omega)
      have h4 : sumN f (b + 1) = sumN f b + f b := rfl
      omega
    · rw [show a = b + 1 by omega]; exact Int.le_refl _
theorem wrsE_zero {l : Lo} (he : l.err = 0) {r : Nat} (hr : r < l.us.length) : wrsE l r = 0 := by
  unfold wrsE havE
  rw [if_neg (by simp [he]), btw_t (by omega) (by omega)]
  rfl
theorem Worst_ok (r : Nat) (A0 A1 A2 A3 A4 A5 : Option Addr) (q0 q1 q2 q3 q4 q5 : Nat) (l : Lo) (w : World) (hs : SizedL l) (h : LoA w w.heap.size A0 A1 A2 A3 A4 A5 q0 q1 q2 q3 q4 q5 l) (hN : l.m.opts.length ≤ 12) (he : wrsE l r = 0) (hw : worE l r = 0) :
    Calls Try.prog 20 #[.agg #[.slice A0 l.m.opts.length q0, .slice A1 l.m.rules.length q1, .slice A2 l.ss.length q2, .slice A3 l.us.length q3, .slice A4 l.ps.length q4, .slice A5 l.ws.length q5], .int .i64 r] w (MosP (worN l r) (worX l r) 0 w) := by
  have h1 := Worst_any r A0 A1 A2 A3 A4 A5 q0 q1 q2 q3 q4 q5 l w hs h hN
  rw [if_pos he, if_pos he, if_pos he, Int.toNat_natCast, hw] at h1
  exact h1
set_option maxRecDepth 100000 in
set_option maxHeartbeats 8000000 in
theorem loomNeverMore_walk (v : List Bool) (Av : Option Addr) (qv : Nat) (A0 A1 A2 A3 A4 A5 : Option Addr) (q0 q1 q2 q3 q4 q5 : Nat) (l : Lo) (w : World) (hs : SizedL l) (h : LoA w w.heap.size A0 A1 A2 A3 A4 A5 q0 q1 q2 q3 q4 q5 l) (hv : Bols w w.heap.size (.slice Av v.length qv) v) :
    Calls Try.prog 12 #[.agg #[.slice A0 l.m.opts.length q0, .slice A1 l.m.rules.length q1, .slice A2 l.ss.length q2, .slice A3 l.us.length q3, .slice A4 l.ps.length q4, .slice A5 l.ws.length q5], .slice Av v.length qv] w fun e w' => e = .returned (.bool true) ∧ Below w.heap.size w w' := by
  have H := hide h
  have HS := hide hs
  have HV := hide hv
  clear h hs hv
  cases hfar : farB l with
  | true =>
    have HFAR := hide hfar
    clear hfar
    go_enter Try.func12, Try.ntmps12
    go_upto_region 1 with (fail)
    generalize hw0 : World.alloc _ _ = w0
    obtain ⟨hb0, hB0, hs0⟩ := alloc1 hw0
    have HB0 := hide hB0
    have c0 := cellOf hb0 0; have c1 := cellOf hb0 1; have c2 := cellOf hb0 2; have c3 := cellOf hb0 3; have c4 := cellOf hb0 4; have c5 := cellOf hb0 5
    have hlb := box_lt hb0
    clear hw0 hb0 hB0 hs0
    go_wp2_with (first | (go_at_call 14; refine (Far_any A0 A1 A2 A3 A4 A5 q0 q1 q2 q3 q4 q5 l _ HS.out (H.out.up HB0.out)).mono ?_; rw [HFAR.out]; rintro e w1 ⟨rfl, hB1⟩; have HB1 := hide (Below.to HB0.out hB1 (Nat.le_refl _)); clear hB1 c0 c1 c2 c3 c4 c5 hlb) | (go_at_call 15; refine (works_loom _).mono ?_; rintro e w2 ⟨rfl, hB2⟩))
    go_ret
    exact ⟨rfl, Below.to HB1.out hB2 (Nat.le_refl _)⟩
  | false =>
  have HFAR := hide hfar
  obtain ⟨hopt, _⟩ := far_small hfar
  have hN : l.m.opts.length ≤ 12 := by omega
  clear hfar
  by_cases h50 : v.length ≤ 50
  case neg =>
    have hgt : (50 : Int) < (v.length : Int) := by omega
    clear h50
    go_enter Try.func12, Try.ntmps12
    go_upto_region 1 with (fail)
    generalize hw0 : World.alloc _ _ = w0
    obtain ⟨hb0, hB0, hs0⟩ := alloc1 hw0
    have HB0 := hide hB0
    have c0 := cellOf hb0 0; have c1 := cellOf hb0 1; have c2 := cellOf hb0 2; have c3 := cellOf hb0 3; have c4 := cellOf hb0 4; have c5 := cellOf hb0 5
    have hlb := box_lt hb0
    clear hw0 hb0 hB0 hs0
    go_wp2_with (first | (go_at_call 14; refine (Far_any A0 A1 A2 A3 A4 A5 q0 q1 q2 q3 q4 q5 l _ HS.out (H.out.up HB0.out)).mono ?_; rw [HFAR.out]; rintro e w1 ⟨rfl, hB1⟩; have HB1 := hide (Below.to HB0.out hB1 (Nat.le_refl _)); clear hB1 c0 c1 c2 c3 c4 c5 hlb) | (go_at_call 15; refine (works_loom _).mono ?_; rintro e w2 ⟨rfl, hB2⟩))
    go_ret
    exact ⟨rfl, Below.to HB1.out hB2 (Nat.le_refl _)⟩
  case pos =>
  have hgt : ¬ (50 : Int) < (v.length : Int) := by omega
  have hv1000 : v.length ≤ 1000 := by omega
  obtain ⟨er, her⟩ : ∃ z, l.err = z := ⟨_, rfl⟩
  have HE := hide her
  by_cases her0 : er = 0
  case neg =>
    have hz1 : (er != 0) = true := by simpa using her0
    clear her her0
    go_enter Try.func12, Try.ntmps12
    go_upto_region 1 with (fail)
    generalize hw0 : World.alloc _ _ = w0
    obtain ⟨hb0, hB0, hs0⟩ := alloc1 hw0
    have HL0 : Hid (LoBox w0 w.heap.size A0 A1 A2 A3 A4 A5 q0 q1 q2 q3 q4 q5 l) := hb0
    have HB0 := hide hB0
    have c0 := cellOf hb0 0; have c1 := cellOf hb0 1; have c2 := cellOf hb0 2; have c3 := cellOf hb0 3; have c4 := cellOf hb0 4; have c5 := cellOf hb0 5
    have hlb := box_lt hb0
    clear hw0 hb0 hB0 hs0
    go_wp2_with (first | (go_at_call 14; refine (Far_any A0 A1 A2 A3 A4 A5 q0 q1 q2 q3 q4 q5 l _ HS.out (H.out.up HB0.out)).mono ?_; rw [HFAR.out]; rintro e w1 ⟨rfl, hB1⟩; have d0 := cellOf (HL0.out.to hB1) 0; have d1 := cellOf (HL0.out.to hB1) 1; have d2 := cellOf (HL0.out.to hB1) 2; have d3 := cellOf (HL0.out.to hB1) 3; have d4 := cellOf (HL0.out.to hB1) 4; have d5 := cellOf (HL0.out.to hB1) 5; have ld := box_lt (HL0.out.to hB1); have HB1 := hide (Below.to HB0.out hB1 (Nat.le_refl _)); clear hB1 c0 c1 c2 c3 c4 c5 hlb) | (go_at_call 18; refine (rCheck_any A0 A1 A2 A3 A4 A5 q0 q1 q2 q3 q4 q5 l _ HS.out (H.out.up HB1.out)).mono ?_; rw [HE.out]; rintro e w2 ⟨rfl, hB2⟩; have HB2 := hide (Below.to HB1.out hB2 (Nat.le_refl _)); clear hB2 d0 d1 d2 d3 d4 d5 ld) | (go_at_call 15; refine (works_loom _).mono ?_; rintro e w3 ⟨rfl, hB3⟩))
    go_ret
    exact ⟨rfl, Below.to HB2.out hB3 (Nat.le_refl _)⟩
  case pos =>
  subst her0
  have OK := hide (Lo.err_ok her)
  obtain ⟨be, hbe⟩ : ∃ z, buiE l.m v = z := ⟨_, rfl⟩
  obtain ⟨bb, hbb⟩ : ∃ z, buiB l.m v = z := ⟨_, rfl⟩
  obtain ⟨br, hbr⟩ : ∃ z, buiR l.m v = z := ⟨_, rfl⟩
  have HBE := hide hbe
  have HBV := hide hbb
  have HBR := hide hbr
  clear her hbe hbb hbr
  go_enter Try.func12, Try.ntmps12
  go_upto_region 1 with (fail)
  generalize hw0 : World.alloc _ _ = w0
  obtain ⟨hb0, hB0, hs0⟩ := alloc1 hw0
  have HL0 : Hid (LoBox w0 w.heap.size A0 A1 A2 A3 A4 A5 q0 q1 q2 q3 q4 q5 l) := hb0
  have HB0 := hide hB0
  have c0 := cellOf hb0 0; have c1 := cellOf hb0 1; have c2 := cellOf hb0 2; have c3 := cellOf hb0 3; have c4 := cellOf hb0 4; have c5 := cellOf hb0 5
  have hlb := box_lt hb0
  clear hw0 hb0 hB0 hs0
  go_upto_region 3 with (first | (go_at_call 14; refine (Far_any A0 A1 A2 A3 A4 A5 q0 q1 q2 q3 q4 q5 l _ HS.out (H.out.up HB0.out)).mono ?_; rw [HFAR.out]; rintro e w1 ⟨rfl, hB1⟩; have d0 := cellOf (HL0.out.to hB1) 0; have d1 := cellOf (HL0.out.to hB1) 1; have d2 := cellOf (HL0.out.to hB1) 2; have d3 := cellOf (HL0.out.to hB1) 3; have d4 := cellOf (HL0.out.to hB1) 4; have d5 := cellOf (HL0.out.to hB1) 5; have ld := box_lt (HL0.out.to hB1); have HL1 := hide (HL0.out.to hB1); have HB1 := hide (Below.to HB0.out hB1 (Nat.le_refl _)); clear hB1 c0 c1 c2 c3 c4 c5 hlb) | (go_at_call 18; refine (rCheck_any A0 A1 A2 A3 A4 A5 q0 q1 q2 q3 q4 q5 l _ HS.out (H.out.up HB1.out)).mono ?_; rw [HE.out]; rintro e w2 ⟨rfl, hB2⟩; have HL2 := hide (HL1.out.to hB2); have HB2 := hide (Below.to HB1.out hB2 (Nat.le_refl _)); have e0 := cellOf HL2.out 0; have e1 := cellOf HL2.out 1; have e2 := cellOf HL2.out 2; have e3 := cellOf HL2.out 3; have e4 := cellOf HL2.out 4; have e5 := cellOf HL2.out 5; have le := box_lt HL2.out; clear hB2 d0 d1 d2 d3 d4 d5 ld))
  go_upto_region 4 with (go_at_call 47; refine (rBuildable_any l.m v _ _ _ _ (SizedL.m HS.out) (H.out.up HB2.out).m (Sl.up HV.out HB2.out)).mono ?_; rw [HBR.out, HBV.out, HBE.out]; rintro e w3 ⟨rfl, hB3⟩; have HL3 := hide (HL2.out.to hB3); have HB3 := hide (Below.to HB2.out hB3 (Nat.le_refl _)); clear hB3 e0 e1 e2 e3 e4 e5 le)
  by_cases hbe0 : be = 0
  case neg =>
    have hz1 : (be != 0) = true := by simpa using hbe0
    clear hbe0
    go_wp2_with (go_at_call 15; refine (works_loom _).mono ?_; rintro e w9 ⟨rfl, hB9⟩)
    go_ret
    exact ⟨rfl, Below.to HB3.out hB9 (Nat.le_refl _)⟩
  case pos =>
  subst hbe0
  cases bb with
  | false =>
    go_wp2_with (go_at_call 15; refine (works_loom _).mono ?_; rintro e w9 ⟨rfl, hB9⟩)
    go_ret
    exact ⟨rfl, Below.to HB3.out hB9 (Nat.le_refl _)⟩
  | true =>
  obtain ⟨_, hvl, hall⟩ := bui_all HBE.out HBV.out
  obtain ⟨cE, cN⟩ := OK.out.copper_runs HE.out hvl
  obtain ⟨g, hg⟩ : ∃ g : Nat → Int, (fun (r : Nat) => filN l (carL l r v) * runLen l r) = g := ⟨_, rfl⟩
  obtain ⟨T, hT⟩ : ∃ T, tigL l = T := ⟨_, rfl⟩
  obtain ⟨tot, htot⟩ : ∃ z, copN l v = z := ⟨_, rfl⟩
  rw [hg, htot] at cN
  have htb : 0 ≤ tot ∧ tot ≤ 24000000000000 := by
    have h1 := copS_bd OK.out v (k := l.ws.length) (Nat.le_refl _)
    have h2 := OK.out.w60
    have h3 : copN l v = sumN (copF l v) l.ws.length := by unfold copN; rw [if_pos cE]
    rw [← h3, htot] at h1
    omega
  have hgr : ∀ r, r < l.us.length → g r = filN l (carL l r v) * runLen l r ∧ carE l r v = 0 ∧ worE l r = 0 ∧ filN l (carL l r v) ≤ worN l r ∧ ((l.us.getD r Ru.o).room < filN l (carL l r v) → r ∈ T) ∧ 0 ≤ filN l (carL l r v) ∧ filN l (carL l r v) ≤ 600000 := fun r hr => by
    obtain ⟨n1, n2, n3⟩ := OK.out.never_more HE.out hvl hall hr
    have n4 := filN_le OK.out (T := carL l r v) (fun i hi => carL_mem hi)
    have n5 := carL_len l r v
    have n6 := OK.out.w60
    rw [← hT]
    exact ⟨by rw [← hg], (OK.out.car_zero HE.out hvl hr).1, (OK.out.wor_zero n1 hr).1, n2, n3, n4.1, by omega⟩
  have hTl : T.length ≤ 40 := by
    have h1 := OK.out.u40
    rw [← hT]
    unfold tigL
    rw [if_pos HE.out]
    exact Nat.le_trans (List.length_filter_le _ _) (by simpa using h1)
  have CE := hide cE
  have CN := hide cN
  have GR := hide hgr
  have HT := hide hT
  have HTOT := hide htot
  have hu40 := OK.out.u40
  clear cE cN hg hT htot hgr hvl hall
  have c0 := cellOf HL3.out 0; have c1 := cellOf HL3.out 1; have c2 := cellOf HL3.out 2; have c3 := cellOf HL3.out 3; have c4 := cellOf HL3.out 4; have c5 := cellOf HL3.out 5
  have hlb := box_lt HL3.out
  go_upto_region 7 with (go_at_call 16; refine (Copy_any A0 A1 A2 A3 A4 A5 q0 q1 q2 q3 q4 q5 l _ HS.out HFAR.out (H.out.up HB3.out)).mono ?_; rintro e w4 ⟨C0, C1, C2, C3, C4, C5, r0, r1, r2, r3, r4, r5, rfl, hl4, hB4⟩; have HC4 := hide hl4; have HL4 := hide (HL3.out.to hB4); have HB4 := hide (Below.to HB3.out hB4 (Nat.le_refl _)); clear hl4 hB4 c0 c1 c2 c3 c4 c5 hlb)
  generalize hw5 : World.alloc _ _ = w5
  obtain ⟨hb5, hB5, hs5⟩ := alloc1 hw5
  obtain ⟨bm, hbm⟩ : ∃ b, w4.heap.size = b := ⟨_, rfl⟩
  rw [hbm] at hb5
  rw [hbm]
  have HM5 : Hid (LoBox w5 bm C0 C1 C2 C3 C4 C5 r0 r1 r2 r3 r4 r5 l) := hb5
  have HC5 := hide (HC4.out.up hB5)
  have HL5 := hide (HL4.out.to hB5)
  have HB5 := hide (Below.to HB4.out hB5 (Nat.le_refl _))
  have m0 := cellOf HM5.out 0; have m1 := cellOf HM5.out 1; have m2 := cellOf HM5.out 2; have m3 := cellOf HM5.out 3; have m4 := cellOf HM5.out 4; have m5 := cellOf HM5.out 5
  have lm := box_lt HM5.out
  clear hw5 hb5 hB5 hs5 hbm
  go_upto_region 8 with (go_at_call 22; refine (Tight_any C0 C1 C2 C3 C4 C5 r0 r1 r2 r3 r4 r5 l _ HS.out HC5.out hN).mono ?_; rw [HT.out, HE.out]; rintro e w6 ⟨v6, rfl, hn6, hB6⟩; obtain ⟨At, ct, hvt⟩ := Sl.form hn6; subst hvt; have HT6 := hide hn6; have HM6 := hide (HM5.out.to hB6); have HC6 := hide (HC5.out.up hB6); have HL6 := hide (HL5.out.to hB6); have HB6 := hide (Below.to HB5.out hB6 (Nat.le_refl _)); have HV6 := hide (Sl.up HV.out HB6.out); clear hn6 hB6 m0 m1 m2 m3 m4 m5 lm; have m0 := cellOf HM6.out 0; have m1 := cellOf HM6.out 1; have m2 := cellOf HM6.out 2; have m3 := cellOf HM6.out 3; have m4 := cellOf HM6.out 4; have m5 := cellOf HM6.out 5; have lm := box_lt HM6.out)
  refine wp_region_held_drew (S := (fun w' => Below w6.heap.size w6 w')) (by kernel_rfl) ?_ (fun hHeld => ?_)
  · try dsimp only
    exact (by repeat (first | exact Below.refl _ _ | assumption | refine Below.drew ?_ | refine Below.drewN ?_ _ | refine Below.allocT ?_ (Nat.le_refl _) _ | refine Below.setCell ?_ (by simp <;> omega) _ | refine Below.to ?_ (by assumption) (Nat.le_refl _)))
  refine zT 0 rfl ?_
  try simp only [zX]
  refine zT 1 rfl ?_
  try simp only [zX]
  refine wpAnyH_ready (rs := [2]) (by kernel_rfl) (by simp) ?_
  refine AllReadyH.cons rfl (fun K hK => ?_) AllReadyH.nil
  go_simp
  (first | (go_at_call 37; refine (bools_any v _ _ hv1000 (Sl.up HV6.out (by repeat (first | exact Below.refl _ _ | assumption | refine Below.drew ?_ | refine Below.drewN ?_ _ | refine Below.allocT ?_ (Nat.le_refl _) _ | refine Below.setCell ?_ (by simp <;> omega) _ | refine Below.to ?_ (by assumption) (Nat.le_refl _))))).mono ?_; rintro e w7 ⟨Ab, qb, rfl, hb7, hB7⟩; have HBL7 := hide hb7; clear hb7) | (go_at_call 48; refine (Copper_any v Ab qb _ _ _ _ _ _ _ _ _ _ _ _ l _ HS.out (HC6.out.up (by assumption)) HBL7.out).mono ?_; rw [CE.out, HTOT.out]; rintro e w8 ⟨rfl, hB8⟩))
  (try dsimp only)
  refine hK.out _ _ ?_ (fun hNext => ?_)
  · try dsimp only
    exact (by repeat (first | exact Below.refl _ _ | assumption | refine Below.drew ?_ | refine Below.drewN ?_ _ | refine Below.allocT ?_ (Nat.le_refl _) _ | refine Below.setCell ?_ (by simp <;> omega) _ | refine Below.to ?_ (by assumption) (Nat.le_refl _)))
  clear hK K hHeld
  have hHeld := hNext
  clear hNext
  (try dsimp only at hHeld)
  try simp only [zX]
  refine wpAnyH_ready (rs := [3]) (by kernel_rfl) (by simp) ?_
  refine AllReadyH.cons rfl (fun K hK => ?_) AllReadyH.nil
  go_simp
  (first | (go_at_call 37; refine (bools_any v _ _ hv1000 (Sl.up HV6.out (by repeat (first | exact Below.refl _ _ | assumption | refine Below.drew ?_ | refine Below.drewN ?_ _ | refine Below.allocT ?_ (Nat.le_refl _) _ | refine Below.setCell ?_ (by simp <;> omega) _ | refine Below.to ?_ (by assumption) (Nat.le_refl _))))).mono ?_; rintro e w7 ⟨Ab, qb, rfl, hb7, hB7⟩; have HBL7 := hide hb7; clear hb7) | (go_at_call 48; refine (Copper_any v Ab qb _ _ _ _ _ _ _ _ _ _ _ _ l _ HS.out (HC6.out.up (by assumption)) HBL7.out).mono ?_; rw [CE.out, HTOT.out]; rintro e w8 ⟨rfl, hB8⟩))
  (try dsimp only)
  refine hK.out _ _ ?_ (fun hNext => ?_)
  · try dsimp only
    exact (by repeat (first | exact Below.refl _ _ | assumption | refine Below.drew ?_ | refine Below.drewN ?_ _ | refine Below.allocT ?_ (Nat.le_refl _) _ | refine Below.setCell ?_ (by simp <;> omega) _ | refine Below.to ?_ (by assumption) (Nat.le_refl _)))
  clear hK K hHeld
  have hHeld := hNext
  clear hNext
  (try dsimp only at hHeld)
  try simp only [zX]
  refine zT 4 rfl ?_
  try simp only [zX]
  refine zT 5 rfl ?_
  try simp only [zX]
  refine zT 6 rfl ?_
  try simp only [zX]
  refine zT 7 rfl ?_
  try simp only [zX]
  refine zT 8 rfl ?_
  try simp only [zX]
  refine wpAnyH_done (by kernel_rfl) ?_ _
  have HB8 := hide (Below.to HB6.out hHeld (Nat.le_refl _))
  have HT8 := hide (Sl.up HT6.out hHeld)
  have HM8 := hide (HM6.out.to hHeld)
  have HC8 := hide (HC6.out.up hHeld)
  have HL8 := hide (HL6.out.to hHeld)
  have HV8 := hide (Sl.up HV6.out hHeld)
  clear hHeld m0 m1 m2 m3 m4 m5 lm
  go_wp2_with fail
  go_loopw [11, 13, 14, 15, 16, 17, 18, 19, 20] (fun o i _ _ _ _ _ _ _ wr => ∃ (k : Nat) (x : Int), i = .int .i64 k ∧ o = .int .i64 x ∧ k ≤ l.us.length ∧ 0 ≤ x ∧ x ≤ 24000000000000 ∧ Hid (tot = x + sumN g k) ∧ Hid (Below w8.heap.size w8 wr)) (fun _ i _ _ _ _ _ _ _ _ => l.us.length - (intOf i).toNat)
  case atStart => exact ⟨0, tot, rfl, rfl, Nat.zero_le _, htb.1, htb.2, by show tot = tot + 0; omega, Below.refl _ _⟩
  case round =>
    obtain ⟨k, x, rfl, rfl, hk, x0, x1, HTO, HBr⟩ := hrel
    obtain ⟨wk, hwk⟩ : ∃ wk : World, wk = wr := ⟨_, rfl⟩
    subst hwk
    have HMk := hide (HM8.out.to HBr.out)
    have HCk := hide (HC8.out.up HBr.out)
    have HLk := hide (HL8.out.to HBr.out)
    have HVk := hide (Sl.up HV8.out HBr.out)
    by_cases hkl : k < l.us.length
    · have ik : (k : Int) < (l.us.length : Int) := by omega
      obtain ⟨g1, g2, g3, g4, g5, g6, g7⟩ := GR.out k hkl
      obtain ⟨n, hn⟩ : ∃ z, filN l (carL l k v) = z := ⟨_, rfl⟩
      obtain ⟨mo, hmo⟩ : ∃ z, worN l k = z := ⟨_, rfl⟩
      rw [hn] at g1 g4 g5 g6 g7
      rw [hmo] at g4
      have hwz := wrsE_zero HE.out hkl
      have HW := hide (And.intro hwz (And.intro g3 hmo))
      have HF := hide (And.intro g2 hn)
      obtain ⟨bu, offu, r, HRU, rfl, hbu, hq3, e0, e1, e2, e3⟩ := H.out.ru hkl
      have hlen := OK.out.len hkl
      have hrl : runLen l k = r.len := by unfold runLen; rw [HRU.out]
      rw [hrl] at hlen g1
      rw [HRU.out] at g5
      have hpb := pos_bd (x := n) (y := r.len) (c := 600000) (d := 1000000) g6 g7 (by omega) hlen.2
      have hnx : tot = (x - n * r.len) + sumN g (k + 1) := by
        have h1 := HTO.out
        have h2 : sumN g (k + 1) = sumN g k + g k := rfl
        rw [h2, g1]
        omega
      have hrest : 0 ≤ x - n * r.len := by
        have h1 := CN.out
        have h2 : sumN g (k + 1) ≤ sumN g l.us.length := sumN_mono_le (fun j hj => by
          obtain ⟨q1, _, _, _, _, q6, _⟩ := GR.out j hj
          rw [q1]
          exact Int.mul_nonneg q6 (by have := OK.out.len hj; omega)) (by omega)
        omega
      have HNX := hide hnx
      have G5 := hide g5
      have HE2 := hide (And.intro e2 (And.intro e3 hbu))
      have gm : decide (mo < n) = false := decide_eq_false (by omega)
      have iq : (l.us.length : Int) ≤ (q3 : Int) := by omega
      have c0 := cellOf HLk.out 0; have c1 := cellOf HLk.out 1; have c2 := cellOf HLk.out 2; have c3 := cellOf HLk.out 3; have c4 := cellOf HLk.out 4; have c5 := cellOf HLk.out 5
      have lc := box_lt HLk.out
      have m0 := cellOf HMk.out 0; have m1 := cellOf HMk.out 1; have m2 := cellOf HMk.out 2; have m3 := cellOf HMk.out 3; have m4 := cellOf HMk.out 4; have m5 := cellOf HMk.out 5
      have lm := box_lt HMk.out
      clear g1 g2 g3 g4 g5 hn hmo hwz hnx e0 e1 e2 e3 hbu hrl
      go_upto_region 14 with (fail)
      clear c0 c1 c2 c3 c4 c5 lc
      refine wp_region_held_drew (S := (fun w' => Below wk.heap.size wk w')) (by kernel_rfl) ?_ (fun hHeld => ?_)
      · try dsimp only
        exact (by repeat (first | exact Below.refl _ _ | assumption | refine Below.drew ?_ | refine Below.drewN ?_ _ | refine Below.allocT ?_ (Nat.le_refl _) _ | refine Below.setCell ?_ (by simp <;> omega) _ | refine Below.to ?_ (by assumption) (Nat.le_refl _)))
      refine zT 0 rfl ?_
      try simp only [zX]
      refine zT 1 rfl ?_
      try simp only [zX]
      refine zT 2 rfl ?_
      try simp only [zX]
      refine wpAnyH_ready (rs := [3]) (by kernel_rfl) (by simp) ?_
      refine AllReadyH.cons rfl (fun K hK => ?_) AllReadyH.nil
      go_simp
      (first | (go_at_call 37; refine (bools_any v _ _ hv1000 (Sl.up HVk.out (by repeat (first | exact Below.refl _ _ | assumption | refine Below.drew ?_ | refine Below.drewN ?_ _ | refine Below.allocT ?_ (Nat.le_refl _) _ | refine Below.setCell ?_ (by simp <;> omega) _ | refine Below.to ?_ (by assumption) (Nat.le_refl _))))).mono ?_; rintro e w9 ⟨Ab2, qb2, rfl, hb9, hB9⟩; have HBL9 := hide hb9; clear hb9) | (go_at_call 39; refine (Fill_any k v Ab2 qb2 _ _ _ _ _ _ _ _ _ _ _ _ l _ HS.out (HCk.out.up (by assumption)) HBL9.out).mono ?_; rw [HF.out.1, HF.out.2]; rintro e w10 ⟨rfl, hB10⟩))
      (try dsimp only)
      refine hK.out _ _ ?_ (fun hNext => ?_)
      · try dsimp only
        exact (by repeat (first | exact Below.refl _ _ | assumption | refine Below.drew ?_ | refine Below.drewN ?_ _ | refine Below.allocT ?_ (Nat.le_refl _) _ | refine Below.setCell ?_ (by simp <;> omega) _ | refine Below.to ?_ (by assumption) (Nat.le_refl _)))
      clear hK K hHeld
      have hHeld := hNext
      clear hNext
      (try dsimp only at hHeld)
      try simp only [zX]
      refine wpAnyH_ready (rs := [4]) (by kernel_rfl) (by simp) ?_
      refine AllReadyH.cons rfl (fun K hK => ?_) AllReadyH.nil
      go_simp
      (first | (go_at_call 37; refine (bools_any v _ _ hv1000 (Sl.up HVk.out (by repeat (first | exact Below.refl _ _ | assumption | refine Below.drew ?_ | refine Below.drewN ?_ _ | refine Below.allocT ?_ (Nat.le_refl _) _ | refine Below.setCell ?_ (by simp <;> omega) _ | refine Below.to ?_ (by assumption) (Nat.le_refl _))))).mono ?_; rintro e w9 ⟨Ab2, qb2, rfl, hb9, hB9⟩; have HBL9 := hide hb9; clear hb9) | (go_at_call 39; refine (Fill_any k v Ab2 qb2 _ _ _ _ _ _ _ _ _ _ _ _ l _ HS.out (HCk.out.up (by assumption)) HBL9.out).mono ?_; rw [HF.out.1, HF.out.2]; rintro e w10 ⟨rfl, hB10⟩))
      (try dsimp only)
      refine hK.out _ _ ?_ (fun hNext => ?_)
      · try dsimp only
        exact (by repeat (first | exact Below.refl _ _ | assumption | refine Below.drew ?_ | refine Below.drewN ?_ _ | refine Below.allocT ?_ (Nat.le_refl _) _ | refine Below.setCell ?_ (by simp <;> omega) _ | refine Below.to ?_ (by assumption) (Nat.le_refl _)))
      clear hK K hHeld
      have hHeld := hNext
      clear hNext
      (try dsimp only at hHeld)
      try simp only [zX]
      refine zT 5 rfl ?_
      try simp only [zX]
      refine zT 6 rfl ?_
      try simp only [zX]
      refine zT 7 rfl ?_
      try simp only [zX]
      refine zT 8 rfl ?_
      try simp only [zX]
      refine zT 9 rfl ?_
      try simp only [zX]
      refine wpAnyH_done (by kernel_rfl) ?_ _
      have HB10 := hide (Below.to HBr.out hHeld (Nat.le_refl _))
      have HM10 := hide (HMk.out.to hHeld)
      have HC10 := hide (HCk.out.up hHeld)
      clear hHeld m0 m1 m2 m3 m4 m5 lm
      have m0 := cellOf HM10.out 0; have m1 := cellOf HM10.out 1; have m2 := cellOf HM10.out 2; have m3 := cellOf HM10.out 3; have m4 := cellOf HM10.out 4; have m5 := cellOf HM10.out 5
      have lm := box_lt HM10.out
      go_upto_region 16 with (go_at_call 20; refine (Worst_ok k C0 C1 C2 C3 C4 C5 r0 r1 r2 r3 r4 r5 l _ HS.out HC10.out hN HW.out.1 HW.out.2.1).mono ?_; rw [HW.out.2.2]; rintro e w11 ⟨v11, rfl, hv11, hB11⟩; obtain ⟨Ax, qx, hvx⟩ := Sl.form hv11; subst hvx; have HB11 := hide (Below.to HB10.out hB11 (Nat.le_refl _)); clear hv11 hB11 m0 m1 m2 m3 m4 m5 lm)
      have HT11 := hide (show Nods w11 w11.heap.size (.slice At T.length ct) T from Sl.up HT8.out HB11.out)
      go_wp2_with fail
      go_loop [19, 20] (fun y i => ∃ (p : Nat) (b : Bool), i = .int .i64 p ∧ y = .bool b ∧ p ≤ T.length ∧ Hid ((T.take p).any (fun t => decide (t = k)) = b)) (fun _ i => T.length - (intOf i).toNat)
      case atStart => exact ⟨0, false, rfl, rfl, Nat.zero_le _, rfl⟩
      case round =>
        obtain ⟨p, b, rfl, rfl, hp, HAN⟩ := hrel
        by_cases hpl : p < T.length
        · obtain ⟨bt, ot, hAt, hbt, _, ca⟩ := HT11.out.at hpl
          have hqt := Nods.cap HT11.out
          subst hAt
          obtain ⟨t, ht⟩ : ∃ t, T.getD p 0 = t := ⟨_, rfl⟩
          have hst := any_take7 (q := fun t => decide (t = k)) hpl
          rw [HAN.out, ht] at hst
          rw [ht] at ca
          obtain ⟨c, hc⟩ : ∃ c, decide (t = k) = c := ⟨_, rfl⟩
          rw [hc] at hst
          have hc2 : ((t : Int) == (k : Int)) = c := by
            rw [← hc]
            by_cases e : t = k
            · simp [e]
            · simp [e]; omega
          have HST := hide hst
          have ip : (p : Int) < (T.length : Int) := by omega
          have iqt : (T.length : Int) ≤ (ct : Int) := by omega
          have HPL := hide hpl
          clear ht hst hc hqt hpl
          cases b <;> cases c
          all_goals
            go_wp2_with fail
            go_round
            case rel => exact ⟨p + 1, _, by go_num, rfl, HPL.out, HST.out⟩
            case measure => have := HPL.out; simp [intOf]; omega
        · have hpe : p = T.length := by omega
          subst hpe
          have hsh : r.room < n → b = true := fun q => by
            have h1 := HAN.out
            rw [List.take_length] at h1
            rw [← h1, List.any_eq_true]
            exact ⟨k, G5.out q, by simp⟩
          have HSH := hide hsh
          have hB11 := Below.to HB8.out HB11.out (Nat.le_refl _)
          have lbu : bu < w11.heap.size := Nat.lt_of_lt_of_le HE2.out.2.2 hB11.size
          have z2 := (hB11.cell (p := ⟨bu, offu + k * 4 + 2, none⟩) HE2.out.2.2).trans HE2.out.1
          have z3 := (hB11.cell (p := ⟨bu, offu + k * 4 + 3, none⟩) HE2.out.2.2).trans HE2.out.2.1
          have HL11 := hide (HL8.out.to HB11.out)
          have c0 := cellOf HL11.out 0; have c1 := cellOf HL11.out 1; have c2 := cellOf HL11.out 2; have c3 := cellOf HL11.out 3; have c4 := cellOf HL11.out 4; have c5 := cellOf HL11.out 5
          have lc := box_lt HL11.out
          clear hsh hB11
          by_cases hro : r.room < n
          · have hb := HSH.out hro
            subst hb
            have gr : decide (r.room < n) = true := decide_eq_true hro
            have HRO := hide hro
            clear hro
            go_wp2_with fail
            go_roundw
            case rel => exact ⟨k + 1, x - n * r.len, by go_num, by go_num, by omega, hrest, by omega, HNX.out, HB11.out⟩
            case measure => simp [intOf]; omega
          · have gr : decide (r.room < n) = false := decide_eq_false hro
            have HRO := hide hro
            clear hro
            go_wp2_with fail
            go_roundw
            case rel => exact ⟨k + 1, x - n * r.len, by go_num, by go_num, by omega, hrest, by omega, HNX.out, HB11.out⟩
            case measure => simp [intOf]; omega
    · have hke : k = l.us.length := by omega
      subst hke
      have hx0 : x = 0 := by
        have h1 := HTO.out
        have h2 := CN.out
        omega
      subst hx0
      have c0 := cellOf HLk.out 0; have c1 := cellOf HLk.out 1; have c2 := cellOf HLk.out 2; have c3 := cellOf HLk.out 3; have c4 := cellOf HLk.out 4; have c5 := cellOf HLk.out 5
      have lc := box_lt HLk.out
      go_wp2_with (go_at_call 15; refine (works_loom _).mono ?_; rintro e w19 ⟨rfl, hB19⟩)
      go_ret
      exact ⟨rfl, Below.to (Below.to HB8.out HBr.out (Nat.le_refl _)) hB19 (Nat.le_refl _)⟩
theorem own_LoomNeverMore : ownKnob Try.prog.godebug = none := by kernel_rfl
theorem laid_LoomNeverMore : laidOutB Try.prog = true := by kernel_rfl
theorem par_LoomNeverMore : ∀ t ∈ Try.f12.params.toList, Try.prog.readableRec t = true ∧ t < Try.prog.types.size := by
  rw [Try.params12]
  intro t ht
  simp only [List.mem_cons, List.not_mem_nil, or_false] at ht
  rcases ht with rfl | rfl <;> exact ⟨by kernel_rfl, of_decide_eq_true (by kernel_rfl)⟩
set_option maxRecDepth 100000 in
theorem loomNeverMore_lifted (os : Os) (started : os.Started) (H : Type) (enc : TypeId × Value → H) :
    ReturnsInHanded {} Try.checked os 12 .any (Rows.loomNeverMoreSpec.pre6 enc Try.prog Try.f12 Rows.loomNeverMoreRow.domain false) (Rows.loomNeverMoreSpec.post enc Try.prog Try.f12 false true false false) := by
  refine returnsInHanded_of_change (C := Try.checked) own_LoomNeverMore started (by kernel_rfl) Try.func12
    (ChangeSpec.witness6 (enc := enc) (C := Try.checked) false ⟨#[], #[.agg #[.slice none 0 0, .slice none 0 0, .slice none 0 0, .slice none 0 0, .slice none 0 0, .slice none 0 0], .slice none 0 0], []⟩ 8 (by kernel_rfl) (by kernel_rfl) (by kernel_rfl) (by kernel_rfl)) ?_
  intro W base args ds gs before hval0 hW hcnd _
  have hval : ∀ (j : Nat) t v, Try.f12.params[j]? = some t → args[j]? = some v → Value.okWide Try.prog W .any base t v := hval0
  have hW' := hW
  obtain ⟨p, q, hA0, hV, rfl, hfz, hnd⟩ := hW
  have hA : DataW.TrodAll enc Try.prog W 0 (fun _ => true) true Try.f12.params.toList args.toList ds p := hA0
  have hAll := hA
  have hltp : ∀ x ∈ p, x.block < W.heap.size := fun x hx => hW'.lt x (List.mem_append_left _ hx)
  rw [Try.params12] at hA hval
  obtain ⟨v0, v1, d0, d1, p0, p1, rfl, rfl, rfl, h0, h1⟩ := trodAll_two hA
  obtain ⟨rfl, rfl⟩ := trodVars_none hV
  obtain ⟨A0, A1, A2, A3, A4, A5, q0, q1, q2, q3, q4, q5, l, rfl, hla, hsz⟩ := open_lo (hval 0 31 v0 rfl rfl) h0
  obtain ⟨vs, hvs, hvl⟩ := open_bools (hval 1 38 v1 rfl rfl) h1
  obtain ⟨Av, qv, rfl⟩ := Sl.form hvs
  refine (loomNeverMore_walk vs Av qv A0 A1 A2 A3 A4 A5 q0 q1 q2 q3 q4 q5 l W hsz hla hvs).mono fun e W2 ⟨he, hb⟩ => ?_
  subst he
  exact ⟨_, rfl, post_of_below (pv := []) hW' (fun _ _ _ => trodAll_mk1 (shut_bool Try.underlying4 _)) (fun sp hsp => trodAll_stays laid_LoomNeverMore hb sp _ _ _ _ par_LoomNeverMore hAll hltp (fun x hx => hsp x (List.mem_append_left _ hx))) (fun _ _ => rfl) rfl hb
    (ok_one (by kernel_rfl) rfl (okWide_bool_mk Try.underlying4 _))⟩
theorem loomNeverMore_holds : Rows.LoomNeverMoreSaid :=
  OpenClaim.holds_of_wide 12 Try.f12 rfl rfl rfl rfl rfl rfl rfl ⟨rfl, rfl, rfl, rfl, rfl⟩ rfl rfl rfl rfl rfl (by kernel_rfl) Try.func12 (by kernel_rfl)
    (of_decide_eq_true (by kernel_rfl)) (by unfold Func.isWrapper; first | (rw [if_pos (by decide +kernel)]; kernel_rfl) | (rw [if_neg (by decide +kernel)]; exact ⟨rfl, rfl⟩))
    (fun os started H enc _ => loomNeverMore_lifted os started H enc)
#print axioms loomNeverMore_holds

end Go.Proofs.Ytmabfnddedffoaa

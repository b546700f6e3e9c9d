/- Part 39 of this claim's texts: walks and plain laws. -/
import Derived.Test.YtmabfnddedffoaaRows
import Derived.Test.YtmabfnddedffoaaGLV38
import Derived.Laws.EntriesVeiled
import Derived.Deep.DeepMust
import Derived.Deep.RegionHeld3
import Derived.Deep.DrawnRows
import Derived.Test.YtmabfnddedffoaaGLV3
/- A plug moved (the program): walk of Move itself. -/
namespace Go.Proofs.Ytmabfnddedffoaa
open Go.RowKit
set_option linter.unusedVariables false
set_option linter.unusedSimpArgs false
/-- A loom of the call's own and an error. -/
def MovO (l : Lo) (er : Int) (w : World) (e : Ending) (w' : World) : Prop := ∃ (C0 C1 C2 C3 C4 C5 : Option Addr) (r0 r1 r2 r3 r4 r5 : Nat), ∃ (cv : Nat → Value) (vs : List Value), e = .returned (.tuple #[.agg #[.slice C0 l.m.opts.length r0, .slice C1 l.m.rules.length r1, .slice C2 l.ss.length r2, .slice C3 l.us.length r3, .slice C4 l.ps.length r4, .slice C5 l.ws.length r5], .int .i64 er]) ∧ LoO w' w.heap.size C0 C1 C2 C3 C4 C5 r0 r1 r2 r3 r4 r5 l cv vs ∧ Below w.heap.size w w'
theorem loZO (w : World) (B : Nat) : LoO w B none none none none none none 0 0 0 0 0 0 Lo.z (fun _ => undef) [] :=
  ⟨⟨World.ownsRow_nil _ _ _ _, ⟨rfl, World.ownsRow_nil _ _ _ _, fun i hi => absurd hi (by simp [Lo.z])⟩, World.ownsRow_nil _ _ _ _, World.ownsRow_nil _ _ _ _, World.ownsRow_nil _ _ _ _, World.ownsRow_nil _ _ _ _⟩, fun i hi => absurd hi (by simp [Lo.z])⟩
set_option maxRecDepth 100000 in
set_option maxHeartbeats 3000000 in
theorem MoveO_any (p s : Int) (A0 A1 A2 A3 A4 A5 : Option Addr) (q0 q1 q2 q3 q4 q5 : Nat) (l : Lo) (w : World) (hs : SizedL l) (hfar : farB l = false) (h : LoA w w.heap.size A0 A1 A2 A3 A4 A5 q0 q1 q2 q3 q4 q5 l) :
    Calls Try.prog 41 #[.agg #[.slice A0 l.m.opts.length q0, .slice A1 l.m.rules.length q1, .slice A2 l.ss.length q2, .slice A3 l.us.length q3, .slice A4 l.ps.length q4, .slice A5 l.ws.length q5], .int .i64 p, .int .i64 s] w (MovO (movR l p s) (movE l p s) w) := by
  obtain ⟨i0, hi0, iz0, iz1, iz2⟩ := info_parts infoInt
  obtain ⟨i1, hi1, jz0, jz1, jz2⟩ := info_parts infoForm
  have hm := hs.p
  have hm2 := hs.s
  obtain ⟨cv, hsl, hcy⟩ := h.w
  have HSL := hide hsl
  have HCY := hide hcy
  have H := hide h
  have HS := hide hs
  have HFAR := hide hfar
  have hsm := far_small hfar
  obtain ⟨m0, m1, m2, m3, m4, m5⟩ := hsm
  obtain ⟨z, hz⟩ : ∃ z, movE l p s = z := ⟨_, rfl⟩
  have HZ := hide hz
  obtain ⟨lo, hlo⟩ : ∃ x, movR l p s = x := ⟨_, rfl⟩
  rw [hz, hlo]
  clear h hs hfar hsl hcy
  go_enter Try.func41, Try.ntmps41
  go_upto_region 1 with (fail)
  generalize hw0 : World.alloc _ _ = w0
  obtain ⟨hb0, hb1, hb2, hb3, hB0, hs0⟩ := alloc4x hw0
  have c0 := cellOf hb0 0; have c1 := cellOf hb0 1; have c2 := cellOf hb0 2; have c3 := cellOf hb0 3; have c4 := cellOf hb0 4; have c5 := cellOf hb0 5
  have hlb := box_lt hb0
  have hhv := have_move (.pointer (some ⟨w.heap.size + 1, 0, none⟩)) (.pointer (some ⟨w.heap.size, 0, none⟩)) (.pointer (some ⟨w.heap.size + 1 + 1, 0, none⟩)) (movB l p s) A0 A1 A2 A3 A4 A5 q0 q1 q2 q3 q4 q5 l w0 HS.out (H.out.up hB0) (fun _ W hW => move1_any p s A0 A1 A2 A3 A4 A5 q0 q1 q2 q3 q4 q5 l _ _ _ W hm hm2 (box_to hb1 hW) (box_to hb2 hW) (LoBox.to hb0 hW))
  rw [show havE l (movB l p s) = z from HZ.out] at hhv
  have HHV := hide hhv
  have HB0 := hide hB0
  have HL0 : Hid (LoBox w0 w.heap.size A0 A1 A2 A3 A4 A5 q0 q1 q2 q3 q4 q5 l) := hb0
  have HP0 := hide hb1
  have HQ0 := hide hb2
  have HR0 := hide hb3
  have HSZ : Hid (w0.heap.size = w.heap.size + 4) := hide hs0
  clear hw0 hb0 hb1 hb2 hb3 hB0 hs0 hhv
  by_cases hz0 : z = 0
  case neg =>
    rw [movR_bad (by rw [hz]; exact hz0)] at hlo
    subst hlo
    have hz1 : (z != 0) = true := by simpa using hz0
    clear hz hz0
    go_wp2_with (go_at_call 82; refine HHV.out.mono ?_; rintro e w1 ⟨rfl, hB1⟩; have HB1 := hide (Below.to HB0.out hB1 (Nat.le_refl _)); have hrb := heap_below HR0.out hB1; have y0 := cellOf hrb 0; have v0 := unfrozenOf hrb 0; have y1 := cellOf hrb 1; have v1 := unfrozenOf hrb 1; have y2 := cellOf hrb 2; have v2 := unfrozenOf hrb 2; have y3 := cellOf hrb 3; have v3 := unfrozenOf hrb 3; have y4 := cellOf hrb 4; have v4 := unfrozenOf hrb 4; have y5 := cellOf hrb 5; have v5 := unfrozenOf hrb 5; have lr := box_lt hrb; have HR1 := hide hrb; clear hB1 hrb c0 c1 c2 c3 c4 c5 hlb)
    generalize hwv : World.setCell _ _ _ = wv
    obtain ⟨hv, hgv⟩ := set6 (HR1.out) hwv
    have hBv : Below w.heap.size w wv := Below.grown (HB1.out) hgv (HB1.out.size) (fun j hj => by injection hj with hj; omega)
    have HBV := hide hBv
    have t0 := cellOf hv 0
    have t1 := cellOf hv 1
    have t2 := cellOf hv 2
    have t3 := cellOf hv 3
    have t4 := cellOf hv 4
    have t5 := cellOf hv 5
    have lv := box_lt hv
    clear hwv hv hBv y0 y1 y2 y3 y4 y5 v0 v1 v2 v3 v4 v5 lr
    refine bodyPost_ret (v := .tuple #[.agg #[.slice none 0 0, .slice none 0 0, .slice none 0 0, .slice none 0 0, .slice none 0 0, .slice none 0 0], .int .i64 z]) ?_ rfl ⟨none, none, none, none, none, none, 0, 0, 0, 0, 0, 0, _, _, rfl, loZO _ _, HBV.out⟩
    clear hgv
    rw [results_cell_tmp6 rfl]
    go_simp
  case pos =>
  subst hz0
  obtain ⟨_, p0, p1, s0, s1⟩ := movE_ok hz
  rw [movR_ok hz] at hlo
  obtain ⟨j, rfl⟩ := Int.eq_ofNat_of_zero_le p0
  rw [Int.toNat_natCast] at hlo
  subst hlo
  have hj : j < l.ps.length := by omega
  clear hz
  go_upto_region 5 with (go_at_call 82; refine HHV.out.mono ?_; rintro e w1 ⟨rfl, hB1⟩; have HL1 := hide (HL0.out.to hB1); have HP1 := hide (heap_below HP0.out hB1); have HQ1 := hide (heap_below HQ0.out hB1); have HR1 := hide (heap_below HR0.out hB1); have HS1 : Hid (w.heap.size + 4 ≤ w1.heap.size) := (by show _ ≤ _; have := HSZ.out; have := hB1.size; omega); have HB1 := hide (Below.to HB0.out hB1 (Nat.le_refl _)); clear hB1 c0 c1 c2 c3 c4 c5 hlb)
  have d0 := cellOf HL1.out 0; have d1 := cellOf HL1.out 1; have d2 := cellOf HL1.out 2; have d3 := cellOf HL1.out 3; have d4 := cellOf HL1.out 4; have d5 := cellOf HL1.out 5
  have ld := box_lt HL1.out
  refine wp_region_held_drew (S := (fun w' => Below w1.heap.size w1 w')) (by kernel_rfl) ?_ (fun hHeld => ?_)
  · try dsimp only
    exact (by repeat (first | exact Below.refl _ _ | assumption | refine Below.drew ?_ | refine Below.drewN ?_ _ | refine Below.allocT ?_ (Nat.le_refl _) _ | refine Below.setCell ?_ (by simp <;> omega) _ | refine Below.to ?_ (by assumption) (Nat.le_refl _)))
  refine zT 0 rfl ?_
  try simp only [zX]
  refine zT 1 rfl ?_
  try simp only [zX]
  refine zT 3 rfl ?_
  try simp only [zX]
  refine zT 4 rfl ?_
  try simp only [zX]
  refine zT 6 rfl ?_
  try simp only [zX]
  refine zT 7 rfl ?_
  try simp only [zX]
  refine zT 9 rfl ?_
  try simp only [zX]
  refine zT 10 rfl ?_
  try simp only [zX]
  refine wpAnyH_start [2, 5, 8, 11, 12, 13] (fun j => match j with | 2 => 23 | 5 => 26 | 8 => 29 | 11 => 32 | 12 => 33 | 13 => 10 | _ => 0) (movO w1 l cv) 1 rfl (by kernel_rfl) (by kernel_rfl) (by decide) (by decide) (by kernel_rfl) hHeld ?hkeep ?hstep ?hend
  case hkeep => exact fun j _ v w w' hb h => movO_keep j hb h
  case hstep =>
    intro j hj tv w5 hS hd
    have hsz0 : w1.heap.size ≤ w5.heap.size := hS.size
    have hW5 := H.out.up (Below.to HB1.out hS (Nat.le_refl _))
    simp only [List.mem_cons, List.not_mem_nil, or_false] at hj
    rcases hj with rfl | rfl | rfl | rfl | rfl | rfl
    · refine wpOp_step rfl (fun K hK => ?_)
      generalize hax : putAll _ _ tv _ = ax at hK ⊢
      simp only [putAll, Act.put, List.setIfInBounds_toArray, List.set_cons_zero, List.set_cons_succ] at hax
      subst hax
      go_simp
      (go_at_call 117; refine (cloneSp_any A2 l.ss.length q2 (flat l.ss.length 3 (spF l.ss)) w5 (Sl.reads hW5.s (by omega)) (flat_one6 (by omega) (fun i j _ _ => spF_one l.ss i j)) (by omega)).mono ?_; rintro e w6 ⟨v6, rfl, ho6, hB6⟩)
      (try dsimp only)
      exact hK _ _ ⟨⟨_, rfl, owns_base ho6 hsz0⟩, hB6, Below.to hS hB6 (Nat.le_refl _)⟩
    · refine wpOp_step rfl (fun K hK => ?_)
      generalize hax : putAll _ _ tv _ = ax at hK ⊢
      simp only [putAll, Act.put, List.setIfInBounds_toArray, List.set_cons_zero, List.set_cons_succ] at hax
      subst hax
      go_simp
      (go_at_call 118; refine (cloneRu_any A3 l.us.length q3 (flat l.us.length 4 (ruF l.us)) w5 (Sl.reads hW5.u (by omega)) (flat_one6 (by omega) (fun i j _ _ => ruF_one l.us i j)) (by omega)).mono ?_; rintro e w6 ⟨v6, rfl, ho6, hB6⟩)
      (try dsimp only)
      exact hK _ _ ⟨⟨_, rfl, owns_base ho6 hsz0⟩, hB6, Below.to hS hB6 (Nat.le_refl _)⟩
    · refine wpOp_step rfl (fun K hK => ?_)
      generalize hax : putAll _ _ tv _ = ax at hK ⊢
      simp only [putAll, Act.put, List.setIfInBounds_toArray, List.set_cons_zero, List.set_cons_succ] at hax
      subst hax
      go_simp
      (go_at_call 119; refine (clonePl_any A4 l.ps.length q4 (flat l.ps.length 3 (plF l.ps)) w5 (Sl.reads hW5.p (by omega)) (flat_one6 (by omega) (fun i j _ _ => plF_one l.ps i j)) (by omega)).mono ?_; rintro e w6 ⟨v6, rfl, ho6, hB6⟩)
      (try dsimp only)
      exact hK _ _ ⟨⟨_, rfl, owns_base ho6 hsz0⟩, hB6, Below.to hS hB6 (Nat.le_refl _)⟩
    · refine wpOp_step rfl (fun K hK => ?_)
      generalize hax : putAll _ _ tv _ = ax at hK ⊢
      simp only [putAll, Act.put, List.setIfInBounds_toArray, List.set_cons_zero, List.set_cons_succ] at hax
      subst hax
      go_simp
      (go_at_call 120; refine (cloneWi_any A5 l.ws.length q5 (flat l.ws.length 7 (wiF l.ws cv)) w5 (Sl.reads ((Sl.below HSL.out (Below.to HB1.out hS (Nat.le_refl _))).more (by have := HB1.out.size; omega)) (by omega)) (flat_one6 (by omega) (fun i j hi _ => wiF_one HCY.out hi j)) (by omega)).mono ?_; rintro e w6 ⟨v6, rfl, ho6, hB6⟩)
      (try dsimp only)
      exact hK _ _ ⟨⟨_, rfl, owns_base ho6 hsz0⟩, hB6, Below.to hS hB6 (Nat.le_refl _)⟩
    · have h3 := hd 2 (by decide) (by kernel_rfl)
      have h7 := hd 5 (by decide) (by kernel_rfl)
      have h11 := hd 8 (by decide) (by kernel_rfl)
      have h15 := hd 11 (by decide) (by kernel_rfl)
      have HD := hide (And.intro h3 (And.intro h7 (And.intro h11 h15)))
      obtain ⟨B3, c3, e3⟩ := owns_form h3
      obtain ⟨B7, c7, e7⟩ := owns_form h7
      obtain ⟨B11, c11, e11⟩ := owns_form h11
      obtain ⟨B15, c15, e15⟩ := owns_form h15
      rw [e3, e7, e11, e15] at HD
      clear hd h3 h7 h11 h15
      refine wpOp_step rfl (fun K hK => ?_)
      generalize hax : putAll _ _ tv _ = ax at hK ⊢
      simp only [putAll, Act.put, List.setIfInBounds_toArray, List.set_cons_zero, List.set_cons_succ, e3, e7, e11, e15] at hax
      rw [← hax]
      go_simp
      exact hK _ _ ⟨⟨_, by rw [← hax]; rfl, _, _, _, _, rfl, HD.out.1, HD.out.2.1, HD.out.2.2.1, HD.out.2.2.2⟩, (by repeat (first | exact Below.refl _ _ | assumption | refine Below.drew ?_ | refine Below.drewN ?_ _ | refine Below.allocT ?_ (Nat.le_refl _) _ | refine Below.setCell ?_ (by simp <;> omega) _ | refine Below.to ?_ (by assumption) (Nat.le_refl _))), (by repeat (first | exact Below.refl _ _ | assumption | refine Below.drew ?_ | refine Below.drewN ?_ _ | refine Below.allocT ?_ (Nat.le_refl _) _ | refine Below.setCell ?_ (by simp <;> omega) _ | refine Below.to ?_ (by assumption) (Nat.le_refl _)))⟩
    · refine wpOp_step rfl (fun K hK => ?_)
      generalize hax : putAll _ _ tv _ = ax at hK ⊢
      simp only [putAll, Act.put, List.setIfInBounds_toArray, List.set_cons_zero, List.set_cons_succ] at hax
      rw [← hax]
      go_simp
      exact hK _ _ ⟨⟨_, by rw [← hax]; rfl, _, rfl, hsz0, heap_alloc_new _ _⟩, (by repeat (first | exact Below.refl _ _ | assumption | refine Below.drew ?_ | refine Below.drewN ?_ _ | refine Below.allocT ?_ (Nat.le_refl _) _ | refine Below.setCell ?_ (by simp <;> omega) _ | refine Below.to ?_ (by assumption) (Nat.le_refl _))), (by repeat (first | exact Below.refl _ _ | assumption | refine Below.drew ?_ | refine Below.drewN ?_ _ | refine Below.allocT ?_ (Nat.le_refl _) _ | refine Below.setCell ?_ (by simp <;> omega) _ | refine Below.to ?_ (by assumption) (Nat.le_refl _)))⟩
  case hend =>
    intro tv w5 hS hR
    obtain ⟨a, b, c, d, h16, ha, hb, hc, hd⟩ := hR 12 (by decide)
    obtain ⟨p, h17, hp, hpb⟩ := hR 13 (by decide)
    clear hR
    obtain ⟨B2, b2, rfl⟩ := owns_form ha
    obtain ⟨B3, b3, rfl⟩ := owns_form hb
    obtain ⟨B4, b4, rfl⟩ := owns_form hc
    obtain ⟨B5, b5, rfl⟩ := owns_form hd
    have y0 := cellOf hpb 0; have v0 := unfrozenOf hpb 0; have y1 := cellOf hpb 1; have v1 := unfrozenOf hpb 1; have y2 := cellOf hpb 2; have v2 := unfrozenOf hpb 2; have y3 := cellOf hpb 3; have v3 := unfrozenOf hpb 3; have y4 := cellOf hpb 4; have v4 := unfrozenOf hpb 4; have y5 := cellOf hpb 5; have v5 := unfrozenOf hpb 5; have lr := box_lt hpb
    have HA := hide ha
    have HB := hide hb
    have HC := hide hc
    have HD := hide hd
    have HP := hide hpb
    have HS5 := hide hS
    clear ha hb hc hd hpb
    simp only [putAll, Act.put, List.setIfInBounds_toArray, List.set_cons_zero, List.set_cons_succ, h16, h17]
    refine wpAnyH_ready (rs := [14]) (by kernel_rfl) (by simp) ?_
    refine AllReadyH.cons rfl (fun K hK => ?_) AllReadyH.nil
    go_simp
    generalize hwz : World.setCell _ _ _ = wz
    obtain ⟨hz, hgr⟩ := set6 HP.out hwz
    have hSz : Below w1.heap.size w1 wz := Below.grown HS5.out hgr HS5.out.size (fun j hj => by injection hj with hj; omega)
    have HZ := hide hz
    have HSZ := hide hSz
    have HAZ := hide (owns_grown HA.out hgr HP.out (by decide))
    have HBZ := hide (owns_grown HB.out hgr HP.out (by decide))
    have HCZ := hide (owns_grown HC.out hgr HP.out (by decide))
    have HDZ := hide (owns_grown HD.out hgr HP.out (by decide))
    clear hwz hz hgr y0 y1 y2 y3 y4 y5 v0 v1 v2 v3 v4 v5 lr h16 h17 HA HB HC HD HP HS5 hS
    refine hK.out _ _ hSz (fun hNext => ?_)
    clear hK K hNext hSz d0 d1 d2 d3 d4 d5 ld
    refine wpAnyH_done (by kernel_rfl) ?_ _
    go_upto_region 6 with (fail)
    have c0 := cellOf (HL1.out.to HSZ.out) 0; have c1 := cellOf (HL1.out.to HSZ.out) 1; have c2 := cellOf (HL1.out.to HSZ.out) 2; have c3 := cellOf (HL1.out.to HSZ.out) 3; have c4 := cellOf (HL1.out.to HSZ.out) 4; have c5 := cellOf (HL1.out.to HSZ.out) 5
    have hlz := box_lt (HL1.out.to HSZ.out)
    have HHZ := hide (H.out.up (Below.to HB1.out HSZ.out (Nat.le_refl _)))
    go_upto_region 7 with (go_at_call 121; refine (cloneNm_any A0 l.m.opts.length q0 (flat l.m.opts.length 1 (nmF l.m.opts)) _ (Sl.reads HHZ.out.m.o (by omega)) (flat_one6 (by omega) (fun i j _ _ => rfl)) (by omega)).mono ?_; rintro e w6 ⟨v6, rfl, ho6, hB6⟩; obtain ⟨B0, b0, hv6⟩ := owns_form ho6; subst hv6; have hp6 := heap_below HZ.out hB6; have y0 := cellOf hp6 0; have v0 := unfrozenOf hp6 0; have y1 := cellOf hp6 1; have v1 := unfrozenOf hp6 1; have y2 := cellOf hp6 2; have v2 := unfrozenOf hp6 2; have y3 := cellOf hp6 3; have v3 := unfrozenOf hp6 3; have y4 := cellOf hp6 4; have v4 := unfrozenOf hp6 4; have y5 := cellOf hp6 5; have v5 := unfrozenOf hp6 5; have lr := box_lt hp6; have HP6 := hide hp6; have HO6 := hide (owns_base ho6 HSZ.out.size); have HB6 := hide hB6; clear ho6 hB6 hp6 c0 c1 c2 c3 c4 c5 hlz)
    generalize hwy : World.setCell _ _ _ = wy
    obtain ⟨hy, hgy⟩ := setp HP6.out hwy
    have hB16 := Below.to HSZ.out HB6.out (Nat.le_refl _)
    have hwy1 : Below w1.heap.size w1 wy := Below.grown hB16 hgy hB16.size (fun j hj => by injection hj with hj; omega)
    have hcp : CpN w1 wy w.heap.size (w.heap.size + 1 + 1 + 1) p B0 none B2 B3 B4 B5 b0 0 b2 b3 b4 b5 l [] cv [] 0 :=
      ⟨hwy1, hp, HB1.out.size, by have := HS1.out; omega, hy, ⟨owns_grown HO6.out hgy HP6.out (by decide), ⟨rfl, World.ownsRow_nil _ _ _ _, fun i hi => absurd hi (by simp)⟩, owns_grown (owns_below HAZ.out HB6.out) hgy HP6.out (by decide), owns_grown (owns_below HBZ.out HB6.out) hgy HP6.out (by decide),
        owns_grown (owns_below HCZ.out HB6.out) hgy HP6.out (by decide), owns_grown (owns_below HDZ.out HB6.out) hgy HP6.out (by decide)⟩, fun i hi hik => by omega, fun i hi _ => Sl.below (HCY.out i hi) (Below.to HB1.out hwy1 (Nat.le_refl _))⟩
    have HCP := hide hcp
    have c0 := cellOf (HL1.out.to hwy1) 0; have c1 := cellOf (HL1.out.to hwy1) 1; have c2 := cellOf (HL1.out.to hwy1) 2; have c3 := cellOf (HL1.out.to hwy1) 3; have c4 := cellOf (HL1.out.to hwy1) 4; have c5 := cellOf (HL1.out.to hwy1) 5
    have hlz := box_lt (HL1.out.to hwy1)
    clear hwy hy hgy hB16 hwy1 hcp y0 y1 y2 y3 y4 y5 v0 v1 v2 v3 v4 v5 lr
    go_wp2_with fail
    clear c0 c1 c2 c3 c4 c5 hlz
    go_loopw [12, 44] (fun _ i wr => ∃ (k : Nat) (D : Option Addr) (d : Nat) (R : List (List Int)) (vs : List Value), i = .int .i64 k ∧ k ≤ l.m.rules.length ∧ Hid (l.m.rules.take k = R) ∧ Hid (CpN w1 wr w.heap.size (w.heap.size + 1 + 1 + 1) p B0 D B2 B3 B4 B5 b0 d b2 b3 b4 b5 l R cv vs 0)) (fun _ i _ => l.m.rules.length - (intOf i).toNat)
    case atStart => exact ⟨0, none, 0, [], [], rfl, Nat.zero_le _, rfl, HCP.out⟩
    case round =>
      obtain ⟨k, D, d, R, vs, rfl, hk, HR, C⟩ := hrel
      have hRl : R.length ≤ 100 := by rw [← HR.out]; simp; omega
      by_cases hkl : k < l.m.rules.length
      · obtain ⟨fv, hs, hfi⟩ := (Forms.up H.out.m.r (Below.to HB1.out C.out.below (Nat.le_refl _)))
        obtain ⟨_, hq, b, off, rfl, hb, hc⟩ := sl_at hs hkl
        have hx := hfi k hkl
        obtain ⟨f, hfe⟩ : ∃ f, l.m.rules.getD k [] = f := ⟨_, rfl⟩
        rw [hfe] at hx
        obtain ⟨Af, qf, e⟩ := Sl.form hx
        have c0 := hc 0 (by omega)
        rw [Nat.mul_one, Nat.add_zero, e] at c0
        rw [e] at hx
        have hfl : f.length ≤ 100 := by rw [← hfe]; exact Nat.le_trans (far_rules HFAR.out _ (getD_mem3f hkl)) (by omega)
        have htk : l.m.rules.take (k + 1) = R ++ [f] := by
          rw [← HR.out, ← hfe, List.take_add_one, List.getElem?_eq_getElem hkl, List.getD_eq_getElem?_getD, List.getElem?_eq_getElem hkl]
          rfl
        have HTK := hide htk
        have HX := hide hx
        have ik0 : (0 : Int) ≤ (k : Int) := by omega
        have ik : (k : Int) < (l.m.rules.length : Int) := by omega
        have iq : (l.m.rules.length : Int) ≤ (q1 : Int) := by omega
        clear hx hs hfi hc htk hfe e
        go_upto_region 10 with (fail)
        have hpb := C.out.box
        have x1 := cellOf hpb 1
        have lp := box_lt hpb
        have HPB := hide hpb
        clear c0 hb hpb
        refine wp_region_held_drew (S := (fun w' => Keeps (fun j => (Value.slice D R.length d).ownBlock = some j ∨ j = p) wr w')) (by kernel_rfl) ?_ (fun hHeld => ?_)
        · try dsimp only
          (repeat (first | (with_reducible exact Keeps.refl _ _) | exact hKeep.out | exact hKeepS.out _ | assumption | (with_reducible refine Keeps.drew ?_) | (with_reducible refine Keeps.drewN ?_ _) | (with_reducible refine Keeps.alloc ?_ _) | (with_reducible refine Keeps.setCell ?_ (.inl (by first | exact .inl rfl | exact .inr rfl)) _)))
        refine zU 0 rfl ?_
        try simp only [zX]
        refine zU 1 rfl ?_
        try simp only [zX]
        refine zU 3 rfl ?_
        try simp only [zX]
        refine zU 4 rfl ?_
        try simp only [zX]
        refine wpAnyH_ready (rs := [2, 5]) (by kernel_rfl) (by simp) ?_
        refine (AllReadyH.cons rfl (fun K hK => ?o1_5_2) (AllReadyH.cons rfl (fun K hK => ?o1_5_5) AllReadyH.nil))
        case' o1_5_2 =>
          go_simp
          refine hK.out _ _ ?_ (fun hNext => ?_)
          · try dsimp only
            (repeat (first | (with_reducible exact Keeps.refl _ _) | exact hKeep.out | exact hKeepS.out _ | assumption | (with_reducible refine Keeps.drew ?_) | (with_reducible refine Keeps.drewN ?_ _) | (with_reducible refine Keeps.alloc ?_ _) | (with_reducible refine Keeps.setCell ?_ (.inl (by first | exact .inl rfl | exact .inr rfl)) _)))
          clear hK K hHeld
          have hHeld := hNext
          clear hNext
          (try dsimp only at hHeld)
          try simp only [zX]
          refine wpAnyH_ready (rs := [5]) (by kernel_rfl) (by simp) ?_
          refine (AllReadyH.cons rfl (fun K hK => ?_) AllReadyH.nil)
          go_simp
          ((go_at_call 115; refine (move2_any Af f qf _ (by first | exact HX.out | exact Ints.up HX.out (Below.drew (Below.refl _ _))) (by omega)).mono ?_; rintro e w6 ⟨v6, rfl, ho6, hB6⟩; obtain ⟨D6, d6, hv6⟩ := owns_form ho6; subst hv6; have hB6' : Below wr.heap.size wr w6 := (by first | exact hB6 | exact Below.to (Below.drew (Below.refl wr.heap.size wr)) hB6 (Nat.le_refl _)); have HB6 := hide hB6'; have HO6 := hide (owns_base ho6 (by have := C.out.below.size; first | exact this | (simp; omega))); have hp6 := heap_below HPB.out hB6'; have s1 := cellOf hp6 1; have lp6 := box_lt hp6; have HP6 := hide hp6; have hKeep : Hid (Keeps (fun j => (Value.slice D R.length d).ownBlock = some j ∨ j = p) wr w6) := Keeps.of_below hB6'; clear ho6 hB6 hB6' hp6))
          (try dsimp only)
          refine hK.out _ _ ?_ (fun hNext => ?_)
          · try dsimp only
            (repeat (first | (with_reducible exact Keeps.refl _ _) | exact hKeep.out | exact hKeepS.out _ | assumption | (with_reducible refine Keeps.drew ?_) | (with_reducible refine Keeps.drewN ?_ _) | (with_reducible refine Keeps.alloc ?_ _) | (with_reducible refine Keeps.setCell ?_ (.inl (by first | exact .inl rfl | exact .inr rfl)) _)))
          clear hK K hHeld
          have hHeld := hNext
          clear hNext
          (try dsimp only at hHeld)
          try simp only [zX]
          refine wpAnyH_ready (rs := [6]) (by kernel_rfl) (by simp) ?_
          refine (AllReadyH.cons rfl (fun K hK => ?_) AllReadyH.nil)
          go_simp
          refine hK.out _ _ ?_ (fun hNext => ?_)
          · try dsimp only
            (repeat (first | (with_reducible exact Keeps.refl _ _) | exact hKeep.out | exact hKeepS.out _ | assumption | (with_reducible refine Keeps.drew ?_) | (with_reducible refine Keeps.drewN ?_ _) | (with_reducible refine Keeps.alloc ?_ _) | (with_reducible refine Keeps.setCell ?_ (.inl (by first | exact .inl rfl | exact .inr rfl)) _)))
          clear hK K hHeld
          have hHeld := hNext
          clear hNext
          (try dsimp only at hHeld)
          try simp only [zX]
          refine wpAnyH_ready (rs := [7]) (by kernel_rfl) (by simp) ?_
          refine (AllReadyH.cons rfl (fun K hK => ?_) AllReadyH.nil)
          (refine step_append_any _ (by rfl) (.tmp 50) (.tmp 54) _ (by rfl) w1.heap.size 66 i1 _ 1 24 Try.underlying23 hi1 jz0 jz1 jz2 (by rfl) (by omega) (.slice D R.length d) R.length vs (by rfl) (World.ownsRow.alloc (w := w6) (C.out.to HB6.out).r.f.own _) (w6.heap.size + 1) (some ⟨w6.heap.size, 0, none⟩) 1 1 [.slice D6 f.length d6] (by rfl) ⟨rfl, fun _ => ⟨_, rfl, by simp, World.news_of_block (heap_alloc_new w6 _)⟩⟩ (by simp [Value.oneCell']) (by unfold maxLen; omega) (by omega) (by have := (C.out.to HB6.out).below.size; simp; omega) ?_; intro v7 w7 hown7 hg7 _; obtain ⟨D7, d7, hv7⟩ := owns_form hown7; subst hv7; have hp7 := ((hg7.block p (by have := box_lt HP6.out; simp; omega) (fun e => ownsNot (C.out.to HB6.out).r.f.own HP6.out (by decide) e.symm)).trans (heap_old _ _ _ (box_lt HP6.out))).trans HP6.out; have n1 := cellOf hp7 1; have o1 := unfrozenOf hp7 1; have lp7 := box_lt hp7; have HOW7 := hide hown7; have HG7 := hide hg7; clear hKeep; have hKeep : Hid (Keeps (fun j => (Value.slice D R.length d).ownBlock = some j ∨ j = p) wr w7) := (Keeps.of_below (Below.allocT HB6.out (Nat.le_refl _) _)).trans (Keeps.of_grown hg7 (fun k hk => .inl hk)) (fun _ _ h => h); clear hown7 hg7 hp7)
          (try dsimp only)
          refine hK.out _ _ ?_ (fun hNext => ?_)
          · try dsimp only
            (repeat (first | (with_reducible exact Keeps.refl _ _) | exact hKeep.out | exact hKeepS.out _ | assumption | (with_reducible refine Keeps.drew ?_) | (with_reducible refine Keeps.drewN ?_ _) | (with_reducible refine Keeps.alloc ?_ _) | (with_reducible refine Keeps.setCell ?_ (.inl (by first | exact .inl rfl | exact .inr rfl)) _)))
          clear hK K hHeld
          have hHeld := hNext
          clear hNext
          (try dsimp only at hHeld)
          try simp only [zX]
          refine zU 8 rfl ?_
          try simp only [zX]
          refine zU 9 rfl ?_
          try simp only [zX]
          refine wpAnyH_ready (rs := [10]) (by kernel_rfl) (by simp) ?_
          refine (AllReadyH.cons rfl (fun K hK => ?_) AllReadyH.nil)
          go_simp
          refine hK.out _ _ ?_ (fun hNext => ?_)
          · try dsimp only
            (repeat (first | (with_reducible exact Keeps.refl _ _) | exact hKeep.out | exact hKeepS.out _ | assumption | (with_reducible refine Keeps.drew ?_) | (with_reducible refine Keeps.drewN ?_ _) | (with_reducible refine Keeps.alloc ?_ _) | (with_reducible refine Keeps.setCell ?_ (.inl (by first | exact .inl rfl | exact .inr rfl)) _)))
          clear hK K hHeld
          have hHeld := hNext
          clear hNext
          (try dsimp only at hHeld)
          try simp only [zX]
          refine wpAnyH_done (by kernel_rfl) ?_ _
        case' o1_5_5 =>
          go_simp
          ((go_at_call 115; refine (move2_any Af f qf _ (by first | exact HX.out | exact Ints.up HX.out (Below.drew (Below.refl _ _))) (by omega)).mono ?_; rintro e w6 ⟨v6, rfl, ho6, hB6⟩; obtain ⟨D6, d6, hv6⟩ := owns_form ho6; subst hv6; have hB6' : Below wr.heap.size wr w6 := (by first | exact hB6 | exact Below.to (Below.drew (Below.refl wr.heap.size wr)) hB6 (Nat.le_refl _)); have HB6 := hide hB6'; have HO6 := hide (owns_base ho6 (by have := C.out.below.size; first | exact this | (simp; omega))); have hp6 := heap_below HPB.out hB6'; have s1 := cellOf hp6 1; have lp6 := box_lt hp6; have HP6 := hide hp6; have hKeep : Hid (Keeps (fun j => (Value.slice D R.length d).ownBlock = some j ∨ j = p) wr w6) := Keeps.of_below hB6'; clear ho6 hB6 hB6' hp6))
          (try dsimp only)
          refine hK.out _ _ ?_ (fun hNext => ?_)
          · try dsimp only
            (repeat (first | (with_reducible exact Keeps.refl _ _) | exact hKeep.out | exact hKeepS.out _ | assumption | (with_reducible refine Keeps.drew ?_) | (with_reducible refine Keeps.drewN ?_ _) | (with_reducible refine Keeps.alloc ?_ _) | (with_reducible refine Keeps.setCell ?_ (.inl (by first | exact .inl rfl | exact .inr rfl)) _)))
          clear hK K hHeld
          have hHeld := hNext
          clear hNext
          (try dsimp only at hHeld)
          try simp only [zX]
          refine wpAnyH_ready (rs := [2, 6]) (by kernel_rfl) (by simp) ?_
          refine (AllReadyH.cons rfl (fun K hK => ?o1_12_2) (AllReadyH.cons rfl (fun K hK => ?o1_12_6) AllReadyH.nil))
          case' o1_12_2 =>
            go_simp
            refine hK.out _ _ ?_ (fun hNext => ?_)
            · try dsimp only
              (repeat (first | (with_reducible exact Keeps.refl _ _) | exact hKeep.out | exact hKeepS.out _ | assumption | (with_reducible refine Keeps.drew ?_) | (with_reducible refine Keeps.drewN ?_ _) | (with_reducible refine Keeps.alloc ?_ _) | (with_reducible refine Keeps.setCell ?_ (.inl (by first | exact .inl rfl | exact .inr rfl)) _)))
            clear hK K hHeld
            have hHeld := hNext
            clear hNext
            (try dsimp only at hHeld)
            try simp only [zX]
            refine wpAnyH_ready (rs := [6]) (by kernel_rfl) (by simp) ?_
            refine (AllReadyH.cons rfl (fun K hK => ?_) AllReadyH.nil)
            go_simp
            refine hK.out _ _ ?_ (fun hNext => ?_)
            · try dsimp only
              (repeat (first | (with_reducible exact Keeps.refl _ _) | exact hKeep.out | exact hKeepS.out _ | assumption | (with_reducible refine Keeps.drew ?_) | (with_reducible refine Keeps.drewN ?_ _) | (with_reducible refine Keeps.alloc ?_ _) | (with_reducible refine Keeps.setCell ?_ (.inl (by first | exact .inl rfl | exact .inr rfl)) _)))
            clear hK K hHeld
            have hHeld := hNext
            clear hNext
            (try dsimp only at hHeld)
            try simp only [zX]
            refine wpAnyH_ready (rs := [7]) (by kernel_rfl) (by simp) ?_
            refine (AllReadyH.cons rfl (fun K hK => ?_) AllReadyH.nil)
            (refine step_append_any _ (by rfl) (.tmp 50) (.tmp 54) _ (by rfl) w1.heap.size 66 i1 _ 1 24 Try.underlying23 hi1 jz0 jz1 jz2 (by rfl) (by omega) (.slice D R.length d) R.length vs (by rfl) (World.ownsRow.alloc (w := w6) (C.out.to HB6.out).r.f.own _) (w6.heap.size + 1) (some ⟨w6.heap.size, 0, none⟩) 1 1 [.slice D6 f.length d6] (by rfl) ⟨rfl, fun _ => ⟨_, rfl, by simp, World.news_of_block (heap_alloc_new w6 _)⟩⟩ (by simp [Value.oneCell']) (by unfold maxLen; omega) (by omega) (by have := (C.out.to HB6.out).below.size; simp; omega) ?_; intro v7 w7 hown7 hg7 _; obtain ⟨D7, d7, hv7⟩ := owns_form hown7; subst hv7; have hp7 := ((hg7.block p (by have := box_lt HP6.out; simp; omega) (fun e => ownsNot (C.out.to HB6.out).r.f.own HP6.out (by decide) e.symm)).trans (heap_old _ _ _ (box_lt HP6.out))).trans HP6.out; have n1 := cellOf hp7 1; have o1 := unfrozenOf hp7 1; have lp7 := box_lt hp7; have HOW7 := hide hown7; have HG7 := hide hg7; clear hKeep; have hKeep : Hid (Keeps (fun j => (Value.slice D R.length d).ownBlock = some j ∨ j = p) wr w7) := (Keeps.of_below (Below.allocT HB6.out (Nat.le_refl _) _)).trans (Keeps.of_grown hg7 (fun k hk => .inl hk)) (fun _ _ h => h); clear hown7 hg7 hp7)
            (try dsimp only)
            refine hK.out _ _ ?_ (fun hNext => ?_)
            · try dsimp only
              (repeat (first | (with_reducible exact Keeps.refl _ _) | exact hKeep.out | exact hKeepS.out _ | assumption | (with_reducible refine Keeps.drew ?_) | (with_reducible refine Keeps.drewN ?_ _) | (with_reducible refine Keeps.alloc ?_ _) | (with_reducible refine Keeps.setCell ?_ (.inl (by first | exact .inl rfl | exact .inr rfl)) _)))
            clear hK K hHeld
            have hHeld := hNext
            clear hNext
            (try dsimp only at hHeld)
            try simp only [zX]
            refine zU 8 rfl ?_
            try simp only [zX]
            refine zU 9 rfl ?_
            try simp only [zX]
            refine wpAnyH_ready (rs := [10]) (by kernel_rfl) (by simp) ?_
            refine (AllReadyH.cons rfl (fun K hK => ?_) AllReadyH.nil)
            go_simp
            refine hK.out _ _ ?_ (fun hNext => ?_)
            · try dsimp only
              (repeat (first | (with_reducible exact Keeps.refl _ _) | exact hKeep.out | exact hKeepS.out _ | assumption | (with_reducible refine Keeps.drew ?_) | (with_reducible refine Keeps.drewN ?_ _) | (with_reducible refine Keeps.alloc ?_ _) | (with_reducible refine Keeps.setCell ?_ (.inl (by first | exact .inl rfl | exact .inr rfl)) _)))
            clear hK K hHeld
            have hHeld := hNext
            clear hNext
            (try dsimp only at hHeld)
            try simp only [zX]
            refine wpAnyH_done (by kernel_rfl) ?_ _
          case' o1_12_6 =>
            go_simp
            refine hK.out _ _ ?_ (fun hNext => ?_)
            · try dsimp only
              (repeat (first | (with_reducible exact Keeps.refl _ _) | exact hKeep.out | exact hKeepS.out _ | assumption | (with_reducible refine Keeps.drew ?_) | (with_reducible refine Keeps.drewN ?_ _) | (with_reducible refine Keeps.alloc ?_ _) | (with_reducible refine Keeps.setCell ?_ (.inl (by first | exact .inl rfl | exact .inr rfl)) _)))
            clear hK K hHeld
            have hHeld := hNext
            clear hNext
            (try dsimp only at hHeld)
            try simp only [zX]
            refine wpAnyH_ready (rs := [2]) (by kernel_rfl) (by simp) ?_
            refine (AllReadyH.cons rfl (fun K hK => ?_) AllReadyH.nil)
            go_simp
            refine hK.out _ _ ?_ (fun hNext => ?_)
            · try dsimp only
              (repeat (first | (with_reducible exact Keeps.refl _ _) | exact hKeep.out | exact hKeepS.out _ | assumption | (with_reducible refine Keeps.drew ?_) | (with_reducible refine Keeps.drewN ?_ _) | (with_reducible refine Keeps.alloc ?_ _) | (with_reducible refine Keeps.setCell ?_ (.inl (by first | exact .inl rfl | exact .inr rfl)) _)))
            clear hK K hHeld
            have hHeld := hNext
            clear hNext
            (try dsimp only at hHeld)
            try simp only [zX]
            refine wpAnyH_ready (rs := [7]) (by kernel_rfl) (by simp) ?_
            refine (AllReadyH.cons rfl (fun K hK => ?_) AllReadyH.nil)
            (refine step_append_any _ (by rfl) (.tmp 50) (.tmp 54) _ (by rfl) w1.heap.size 66 i1 _ 1 24 Try.underlying23 hi1 jz0 jz1 jz2 (by rfl) (by omega) (.slice D R.length d) R.length vs (by rfl) (World.ownsRow.alloc (w := w6) (C.out.to HB6.out).r.f.own _) (w6.heap.size + 1) (some ⟨w6.heap.size, 0, none⟩) 1 1 [.slice D6 f.length d6] (by rfl) ⟨rfl, fun _ => ⟨_, rfl, by simp, World.news_of_block (heap_alloc_new w6 _)⟩⟩ (by simp [Value.oneCell']) (by unfold maxLen; omega) (by omega) (by have := (C.out.to HB6.out).below.size; simp; omega) ?_; intro v7 w7 hown7 hg7 _; obtain ⟨D7, d7, hv7⟩ := owns_form hown7; subst hv7; have hp7 := ((hg7.block p (by have := box_lt HP6.out; simp; omega) (fun e => ownsNot (C.out.to HB6.out).r.f.own HP6.out (by decide) e.symm)).trans (heap_old _ _ _ (box_lt HP6.out))).trans HP6.out; have n1 := cellOf hp7 1; have o1 := unfrozenOf hp7 1; have lp7 := box_lt hp7; have HOW7 := hide hown7; have HG7 := hide hg7; clear hKeep; have hKeep : Hid (Keeps (fun j => (Value.slice D R.length d).ownBlock = some j ∨ j = p) wr w7) := (Keeps.of_below (Below.allocT HB6.out (Nat.le_refl _) _)).trans (Keeps.of_grown hg7 (fun k hk => .inl hk)) (fun _ _ h => h); clear hown7 hg7 hp7)
            (try dsimp only)
            refine hK.out _ _ ?_ (fun hNext => ?_)
            · try dsimp only
              (repeat (first | (with_reducible exact Keeps.refl _ _) | exact hKeep.out | exact hKeepS.out _ | assumption | (with_reducible refine Keeps.drew ?_) | (with_reducible refine Keeps.drewN ?_ _) | (with_reducible refine Keeps.alloc ?_ _) | (with_reducible refine Keeps.setCell ?_ (.inl (by first | exact .inl rfl | exact .inr rfl)) _)))
            clear hK K hHeld
            have hHeld := hNext
            clear hNext
            (try dsimp only at hHeld)
            try simp only [zX]
            refine zU 8 rfl ?_
            try simp only [zX]
            refine zU 9 rfl ?_
            try simp only [zX]
            refine wpAnyH_ready (rs := [10]) (by kernel_rfl) (by simp) ?_
            refine (AllReadyH.cons rfl (fun K hK => ?_) AllReadyH.nil)
            go_simp
            refine hK.out _ _ ?_ (fun hNext => ?_)
            · try dsimp only
              (repeat (first | (with_reducible exact Keeps.refl _ _) | exact hKeep.out | exact hKeepS.out _ | assumption | (with_reducible refine Keeps.drew ?_) | (with_reducible refine Keeps.drewN ?_ _) | (with_reducible refine Keeps.alloc ?_ _) | (with_reducible refine Keeps.setCell ?_ (.inl (by first | exact .inl rfl | exact .inr rfl)) _)))
            clear hK K hHeld
            have hHeld := hNext
            clear hNext
            (try dsimp only at hHeld)
            try simp only [zX]
            refine wpAnyH_done (by kernel_rfl) ?_ _
        all_goals
          generalize hwz : World.setCell _ _ _ = wz at hHeld ⊢
          have hps := CpN.push (C.out.to HB6.out) HO6.out HOW7.out HG7.out hwz
          have HPS := hide hps
          clear hwz hps hHeld
          go_wp2_with fail
          go_roundw
          case rel => exact ⟨k + 1, _, _, R ++ [f], _, by go_num, by omega, HTK.out, HPS.out⟩
          case measure => simp [intOf]; omega
      · have hke : k = l.m.rules.length := by omega
        subst hke
        have hR := HR.out
        rw [List.take_length] at hR
        subst hR
        have hpb := C.out.box
        have x5 := cellOf hpb 5
        have lp := box_lt hpb
        clear hpb
        go_wp2_with fail
        clear x5 lp
        go_loopw [13, 62] (fun _ i wr => ∃ (k : Nat) (cw : Nat → Value), i = .int .i64 k ∧ k ≤ l.ws.length ∧ Hid (CpN w1 wr w.heap.size (w.heap.size + 1 + 1 + 1) p B0 D B2 B3 B4 B5 b0 d b2 b3 b4 b5 l l.m.rules cw vs k)) (fun _ i _ => l.ws.length - (intOf i).toNat)
        case atStart => exact ⟨0, cv, rfl, Nat.zero_le _, C.out⟩
        case round =>
          clear C
          obtain ⟨k, cw, rfl, hk, C⟩ := hrel
          by_cases hkl : k < l.ws.length
          · obtain ⟨g, hg, hgB, hq5, cur, hgh⟩ := own_at6 C.out.r.w (by omega)
            subst hg
            have hcx := C.out.ints hkl
            have hfl := far_forms HFAR.out (l.ws.getD k Wi.o) (getD_mem3f hkl)
            obtain ⟨f, hfe⟩ : ∃ f, (l.ws.getD k Wi.o).form = f := ⟨_, rfl⟩
            rw [hfe] at hcx hfl
            obtain ⟨Af, qf, ev⟩ := Sl.form hcx
            have g6 : wr.cell? ⟨g, k * 7 + 6, none⟩ = some (.slice Af f.length qf) := by
              rw [C.out.r.w.cellAt (k * 7 + 6) (idx_lt hkl (by omega)), flat_get hkl (by omega)]
              show some (cw k) = _
              rw [ev]
            rw [ev] at hcx
            have HCX := hide hcx
            have hgp : ¬ p = g := C.out.ne hgh (by decide)
            have x5 := cellOf C.out.box 5
            have lp := box_lt C.out.box
            have hlg := box_lt hgh
            have ik0 : (0 : Int) ≤ (k : Int) := by omega
            have ik : (k : Int) < (l.ws.length : Int) := by omega
            have iq : (l.ws.length : Int) ≤ (b5 : Int) := by omega
            have HFE := hide hfe
            have HGH := hide hgh
            clear hcx ev hfe hgh
            go_upto_region 15 with (fail)
            refine wp_region_held_drew (S := (fun w' => Keeps (fun j => j = g ∨ j = g) wr w')) (by kernel_rfl) ?_ (fun hHeld => ?_)
            · try dsimp only
              (repeat (first | (with_reducible exact Keeps.refl _ _) | exact hKeep.out | exact hKeepS.out _ | assumption | (with_reducible refine Keeps.drew ?_) | (with_reducible refine Keeps.drewN ?_ _) | (with_reducible refine Keeps.alloc ?_ _) | (with_reducible refine Keeps.setCell ?_ (.inl (by first | exact .inl rfl | exact .inr rfl)) _)))
            refine zU 0 rfl ?_
            try simp only [zX]
            refine zU 1 rfl ?_
            try simp only [zX]
            refine zU 2 rfl ?_
            try simp only [zX]
            refine zU 3 rfl ?_
            try simp only [zX]
            refine zU 4 rfl ?_
            try simp only [zX]
            refine zU 5 rfl ?_
            try simp only [zX]
            refine zU 6 rfl ?_
            try simp only [zX]
            refine zU 7 rfl ?_
            try simp only [zX]
            refine zU 8 rfl ?_
            try simp only [zX]
            refine wpAnyH_ready (rs := [9]) (by kernel_rfl) (by simp) ?_
            refine (AllReadyH.cons rfl (fun K hK => ?_) AllReadyH.nil)
            go_simp
            refine hK.out _ _ ?_ (fun hNext => ?_)
            · try dsimp only
              (repeat (first | (with_reducible exact Keeps.refl _ _) | exact hKeep.out | exact hKeepS.out _ | assumption | (with_reducible refine Keeps.drew ?_) | (with_reducible refine Keeps.drewN ?_ _) | (with_reducible refine Keeps.alloc ?_ _) | (with_reducible refine Keeps.setCell ?_ (.inl (by first | exact .inl rfl | exact .inr rfl)) _)))
            clear hK K hHeld
            have hHeld := hNext
            clear hNext
            (try dsimp only at hHeld)
            try simp only [zX]
            refine wpAnyH_ready (rs := [10]) (by kernel_rfl) (by simp) ?_
            refine (AllReadyH.cons rfl (fun K hK => ?_) AllReadyH.nil)
            go_simp
            ((go_at_call 115; refine (move2_any Af f qf _ (by first | exact HCX.out | exact Ints.up HCX.out (Below.drew (Below.refl _ _))) (by omega)).mono ?_; rintro e w6 ⟨v6, rfl, ho6, hB6⟩; obtain ⟨D6, d6, hv6⟩ := owns_form ho6; subst hv6; have hB6' : Below wr.heap.size wr w6 := (by first | exact hB6 | exact Below.to (Below.drew (Below.refl wr.heap.size wr)) hB6 (Nat.le_refl _)); have HB6 := hide hB6'; have HO6 := hide (owns_base ho6 (by have := C.out.below.size; first | exact this | (simp; omega))); have hg6 := heap_below HGH.out hB6'; have s6 : w6.cell? ⟨g, k * 7 + 6, none⟩ = _ := (hB6'.cell (p := ⟨g, k * 7 + 6, none⟩) hlg).trans g6; have u6 := unfrozenOf hg6 (k * 7 + 6); have lg6 := box_lt hg6; have hKeep : Hid (Keeps (fun j => j = g ∨ j = g) wr w6) := Keeps.of_below hB6'; clear ho6 hB6 hB6' hg6))
            (try dsimp only)
            refine hK.out _ _ ?_ (fun hNext => ?_)
            · try dsimp only
              (repeat (first | (with_reducible exact Keeps.refl _ _) | exact hKeep.out | exact hKeepS.out _ | assumption | (with_reducible refine Keeps.drew ?_) | (with_reducible refine Keeps.drewN ?_ _) | (with_reducible refine Keeps.alloc ?_ _) | (with_reducible refine Keeps.setCell ?_ (.inl (by first | exact .inl rfl | exact .inr rfl)) _)))
            clear hK K hHeld
            have hHeld := hNext
            clear hNext
            (try dsimp only at hHeld)
            try simp only [zX]
            refine zU 11 rfl ?_
            try simp only [zX]
            refine zU 12 rfl ?_
            try simp only [zX]
            refine wpAnyH_ready (rs := [13]) (by kernel_rfl) (by simp) ?_
            refine (AllReadyH.cons rfl (fun K hK => ?_) AllReadyH.nil)
            go_simp
            refine hK.out _ _ ?_ (fun hNext => ?_)
            · try dsimp only
              (repeat (first | (with_reducible exact Keeps.refl _ _) | exact hKeep.out | exact hKeepS.out _ | assumption | (with_reducible refine Keeps.drew ?_) | (with_reducible refine Keeps.drewN ?_ _) | (with_reducible refine Keeps.alloc ?_ _) | (with_reducible refine Keeps.setCell ?_ (.inl (by first | exact .inl rfl | exact .inr rfl)) _)))
            clear hK K hHeld
            have hHeld := hNext
            clear hNext
            (try dsimp only at hHeld)
            try simp only [zX]
            refine wpAnyH_done (by kernel_rfl) ?_ _
            all_goals
              generalize hwz : World.setCell _ _ _ = wz at hHeld ⊢
              have hst := CpN.store (C.out.to HB6.out) hkl (v := .slice D6 f.length d6) (by rw [HFE.out]; exact HO6.out)
              rw [hwz] at hst
              have HST := hide hst
              clear hwz hst hHeld x5 lp
              go_wp2_with fail
              go_roundw
              case rel => exact ⟨k + 1, _, by go_num, by omega, HST.out⟩
              case measure => simp [intOf]; omega
          · have hke : k = l.ws.length := by omega
            subst hke
            obtain ⟨g, hg, hgB, hq4, cur, hgh⟩ := own_at6 C.out.r.p (by omega)
            subst hg
            have hc := C.out.r.p.cellAt (j * 3 + 1) (idx_lt hj (by omega))
            rw [flat_get hj (by omega)] at hc
            have hf := C.out.r.p.frozenAt (j * 3 + 1)
            have x4 := cellOf C.out.box 4
            have lp := box_lt C.out.box
            have lg := box_lt hgh
            have hgp : ¬ p = g := C.out.ne hgh (by decide)
            have hB1r := C.out.below
            have yp := cellOf ((hB1r.block _ (box_lt HP1.out)).trans HP1.out) 0
            have ys := cellOf ((hB1r.block _ (box_lt HQ1.out)).trans HQ1.out) 0
            have l1 : w.heap.size + 1 < wr.heap.size := by have := HS1.out; have := hB1r.size; omega
            have l2 : w.heap.size + 1 + 1 < wr.heap.size := by have := HS1.out; have := hB1r.size; omega
            have ij : (j : Int) < (l.ps.length : Int) := by omega
            have ij0 : (0 : Int) ≤ (j : Int) := by omega
            have iq4 : (l.ps.length : Int) ≤ (b4 : Int) := by omega
            have HGB := hide hgB
            clear hgh hgp hgB hB1r
            go_upto_region 18 with (fail)
            generalize hwb : World.setCell _ _ _ = wb
            have hcb := CpN.plug (s := s) C.out hj
            rw [hwb] at hcb
            have HCB := hide hcb
            have hpb := hcb.box
            have z0 : wb.cell? ⟨p, 0, none⟩ = some (.slice B0 l.m.opts.length b0) := cellOf hpb 0
            have z1 : wb.cell? ⟨p, 1, none⟩ = some (.slice D l.m.rules.length d) := cellOf hpb 1
            have z2 : wb.cell? ⟨p, 2, none⟩ = some (.slice B2 l.ss.length b2) := cellOf hpb 2
            have z3 : wb.cell? ⟨p, 3, none⟩ = some (.slice B3 l.us.length b3) := cellOf hpb 3
            have z4 : wb.cell? ⟨p, 4, none⟩ = some (.slice (some ⟨g, 0, none⟩) (movL l j s).ps.length b4) := cellOf hpb 4
            have z5 : wb.cell? ⟨p, 5, none⟩ = some (.slice B5 l.ws.length b5) := cellOf hpb 5
            have lpb := box_lt hpb
            have hrb := (hcb.below.block _ (box_lt HR1.out)).trans HR1.out
            have y0 := cellOf hrb 0; have v0 := unfrozenOf hrb 0; have y1 := cellOf hrb 1; have v1 := unfrozenOf hrb 1; have y2 := cellOf hrb 2; have v2 := unfrozenOf hrb 2; have y3 := cellOf hrb 3; have v3 := unfrozenOf hrb 3; have y4 := cellOf hrb 4; have v4 := unfrozenOf hrb 4; have y5 := cellOf hrb 5; have v5 := unfrozenOf hrb 5; have lr := box_lt hrb
            have HRb := hide hrb
            have hBb := Below.to HB1.out hcb.below (Nat.le_refl _)
            have HBb := hide hBb
            clear hwb hcb hpb hrb hBb hc hf x4 lp lg yp ys l1 l2
            rw [movL_len] at z4
            go_wp2_with fail
            clear z0 z1 z2 z3 z4 z5 lpb
            generalize hwv : World.setCell _ _ _ = wv
            obtain ⟨hv, hgv⟩ := set6 (HRb.out) hwv
            have hBv : Below w.heap.size w wv := Below.grown (HBb.out) hgv (HBb.out.size) (fun j hj => by injection hj with hj; omega)
            have HBV := hide hBv
            have t0 := cellOf hv 0
            have t1 := cellOf hv 1
            have t2 := cellOf hv 2
            have t3 := cellOf hv 3
            have t4 := cellOf hv 4
            have t5 := cellOf hv 5
            have lv := box_lt hv
            clear hwv hv hBv y0 y1 y2 y3 y4 y5 v0 v1 v2 v3 v4 v5 lr
            refine bodyPost_ret (v := .tuple #[.agg #[.slice B0 l.m.opts.length b0, .slice D l.m.rules.length d, .slice B2 l.ss.length b2, .slice B3 l.us.length b3, .slice (some ⟨g, 0, none⟩) l.ps.length b4, .slice B5 l.ws.length b5], .int .i64 0]) ?_ rfl ⟨B0, D, B2, B3, some ⟨g, 0, none⟩, B5, b0, d, b2, b3, b4, b5, _, _, mov_ret B0 D B2 B3 _ B5 b0 d b2 b3 b4 b5 l j s, (HCB.out.fin (Nat.le_refl _) hgv).base HB1.out.size, HBV.out⟩
            clear hgv
            rw [results_cell_tmp6 rfl]
            go_simp
theorem Move_any (p s : Int) (A0 A1 A2 A3 A4 A5 : Option Addr) (q0 q1 q2 q3 q4 q5 : Nat) (l : Lo) (w : World) (hs : SizedL l) (hfar : farB l = false) (h : LoA w w.heap.size A0 A1 A2 A3 A4 A5 q0 q1 q2 q3 q4 q5 l) :
    Calls Try.prog 41 #[.agg #[.slice A0 l.m.opts.length q0, .slice A1 l.m.rules.length q1, .slice A2 l.ss.length q2, .slice A3 l.us.length q3, .slice A4 l.ps.length q4, .slice A5 l.ws.length q5], .int .i64 p, .int .i64 s] w (MovP (movR l p s) (movE l p s) w) :=
  (MoveO_any p s A0 A1 A2 A3 A4 A5 q0 q1 q2 q3 q4 q5 l w hs hfar h).mono fun e w' => fun ⟨C0, C1, C2, C3, C4, C5, r0, r1, r2, r3, r4, r5, cv, vs, h1, h2, h3⟩ => ⟨C0, C1, C2, C3, C4, C5, r0, r1, r2, r3, r4, r5, h1, h2.loom, h3⟩
end Go.Proofs.Ytmabfnddedffoaa

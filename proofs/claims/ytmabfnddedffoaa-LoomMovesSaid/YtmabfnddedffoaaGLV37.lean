/- Part 37 of this claim's texts: walks and plain laws. -/
import Derived.Test.YtmabfnddedffoaaRows
import Derived.Test.YtmabfnddedffoaaGLV36
import Derived.Deep.RegionHeld3
import Derived.Deep.DrawnRows
import Derived.Test.YtmabfnddedffoaaGLV3
/- A loom copied into rows of its own: walk. -/
namespace Go.Proofs.Ytmabfnddedffoaa
open Go.RowKit
set_option linter.unusedVariables false
set_option linter.unusedSimpArgs false
theorem LoO.base {wr : World} {B B' : Nat} {C0 C1 C2 C3 C4 C5 : Option Addr} {r0 r1 r2 r3 r4 r5 : Nat} {l : Lo} {cv : Nat → Value} {vs : List Value} (h : LoO wr B C0 C1 C2 C3 C4 C5 r0 r1 r2 r3 r4 r5 l cv vs) (hB : B' ≤ B) : LoO wr B' C0 C1 C2 C3 C4 C5 r0 r1 r2 r3 r4 r5 l cv vs :=
  ⟨⟨owns_base h.r.n hB, ⟨h.r.f.len, owns_base h.r.f.own hB, fun i hi => owns_base (h.r.f.row i hi) hB⟩, owns_base h.r.s hB, owns_base h.r.u hB, owns_base h.r.p hB, owns_base h.r.w hB⟩, fun i hi => owns_base (h.x i hi) hB⟩
set_option maxRecDepth 100000 in
set_option maxHeartbeats 8000000 in
theorem CopyO_any (A0 A1 A2 A3 A4 A5 : Option Addr) (q0 q1 q2 q3 q4 q5 : Nat) (l : Lo) (w : World) (hs : SizedL l) (hfar : farB l = false) (h : LoA w w.heap.size A0 A1 A2 A3 A4 A5 q0 q1 q2 q3 q4 q5 l) :
    Calls Try.prog 16 #[.agg #[.slice A0 l.m.opts.length q0, .slice A1 l.m.rules.length q1, .slice A2 l.ss.length q2, .slice A3 l.us.length q3, .slice A4 l.ps.length q4, .slice A5 l.ws.length q5]] w fun e w' => ∃ (C0 C1 C2 C3 C4 C5 : Option Addr) (r0 r1 r2 r3 r4 r5 : Nat), ∃ (cv : Nat → Value) (vs : List Value), e = .returned (.agg #[.slice C0 l.m.opts.length r0, .slice C1 l.m.rules.length r1, .slice C2 l.ss.length r2, .slice C3 l.us.length r3, .slice C4 l.ps.length r4, .slice C5 l.ws.length r5]) ∧ LoO w' w.heap.size C0 C1 C2 C3 C4 C5 r0 r1 r2 r3 r4 r5 l cv vs ∧ Below w.heap.size w w' := by
  obtain ⟨i0, hi0, hz0, hz1, hz2⟩ := info_parts infoSpot
  obtain ⟨i1, hi1, hy0, hy1, hy2⟩ := info_parts infoRun
  obtain ⟨i2, hi2, hx0, hx1, hx2⟩ := info_parts infoPlug
  obtain ⟨i3, hi3, hw0', hw1', hw2'⟩ := info_parts infoWire
  obtain ⟨i4, hi4, jz0, jz1, jz2⟩ := info_parts infoStr
  obtain ⟨i5, hi5, kz0, kz1, kz2⟩ := info_parts infoInt
  have hsm := far_small hfar
  obtain ⟨m0, m1, m2, m3, m4, m5⟩ := hsm
  obtain ⟨cv, hsl, hcy⟩ := h.w
  have HSL := hide hsl
  have HCY := hide hcy
  have H := hide h
  have HS := hide hs
  have HFAR := hide hfar
  clear h hs hsl hcy hfar
  go_enter Try.func16, Try.ntmps16
  go_upto_region 1 with (fail)
  generalize hw0 : World.alloc _ _ = w0
  obtain ⟨hb0, hb1, hB0, hs0⟩ := alloc2 hw0
  have HB0 := hide hB0
  have c0 := cellOf hb0 0; have c1 := cellOf hb0 1; have c2 := cellOf hb0 2; have c3 := cellOf hb0 3; have c4 := cellOf hb0 4; have c5 := cellOf hb0 5
  have hlb := box_lt hb0
  have HX0 : Hid (LoBox w0 w.heap.size A0 A1 A2 A3 A4 A5 q0 q1 q2 q3 q4 q5 l) := hb0
  have HR0 := hide hb1
  have HH := hide (H.out.up hB0)
  have HS0 : Hid (w.heap.size + 1 < w0.heap.size) := by show _ < _; omega
  clear hw0 hb0 hb1 hB0 hs0
  refine wp_region_held_drew (S := (fun w' => Below w0.heap.size w0 w')) (by kernel_rfl) ?_ (fun hHeld => ?_)
  · try dsimp only
    exact (by repeat (first | exact Below.refl _ _ | assumption | refine Below.drew ?_ | refine Below.drewN ?_ _ | refine Below.allocT ?_ (Nat.le_refl _) _ | refine Below.setCell ?_ (by simp <;> omega) _ | refine Below.to ?_ (by assumption) (Nat.le_refl _)))
  refine zT 1 rfl ?_
  try simp only [zX]
  refine zT 2 rfl ?_
  try simp only [zX]
  refine zT 5 rfl ?_
  try simp only [zX]
  refine zT 6 rfl ?_
  try simp only [zX]
  refine zT 9 rfl ?_
  try simp only [zX]
  refine zT 10 rfl ?_
  try simp only [zX]
  refine zT 13 rfl ?_
  try simp only [zX]
  refine zT 14 rfl ?_
  try simp only [zX]
  refine wpAnyH_start [0, 3, 4, 7, 8, 11, 12, 15, 16, 17] (fun j => match j with | 0 => 5 | 3 => 8 | 4 => 9 | 7 => 12 | 8 => 13 | 11 => 16 | 12 => 17 | 15 => 20 | 16 => 21 | 17 => 3 | _ => 0) (copR w0 l cv) 1 rfl (by kernel_rfl) (by kernel_rfl) (by decide) (by decide) (by kernel_rfl) hHeld ?hkeep ?hstep ?hend
  case hkeep => exact fun j _ v w w' hb h => copR_keep j hb h
  case hstep =>
    intro j hj tv w5 hS hd
    have hsz0 : w0.heap.size ≤ w5.heap.size := hS.size
    simp only [List.mem_cons, List.not_mem_nil, or_false] at hj
    rcases hj with rfl | rfl | rfl | rfl | rfl | rfl | rfl | rfl | rfl | rfl
    · refine wpOp_step rfl (fun K hK => ?_)
      generalize hax : putAll _ _ tv _ = ax at hK ⊢
      simp only [putAll, Act.put, List.setIfInBounds_toArray, List.set_cons_zero, List.set_cons_succ] at hax
      rw [← hax]
      go_simp
      exact hK _ _ ⟨⟨_, by rw [← hax]; rfl, by simp; omega, _, rfl, World.ownsRow_made w5 #[] 0 hsz0 (by unfold maxLen; omega) rfl⟩, (by repeat (first | exact Below.refl _ _ | assumption | refine Below.drew ?_ | refine Below.drewN ?_ _ | refine Below.allocT ?_ (Nat.le_refl _) _ | refine Below.setCell ?_ (by simp <;> omega) _ | refine Below.to ?_ (by assumption) (Nat.le_refl _))), (by repeat (first | exact Below.refl _ _ | assumption | refine Below.drew ?_ | refine Below.drewN ?_ _ | refine Below.allocT ?_ (Nat.le_refl _) _ | refine Below.setCell ?_ (by simp <;> omega) _ | refine Below.to ?_ (by assumption) (Nat.le_refl _)))⟩
    · obtain ⟨_, g, hg, hown⟩ := hd 0 (by decide) (by kernel_rfl)
      rw [hg] at hown
      refine wpOp_step rfl (fun K hK => ?_)
      generalize hax : putAll _ _ tv _ = ax at hK ⊢
      simp only [putAll, Act.put, List.setIfInBounds_toArray, List.set_cons_zero, List.set_cons_succ] at hax
      have evs : ax.eval (.tmp 5) = .slice (some ⟨g, 0, none⟩) 0 0 := by rw [← hax]; exact hg
      have ex := congrArg (fun a => Act.eval a (.tmp 7)) hax.symm
      refine step_append_fresh _ (by rfl) (.tmp 5) (.tmp 7) _ (by rfl) w0.heap.size 97 i0 _ 3 24 Try.underlying26 hi0 hz0 hz1 hz2 (by rfl) (by omega) g evs hown w5.heap.size A2 l.ss.length q2 (flat l.ss.length 3 (spF l.ss)) ex (Sl.reads ((Sl.below H.out.s (Below.to HB0.out hS (Nat.le_refl _))).more (by have := HB0.out.size; omega)) (by omega)) (flat_one6 (by omega) (fun i j _ _ => spF_one l.ss i j)) (by unfold maxLen; omega) (by omega) hsz0 ?_
      intro v' w' hown' hB'
      exact hK _ _ ⟨⟨_, rfl, hown'⟩, hB', (by repeat (first | exact Below.refl _ _ | assumption | refine Below.drew ?_ | refine Below.drewN ?_ _ | refine Below.allocT ?_ (Nat.le_refl _) _ | refine Below.setCell ?_ (by simp <;> omega) _ | refine Below.to ?_ (by assumption) (Nat.le_refl _)))⟩
    · refine wpOp_step rfl (fun K hK => ?_)
      generalize hax : putAll _ _ tv _ = ax at hK ⊢
      simp only [putAll, Act.put, List.setIfInBounds_toArray, List.set_cons_zero, List.set_cons_succ] at hax
      rw [← hax]
      go_simp
      exact hK _ _ ⟨⟨_, by rw [← hax]; rfl, by simp; omega, _, rfl, World.ownsRow_made w5 #[] 0 hsz0 (by unfold maxLen; omega) rfl⟩, (by repeat (first | exact Below.refl _ _ | assumption | refine Below.drew ?_ | refine Below.drewN ?_ _ | refine Below.allocT ?_ (Nat.le_refl _) _ | refine Below.setCell ?_ (by simp <;> omega) _ | refine Below.to ?_ (by assumption) (Nat.le_refl _))), (by repeat (first | exact Below.refl _ _ | assumption | refine Below.drew ?_ | refine Below.drewN ?_ _ | refine Below.allocT ?_ (Nat.le_refl _) _ | refine Below.setCell ?_ (by simp <;> omega) _ | refine Below.to ?_ (by assumption) (Nat.le_refl _)))⟩
    · obtain ⟨_, g, hg, hown⟩ := hd 4 (by decide) (by kernel_rfl)
      rw [hg] at hown
      refine wpOp_step rfl (fun K hK => ?_)
      generalize hax : putAll _ _ tv _ = ax at hK ⊢
      simp only [putAll, Act.put, List.setIfInBounds_toArray, List.set_cons_zero, List.set_cons_succ] at hax
      have evs : ax.eval (.tmp 9) = .slice (some ⟨g, 0, none⟩) 0 0 := by rw [← hax]; exact hg
      have ex := congrArg (fun a => Act.eval a (.tmp 11)) hax.symm
      refine step_append_fresh _ (by rfl) (.tmp 9) (.tmp 11) _ (by rfl) w0.heap.size 85 i1 _ 4 32 Try.underlying27 hi1 hy0 hy1 hy2 (by rfl) (by omega) g evs hown w5.heap.size A3 l.us.length q3 (flat l.us.length 4 (ruF l.us)) ex (Sl.reads ((Sl.below H.out.u (Below.to HB0.out hS (Nat.le_refl _))).more (by have := HB0.out.size; omega)) (by omega)) (flat_one6 (by omega) (fun i j _ _ => ruF_one l.us i j)) (by unfold maxLen; omega) (by omega) hsz0 ?_
      intro v' w' hown' hB'
      exact hK _ _ ⟨⟨_, rfl, hown'⟩, hB', (by repeat (first | exact Below.refl _ _ | assumption | refine Below.drew ?_ | refine Below.drewN ?_ _ | refine Below.allocT ?_ (Nat.le_refl _) _ | refine Below.setCell ?_ (by simp <;> omega) _ | refine Below.to ?_ (by assumption) (Nat.le_refl _)))⟩
    · refine wpOp_step rfl (fun K hK => ?_)
      generalize hax : putAll _ _ tv _ = ax at hK ⊢
      simp only [putAll, Act.put, List.setIfInBounds_toArray, List.set_cons_zero, List.set_cons_succ] at hax
      rw [← hax]
      go_simp
      exact hK _ _ ⟨⟨_, by rw [← hax]; rfl, by simp; omega, _, rfl, World.ownsRow_made w5 #[] 0 hsz0 (by unfold maxLen; omega) rfl⟩, (by repeat (first | exact Below.refl _ _ | assumption | refine Below.drew ?_ | refine Below.drewN ?_ _ | refine Below.allocT ?_ (Nat.le_refl _) _ | refine Below.setCell ?_ (by simp <;> omega) _ | refine Below.to ?_ (by assumption) (Nat.le_refl _))), (by repeat (first | exact Below.refl _ _ | assumption | refine Below.drew ?_ | refine Below.drewN ?_ _ | refine Below.allocT ?_ (Nat.le_refl _) _ | refine Below.setCell ?_ (by simp <;> omega) _ | refine Below.to ?_ (by assumption) (Nat.le_refl _)))⟩
    · obtain ⟨_, g, hg, hown⟩ := hd 8 (by decide) (by kernel_rfl)
      rw [hg] at hown
      refine wpOp_step rfl (fun K hK => ?_)
      generalize hax : putAll _ _ tv _ = ax at hK ⊢
      simp only [putAll, Act.put, List.setIfInBounds_toArray, List.set_cons_zero, List.set_cons_succ] at hax
      have evs : ax.eval (.tmp 13) = .slice (some ⟨g, 0, none⟩) 0 0 := by rw [← hax]; exact hg
      have ex := congrArg (fun a => Act.eval a (.tmp 15)) hax.symm
      refine step_append_fresh _ (by rfl) (.tmp 13) (.tmp 15) _ (by rfl) w0.heap.size 63 i2 _ 3 32 Try.underlying28 hi2 hx0 hx1 hx2 (by rfl) (by omega) g evs hown w5.heap.size A4 l.ps.length q4 (flat l.ps.length 3 (plF l.ps)) ex (Sl.reads ((Sl.below H.out.p (Below.to HB0.out hS (Nat.le_refl _))).more (by have := HB0.out.size; omega)) (by omega)) (flat_one6 (by omega) (fun i j _ _ => plF_one l.ps i j)) (by unfold maxLen; omega) (by omega) hsz0 ?_
      intro v' w' hown' hB'
      exact hK _ _ ⟨⟨_, rfl, hown'⟩, hB', (by repeat (first | exact Below.refl _ _ | assumption | refine Below.drew ?_ | refine Below.drewN ?_ _ | refine Below.allocT ?_ (Nat.le_refl _) _ | refine Below.setCell ?_ (by simp <;> omega) _ | refine Below.to ?_ (by assumption) (Nat.le_refl _)))⟩
    · refine wpOp_step rfl (fun K hK => ?_)
      generalize hax : putAll _ _ tv _ = ax at hK ⊢
      simp only [putAll, Act.put, List.setIfInBounds_toArray, List.set_cons_zero, List.set_cons_succ] at hax
      rw [← hax]
      go_simp
      exact hK _ _ ⟨⟨_, by rw [← hax]; rfl, by simp; omega, _, rfl, World.ownsRow_made w5 #[] 0 hsz0 (by unfold maxLen; omega) rfl⟩, (by repeat (first | exact Below.refl _ _ | assumption | refine Below.drew ?_ | refine Below.drewN ?_ _ | refine Below.allocT ?_ (Nat.le_refl _) _ | refine Below.setCell ?_ (by simp <;> omega) _ | refine Below.to ?_ (by assumption) (Nat.le_refl _))), (by repeat (first | exact Below.refl _ _ | assumption | refine Below.drew ?_ | refine Below.drewN ?_ _ | refine Below.allocT ?_ (Nat.le_refl _) _ | refine Below.setCell ?_ (by simp <;> omega) _ | refine Below.to ?_ (by assumption) (Nat.le_refl _)))⟩
    · obtain ⟨_, g, hg, hown⟩ := hd 12 (by decide) (by kernel_rfl)
      rw [hg] at hown
      refine wpOp_step rfl (fun K hK => ?_)
      generalize hax : putAll _ _ tv _ = ax at hK ⊢
      simp only [putAll, Act.put, List.setIfInBounds_toArray, List.set_cons_zero, List.set_cons_succ] at hax
      have evs : ax.eval (.tmp 17) = .slice (some ⟨g, 0, none⟩) 0 0 := by rw [← hax]; exact hg
      have ex := congrArg (fun a => Act.eval a (.tmp 19)) hax.symm
      refine step_append_fresh _ (by rfl) (.tmp 17) (.tmp 19) _ (by rfl) w0.heap.size 68 i3 _ 7 80 Try.underlying29 hi3 hw0' hw1' hw2' (by rfl) (by omega) g evs hown w5.heap.size A5 l.ws.length q5 (flat l.ws.length 7 (wiF l.ws cv)) ex (Sl.reads ((Sl.below HSL.out (Below.to HB0.out hS (Nat.le_refl _))).more (by have := HB0.out.size; omega)) (by omega)) (flat_one6 (by omega) (fun i j hi _ => wiF_one HCY.out hi j)) (by unfold maxLen; omega) (by omega) hsz0 ?_
      intro v' w' hown' hB'
      exact hK _ _ ⟨⟨_, rfl, hown'⟩, hB', (by repeat (first | exact Below.refl _ _ | assumption | refine Below.drew ?_ | refine Below.drewN ?_ _ | refine Below.allocT ?_ (Nat.le_refl _) _ | refine Below.setCell ?_ (by simp <;> omega) _ | refine Below.to ?_ (by assumption) (Nat.le_refl _)))⟩
    · have h3 := hd 3 (by decide) (by kernel_rfl)
      have h7 := hd 7 (by decide) (by kernel_rfl)
      have h11 := hd 11 (by decide) (by kernel_rfl)
      have h15 := hd 15 (by decide) (by kernel_rfl)
      have HD := hide (And.intro h3 (And.intro h7 (And.intro h11 h15)))
      obtain ⟨B3, c3, e3⟩ := owns_form h3
      obtain ⟨B7, c7, e7⟩ := owns_form h7
      obtain ⟨B11, c11, e11⟩ := owns_form h11
      obtain ⟨B15, c15, e15⟩ := owns_form h15
      rw [e3, e7, e11, e15] at HD
      clear hd h3 h7 h11 h15
      refine wpOp_step rfl (fun K hK => ?_)
      generalize hax : putAll _ _ tv _ = ax at hK ⊢
      simp only [putAll, Act.put, List.setIfInBounds_toArray, List.set_cons_zero, List.set_cons_succ, e3, e7, e11, e15] at hax
      rw [← hax]
      go_simp
      exact hK _ _ ⟨⟨_, by rw [← hax]; rfl, _, _, _, _, rfl, HD.out.1, HD.out.2.1, HD.out.2.2.1, HD.out.2.2.2⟩, (by repeat (first | exact Below.refl _ _ | assumption | refine Below.drew ?_ | refine Below.drewN ?_ _ | refine Below.allocT ?_ (Nat.le_refl _) _ | refine Below.setCell ?_ (by simp <;> omega) _ | refine Below.to ?_ (by assumption) (Nat.le_refl _))), (by repeat (first | exact Below.refl _ _ | assumption | refine Below.drew ?_ | refine Below.drewN ?_ _ | refine Below.allocT ?_ (Nat.le_refl _) _ | refine Below.setCell ?_ (by simp <;> omega) _ | refine Below.to ?_ (by assumption) (Nat.le_refl _)))⟩
    · refine wpOp_step rfl (fun K hK => ?_)
      generalize hax : putAll _ _ tv _ = ax at hK ⊢
      simp only [putAll, Act.put, List.setIfInBounds_toArray, List.set_cons_zero, List.set_cons_succ] at hax
      rw [← hax]
      go_simp
      exact hK _ _ ⟨⟨_, by rw [← hax]; rfl, _, rfl, hsz0, heap_alloc_new _ _⟩, (by repeat (first | exact Below.refl _ _ | assumption | refine Below.drew ?_ | refine Below.drewN ?_ _ | refine Below.allocT ?_ (Nat.le_refl _) _ | refine Below.setCell ?_ (by simp <;> omega) _ | refine Below.to ?_ (by assumption) (Nat.le_refl _))), (by repeat (first | exact Below.refl _ _ | assumption | refine Below.drew ?_ | refine Below.drewN ?_ _ | refine Below.allocT ?_ (Nat.le_refl _) _ | refine Below.setCell ?_ (by simp <;> omega) _ | refine Below.to ?_ (by assumption) (Nat.le_refl _)))⟩
  case hend =>
    intro tv w5 hS hR
    obtain ⟨a, b, c, d, h16, ha, hb, hc, hd⟩ := hR 16 (by decide)
    obtain ⟨p, h17, hp, hpb⟩ := hR 17 (by decide)
    clear hR
    obtain ⟨B2, p2, rfl⟩ := owns_form ha
    obtain ⟨B3, p3, rfl⟩ := owns_form hb
    obtain ⟨B4, p4, rfl⟩ := owns_form hc
    obtain ⟨B5, p5, rfl⟩ := owns_form hd
    have x0 : w5.cell? ⟨p, 0, none⟩ = _ := cellOf hpb 0
    have x1 : w5.cell? ⟨p, 1, none⟩ = _ := cellOf hpb 1
    have x2 : w5.cell? ⟨p, 2, none⟩ = _ := cellOf hpb 2
    have x3 : w5.cell? ⟨p, 3, none⟩ = _ := cellOf hpb 3
    have x4 : w5.cell? ⟨p, 4, none⟩ = _ := cellOf hpb 4
    have x5 : w5.cell? ⟨p, 5, none⟩ = _ := cellOf hpb 5
    have y0 := unfrozenOf hpb 0
    have y1 := unfrozenOf hpb 1
    have y2 := unfrozenOf hpb 2
    have y3 := unfrozenOf hpb 3
    have y4 := unfrozenOf hpb 4
    have y5 := unfrozenOf hpb 5
    have HA := hide ha
    have HB := hide hb
    have HC := hide hc
    have HD := hide hd
    have HP := hide hpb
    have HS5 := hide hS
    have hlp := box_lt hpb
    clear ha hb hc hd hpb
    simp only [putAll, Act.put, List.setIfInBounds_toArray, List.set_cons_zero, List.set_cons_succ, h16, h17]
    refine wpAnyH_ready (rs := [18]) (by kernel_rfl) (by simp) ?_
    refine AllReadyH.cons rfl (fun K hK => ?_) AllReadyH.nil
    go_simp
    generalize hwz : World.setCell _ _ _ = wz
    obtain ⟨hz, hgr⟩ := set6 HP.out hwz
    have hSz : Below w0.heap.size w0 wz := Below.grown HS5.out hgr HS5.out.size (fun j hj => by injection hj with hj; omega)
    have HZ := hide hz
    have HSZ := hide hSz
    have HAZ := hide (owns_grown HA.out hgr HP.out (by decide))
    have HBZ := hide (owns_grown HB.out hgr HP.out (by decide))
    have HCZ := hide (owns_grown HC.out hgr HP.out (by decide))
    have HDZ := hide (owns_grown HD.out hgr HP.out (by decide))
    clear hwz hz hgr x0 x1 x2 x3 x4 x5 y0 y1 y2 y3 y4 y5 hlp h16 h17 HA HB HC HD HP HS5 hS
    refine hK.out _ _ hSz (fun hNext => ?_)
    clear hK K hNext hSz
    refine wpAnyH_done (by kernel_rfl) ?_ _
    go_upto_region 2 with (fail)
    have c0 := cellOf (HX0.out.to HSZ.out) 0; have c1 := cellOf (HX0.out.to HSZ.out) 1; have c2 := cellOf (HX0.out.to HSZ.out) 2; have c3 := cellOf (HX0.out.to HSZ.out) 3; have c4 := cellOf (HX0.out.to HSZ.out) 4; have c5 := cellOf (HX0.out.to HSZ.out) 5
    have hlz := box_lt (HX0.out.to HSZ.out)
    have HHZ := hide (HH.out.up HSZ.out)
    have hpz := box_lt HZ.out
    have hw0z : w0.heap.size ≤ wz.heap.size := HSZ.out.size
    have hnp : ¬ w.heap.size = p := by omega
    have hfar := far_rules HFAR.out
    have HFR := hide hfar
    have z0 : wz.cell? ⟨p, 0, none⟩ = _ := cellOf HZ.out 0
    have z1 : wz.cell? ⟨p, 1, none⟩ = _ := cellOf HZ.out 1
    clear hfar
    refine wp_region_held_drew (S := (fun w' => Keeps (fun k => k = p ∨ k = p) wz w')) (by kernel_rfl) ?_ (fun hHeld => ?_)
    · try dsimp only
      (repeat (first | (with_reducible exact Keeps.refl _ _) | exact hKeep.out | exact hKeepS.out _ | assumption | (with_reducible refine Keeps.drew ?_) | (with_reducible refine Keeps.drewN ?_ _) | (with_reducible refine Keeps.alloc ?_ _) | (with_reducible refine Keeps.setCell ?_ (.inl (by first | exact .inl rfl | exact .inr rfl)) _)))
    refine zU 1 rfl ?_
    try simp only [zX]
    refine zU 2 rfl ?_
    try simp only [zX]
    refine zU 3 rfl ?_
    try simp only [zX]
    refine zU 5 rfl ?_
    try simp only [zX]
    refine zU 6 rfl ?_
    try simp only [zX]
    refine zU 7 rfl ?_
    try simp only [zX]
    refine wpAnyH_ready (rs := [0]) (by kernel_rfl) (by simp) ?_
    refine (AllReadyH.cons rfl (fun K hK => ?_) AllReadyH.nil)
    go_simp
    refine hK.out _ _ ?_ (fun hNext => ?_)
    · try dsimp only
      (repeat (first | (with_reducible exact Keeps.refl _ _) | exact hKeep.out | exact hKeepS.out _ | assumption | (with_reducible refine Keeps.drew ?_) | (with_reducible refine Keeps.drewN ?_ _) | (with_reducible refine Keeps.alloc ?_ _) | (with_reducible refine Keeps.setCell ?_ (.inl (by first | exact .inl rfl | exact .inr rfl)) _)))
    clear hK K hHeld
    have hHeld := hNext
    clear hNext
    (try dsimp only at hHeld)
    try simp only [zX]
    refine wpAnyH_ready (rs := [4]) (by kernel_rfl) (by simp) ?_
    refine (AllReadyH.cons rfl (fun K hK => ?_) AllReadyH.nil)
    (refine step_append_fresh _ (by rfl) (.tmp 22) (.tmp 25) _ (by rfl) w0.heap.size 9 i4 _ 1 16 Try.underlying22 hi4 jz0 jz1 jz2 (by rfl) (by omega) wz.heap.size (by rfl) (World.ownsRow_made _ #[] 0 (by first | omega | (simp; omega)) (by unfold maxLen; omega) rfl) wz.heap.size A0 l.m.opts.length q0 (flat l.m.opts.length 1 (nmF l.m.opts)) (by rfl) (Reads.alloc (Sl.reads HHZ.out.m.o (by omega)) (by simp) _) (flat_one6 (by omega) (fun i j _ _ => rfl)) (by unfold maxLen; omega) (by omega) (by simp; omega) ?_; intro v6 w6 hown6 hB6; obtain ⟨B0, p0, hv6⟩ := owns_form hown6; subst hv6; have hN1 : Below wz.heap.size wz w6 := (by repeat (first | exact Below.refl _ _ | assumption | refine Below.drew ?_ | refine Below.drewN ?_ _ | refine Below.allocT ?_ (Nat.le_refl _) _ | refine Below.setCell ?_ (by simp <;> omega) _ | refine Below.to ?_ (by assumption) (Nat.le_refl _))); have HN1 := hide (And.intro hN1 hown6); have hKeep : Hid (Keeps (fun k => k = p ∨ k = p) wz w6) := Keeps.of_below hN1; clear hN1 hown6)
    (try dsimp only)
    refine hK.out _ _ ?_ (fun hNext => ?_)
    · try dsimp only
      (repeat (first | (with_reducible exact Keeps.refl _ _) | exact hKeep.out | exact hKeepS.out _ | assumption | (with_reducible refine Keeps.drew ?_) | (with_reducible refine Keeps.drewN ?_ _) | (with_reducible refine Keeps.alloc ?_ _) | (with_reducible refine Keeps.setCell ?_ (.inl (by first | exact .inl rfl | exact .inr rfl)) _)))
    clear hK K hHeld
    have hHeld := hNext
    clear hNext
    (try dsimp only at hHeld)
    try simp only [zX]
    refine wpAnyH_ready (rs := [8]) (by kernel_rfl) (by simp) ?_
    refine (AllReadyH.cons rfl (fun K hK => ?_) AllReadyH.nil)
    go_simp
    ((go_at_call 51; refine (copyForms_any l.m.rules A1 q1 _ (by omega) (fun f hf => Nat.le_trans (HFR.out f hf) (by omega)) (Forms.up HHZ.out.m.r HN1.out.1)).mono ?_; rintro e w7 ⟨v7, vs, rfl, hF7⟩; obtain ⟨B1, p1, hv7⟩ := owns_form hF7.own; subst hv7; have HF7 := hide hF7; have hB7 := hF7.below; have HN2 := hide (owns_below HN1.out.2 hB7); have HW7 := hide (Below.to HN1.out.1 hB7 (Nat.le_refl _)); clear hKeep; have hKeep : Hid (Keeps (fun k => k = p ∨ k = p) wz w7) := Keeps.of_below HW7.out; have hb7 := heap_below HZ.out HW7.out; have s0 := cellOf hb7 0; have s1 := cellOf hb7 1; have u0 := unfrozenOf hb7 0; have u1 := unfrozenOf hb7 1; have HP7 := hide hb7; clear hb7 hB7 hF7))
    (try dsimp only)
    refine hK.out _ _ ?_ (fun hNext => ?_)
    · try dsimp only
      (repeat (first | (with_reducible exact Keeps.refl _ _) | exact hKeep.out | exact hKeepS.out _ | assumption | (with_reducible refine Keeps.drew ?_) | (with_reducible refine Keeps.drewN ?_ _) | (with_reducible refine Keeps.alloc ?_ _) | (with_reducible refine Keeps.setCell ?_ (.inl (by first | exact .inl rfl | exact .inr rfl)) _)))
    clear hK K hHeld
    have hHeld := hNext
    clear hNext
    (try dsimp only at hHeld)
    try simp only [zX]
    refine zU 9 rfl ?_
    try simp only [zX]
    refine zU 10 rfl ?_
    try simp only [zX]
    refine wpAnyH_ready (rs := [11]) (by kernel_rfl) (by simp) ?_
    refine (AllReadyH.cons rfl (fun K hK => ?_) AllReadyH.nil)
    go_simp
    refine hK.out _ _ ?_ (fun hNext => ?_)
    · try dsimp only
      (repeat (first | (with_reducible exact Keeps.refl _ _) | exact hKeep.out | exact hKeepS.out _ | assumption | (with_reducible refine Keeps.drew ?_) | (with_reducible refine Keeps.drewN ?_ _) | (with_reducible refine Keeps.alloc ?_ _) | (with_reducible refine Keeps.setCell ?_ (.inl (by first | exact .inl rfl | exact .inr rfl)) _)))
    clear hK K hHeld
    have hHeld := hNext
    clear hNext
    (try dsimp only at hHeld)
    try simp only [zX]
    refine wpAnyH_done (by kernel_rfl) ?_ _
    generalize hwy : World.setCell _ _ _ = wy at hHeld ⊢
    obtain ⟨hy, hgy⟩ := set2 HP7.out hwy
    have hB7 := HW7.out
    have hF7 : FoO w7 w0.heap.size (.slice B1 l.m.rules.length p1) l.m.rules vs := ⟨HF7.out.len, owns_base HF7.out.own (Nat.le_trans hw0z HN1.out.1.size), fun i hi => owns_base (HF7.out.row i hi) (Nat.le_trans hw0z HN1.out.1.size)⟩
    have hwy7 : Below w0.heap.size w0 wy := Below.grown (Below.to HSZ.out hB7 (Nat.le_refl _)) hgy (by have := hB7.size; omega) (fun j hj => by injection hj with hj; omega)
    have hwz0 := HSZ.out
    have hdr := owns_grown (owns_below HDZ.out hB7) hgy HP7.out (by decide)
    have hcp : CpN w0 wy w.heap.size (w.heap.size + 1) p B0 B1 B2 B3 B4 B5 p0 p1 p2 p3 p4 p5 l l.m.rules cv vs 0 :=
      ⟨hwy7, hp, HB0.out.size, HS0.out, hy, ⟨owns_grown HN2.out hgy HP7.out (by decide), hF7.grown hgy HP7.out (by decide) (by decide), owns_grown (owns_below HAZ.out hB7) hgy HP7.out (by decide), owns_grown (owns_below HBZ.out hB7) hgy HP7.out (by decide),
        owns_grown (owns_below HCZ.out hB7) hgy HP7.out (by decide), hdr⟩, fun i hi hik => by omega, fun i hi _ => Sl.below (HCY.out i hi) (Below.to HB0.out hwy7 (Nat.le_refl _))⟩
    have HCP := hide hcp
    clear hwy hy hgy hB7 hF7 hwy7 hwz0 hdr hcp c0 c1 c2 c3 c4 c5 z0 z1 s0 s1 u0 u1 hHeld hlz hpz
    go_upto_region 3 with (fail)
    go_wp2_with fail
    go_loopw [4] (fun i wr => ∃ (k : Nat) (cv : Nat → Value), i = .int .i64 k ∧ k ≤ l.ws.length ∧ Hid (CpN w0 wr w.heap.size (w.heap.size + 1) p B0 B1 B2 B3 B4 B5 p0 p1 p2 p3 p4 p5 l l.m.rules cv vs k)) (fun i _ => l.ws.length - (intOf i).toNat)
    case atStart => exact ⟨0, cv, rfl, Nat.zero_le _, HCP.out⟩
    case round =>
      obtain ⟨k, cw, rfl, hk, R⟩ := hrel
      have x0 : wr.cell? ⟨p, 0, none⟩ = _ := cellOf R.out.box 0
      have x1 : wr.cell? ⟨p, 1, none⟩ = _ := cellOf R.out.box 1
      have x2 : wr.cell? ⟨p, 2, none⟩ = _ := cellOf R.out.box 2
      have x3 : wr.cell? ⟨p, 3, none⟩ = _ := cellOf R.out.box 3
      have x4 : wr.cell? ⟨p, 4, none⟩ = _ := cellOf R.out.box 4
      have x5 : wr.cell? ⟨p, 5, none⟩ = _ := cellOf R.out.box 5
      have lp := box_lt R.out.box
      by_cases hkl : k < l.ws.length
      · obtain ⟨g, cap, cur, hv, hgb, hgh, hnc, hcm, hcs, htk⟩ : ∃ g cap cur, Value.slice B5 l.ws.length p5 = .slice (some ⟨g, 0, none⟩) l.ws.length cap ∧ w0.heap.size ≤ g ∧ wr.heap[g]? = some (.cells cur 68 (0, 0)) ∧ l.ws.length ≤ cap ∧ cap ≤ maxLen ∧ cur.size = cap * 7 ∧ cur.toList.take (l.ws.length * 7) = flat l.ws.length 7 (wiF l.ws cw) := by
          rcases R.out.r.w.2 with ⟨_, h0⟩ | h
          · omega
          · exact h
        injection hv with e1 e2 e3
        subst e1 e3
        have hcx := R.out.ints hkl
        have hfl := far_forms HFAR.out (l.ws.getD k Wi.o) (getD_mem3f hkl)
        obtain ⟨f, hfe⟩ : ∃ f, (l.ws.getD k Wi.o).form = f := ⟨_, rfl⟩
        rw [hfe] at hcx hfl
        obtain ⟨Af, qf, ev⟩ := Sl.form hcx
        have g6 : wr.cell? ⟨g, k * 7 + 6, none⟩ = some (.slice Af f.length qf) := by
          rw [R.out.r.w.cellAt (k * 7 + 6) (idx_lt hkl (by omega)), flat_get hkl (by omega)]
          show some (cw k) = _
          rw [ev]
        have fz := R.out.r.w.frozenAt (k * 7 + 6)
        have HCX := hide (hcx.flat6' _ _ _ ev)
        have hgp : ¬ p = g := fun e => by
          subst e
          have := R.out.box.symm.trans hgh
          injection this with this
          injection this with _ this
          exact absurd this (by decide)
        have hlg := box_lt hgh
        have ik0 : (0 : Int) ≤ (k : Int) := by omega
        have ik : (k : Int) < (l.ws.length : Int) := by omega
        have HFE := hide hfe
        have HGH := hide hgh
        have HAV := hide ev
        clear hcx ev hfe hgh htk hcs
        go_wp2_with fail
        refine wp_region_held_drew (S := (fun w' => Keeps (fun j => j = g ∨ j = g) wr w')) (by kernel_rfl) ?_ (fun hHeld => ?_)
        · try dsimp only
          (repeat (first | (with_reducible exact Keeps.refl _ _) | exact hKeep.out | exact hKeepS.out _ | assumption | (with_reducible refine Keeps.drew ?_) | (with_reducible refine Keeps.drewN ?_ _) | (with_reducible refine Keeps.alloc ?_ _) | (with_reducible refine Keeps.setCell ?_ (.inl (by first | exact .inl rfl | exact .inr rfl)) _)))
        refine zU 0 rfl ?_
        try simp only [zX]
        refine zU 1 rfl ?_
        try simp only [zX]
        refine zU 2 rfl ?_
        try simp only [zX]
        refine zU 4 rfl ?_
        try simp only [zX]
        refine zU 5 rfl ?_
        try simp only [zX]
        refine zU 6 rfl ?_
        try simp only [zX]
        refine zU 7 rfl ?_
        try simp only [zX]
        refine zU 8 rfl ?_
        try simp only [zX]
        refine wpAnyH_ready (rs := [3, 9]) (by kernel_rfl) (by simp) ?_
        refine (AllReadyH.cons rfl (fun K hK => ?o2_9_3) (AllReadyH.cons rfl (fun K hK => ?o2_9_9) AllReadyH.nil))
        case' o2_9_3 =>
          go_simp
          refine hK.out _ _ ?_ (fun hNext => ?_)
          · try dsimp only
            (repeat (first | (with_reducible exact Keeps.refl _ _) | exact hKeep.out | exact hKeepS.out _ | assumption | (with_reducible refine Keeps.drew ?_) | (with_reducible refine Keeps.drewN ?_ _) | (with_reducible refine Keeps.alloc ?_ _) | (with_reducible refine Keeps.setCell ?_ (.inl (by first | exact .inl rfl | exact .inr rfl)) _)))
          clear hK K hHeld
          have hHeld := hNext
          clear hNext
          (try dsimp only at hHeld)
          try simp only [zX]
          refine wpAnyH_ready (rs := [9]) (by kernel_rfl) (by simp) ?_
          refine (AllReadyH.cons rfl (fun K hK => ?_) AllReadyH.nil)
          go_simp
          refine hK.out _ _ ?_ (fun hNext => ?_)
          · try dsimp only
            (repeat (first | (with_reducible exact Keeps.refl _ _) | exact hKeep.out | exact hKeepS.out _ | assumption | (with_reducible refine Keeps.drew ?_) | (with_reducible refine Keeps.drewN ?_ _) | (with_reducible refine Keeps.alloc ?_ _) | (with_reducible refine Keeps.setCell ?_ (.inl (by first | exact .inl rfl | exact .inr rfl)) _)))
          clear hK K hHeld
          have hHeld := hNext
          clear hNext
          (try dsimp only at hHeld)
          try simp only [zX]
          refine wpAnyH_ready (rs := [10]) (by kernel_rfl) (by simp) ?_
          refine (AllReadyH.cons rfl (fun K hK => ?_) AllReadyH.nil)
          (refine step_append_fresh _ (by rfl) (.tmp 43) (.tmp 49) _ (by rfl) w0.heap.size 3 i5 _ 1 8 Try.underlying66 hi5 kz0 kz1 kz2 (by rfl) (by omega) wr.heap.size (by rfl) (World.ownsRow_made _ #[] 0 (by have := R.out.below.size; first | omega | (simp; omega)) (by unfold maxLen; omega) rfl) wr.heap.size Af f.length qf (f.map (Value.int .i64)) (by rfl) (Reads.below HCX.out (by repeat (first | exact Below.refl _ _ | assumption | refine Below.drew ?_ | refine Below.drewN ?_ _ | refine Below.allocT ?_ (Nat.le_refl _) _ | refine Below.setCell ?_ (by simp <;> omega) _ | refine Below.to ?_ (by assumption) (Nat.le_refl _)))) one_ints6 (by unfold maxLen; omega) (by omega) (by have := R.out.below.size; simp; omega) ?_; intro v6 w6 hown6 hB6; obtain ⟨B6, p6, hv6⟩ := owns_form hown6; subst hv6; have hN1 : Below wr.heap.size wr w6 := (by repeat (first | exact Below.refl _ _ | assumption | refine Below.drew ?_ | refine Below.drewN ?_ _ | refine Below.allocT ?_ (Nat.le_refl _) _ | refine Below.setCell ?_ (by simp <;> omega) _ | refine Below.to ?_ (by assumption) (Nat.le_refl _))); have HB6 := hide hN1; have HO6 := hide hown6; have hKeep : Hid (Keeps (fun j => j = g ∨ j = g) wr w6) := Keeps.of_below hN1; have hg6 := heap_below HGH.out hN1; have s6 : w6.cell? ⟨g, k * 7 + 6, none⟩ = _ := (hN1.cell (p := ⟨g, k * 7 + 6, none⟩) hlg).trans g6; have u6 := unfrozenOf hg6 (k * 7 + 6); clear hN1 hown6 hg6)
          (try dsimp only)
          refine hK.out _ _ ?_ (fun hNext => ?_)
          · try dsimp only
            (repeat (first | (with_reducible exact Keeps.refl _ _) | exact hKeep.out | exact hKeepS.out _ | assumption | (with_reducible refine Keeps.drew ?_) | (with_reducible refine Keeps.drewN ?_ _) | (with_reducible refine Keeps.alloc ?_ _) | (with_reducible refine Keeps.setCell ?_ (.inl (by first | exact .inl rfl | exact .inr rfl)) _)))
          clear hK K hHeld
          have hHeld := hNext
          clear hNext
          (try dsimp only at hHeld)
          try simp only [zX]
          refine zU 11 rfl ?_
          try simp only [zX]
          refine zU 12 rfl ?_
          try simp only [zX]
          refine wpAnyH_ready (rs := [13]) (by kernel_rfl) (by simp) ?_
          refine (AllReadyH.cons rfl (fun K hK => ?_) AllReadyH.nil)
          go_simp
          refine hK.out _ _ ?_ (fun hNext => ?_)
          · try dsimp only
            (repeat (first | (with_reducible exact Keeps.refl _ _) | exact hKeep.out | exact hKeepS.out _ | assumption | (with_reducible refine Keeps.drew ?_) | (with_reducible refine Keeps.drewN ?_ _) | (with_reducible refine Keeps.alloc ?_ _) | (with_reducible refine Keeps.setCell ?_ (.inl (by first | exact .inl rfl | exact .inr rfl)) _)))
          clear hK K hHeld
          have hHeld := hNext
          clear hNext
          (try dsimp only at hHeld)
          try simp only [zX]
          refine wpAnyH_done (by kernel_rfl) ?_ _
        case' o2_9_9 =>
          go_simp
          refine hK.out _ _ ?_ (fun hNext => ?_)
          · try dsimp only
            (repeat (first | (with_reducible exact Keeps.refl _ _) | exact hKeep.out | exact hKeepS.out _ | assumption | (with_reducible refine Keeps.drew ?_) | (with_reducible refine Keeps.drewN ?_ _) | (with_reducible refine Keeps.alloc ?_ _) | (with_reducible refine Keeps.setCell ?_ (.inl (by first | exact .inl rfl | exact .inr rfl)) _)))
          clear hK K hHeld
          have hHeld := hNext
          clear hNext
          (try dsimp only at hHeld)
          try simp only [zX]
          refine wpAnyH_ready (rs := [3]) (by kernel_rfl) (by simp) ?_
          refine (AllReadyH.cons rfl (fun K hK => ?_) AllReadyH.nil)
          go_simp
          refine hK.out _ _ ?_ (fun hNext => ?_)
          · try dsimp only
            (repeat (first | (with_reducible exact Keeps.refl _ _) | exact hKeep.out | exact hKeepS.out _ | assumption | (with_reducible refine Keeps.drew ?_) | (with_reducible refine Keeps.drewN ?_ _) | (with_reducible refine Keeps.alloc ?_ _) | (with_reducible refine Keeps.setCell ?_ (.inl (by first | exact .inl rfl | exact .inr rfl)) _)))
          clear hK K hHeld
          have hHeld := hNext
          clear hNext
          (try dsimp only at hHeld)
          try simp only [zX]
          refine wpAnyH_ready (rs := [10]) (by kernel_rfl) (by simp) ?_
          refine (AllReadyH.cons rfl (fun K hK => ?_) AllReadyH.nil)
          (refine step_append_fresh _ (by rfl) (.tmp 43) (.tmp 49) _ (by rfl) w0.heap.size 3 i5 _ 1 8 Try.underlying66 hi5 kz0 kz1 kz2 (by rfl) (by omega) wr.heap.size (by rfl) (World.ownsRow_made _ #[] 0 (by have := R.out.below.size; first | omega | (simp; omega)) (by unfold maxLen; omega) rfl) wr.heap.size Af f.length qf (f.map (Value.int .i64)) (by rfl) (Reads.below HCX.out (by repeat (first | exact Below.refl _ _ | assumption | refine Below.drew ?_ | refine Below.drewN ?_ _ | refine Below.allocT ?_ (Nat.le_refl _) _ | refine Below.setCell ?_ (by simp <;> omega) _ | refine Below.to ?_ (by assumption) (Nat.le_refl _)))) one_ints6 (by unfold maxLen; omega) (by omega) (by have := R.out.below.size; simp; omega) ?_; intro v6 w6 hown6 hB6; obtain ⟨B6, p6, hv6⟩ := owns_form hown6; subst hv6; have hN1 : Below wr.heap.size wr w6 := (by repeat (first | exact Below.refl _ _ | assumption | refine Below.drew ?_ | refine Below.drewN ?_ _ | refine Below.allocT ?_ (Nat.le_refl _) _ | refine Below.setCell ?_ (by simp <;> omega) _ | refine Below.to ?_ (by assumption) (Nat.le_refl _))); have HB6 := hide hN1; have HO6 := hide hown6; have hKeep : Hid (Keeps (fun j => j = g ∨ j = g) wr w6) := Keeps.of_below hN1; have hg6 := heap_below HGH.out hN1; have s6 : w6.cell? ⟨g, k * 7 + 6, none⟩ = _ := (hN1.cell (p := ⟨g, k * 7 + 6, none⟩) hlg).trans g6; have u6 := unfrozenOf hg6 (k * 7 + 6); clear hN1 hown6 hg6)
          (try dsimp only)
          refine hK.out _ _ ?_ (fun hNext => ?_)
          · try dsimp only
            (repeat (first | (with_reducible exact Keeps.refl _ _) | exact hKeep.out | exact hKeepS.out _ | assumption | (with_reducible refine Keeps.drew ?_) | (with_reducible refine Keeps.drewN ?_ _) | (with_reducible refine Keeps.alloc ?_ _) | (with_reducible refine Keeps.setCell ?_ (.inl (by first | exact .inl rfl | exact .inr rfl)) _)))
          clear hK K hHeld
          have hHeld := hNext
          clear hNext
          (try dsimp only at hHeld)
          try simp only [zX]
          refine zU 11 rfl ?_
          try simp only [zX]
          refine zU 12 rfl ?_
          try simp only [zX]
          refine wpAnyH_ready (rs := [13]) (by kernel_rfl) (by simp) ?_
          refine (AllReadyH.cons rfl (fun K hK => ?_) AllReadyH.nil)
          go_simp
          refine hK.out _ _ ?_ (fun hNext => ?_)
          · try dsimp only
            (repeat (first | (with_reducible exact Keeps.refl _ _) | exact hKeep.out | exact hKeepS.out _ | assumption | (with_reducible refine Keeps.drew ?_) | (with_reducible refine Keeps.drewN ?_ _) | (with_reducible refine Keeps.alloc ?_ _) | (with_reducible refine Keeps.setCell ?_ (.inl (by first | exact .inl rfl | exact .inr rfl)) _)))
          clear hK K hHeld
          have hHeld := hNext
          clear hNext
          (try dsimp only at hHeld)
          try simp only [zX]
          refine wpAnyH_done (by kernel_rfl) ?_ _
        all_goals
          generalize hwy : World.setCell _ _ _ = wy at hHeld ⊢
          have hst := CpN.store (R.out.to HB6.out) hkl (v := .slice B6 f.length p6) (by rw [HFE.out]; exact HO6.out)
          rw [hwy] at hst
          have HST := hide hst
          clear hwy hst s6 u6 hHeld x0 x1 x2 x3 x4 x5
          go_wp2_with fail
          go_roundw
          case rel => exact ⟨k + 1, _, by go_num, by omega, HST.out⟩
          case measure => simp [intOf]; omega
      · have hke : k = l.ws.length := by omega
        subst hke
        have hBF := Below.to HB0.out R.out.below (Nat.le_refl _)
        have HBF := hide hBF
        have hrb := (R.out.below.block _ (box_lt HR0.out)).trans HR0.out
        have y0 := cellOf hrb 0
        have y1 := cellOf hrb 1
        have y2 := cellOf hrb 2
        have y3 := cellOf hrb 3
        have y4 := cellOf hrb 4
        have y5 := cellOf hrb 5
        have v0 := unfrozenOf hrb 0
        have v1 := unfrozenOf hrb 1
        have v2 := unfrozenOf hrb 2
        have v3 := unfrozenOf hrb 3
        have v4 := unfrozenOf hrb 4
        have v5 := unfrozenOf hrb 5
        have lr := box_lt hrb
        have HRB := hide hrb
        have hwl : w.heap.size < w0.heap.size := hlb
        clear hBF hrb
        go_wp2_with fail
        generalize hwv : World.setCell _ _ _ = wv
        obtain ⟨hv, hgv⟩ := set6 HRB.out hwv
        have hlo := LoO.base (R.out.fin (Nat.le_refl _) hgv) HB0.out.size
        have hBv : Below w.heap.size w wv := Below.grown HBF.out hgv HBF.out.size (fun j hj => by injection hj with hj; omega)
        have HLV := hide hlo
        have HBV := hide hBv
        have t0 := cellOf hv 0
        have t1 := cellOf hv 1
        have t2 := cellOf hv 2
        have t3 := cellOf hv 3
        have t4 := cellOf hv 4
        have t5 := cellOf hv 5
        have lv := box_lt hv
        clear hwv hv hgv hlo hBv x0 x1 x2 x3 x4 x5 y0 y1 y2 y3 y4 y5 v0 v1 v2 v3 v4 v5
        refine bodyPost_ret (v := .agg #[.slice B0 l.m.opts.length p0, .slice B1 l.m.rules.length p1, .slice B2 l.ss.length p2, .slice B3 l.us.length p3, .slice B4 l.ps.length p4, .slice B5 l.ws.length p5]) ?_ rfl ⟨_, _, _, _, _, _, _, _, _, _, _, _, _, _, rfl, HLV.out, HBV.out⟩
        rw [results_cell1 rfl]
        go_simp
end Go.Proofs.Ytmabfnddedffoaa

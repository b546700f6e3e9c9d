/- What is wrong with feeders: the reference's walk. -/
import Derived.Test.YtejjjijaojkohaaRows
import Derived.Test.YtejjjijaojkohaaW39
import Derived.Test.YtejjjijaojkohaaW35
import Derived.Test.YtejjjijaojkohaaW21
import Derived.Test.YtejjjijaojkohaaW17
import Derived.Deep.CutRange
import Derived.Deep.RegionHeld3
import Derived.Deep.DrawnRows
namespace Go.Proofs.Ytejjjijaojkohaa
open Go.RowKit
set_option linter.unusedVariables false
set_option linter.unusedSimpArgs false
attribute [local go_sem ↓] Go.wp_at_zero Go.wp_at_succ

/-- What a round of the reference's Weak holds. -/
structure WkRf (B xb gb fb : Nat) (f : Fe) (g : Ga) (u : Fu) (C : Option Addr) (cp : Nat) (gv fv ev : Value) (W : World) : Prop where
  x : W.heap[xb]? = some (.cells #[.int .i64 f.par, .int .i64 f.gauge, .int .i64 f.fuse, .slice C f.cs.length cp, .int .i64 f.n.len, .int .i64 f.n.drop, .int .i64 f.n.amb] 74 (0, 0))
  gg : GaugeAt W gb g
  ff : FuseAt W fb u
  wi : WiAt W B gv fv ev
  cy : Cyc W B (.slice C f.cs.length cp) f.cs
theorem WkRf.keep {B xb gb fb ab : Nat} {f : Fe} {g : Ga} {u : Fu} {C : Option Addr} {cp : Nat} {gv fv ev : Value} {W W' : World} (h : WkRf B xb gb fb f g u C cp gv fv ev W) (hk : W.grownBy W' (some ab)) (hB : B < ab) (h2 : xb < ab) (h3 : gb < ab) (h4 : fb < ab) :
    WkRf B xb gb fb f g u C cp gv fv ev W' := by
  have hb : ∀ k, k < W.heap.size → k < ab → W'.heap[k]? = W.heap[k]? := fun k hk' hlt => hk.block k hk' (fun e => by injection e with e; omega)
  exact ⟨(hb _ (box_lt h.x) h2).trans h.x, (hb _ (box_lt h.gg) h3).trans h.gg, (hb _ (box_lt h.ff) h4).trans h.ff, (hb _ (box_lt h.wi) hB).trans h.wi,
    Sl.keep h.cy fun b o hb' => World.cell?_of_block (a := ⟨b, o, none⟩) (hb b (by have := box_lt h.wi; omega) (by omega))⟩
theorem WkRf.cells {B xb gb fb : Nat} {f : Fe} {g : Ga} {u : Fu} {C : Option Addr} {cp : Nat} {gv fv ev : Value} {W : World} (h : WkRf B xb gb fb f g u C cp gv fv ev W) :
    W.cell? ⟨xb, 0, none⟩ = some (.int .i64 f.par) ∧ W.cell? ⟨xb, 3, none⟩ = some (.slice C f.cs.length cp) ∧ W.cell? ⟨xb, 4, none⟩ = some (.int .i64 f.n.len) ∧ W.cell? ⟨xb, 5, none⟩ = some (.int .i64 f.n.drop) ∧ W.cell? ⟨xb, 6, none⟩ = some (.int .i64 f.n.amb) ∧
    W.cell? ⟨gb, 0, none⟩ = some (.int .i64 g.area) ∧ W.cell? ⟨gb, 1, none⟩ = some (.int .i64 g.ohm) ∧ W.cell? ⟨gb, 2, none⟩ = some (.int .i64 g.heat) ∧ W.cell? ⟨gb, 3, none⟩ = some (.int .i64 g.cool) ∧ W.cell? ⟨gb, 4, none⟩ = some (.int .i64 g.limit) ∧
    W.cell? ⟨fb, 0, none⟩ = some (.int .i64 u.rating) ∧ W.cell? ⟨fb, 1, none⟩ = some (.int .i64 u.melt) ∧ W.cell? ⟨B, 1, none⟩ = some fv ∧ W.cell? ⟨B, 2, none⟩ = some ev :=
  ⟨cellOf h.x 0, cellOf h.x 3, cellOf h.x 4, cellOf h.x 5, cellOf h.x 6, cellOf h.gg 0, cellOf h.gg 1, cellOf h.gg 2, cellOf h.gg 3, cellOf h.gg 4, cellOf h.ff 0, cellOf h.ff 1, cellOf h.wi 1, cellOf h.wi 2⟩
def badO (c1 c2 c3 c4 c5 : Bool) : Obj := .cells #[.bool false, .bool c1, .bool c2, .bool c3, .bool c4, .bool c5] 108 (0, 0)
def badB (c1 c2 c3 c4 c5 : Bool) : Nat → Bool
  | 0 => c1
  | 1 => c2
  | 2 => c3
  | 3 => c4
  | _ => c5
def badL (k : Int) (p : Nat → Bool) : Nat → List (Int × Int)
  | 0 => []
  | m + 1 => badL k p m ++ putL (p m) k ((m : Int) + 1)
theorem badL_le (k : Int) (p : Nat → Bool) : ∀ m, (badL k p m).length ≤ m
  | 0 => by simp [badL]
  | m + 1 => by
    have := badL_le k p m
    have := putL_le (p m) k ((m : Int) + 1)
    simp only [badL, List.length_append]
    omega
theorem grown_grown {a b c : World} {g : Nat} (h : a.grownBy b (some g)) (k : b.grownBy c (some g)) : a.grownBy c (some g) := only_trans h k
/-- The upper feeder's two weaknesses. -/
noncomputable def upB4 (fs : List Fu) (es : List Fe) (u : Fu) (par : Int) : Bool := if par < 0 then false else decide (0 ≤ leastI (selB u (fs.getD (es.getD par.toNat Fe.z).fuse.toNat Fu.z)))
noncomputable def upB5 (es : List Fe) (cs : List Cu) (par : Int) : Bool := if par < 0 then false else decide (gtI (es.getD par.toNat Fe.z).cs < gtI cs)

set_option maxRecDepth 100000 in
set_option maxHeartbeats 8000000 in
theorem rWeak_any (gs : List Ga) (fs : List Fu) (es : List Fe) (gv fv ev : Value) (w : World) (hz : WSz gs fs es) (h : Wir w w.heap.size gv fv ev gs fs es) :
    Calls Try.prog 40 #[.agg #[gv, fv, ev]] w fun e w' => (∃ v', e = .returned (.tuple #[v', .int .i64 (chkErr gs fs es)]) ∧ WkSl w' v' (weakLs gs fs es)) ∧ Below w.heap.size w w' := by
  obtain ⟨i0, hi0, hz0, hz1, hz2⟩ := info_parts infoWk
  have H := hide h
  obtain ⟨A0, b0, off0, cap0, rfl, hnc0, hA0, hc0⟩ := h.g
  obtain ⟨A1, b1, off1, cap1, rfl, hnc1, hA1, hc1⟩ := h.f
  obtain ⟨cv, hsl, hcy⟩ := h.e
  obtain ⟨A, b, off, cap, rfl, hnc, hA, hc⟩ := hsl
  have HC := hide hc
  have HA := hide hA
  have HC0 := hide hc0
  have HA0 := hide hA0
  have HC1 := hide hc1
  have HA1 := hide hA1
  have HCY := hide hcy
  have HZ_ := hide hz
  have hg30 := hz.g
  have hf30 := hz.f
  have he30 := hz.e
  clear h hc hA hc0 hA0 hc1 hA1 hcy hz
  obtain ⟨u, hu⟩ : ∃ u, chkErr gs fs es = u := ⟨_, rfl⟩
  have HU := hide hu
  clear hu
  go_enter Try.func40, Try.ntmps40
  go_wp2_with fail
  generalize hw0 : World.alloc _ _ = w0
  obtain ⟨hb0, hB0, hs0⟩ := alloc1 hw0
  clear hw0
  have HWI : Hid (WiAt w0 w.heap.size (.slice A0 gs.length cap0) (.slice A1 fs.length cap1) (.slice A es.length cap)) := hb0
  have HB0 := hide hB0
  clear hb0 hs0 hB0
  refine (rCheck_any gs fs es _ _ _ _ HZ_.out ((H.out.below HB0.out).more HB0.out.size)).mono ?_
  rw [HU.out]
  rintro e w1 ⟨rfl, hB1⟩
  have HB1 := hide hB1
  clear hB1
  have HBw : Hid (Below w.heap.size w w1) := Below.to HB0.out HB1.out (Nat.le_refl _)
  by_cases hu0 : u = 0
  · have HOK : Hid (WOk gs fs es) := chk_iff.1 (HU.out.trans hu0)
    have HLS : Hid (weakLs gs fs es = wkAll gs fs es es.length) := by show _ = _; unfold weakLs; rw [HU.out, hu0]; rfl
    subst hu0
    have hg20 := HOK.out.g20
    have hf20 := HOK.out.f20
    have he20 := HOK.out.e20
    have hl1 : w.heap.size < w1.heap.size := by have := box_lt HWI.out; have := HB1.out.size; omega
    have HWI1 : Hid (WiAt w1 w.heap.size (.slice A0 gs.length cap0) (.slice A1 fs.length cap1) (.slice A es.length cap)) := heap_below HWI.out HB1.out
    go_wp2_with fail
    go_loopw [5, 6] (fun v i wr => ∃ k : Nat, k ≤ es.length ∧ i = .int .i64 k ∧ Hid (wr.ownsRow w1.heap.size 71 2 v (wkAll gs fs es k).length (weakV (wkAll gs fs es k))) ∧ Hid (Below w1.heap.size w1 wr)) (fun _ i _ => es.length - (intOf i).toNat)
    case atStart => exact ⟨0, Nat.zero_le _, rfl, World.ownsRow_nil _ _ _ _, Below.refl _ _⟩
    case round =>
      obtain ⟨k, hk, rfl, hO, hK⟩ := hrel
      obtain ⟨Av, cpv, rfl⟩ := owns_form hO.out
      have HBq : Hid (Below w.heap.size w wr) := Below.to HBw.out hK.out (Nat.le_refl _)
      have HWIr : Hid (WiAt wr w.heap.size (.slice A0 gs.length cap0) (.slice A1 fs.length cap1) (.slice A es.length cap)) := heap_below HWI1.out hK.out
      obtain ⟨k0, k1, k2, _⟩ := wi3 HWIr.out (Below.refl _ wr)
      by_cases hlt : k < es.length
      · obtain ⟨f, C, cp, HZ, hA1, hbw, h0, h1, h2, h3, h4, h5, h6, hy⟩ := feAtB HBq.out HA.out HC.out HCY.out hlt
        subst hA1
        have hfo := HOK.out.at hlt HZ.out
        obtain ⟨fp, fg, ff, fn, fcs⟩ := f
        dsimp only at h0 h1 h2 h3 h4 h5 h6
        have hpar0 := hfo.par0
        have hpar1 := hfo.par1
        obtain ⟨gi, hgi⟩ : ∃ gi : Nat, fg = gi := ⟨fg.toNat, by have : 0 ≤ fg := hfo.ga0; omega⟩
        obtain ⟨fi, hfi⟩ : ∃ fi : Nat, ff = fi := ⟨ff.toNat, by have : 0 ≤ ff := hfo.fu0; omega⟩
        subst hgi hfi
        have hgl : gi < gs.length := by have := hfo.ga1; dsimp only at this; omega
        have hfl : fi < fs.length := by have := hfo.fu1; dsimp only at this; omega
        have HN := hide hfo.need
        dsimp only at HN hpar0 hpar1
        clear hfo
        go_upto_region 9 with (fail)
        generalize hw5 : World.alloc _ _ = w5
        obtain ⟨hb6, hB5, hs5⟩ := alloc1 hw5
        clear hw5 h0 h1 h2 h3 h4 h5 h6 k0 k1 k2
        have HX5 := hide hb6
        have HB5 := hide hB5
        have HBw5 : Hid (Below w.heap.size w w5) := Below.to HBq.out hB5 (Nat.le_refl _)
        have HWI5 : Hid (WiAt w5 w.heap.size (.slice A0 gs.length cap0) (.slice A1 fs.length cap1) (.slice (some ⟨b, off, none⟩) es.length cap)) := heap_below HWIr.out hB5
        have HO5 := hide (owns_below hO.out hB5)
        obtain ⟨g, HZg, hA01, hbw0, g0, g1, g2, g3, g4⟩ := gaAtB HBw5.out HA0.out HC0.out hgl
        obtain ⟨u, HZu, hA11, hbw1, u0, u1⟩ := fuAtB HBw5.out HA1.out HC1.out hfl
        subst hA01 hA11
        have hls : w.heap.size < w5.heap.size := box_lt HWI5.out
        have hlb0 : b0 < w5.heap.size := by omega
        have hlb1 : b1 < w5.heap.size := by omega
        have hl5 : wr.heap.size < w5.heap.size := by omega
        have hl6 : wr.heap.size < w5.heap.size := by omega
        obtain ⟨k0, k1, k2, _⟩ := wi3 HWI5.out (Below.refl _ w5)
        have x1 := cellOf hb6 1
        have x2 := cellOf hb6 2
        have hig0 : (0 : Int) ≤ (gi : Int) := by omega
        have hig1 : (gi : Int) < (gs.length : Int) := by omega
        have hif0 : (0 : Int) ≤ (fi : Int) := by omega
        have hif1 : (fi : Int) < (fs.length : Int) := by omega
        have HL5 : Hid (w5.heap.size = wr.heap.size + 1) := hs5
        clear hs5 hb6 hB5
        go_cut [8, 9] from 30 to 105 (fun gp fp wc => ∃ gb fb, gp = .pointer (some ⟨gb, 0, none⟩) ∧ fp = .pointer (some ⟨fb, 0, none⟩) ∧ Hid (w5.heap.size ≤ gb ∧ w5.heap.size ≤ fb ∧ GaugeAt wc gb g ∧ FuseAt wc fb u ∧ Below w5.heap.size w5 wc))
        case first =>
          refine wp_region_held_drew (S := (fun w' => Below w5.heap.size w5 w')) (by kernel_rfl) ?_ (fun hHeld => ?_)
          · try dsimp only
            exact (by repeat (first | exact Below.refl _ _ | assumption | refine Below.drew ?_ | refine Below.drewN ?_ _ | refine Below.allocT ?_ (Nat.le_refl _) _ | refine Below.setCell ?_ (by simp <;> omega) _ | refine Below.to ?_ (by assumption) (Nat.le_refl _)))
          refine wpAnyH_take (i := 0) (v := ?v3_0) rfl (by kernel_rfl) (by kernel_rfl) (by kernel_rfl) (fun _ _ _ h => h) (Or.inl ⟨by rfl, ?y3_0⟩) (by assumption) ?r3_0
          case' y3_0 => (intro w hSw; (try dsimp only at hSw); obtain ⟨hcS, hfS⟩ := bcell hSw; clear hSw; go_simp; try with_reducible rfl)
          try simp only [Act.put, List.getElem_toArray, List.getElem_cons_succ, List.getElem_cons_zero, List.setIfInBounds_toArray, List.set_cons_zero, List.set_cons_succ]
          refine wpAnyH_take (i := 1) (v := ?v3_1) rfl (by kernel_rfl) (by kernel_rfl) (by kernel_rfl) (fun _ _ _ h => h) (Or.inl ⟨by rfl, ?y3_1⟩) (by assumption) ?r3_1
          case' y3_1 => (intro w hSw; (try dsimp only at hSw); obtain ⟨hcS, hfS⟩ := bcell hSw; clear hSw; go_simp; try with_reducible rfl)
          try simp only [Act.put, List.getElem_toArray, List.getElem_cons_succ, List.getElem_cons_zero, List.setIfInBounds_toArray, List.set_cons_zero, List.set_cons_succ]
          refine wpAnyH_take (i := 2) (v := ?v3_2) rfl (by kernel_rfl) (by kernel_rfl) (by kernel_rfl) (fun _ _ _ h => h) (Or.inl ⟨by rfl, ?y3_2⟩) (by assumption) ?r3_2
          case' y3_2 => (intro w hSw; (try dsimp only at hSw); obtain ⟨hcS, hfS⟩ := bcell hSw; clear hSw; go_simp; try with_reducible rfl)
          try simp only [Act.put, List.getElem_toArray, List.getElem_cons_succ, List.getElem_cons_zero, List.setIfInBounds_toArray, List.set_cons_zero, List.set_cons_succ]
          refine wpAnyH_take (i := 3) (v := ?v3_3) rfl (by kernel_rfl) (by kernel_rfl) (by kernel_rfl) (fun _ _ _ h => h) (Or.inl ⟨by rfl, ?y3_3⟩) (by assumption) ?r3_3
          case' y3_3 => (intro w hSw; (try dsimp only at hSw); obtain ⟨hcS, hfS⟩ := bcell hSw; clear hSw; go_simp; try with_reducible rfl)
          try simp only [Act.put, List.getElem_toArray, List.getElem_cons_succ, List.getElem_cons_zero, List.setIfInBounds_toArray, List.set_cons_zero, List.set_cons_succ]
          refine wpAnyH_take (i := 4) (v := ?v3_4) rfl (by kernel_rfl) (by kernel_rfl) (by kernel_rfl) (fun _ _ _ h => h) (Or.inl ⟨by rfl, ?y3_4⟩) (by assumption) ?r3_4
          case' y3_4 => (intro w hSw; (try dsimp only at hSw); obtain ⟨hcS, hfS⟩ := bcell hSw; clear hSw; go_simp; try with_reducible rfl)
          try simp only [Act.put, List.getElem_toArray, List.getElem_cons_succ, List.getElem_cons_zero, List.setIfInBounds_toArray, List.set_cons_zero, List.set_cons_succ]
          refine wpAnyH_take (i := 5) (v := ?v3_5) rfl (by kernel_rfl) (by kernel_rfl) (by kernel_rfl) (fun _ _ _ h => h) (Or.inl ⟨by rfl, ?y3_5⟩) (by assumption) ?r3_5
          case' y3_5 => (intro w hSw; (try dsimp only at hSw); obtain ⟨hcS, hfS⟩ := bcell hSw; clear hSw; go_simp; try with_reducible rfl)
          try simp only [Act.put, List.getElem_toArray, List.getElem_cons_succ, List.getElem_cons_zero, List.setIfInBounds_toArray, List.set_cons_zero, List.set_cons_succ]
          refine wpAnyH_take (i := 6) (v := ?v3_6) rfl (by kernel_rfl) (by kernel_rfl) (by kernel_rfl) (fun _ _ _ h => h) (Or.inl ⟨by rfl, ?y3_6⟩) (by assumption) ?r3_6
          case' y3_6 => (intro w hSw; (try dsimp only at hSw); obtain ⟨hcS, hfS⟩ := bcell hSw; clear hSw; go_simp; try with_reducible rfl)
          try simp only [Act.put, List.getElem_toArray, List.getElem_cons_succ, List.getElem_cons_zero, List.setIfInBounds_toArray, List.set_cons_zero, List.set_cons_succ]
          refine wpAnyH_take (i := 7) (v := ?v3_7) rfl (by kernel_rfl) (by kernel_rfl) (by kernel_rfl) (fun _ _ _ h => h) (Or.inl ⟨by rfl, ?y3_7⟩) (by assumption) ?r3_7
          case' y3_7 => (intro w hSw; (try dsimp only at hSw); obtain ⟨hcS, hfS⟩ := bcell hSw; clear hSw; go_simp; try with_reducible rfl)
          try simp only [Act.put, List.getElem_toArray, List.getElem_cons_succ, List.getElem_cons_zero, List.setIfInBounds_toArray, List.set_cons_zero, List.set_cons_succ]
          refine wpAnyH_take (i := 8) (v := ?v3_8) rfl (by kernel_rfl) (by kernel_rfl) (by kernel_rfl) (fun _ _ _ h => h) (Or.inl ⟨by rfl, ?y3_8⟩) (by assumption) ?r3_8
          case' y3_8 => (intro w hSw; (try dsimp only at hSw); obtain ⟨hcS, hfS⟩ := bcell hSw; clear hSw; go_simp; try with_reducible rfl)
          try simp only [Act.put, List.getElem_toArray, List.getElem_cons_succ, List.getElem_cons_zero, List.setIfInBounds_toArray, List.set_cons_zero, List.set_cons_succ]
          refine wpAnyH_take (i := 9) (v := ?v3_9) rfl (by kernel_rfl) (by kernel_rfl) (by kernel_rfl) (fun _ _ _ h => h) (Or.inl ⟨by rfl, ?y3_9⟩) (by assumption) ?r3_9
          case' y3_9 => (intro w hSw; (try dsimp only at hSw); obtain ⟨hcS, hfS⟩ := bcell hSw; clear hSw; go_simp; try with_reducible rfl)
          try simp only [Act.put, List.getElem_toArray, List.getElem_cons_succ, List.getElem_cons_zero, List.setIfInBounds_toArray, List.set_cons_zero, List.set_cons_succ]
          refine wpAnyH_take (i := 10) (v := ?v3_10) rfl (by kernel_rfl) (by kernel_rfl) (by kernel_rfl) (fun _ _ _ h => h) (Or.inl ⟨by rfl, ?y3_10⟩) (by assumption) ?r3_10
          case' y3_10 => (intro w hSw; (try dsimp only at hSw); obtain ⟨hcS, hfS⟩ := bcell hSw; clear hSw; go_simp; try with_reducible rfl)
          try simp only [Act.put, List.getElem_toArray, List.getElem_cons_succ, List.getElem_cons_zero, List.setIfInBounds_toArray, List.set_cons_zero, List.set_cons_succ]
          refine wpAnyH_take (i := 11) (v := ?v3_11) rfl (by kernel_rfl) (by kernel_rfl) (by kernel_rfl) (fun _ _ _ h => h) (Or.inl ⟨by rfl, ?y3_11⟩) (by assumption) ?r3_11
          case' y3_11 => (intro w hSw; (try dsimp only at hSw); obtain ⟨hcS, hfS⟩ := bcell hSw; clear hSw; go_simp; try with_reducible rfl)
          try simp only [Act.put, List.getElem_toArray, List.getElem_cons_succ, List.getElem_cons_zero, List.setIfInBounds_toArray, List.set_cons_zero, List.set_cons_succ]
          refine wpAnyH_start [12, 13] (fun j => match j with | 12 => 8 | 13 => 9 | _ => 0) (wkR w5) 2 rfl (by kernel_rfl) (by kernel_rfl) (by decide) (by decide) (by kernel_rfl) hHeld ?hkeep ?hstep ?hend
          case hkeep => exact fun j _ v w w' hb h => wkR_keep j hb h
          case hstep =>
            intro j hj tv w7 hS hd
            have hsz0 : w5.heap.size ≤ w7.heap.size := hS.size
            simp only [List.mem_cons, List.not_mem_nil, or_false] at hj
            rcases hj with rfl | rfl
            all_goals
              refine wpOp_step rfl (fun K hK => ?_)
              generalize hax : putAll _ _ tv _ = ax at hK ⊢
              simp only [putAll, Act.put, List.setIfInBounds_toArray, List.set_cons_zero, List.set_cons_succ] at hax
              rw [← hax]
              go_simp
              exact hK _ _ ⟨⟨_, by rw [← hax]; rfl, _, rfl, hsz0, heap_alloc_new _ _⟩, (by repeat (first | exact Below.refl _ _ | assumption | refine Below.drew ?_ | refine Below.drewN ?_ _ | refine Below.allocT ?_ (Nat.le_refl _) _ | refine Below.setCell ?_ (by simp <;> omega) _ | refine Below.to ?_ (by assumption) (Nat.le_refl _))), (by repeat (first | exact Below.refl _ _ | assumption | refine Below.drew ?_ | refine Below.drewN ?_ _ | refine Below.allocT ?_ (Nat.le_refl _) _ | refine Below.setCell ?_ (by simp <;> omega) _ | refine Below.to ?_ (by assumption) (Nat.le_refl _)))⟩
          case hend =>
            intro tv w7 hS hR
            obtain ⟨p, e12, hp, hpb⟩ := hR 12 (by decide)
            obtain ⟨q, e13, hq, hqb⟩ := hR 13 (by decide)
            clear hR
            have hne : ¬ p = q := fun e => by
              subst e
              rw [hpb] at hqb
              injection hqb with hqb
              injection hqb with _ hqb
              exact absurd hqb (by decide)
            have hne' : ¬ q = p := fun e => hne e.symm
            have hlp := box_lt hpb
            have hlq := box_lt hqb
            have HP := hide hpb
            have HQ := hide hqb
            have p0 := cellOf hpb 0
            have p1 := cellOf hpb 1
            have p2 := cellOf hpb 2
            have p3 := cellOf hpb 3
            have p4 := cellOf hpb 4
            have r0 := unfrozenOf hpb 0
            have r1 := unfrozenOf hpb 1
            have r2 := unfrozenOf hpb 2
            have r3 := unfrozenOf hpb 3
            have r4 := unfrozenOf hpb 4
            have s0 := cellOf hqb 0
            have s1 := cellOf hqb 1
            have v0 := unfrozenOf hqb 0
            have v1 := unfrozenOf hqb 1
            clear hpb hqb
            simp only [putAll, Act.put, List.setIfInBounds_toArray, List.set_cons_zero, List.set_cons_succ, e12, e13]
            refine wpAnyH_ready (rs := [14]) (by kernel_rfl) (by simp) ?_
            refine AllReadyH.cons rfl (fun K hK => ?_) AllReadyH.nil
            go_simp
            refine hK.out _ _ ?_ (fun hNext => ?_)
            · refine Below.setCell (Below.setCell (Below.setCell (Below.setCell (Below.setCell hS ?_ _) ?_ _) ?_ _) ?_ _) ?_ _ <;> exact hp
            clear hK K
            refine wpAnyH_ready (rs := [15]) (by kernel_rfl) (by simp) ?_
            refine AllReadyH.cons rfl (fun K hK => ?_) AllReadyH.nil
            go_simp
            refine hK.out _ _ ?_ (fun hNext2 => ?_)
            · refine Below.setCell (Below.setCell hNext ?_ _) ?_ _ <;> exact hq
            clear hK K
            refine wpAnyH_done (by kernel_rfl) ?_ _
            go_wp2_with fail
            go_meet
            case rel =>
              refine ⟨p, q, rfl, rfl, hp, hq, ?_, ?_, hNext2⟩
              · unfold GaugeAt
                rw [Below.heap_setCell _ _ _ _ hne, Below.heap_setCell _ _ _ _ hne]
                exact setCellOf (setCellOf (setCellOf (setCellOf (setCellOf HP.out _) _) _) _) _
              · unfold FuseAt
                have hq0 := HQ.out
                rw [← Below.heap_setCell w7 ⟨p, 0, none⟩ (.int .i64 g.area) q hne', ← Below.heap_setCell _ ⟨p, 1, none⟩ (.int .i64 g.ohm) q hne', ← Below.heap_setCell _ ⟨p, 2, none⟩ (.int .i64 g.heat) q hne', ← Below.heap_setCell _ ⟨p, 3, none⟩ (.int .i64 g.cool) q hne', ← Below.heap_setCell _ ⟨p, 4, none⟩ (.int .i64 g.limit) q hne'] at hq0
                exact setCellOf (setCellOf hq0 _) _
        case rest =>
          obtain ⟨gb, fb, rfl, rfl, hR⟩ := hcut
          obtain ⟨wk, rfl⟩ : ∃ x : World, x = wc := ⟨_, rfl⟩
          clear k0 k1 k2 x1 x2 g0 g1 g2 g3 g4 u0 u1 hlb0 hlb1 hl5 hl6
          have HB6 : Hid (Below w5.heap.size w5 wk) := hR.out.2.2.2.2
          have HR6 : Hid (WkRf w.heap.size wr.heap.size gb fb ⟨fp, gi, fi, fn, fcs⟩ g u C cp (.slice (some ⟨b0, off0, none⟩) gs.length cap0) (.slice (some ⟨b1, off1, none⟩) fs.length cap1) (.slice (some ⟨b, off, none⟩) es.length cap) wk) :=
            ⟨heap_below HX5.out HB6.out, hR.out.2.2.1, hR.out.2.2.2.1, heap_below HWI5.out HB6.out, Sl.below hy.out (Below.to ((HB5.out.mono HBq.out.size)) (HB6.out.mono (Nat.le_refl _)) (by have := HBq.out.size; omega))⟩
          have HO6 := hide (owns_below HO5.out HB6.out)
          have hGo : Hid (g.Ok) := Ga.ok_iff.1 (by rw [← HZg.out]; exact tableB_get HOK.out.tab hgl)
          have hUo : Hid (u.Ok) := Fu.ok_iff.1 (by rw [← HZu.out]; exact fusB_get HOK.out.fus hfl)
          obtain ⟨d1, hd1⟩ : ∃ x, fitsB g fn fcs = x := ⟨_, rfl⟩
          obtain ⟨d2, hd2⟩ : ∃ x, holdsB u fcs = x := ⟨_, rfl⟩
          obtain ⟨d3, hd3⟩ : ∃ x, leastI (ungB u g fn.amb) = x := ⟨_, rfl⟩
          obtain ⟨d4, hd4⟩ : ∃ x, upB4 fs es u fp = x := ⟨_, rfl⟩
          obtain ⟨d5, hd5⟩ : ∃ x, upB5 es fcs fp = x := ⟨_, rfl⟩
          have HD1 := hide hd1
          have HD2 := hide hd2
          have HD3 := hide hd3
          have HD4 := hide hd4
          have HD5 := hide hd5
          clear hd1 hd2 hd3 hd4 hd5
          have hwab : w.heap.size < wk.heap.size := box_lt HR6.out.wi
          have hxab : wr.heap.size < wk.heap.size := box_lt HR6.out.x
          have hgab : gb < wk.heap.size := box_lt HR6.out.gg
          have hfab : fb < wk.heap.size := box_lt HR6.out.ff
          have h1ab : w1.heap.size ≤ wk.heap.size := by have := hK.out.size; omega
          have HBc : Hid (Below w1.heap.size w1 wk) := Below.to (Below.to hK.out HB5.out (Nat.le_refl _)) HB6.out (Nat.le_refl _)
          have hlk := wkAll_le gs fs es k
          obtain ⟨L, hL⟩ : ∃ L, wkAll gs fs es k = L := ⟨_, rfl⟩
          have HL := hide hL
          rw [hL] at hlk HO6 ⊢
          clear hL hR
          go_upto_region 11 with (fail)
          generalize hw8 : World.alloc _ _ = w8
          obtain ⟨hb8, hB8, hs8⟩ := alloc1 hw8
          clear hw8
          have HA0w : Hid (w8.heap[wk.heap.size]? = some (badO false false false false false)) := hb8
          have HR0w := hide (HR6.out.keep (grown_of_below hB8) hwab hxab hgab hfab)
          have HO0w := hide (owns_below HO6.out hB8)
          have HB0w : Hid (Below w1.heap.size w1 w8) := Below.to HBc.out hB8 (Nat.le_refl _)
          clear hb8 hB8 hs8
          obtain ⟨q0, q1, q2, q3, q4, q5, q6, q7, q8, q9, q10, q11, q12, q13⟩ := HR0w.out.cells
          go_wp2_with fail
          refine (rfits_any g fn _ fcs _ hGo.out HN.out (Sl.more HR0w.out.cy (Nat.le_of_lt (box_lt HR0w.out.wi)))).mono ?_
          rw [HD1.out]
          rintro e w1a ⟨rfl, hBa⟩
          have HR1a := hide (HR0w.out.keep (grown_of_below hBa) hwab hxab hgab hfab)
          have HO1a := hide (owns_below HO0w.out hBa)
          have HA1a := hide (heap_below HA0w.out hBa)
          have HB1a : Hid (Below w1.heap.size w1 w1a) := Below.to HB0w.out hBa (Nat.le_refl _)
          clear hBa
          clear q0 q1 q2 q3 q4 q5 q6 q7 q8 q9 q10 q11 q12 q13
          have zc := cellOf HA1a.out 1
          have zf := unfrozenOf HA1a.out 1
          go_upto_region 12 with (fail)
          clear zc zf
          generalize hwz : World.setCell _ _ _ = w1z
          have HA1w : Hid (w1z.heap[wk.heap.size]? = some (badO (!d1) false false false false)) := by show _ = _; rw [← hwz]; exact setCellOf HA1a.out _
          have hgz : w1a.grownBy w1z (some wk.heap.size) := by
            rw [← hwz]
            refine only_setCell (only_refl _ _) ?_ _
            exact .inl rfl
          have HB1w : Hid (Below w1.heap.size w1 w1z) := by
            show Below _ _ _
            rw [← hwz]
            refine Below.setCell HB1a.out ?_ _
            exact h1ab
          have HR1w := hide (HR1a.out.keep hgz hwab hxab hgab hfab)
          have HO1w := hide (owns_grown HO1a.out hgz HA1a.out (by decide))
          clear hwz hgz
          obtain ⟨q0, q1, q2, q3, q4, q5, q6, q7, q8, q9, q10, q11, q12, q13⟩ := HR1w.out.cells
          go_wp2_with fail
          refine (rholds_any u _ fcs _ hUo.out HN.out.cyc (Sl.more HR1w.out.cy (Nat.le_of_lt (box_lt HR1w.out.wi)))).mono ?_
          rw [HD2.out]
          rintro e w2a ⟨rfl, hBa⟩
          have HR2a := hide (HR1w.out.keep (grown_of_below hBa) hwab hxab hgab hfab)
          have HO2a := hide (owns_below HO1w.out hBa)
          have HA2a := hide (heap_below HA1w.out hBa)
          have HB2a : Hid (Below w1.heap.size w1 w2a) := Below.to HB1w.out hBa (Nat.le_refl _)
          clear hBa
          clear q0 q1 q2 q3 q4 q5 q6 q7 q8 q9 q10 q11 q12 q13
          have zc := cellOf HA2a.out 2
          have zf := unfrozenOf HA2a.out 2
          go_upto_region 13 with (fail)
          clear zc zf
          generalize hwz : World.setCell _ _ _ = w2z
          have HA2w : Hid (w2z.heap[wk.heap.size]? = some (badO (!d1) (!d2) false false false)) := by show _ = _; rw [← hwz]; exact setCellOf HA2a.out _
          have hgz : w2a.grownBy w2z (some wk.heap.size) := by
            rw [← hwz]
            refine only_setCell (only_refl _ _) ?_ _
            exact .inl rfl
          have HB2w : Hid (Below w1.heap.size w1 w2z) := by
            show Below _ _ _
            rw [← hwz]
            refine Below.setCell HB2a.out ?_ _
            exact h1ab
          have HR2w := hide (HR2a.out.keep hgz hwab hxab hgab hfab)
          have HO2w := hide (owns_grown HO2a.out hgz HA2a.out (by decide))
          clear hwz hgz
          obtain ⟨q0, q1, q2, q3, q4, q5, q6, q7, q8, q9, q10, q11, q12, q13⟩ := HR2w.out.cells
          go_wp2_with fail
          refine (runguarded_any u g fn.amb _ hUo.out hGo.out HN.out.amb0 HN.out.amb1).mono ?_
          rw [HD3.out]
          rintro e w3a ⟨rfl, hBa⟩
          have HR3a := hide (HR2w.out.keep (grown_of_below hBa) hwab hxab hgab hfab)
          have HO3a := hide (owns_below HO2w.out hBa)
          have HA3a := hide (heap_below HA2w.out hBa)
          have HB3a : Hid (Below w1.heap.size w1 w3a) := Below.to HB2w.out hBa (Nat.le_refl _)
          clear hBa
          clear q0 q1 q2 q3 q4 q5 q6 q7 q8 q9 q10 q11 q12 q13
          have zc := cellOf HA3a.out 3
          have zf := unfrozenOf HA3a.out 3
          go_upto_region 14 with (fail)
          clear zc zf
          generalize hwz : World.setCell _ _ _ = w3z
          have HA3w : Hid (w3z.heap[wk.heap.size]? = some (badO (!d1) (!d2) (decide (0 ≤ d3)) false false)) := by show _ = _; rw [← hwz]; exact setCellOf HA3a.out _
          have hgz : w3a.grownBy w3z (some wk.heap.size) := by
            rw [← hwz]
            refine only_setCell (only_refl _ _) ?_ _
            exact .inl rfl
          have HB3w : Hid (Below w1.heap.size w1 w3z) := by
            show Below _ _ _
            rw [← hwz]
            refine Below.setCell HB3a.out ?_ _
            exact h1ab
          have HR3w := hide (HR3a.out.keep hgz hwab hxab hgab hfab)
          have HO3w := hide (owns_grown HO3a.out hgz HA3a.out (by decide))
          clear hwz hgz
          obtain ⟨q0, q1, q2, q3, q4, q5, q6, q7, q8, q9, q10, q11, q12, q13⟩ := HR3w.out.cells
          go_upto_if 66 with (fail)
          go_cut [] from 62 to 105 (fun wd => Hid (wd.heap[wk.heap.size]? = some (badO (!d1) (!d2) (decide (0 ≤ d3)) d4 d5) ∧ w3z.grownBy wd (some wk.heap.size)))
          case first =>
            by_cases hpn : fp < 0
            · have hpd : decide (0 ≤ fp) = false := by simpa using hpn
              have e4 : d4 = false := by rw [← HD4.out]; unfold upB4; rw [if_pos hpn]
              have e5 : d5 = false := by rw [← HD5.out]; unfold upB5; rw [if_pos hpn]
              have HE := hide (And.intro e4 e5)
              clear e4 e5
              go_wp2_with fail
              go_meet
              case rel => exact ⟨by rw [HE.out.1, HE.out.2]; exact HA3w.out, only_refl _ _⟩
            · obtain ⟨pi, hpi⟩ : ∃ pi : Nat, fp = pi := ⟨fp.toNat, by omega⟩
              subst hpi
              have hpl : pi < es.length := by omega
              have hp1 : (pi : Int) < (es.length : Int) := by omega
              have hp2 : (0 : Int) ≤ (pi : Int) := by omega
              have HBz : Hid (Below w.heap.size w w3z) := Below.to HBw.out HB3w.out (Nat.le_refl _)
              obtain ⟨a, Ca, cpa, HZa, _, hbb, a0, a1, a2, a3, a4, a5, a6, hya⟩ := feAtB HBz.out (show (some ⟨b, off, none⟩ : Option Addr) = some ⟨b, off, none⟩ ∧ b < w.heap.size ∨ es.length = 0 from .inl ⟨rfl, hbw⟩) HC.out HCY.out hpl
              have hao := HOK.out.at hpl HZa.out
              obtain ⟨ap, ag, af, an, acs⟩ := a
              dsimp only at a0 a1 a2 a3 a4 a5 a6
              obtain ⟨ai, hai⟩ : ∃ ai : Nat, af = ai := ⟨af.toNat, by have : 0 ≤ af := hao.fu0; omega⟩
              subst hai
              have hail : ai < fs.length := by have := hao.fu1; dsimp only at this; omega
              have HNa := hide hao.need.cyc
              dsimp only at HNa
              clear hao
              have hia0 : (0 : Int) ≤ (ai : Int) := by omega
              have hia1 : (ai : Int) < (fs.length : Int) := by omega
              go_upto_region 16 with (fail)
              generalize hw8 : World.alloc _ _ = w4
              obtain ⟨hb8, hB8, hs8⟩ := alloc1 hw8
              clear hw8 a0 a1 a2 a3 a4 a5 a6
              clear q0 q1 q2 q3 q4 q5 q6 q7 q8 q9 q10 q11 q12 q13
              have hz8 : wk.heap.size < w3z.heap.size := box_lt HA3w.out
              have HR4 := hide (HR3w.out.keep (grown_of_below hB8) hwab hxab hgab hfab)
              have HA4 := hide (heap_below HA3w.out hB8)
              have HX4 := hide hb8
              have HB4 : Hid (Below w3z.heap.size w3z w4) := hB8
              have HBw4 : Hid (Below w.heap.size w w4) := Below.to HBz.out hB8 (Nat.le_refl _)
              have hya4 : Hid (Cyc w4 w.heap.size (.slice Ca acs.length cpa) acs) := Sl.below hya.out (hB8.mono HBz.out.size)
              obtain ⟨y, HZy, _, hbw1', y0, y1⟩ := fuAtB HBw4.out (show (some ⟨b1, off1, none⟩ : Option Addr) = some ⟨b1, off1, none⟩ ∧ b1 < w.heap.size ∨ fs.length = 0 from .inl ⟨rfl, hbw1⟩) HC1.out hail
              have hYo : Hid (y.Ok) := Fu.ok_iff.1 (by rw [← HZy.out]; exact fusB_get HOK.out.fus hail)
              obtain ⟨c4, hc4⟩ : ∃ x, leastI (selB u y) = x := ⟨_, rfl⟩
              obtain ⟨c5, hc5⟩ : ∃ x, gtI fcs = x := ⟨_, rfl⟩
              obtain ⟨c6, hc6⟩ : ∃ x, gtI acs = x := ⟨_, rfl⟩
              have hD4 : Hid (d4 = decide (0 ≤ c4)) := by show _ = _; rw [← HD4.out]; unfold upB4; rw [if_neg (by omega), Int.toNat_natCast, HZa.out]; dsimp only; rw [Int.toNat_natCast, HZy.out, hc4]
              have hD5 : Hid (d5 = decide (c6 < c5)) := by show _ = _; rw [← HD5.out]; unfold upB5; rw [if_neg (by omega), Int.toNat_natCast, HZa.out, hc5]; dsimp only; rw [hc6]
              have HC4 := hide hc4
              have HC5 := hide hc5
              have HC6 := hide hc6
              clear hc4 hc5 hc6
              have n1 : ¬ fb = wk.heap.size := by omega
              have n2 : ¬ w.heap.size = wk.heap.size := by omega
              have n3 : ¬ w3z.heap.size = wk.heap.size := by omega
              have n4 : ¬ b1 = wk.heap.size := by omega
              have n5 : ¬ wr.heap.size = wk.heap.size := by omega
              have l1 : fb < w4.heap.size := by omega
              have l2 : w.heap.size < w4.heap.size := by omega
              have l3 : w3z.heap.size < w4.heap.size := by omega
              have l4 : b1 < w4.heap.size := by omega
              have l5 : wr.heap.size < w4.heap.size := by omega
              clear hb8 hs8 hB8
              obtain ⟨q0, q1, q2, q3, q4, q5, q6, q7, q8, q9, q10, q11, q12, q13⟩ := HR4.out.cells
              have a2 := cellOf HX4.out 2
              refine wp_region_held_drew (S := (fun w' => w4.grownBy w' (some wk.heap.size))) (by kernel_rfl) ?_ (fun hHeld => ?_)
              · try dsimp only
                (first | exact only_refl _ _ | assumption | exact only_drew (only_refl _ _) | exact hKeep.out | exact only_drew (by assumption) | (refine only_trans hKeep.out ?_; refine only_setCell (only_setCell (only_setCell (only_setCell (only_refl _ _) ?_ _) ?_ _) ?_ _) ?_ _ <;> exact .inl rfl) | (refine only_trans hKeep.out ?_; refine only_setCell (only_refl _ _) ?_ _; exact .inl rfl))
              refine wpAnyH_take (i := 0) (v := ?v1_0) rfl (by kernel_rfl) (by kernel_rfl) (by kernel_rfl) (fun _ _ _ h => h) (Or.inl ⟨by rfl, ?y1_0⟩) (by assumption) ?r1_0
              case' y1_0 => (intro w hSw; (try dsimp only at hSw); have hcS := gcell hSw; clear hSw; go_simp; try with_reducible rfl)
              try simp only [Act.put, List.getElem_toArray, List.getElem_cons_succ, List.getElem_cons_zero, List.setIfInBounds_toArray, List.set_cons_zero, List.set_cons_succ]
              refine wpAnyH_take (i := 1) (v := ?v1_1) rfl (by kernel_rfl) (by kernel_rfl) (by kernel_rfl) (fun _ _ _ h => h) (Or.inl ⟨by rfl, ?y1_1⟩) (by assumption) ?r1_1
              case' y1_1 => (intro w hSw; (try dsimp only at hSw); have hcS := gcell hSw; clear hSw; go_simp; try with_reducible rfl)
              try simp only [Act.put, List.getElem_toArray, List.getElem_cons_succ, List.getElem_cons_zero, List.setIfInBounds_toArray, List.set_cons_zero, List.set_cons_succ]
              refine wpAnyH_take (i := 2) (v := ?v1_2) rfl (by kernel_rfl) (by kernel_rfl) (by kernel_rfl) (fun _ _ _ h => h) (Or.inl ⟨by rfl, ?y1_2⟩) (by assumption) ?r1_2
              case' y1_2 => (intro w hSw; (try dsimp only at hSw); have hcS := gcell hSw; clear hSw; go_simp; try with_reducible rfl)
              try simp only [Act.put, List.getElem_toArray, List.getElem_cons_succ, List.getElem_cons_zero, List.setIfInBounds_toArray, List.set_cons_zero, List.set_cons_succ]
              refine wpAnyH_take (i := 3) (v := ?v1_3) rfl (by kernel_rfl) (by kernel_rfl) (by kernel_rfl) (fun _ _ _ h => h) (Or.inl ⟨by rfl, ?y1_3⟩) (by assumption) ?r1_3
              case' y1_3 => (intro w hSw; (try dsimp only at hSw); have hcS := gcell hSw; clear hSw; go_simp; try with_reducible rfl)
              try simp only [Act.put, List.getElem_toArray, List.getElem_cons_succ, List.getElem_cons_zero, List.setIfInBounds_toArray, List.set_cons_zero, List.set_cons_succ]
              refine wpAnyH_take (i := 4) (v := ?v1_4) rfl (by kernel_rfl) (by kernel_rfl) (by kernel_rfl) (fun _ _ _ h => h) (Or.inl ⟨by rfl, ?y1_4⟩) (by assumption) ?r1_4
              case' y1_4 => (intro w hSw; (try dsimp only at hSw); have hcS := gcell hSw; clear hSw; go_simp; try with_reducible rfl)
              try simp only [Act.put, List.getElem_toArray, List.getElem_cons_succ, List.getElem_cons_zero, List.setIfInBounds_toArray, List.set_cons_zero, List.set_cons_succ]
              refine wpAnyH_take (i := 5) (v := ?v1_5) rfl (by kernel_rfl) (by kernel_rfl) (by kernel_rfl) (fun _ _ _ h => h) (Or.inl ⟨by rfl, ?y1_5⟩) (by assumption) ?r1_5
              case' y1_5 => (intro w hSw; (try dsimp only at hSw); have hcS := gcell hSw; clear hSw; go_simp; try with_reducible rfl)
              try simp only [Act.put, List.getElem_toArray, List.getElem_cons_succ, List.getElem_cons_zero, List.setIfInBounds_toArray, List.set_cons_zero, List.set_cons_succ]
              refine wpAnyH_take (i := 6) (v := ?v1_6) rfl (by kernel_rfl) (by kernel_rfl) (by kernel_rfl) (fun _ _ _ h => h) (Or.inl ⟨by rfl, ?y1_6⟩) (by assumption) ?r1_6
              case' y1_6 => (intro w hSw; (try dsimp only at hSw); have hcS := gcell hSw; clear hSw; go_simp; try with_reducible rfl)
              try simp only [Act.put, List.getElem_toArray, List.getElem_cons_succ, List.getElem_cons_zero, List.setIfInBounds_toArray, List.set_cons_zero, List.set_cons_succ]
              refine wpAnyH_ready (rs := [7]) (by kernel_rfl) (by simp) ?_
              refine AllReadyH.cons rfl (fun K hK => ?_) AllReadyH.nil
              go_simp
              ((go_at_call 64; refine (rselective_any u y _ hUo.out hYo.out).mono ?_; rw [HC4.out]; rintro e w5a ⟨rfl, hB9⟩; have HB9 : Hid (Below w4.heap.size w4 w5a) := ⟨hB9.os, hB9.tape, hB9.output, hB9.size, hB9.block⟩; have hKeep : Hid (w4.grownBy w5a (some wk.heap.size)) := grown_of_below HB9.out; have HA5 := hide (heap_below HA4.out HB9.out); have zc := cellOf HA5.out 4; have zf := unfrozenOf HA5.out 4; clear hB9))
              (try dsimp only)
              refine hK.out _ _ ?_ (fun hNext => ?_)
              · try dsimp only
                (first | exact only_refl _ _ | assumption | exact only_drew (only_refl _ _) | exact hKeep.out | exact only_drew (by assumption) | (refine only_trans hKeep.out ?_; refine only_setCell (only_setCell (only_setCell (only_setCell (only_refl _ _) ?_ _) ?_ _) ?_ _) ?_ _ <;> exact .inl rfl) | (refine only_trans hKeep.out ?_; refine only_setCell (only_refl _ _) ?_ _; exact .inl rfl))
              clear hK K hHeld
              have hHeld := hNext
              clear hNext
              (try dsimp only at hHeld)
              try simp only [Act.put, List.getElem_toArray, List.getElem_cons_succ, List.getElem_cons_zero, List.setIfInBounds_toArray, List.set_cons_zero, List.set_cons_succ]
              refine wpAnyH_take (i := 8) (v := ?v1_8) rfl (by kernel_rfl) (by kernel_rfl) (by kernel_rfl) (fun _ _ _ h => h) (Or.inl ⟨by rfl, ?y1_8⟩) (by assumption) ?r1_8
              case' y1_8 => (intro w hSw; (try dsimp only at hSw); have hcS := gcell hSw; clear hSw; go_simp; try with_reducible rfl)
              try simp only [Act.put, List.getElem_toArray, List.getElem_cons_succ, List.getElem_cons_zero, List.setIfInBounds_toArray, List.set_cons_zero, List.set_cons_succ]
              refine wpAnyH_take (i := 9) (v := ?v1_9) rfl (by kernel_rfl) (by kernel_rfl) (by kernel_rfl) (fun _ _ _ h => h) (Or.inl ⟨by rfl, ?y1_9⟩) (by assumption) ?r1_9
              case' y1_9 => (intro w hSw; (try dsimp only at hSw); have hcS := gcell hSw; clear hSw; go_simp; try with_reducible rfl)
              try simp only [Act.put, List.getElem_toArray, List.getElem_cons_succ, List.getElem_cons_zero, List.setIfInBounds_toArray, List.set_cons_zero, List.set_cons_succ]
              refine wpAnyH_ready (rs := [10]) (by kernel_rfl) (by simp) ?_
              refine AllReadyH.cons rfl (fun K hK => ?_) AllReadyH.nil
              go_simp
              refine hK.out _ _ ?_ (fun hNext => ?_)
              · try dsimp only
                (first | exact only_refl _ _ | assumption | exact only_drew (only_refl _ _) | exact hKeep.out | exact only_drew (by assumption) | (refine only_trans hKeep.out ?_; refine only_setCell (only_setCell (only_setCell (only_setCell (only_refl _ _) ?_ _) ?_ _) ?_ _) ?_ _ <;> exact .inl rfl) | (refine only_trans hKeep.out ?_; refine only_setCell (only_refl _ _) ?_ _; exact .inl rfl))
              clear hK K hHeld
              have hHeld := hNext
              clear hNext
              (try dsimp only at hHeld)
              try simp only [Act.put, List.getElem_toArray, List.getElem_cons_succ, List.getElem_cons_zero, List.setIfInBounds_toArray, List.set_cons_zero, List.set_cons_succ]
              refine wpAnyH_done (by kernel_rfl) ?_ _
              clear q0 q1 q2 q3 q4 q5 q6 q7 q8 q9 q10 q11 q12 q13
              clear zc zf a2 y0 y1
              generalize hwz : World.setCell _ _ _ = w6 at hHeld ⊢
              have HA6 : Hid (w6.heap[wk.heap.size]? = some (badO (!d1) (!d2) (decide (0 ≤ d3)) (decide (0 ≤ c4)) false)) := by show _ = _; rw [← hwz]; exact setCellOf HA5.out _
              have HG6 : Hid (w4.grownBy w6 (some wk.heap.size)) := hHeld
              have HR6' := hide (HR4.out.keep HG6.out hwab hxab hgab hfab)
              have HX6 := hide ((HG6.out.block _ (box_lt HX4.out) (fun e => by injection e with e; omega)).trans HX4.out)
              clear hwz hHeld hKeep
              have l5' : wr.heap.size < w6.heap.size := by have := HG6.out.size; omega
              have l3' : w3z.heap.size < w6.heap.size := by have := HG6.out.size; omega
              have x3 := cellOf HR6'.out.x 3
              have a3 := cellOf HX6.out 3
              have hcya : Hid (∀ W, w6.grownBy W (some wk.heap.size) → Cyc W W.heap.size (.slice Ca acs.length cpa) acs) := fun W hg => Sl.more (Sl.keep hya4.out fun b o hb => by
                rw [gcell hg b o (by have := HG6.out.size; omega) (by omega), gcell HG6.out b o (by omega) (by omega)]) (by have := HG6.out.size; have := hg.size; omega)
              have hcyf : Hid (∀ W, w6.grownBy W (some wk.heap.size) → Cyc W W.heap.size (.slice C fcs.length cp) fcs) := fun W hg => Sl.more (HR6'.out.keep hg hwab hxab hgab hfab).cy (by have := HG6.out.size; have := hg.size; omega)
              have HCY1 : Hid (Cyc w6.drew w6.drew.heap.size (.slice C fcs.length cp) fcs) := hcyf.out w6 (only_refl _ _)
              go_wp2_with fail
              refine wp_region_held_drew (S := (fun w' => w6.grownBy w' (some wk.heap.size))) (by kernel_rfl) ?_ (fun hHeld => ?_)
              · try dsimp only
                (first | exact only_refl _ _ | assumption | exact only_drew (only_refl _ _) | exact hKeep.out | exact only_drew (by assumption) | (refine only_trans hKeep.out ?_; refine only_setCell (only_setCell (only_setCell (only_setCell (only_refl _ _) ?_ _) ?_ _) ?_ _) ?_ _ <;> exact .inl rfl) | (refine only_trans hKeep.out ?_; refine only_setCell (only_refl _ _) ?_ _; exact .inl rfl))
              refine wpAnyH_take (i := 0) (v := ?v2_0) rfl (by kernel_rfl) (by kernel_rfl) (by kernel_rfl) (fun _ _ _ h => h) (Or.inl ⟨by rfl, ?y2_0⟩) (by assumption) ?r2_0
              case' y2_0 => (intro w hSw; (try dsimp only at hSw); have hcS := gcell hSw; clear hSw; go_simp; try with_reducible rfl)
              try simp only [Act.put, List.getElem_toArray, List.getElem_cons_succ, List.getElem_cons_zero, List.setIfInBounds_toArray, List.set_cons_zero, List.set_cons_succ]
              refine wpAnyH_take (i := 1) (v := ?v2_1) rfl (by kernel_rfl) (by kernel_rfl) (by kernel_rfl) (fun _ _ _ h => h) (Or.inl ⟨by rfl, ?y2_1⟩) (by assumption) ?r2_1
              case' y2_1 => (intro w hSw; (try dsimp only at hSw); have hcS := gcell hSw; clear hSw; go_simp; try with_reducible rfl)
              try simp only [Act.put, List.getElem_toArray, List.getElem_cons_succ, List.getElem_cons_zero, List.setIfInBounds_toArray, List.set_cons_zero, List.set_cons_succ]
              refine wpAnyH_take (i := 2) (v := ?v2_2) rfl (by kernel_rfl) (by kernel_rfl) (by kernel_rfl) (fun _ _ _ h => h) (Or.inl ⟨by rfl, ?y2_2⟩) (by assumption) ?r2_2
              case' y2_2 => (intro w hSw; (try dsimp only at hSw); have hcS := gcell hSw; clear hSw; go_simp; try with_reducible rfl)
              try simp only [Act.put, List.getElem_toArray, List.getElem_cons_succ, List.getElem_cons_zero, List.setIfInBounds_toArray, List.set_cons_zero, List.set_cons_succ]
              refine wpAnyH_take (i := 4) (v := ?v2_4) rfl (by kernel_rfl) (by kernel_rfl) (by kernel_rfl) (fun _ _ _ h => h) (Or.inl ⟨by rfl, ?y2_4⟩) (by assumption) ?r2_4
              case' y2_4 => (intro w hSw; (try dsimp only at hSw); have hcS := gcell hSw; clear hSw; go_simp; try with_reducible rfl)
              try simp only [Act.put, List.getElem_toArray, List.getElem_cons_succ, List.getElem_cons_zero, List.setIfInBounds_toArray, List.set_cons_zero, List.set_cons_succ]
              refine wpAnyH_take (i := 5) (v := ?v2_5) rfl (by kernel_rfl) (by kernel_rfl) (by kernel_rfl) (fun _ _ _ h => h) (Or.inl ⟨by rfl, ?y2_5⟩) (by assumption) ?r2_5
              case' y2_5 => (intro w hSw; (try dsimp only at hSw); have hcS := gcell hSw; clear hSw; go_simp; try with_reducible rfl)
              try simp only [Act.put, List.getElem_toArray, List.getElem_cons_succ, List.getElem_cons_zero, List.setIfInBounds_toArray, List.set_cons_zero, List.set_cons_succ]
              refine wpAnyH_take (i := 6) (v := ?v2_6) rfl (by kernel_rfl) (by kernel_rfl) (by kernel_rfl) (fun _ _ _ h => h) (Or.inl ⟨by rfl, ?y2_6⟩) (by assumption) ?r2_6
              case' y2_6 => (intro w hSw; (try dsimp only at hSw); have hcS := gcell hSw; clear hSw; go_simp; try with_reducible rfl)
              try simp only [Act.put, List.getElem_toArray, List.getElem_cons_succ, List.getElem_cons_zero, List.setIfInBounds_toArray, List.set_cons_zero, List.set_cons_succ]
              refine wpAnyH_ready (rs := [3]) (by kernel_rfl) (by simp) ?_
              refine AllReadyH.cons rfl (fun K hK => ?_) AllReadyH.nil
              go_simp
              (first | (go_at_call 83; (with_reducible refine (rgreatest_any (.slice C fcs.length cp) fcs w6.drew HN.out.cyc HCY1.out).mono ?_); rw [HC5.out]; rintro e w7a ⟨rfl, hB9⟩; have HB9 : Hid (Below w6.heap.size w6 w7a) := ⟨hB9.os, hB9.tape, hB9.output, hB9.size, hB9.block⟩; have hKeep : Hid (w6.grownBy w7a (some wk.heap.size)) := grown_of_below HB9.out; have HA7 := hide (heap_below HA6.out HB9.out); clear hB9) | (go_at_call 83; refine (rgreatest_any (.slice Ca acs.length cpa) acs _ HNa.out (hcya.out _ hKeep.out)).mono ?_; rw [HC6.out]; rintro e w8a ⟨rfl, hB9⟩; have hKeep : Hid (w6.grownBy w8a (some wk.heap.size)) := only_trans hKeep.out (grown_of_below hB9); have HA8 := hide (heap_below HA7.out hB9); have zc := cellOf HA8.out 5; have zf := unfrozenOf HA8.out 5; clear hB9))
              (try dsimp only)
              refine hK.out _ _ ?_ (fun hNext => ?_)
              · try dsimp only
                (first | exact only_refl _ _ | assumption | exact only_drew (only_refl _ _) | exact hKeep.out | exact only_drew (by assumption) | (refine only_trans hKeep.out ?_; refine only_setCell (only_setCell (only_setCell (only_setCell (only_refl _ _) ?_ _) ?_ _) ?_ _) ?_ _ <;> exact .inl rfl) | (refine only_trans hKeep.out ?_; refine only_setCell (only_refl _ _) ?_ _; exact .inl rfl))
              clear hK K hHeld
              have hHeld := hNext
              clear hNext
              (try dsimp only at hHeld)
              try simp only [Act.put, List.getElem_toArray, List.getElem_cons_succ, List.getElem_cons_zero, List.setIfInBounds_toArray, List.set_cons_zero, List.set_cons_succ]
              refine wpAnyH_ready (rs := [7]) (by kernel_rfl) (by simp) ?_
              refine AllReadyH.cons rfl (fun K hK => ?_) AllReadyH.nil
              go_simp
              (first | (go_at_call 83; (with_reducible refine (rgreatest_any (.slice C fcs.length cp) fcs w6.drew HN.out.cyc HCY1.out).mono ?_); rw [HC5.out]; rintro e w7a ⟨rfl, hB9⟩; have HB9 : Hid (Below w6.heap.size w6 w7a) := ⟨hB9.os, hB9.tape, hB9.output, hB9.size, hB9.block⟩; have hKeep : Hid (w6.grownBy w7a (some wk.heap.size)) := grown_of_below HB9.out; have HA7 := hide (heap_below HA6.out HB9.out); clear hB9) | (go_at_call 83; refine (rgreatest_any (.slice Ca acs.length cpa) acs _ HNa.out (hcya.out _ hKeep.out)).mono ?_; rw [HC6.out]; rintro e w8a ⟨rfl, hB9⟩; have hKeep : Hid (w6.grownBy w8a (some wk.heap.size)) := only_trans hKeep.out (grown_of_below hB9); have HA8 := hide (heap_below HA7.out hB9); have zc := cellOf HA8.out 5; have zf := unfrozenOf HA8.out 5; clear hB9))
              (try dsimp only)
              refine hK.out _ _ ?_ (fun hNext => ?_)
              · try dsimp only
                (first | exact only_refl _ _ | assumption | exact only_drew (only_refl _ _) | exact hKeep.out | exact only_drew (by assumption) | (refine only_trans hKeep.out ?_; refine only_setCell (only_setCell (only_setCell (only_setCell (only_refl _ _) ?_ _) ?_ _) ?_ _) ?_ _ <;> exact .inl rfl) | (refine only_trans hKeep.out ?_; refine only_setCell (only_refl _ _) ?_ _; exact .inl rfl))
              clear hK K hHeld
              have hHeld := hNext
              clear hNext
              (try dsimp only at hHeld)
              try simp only [Act.put, List.getElem_toArray, List.getElem_cons_succ, List.getElem_cons_zero, List.setIfInBounds_toArray, List.set_cons_zero, List.set_cons_succ]
              refine wpAnyH_take (i := 8) (v := ?v2_8) rfl (by kernel_rfl) (by kernel_rfl) (by kernel_rfl) (fun _ _ _ h => h) (Or.inl ⟨by rfl, ?y2_8⟩) (by assumption) ?r2_8
              case' y2_8 => (intro w hSw; (try dsimp only at hSw); have hcS := gcell hSw; clear hSw; go_simp; try with_reducible rfl)
              try simp only [Act.put, List.getElem_toArray, List.getElem_cons_succ, List.getElem_cons_zero, List.setIfInBounds_toArray, List.set_cons_zero, List.set_cons_succ]
              refine wpAnyH_take (i := 9) (v := ?v2_9) rfl (by kernel_rfl) (by kernel_rfl) (by kernel_rfl) (fun _ _ _ h => h) (Or.inl ⟨by rfl, ?y2_9⟩) (by assumption) ?r2_9
              case' y2_9 => (intro w hSw; (try dsimp only at hSw); have hcS := gcell hSw; clear hSw; go_simp; try with_reducible rfl)
              try simp only [Act.put, List.getElem_toArray, List.getElem_cons_succ, List.getElem_cons_zero, List.setIfInBounds_toArray, List.set_cons_zero, List.set_cons_succ]
              refine wpAnyH_ready (rs := [10]) (by kernel_rfl) (by simp) ?_
              refine AllReadyH.cons rfl (fun K hK => ?_) AllReadyH.nil
              go_simp
              refine hK.out _ _ ?_ (fun hNext => ?_)
              · try dsimp only
                (first | exact only_refl _ _ | assumption | exact only_drew (only_refl _ _) | exact hKeep.out | exact only_drew (by assumption) | (refine only_trans hKeep.out ?_; refine only_setCell (only_setCell (only_setCell (only_setCell (only_refl _ _) ?_ _) ?_ _) ?_ _) ?_ _ <;> exact .inl rfl) | (refine only_trans hKeep.out ?_; refine only_setCell (only_refl _ _) ?_ _; exact .inl rfl))
              clear hK K hHeld
              have hHeld := hNext
              clear hNext
              (try dsimp only at hHeld)
              try simp only [Act.put, List.getElem_toArray, List.getElem_cons_succ, List.getElem_cons_zero, List.setIfInBounds_toArray, List.set_cons_zero, List.set_cons_succ]
              refine wpAnyH_done (by kernel_rfl) ?_ _
              clear zc zf a3 x3
              generalize hwz : World.setCell _ _ _ = w9 at hHeld ⊢
              have HA9 : Hid (w9.heap[wk.heap.size]? = some (badO (!d1) (!d2) (decide (0 ≤ d3)) (decide (0 ≤ c4)) (decide (c6 < c5)))) := by show _ = _; rw [← hwz]; exact setCellOf HA8.out _
              have HG9 : Hid (w6.grownBy w9 (some wk.heap.size)) := hHeld
              clear hwz hHeld hKeep
              go_wp2_with fail
              go_meet
              case rel => exact ⟨by rw [hD4.out, hD5.out]; exact HA9.out, only_trans (grown_of_below HB4.out) (only_trans HG6.out HG9.out)⟩
          case rest =>
            clear q0 q1 q2 q3 q4 q5 q6 q7 q8 q9 q10 q11 q12 q13
            have HAd := hide hcut.out.1
            have hGd := hcut.out.2
            have HOd := hide (owns_grown HO3w.out hGd HA3w.out (by decide))
            have HBd : Hid (Below w1.heap.size w1 wc) := HB3w.out.grown hGd HB3w.out.size (fun k e => by injection e with e; omega)
            clear hGd hcut
            have hwk : Hid (wkAll gs fs es (k + 1) = L ++ badL k (badB (!d1) (!d2) (decide (0 ≤ d3)) d4 d5) 5) := by
              show wkAll gs fs es k ++ wkL gs fs es k = _
              unfold wkL
              rw [HL.out, HZ.out]
              dsimp only
              rw [Int.toNat_natCast, Int.toNat_natCast, HZg.out, HZu.out, HD1.out, HD2.out, HD3.out]
              rw [← HD4.out, ← HD5.out]
              unfold upB4 upB5
              by_cases hpn : fp < 0
              · rw [if_pos hpn, if_pos hpn, if_pos hpn]
                simp [badL, badB, putL]
              · rw [if_neg hpn, if_neg hpn, if_neg hpn]
                simp [badL, badB]
            have hlab : wk.heap.size < wc.heap.size := box_lt HAd.out
            go_wp2_with fail
            go_loopw [5, 12] (fun v i wz => ∃ m : Nat, m ≤ 5 ∧ i = .int .i64 ((m : Int) + 1) ∧ Hid (wz.ownsRow w1.heap.size 71 2 v (L ++ badL k (badB (!d1) (!d2) (decide (0 ≤ d3)) d4 d5) m).length (weakV (L ++ badL k (badB (!d1) (!d2) (decide (0 ≤ d3)) d4 d5) m))) ∧ Hid (wz.heap[wk.heap.size]? = some (badO (!d1) (!d2) (decide (0 ≤ d3)) d4 d5)) ∧ Hid (Below w1.heap.size w1 wz)) (fun _ i _ => 6 - (intOf i).toNat)
            case atStart => exact ⟨0, by omega, by go_num, by have h := HOd.out; show World.ownsRow _ _ _ _ _ _ _; simpa [badL] using h, HAd.out, HBd.out⟩
            case round =>
              obtain ⟨m, hm, rfl, hOm, hAm, hBm⟩ := hrel
              obtain ⟨Am, cpm, rfl⟩ := owns_form hOm.out
              have hml := badL_le k (badB (!d1) (!d2) (decide (0 ≤ d3)) d4 d5) m
              by_cases hm5 : m < 5
              · obtain ⟨c, hc⟩ : ∃ c, badB (!d1) (!d2) (decide (0 ≤ d3)) d4 d5 m = c := ⟨_, rfl⟩
                have zc : wr.cell? ⟨wk.heap.size, m + 1, none⟩ = some (.bool c) := by
                  rw [← hc, cellOf hAm.out]
                  have : m = 0 ∨ m = 1 ∨ m = 2 ∨ m = 3 ∨ m = 4 := by omega
                  rcases this with rfl | rfl | rfl | rfl | rfl <;> rfl
                have HC' := hide hc
                clear hc
                have hj0 : (0 : Int) ≤ (m : Int) + 1 := by omega
                have hj1 : (m : Int) + 1 < 6 := by omega
                cases c with
                | false =>
                  have hst : Hid (badL k (badB (!d1) (!d2) (decide (0 ≤ d3)) d4 d5) (m + 1) = badL k (badB (!d1) (!d2) (decide (0 ≤ d3)) d4 d5) m) := by
                    show badL _ _ m ++ putL _ _ _ = _
                    rw [HC'.out]; simp [putL]
                  go_wp2_with fail
                  go_roundw
                  case rel => exact ⟨m + 1, by omega, by go_num, by rw [hst.out]; exact hOm.out, hAm.out, hBm.out⟩
                  case measure => simp [intOf]; omega
                | true =>
                  have hst : Hid (badL k (badB (!d1) (!d2) (decide (0 ≤ d3)) d4 d5) (m + 1) = badL k (badB (!d1) (!d2) (decide (0 ≤ d3)) d4 d5) m ++ [((k : Int), (m : Int) + 1)]) := by
                    show badL _ _ m ++ putL _ _ _ = _
                    rw [HC'.out]; simp [putL]
                  obtain ⟨LL, hLL⟩ : ∃ LL, L ++ badL k (badB (!d1) (!d2) (decide (0 ≤ d3)) d4 d5) m = LL := ⟨_, rfl⟩
                  have hlen : LL.length ≤ 200 := by rw [← hLL, List.length_append]; omega
                  have HLL := hide hLL
                  rw [hLL] at hOm ⊢
                  clear hLL
                  have hszm : w1.heap.size ≤ wr.heap.size := hBm.out.size
                  go_wp2_with (at_builtin; refine wpList_append_own_at _ rfl (.tmp 100) (.tmp 104) _ rfl w1.heap.size 71 i0 _ 2 16 Try.underlying65 hi0 hz0 hz1 hz2 rfl (by omega) _ _ _ rfl (hOm.out.alloc _) ⟨wr.heap.size, 0, none⟩ 1 1 [.int .i64 k, .int .i64 ((m : Int) + 1)] rfl rfl (World.news_of_block (heap_alloc_new wr _)) (by simp [Value.oneCell']) (by unfold maxLen; omega) (by omega) (by simp; omega) ?_; intro v1 w1' hown1 hg1 _ hat1)
                  go_roundw
                  case rel =>
                    have hB' : Below w1.heap.size w1 w1' := (Below.allocT hBm.out (Nat.le_refl _) _).grown hg1 (by simp; omega) (fun j e => (hOm.out.lt j e).1)
                    have hA' : w1'.heap[wk.heap.size]? = some (badO (!d1) (!d2) (decide (0 ≤ d3)) d4 d5) := (hg1.block _ (by have := box_lt hAm.out; simp; omega) (fun e => by
                      replace e : some wk.heap.size = (Value.slice Am LL.length cpm).ownBlock := e
                      obtain ⟨_, ⟨h2, _⟩ | ⟨g', cp', cur, h3, _, h5, _⟩⟩ := hOm.out
                      · rw [h2] at e; simp [Value.ownBlock] at e
                      · rw [h3] at e
                        simp only [Value.ownBlock, Option.some.injEq] at e
                        rw [← e, hAm.out] at h5
                        injection h5 with h5
                        injection h5 with _ h5
                        exact absurd h5 (by decide))).trans ((Below.heap_alloc _ _ _ (box_lt hAm.out)).trans hAm.out)
                    exact ⟨m + 1, by omega, by go_num, by
                      have he : L ++ badL k (badB (!d1) (!d2) (decide (0 ≤ d3)) d4 d5) (m + 1) = LL ++ [((k : Int), (m : Int) + 1)] := by rw [hst.out, ← List.append_assoc, HLL.out]
                      show World.ownsRow _ _ _ _ _ _ _
                      rw [he, weakV_snoc, List.length_append]
                      exact hown1, hA', hB'⟩
                  case measure => simp [intOf]; omega
              · have hm6 : m = 5 := by omega
                subst hm6
                go_wp2_with fail
                go_roundw
                case rel => exact ⟨k + 1, by omega, by go_num, by rw [hwk.out]; exact hOm.out, hBm.out⟩
                case measure => simp [intOf]; omega
      · go_wp2_with fail
        go_ret2
        have hke : k = es.length := by omega
        exact ⟨⟨.slice Av (wkAll gs fs es k).length cpv, by rw [HU.out]; first | rfl | simp, by rw [HLS.out, ← hke]; exact WkSl.of hO.out⟩, HBq.out⟩
  · have HLS : Hid (weakLs gs fs es = []) := by show _ = _; unfold weakLs; rw [HU.out, if_neg hu0]
    have hu1 : (u != 0) = true := by simp [hu0]
    clear hu0
    go_wp2_with fail
    go_ret2
    exact ⟨⟨.slice none 0 0, by rw [HU.out]; first | rfl | simp, by rw [HLS.out]; exact Sl.nil _ _ _ _⟩, HBw.out⟩
end Go.Proofs.Ytejjjijaojkohaa

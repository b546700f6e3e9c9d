/- Part 6 of this claim's texts: walks and plain laws. -/
import Derived.Test.YtejjjijaojkohaaRows
import Derived.Test.YtejjjijaojkohaaGP5
import Derived.Deep.CutRange
import Derived.Deep.RegionHeld3
import Derived.Deep.DrawnRows
import Derived.Test.YtejjjijaojkohaaGP3
import Derived.Test.YtejjjijaojkohaaGP4
/- What is wrong with feeders: the program's walk. -/
namespace Go.Proofs.Ytejjjijaojkohaa
open Go.RowKit
set_option linter.unusedVariables false
set_option linter.unusedSimpArgs false
attribute [local go_sem ↓] Go.wp_at_zero Go.wp_at_succ

/-- What is wrong with feeder k. -/
noncomputable def wkL (gs : List Ga) (fs : List Fu) (es : List Fe) (k : Nat) : List (Int × Int) :=
  putL (!fitsB (gs.getD (es.getD k Fe.z).gauge.toNat Ga.z) (es.getD k Fe.z).n (es.getD k Fe.z).cs) k 1 ++
  (putL (!holdsB (fs.getD (es.getD k Fe.z).fuse.toNat Fu.z) (es.getD k Fe.z).cs) k 2 ++
  (putL (decide (0 ≤ leastI (ungB (fs.getD (es.getD k Fe.z).fuse.toNat Fu.z) (gs.getD (es.getD k Fe.z).gauge.toNat Ga.z) (es.getD k Fe.z).n.amb))) k 3 ++
  (if (es.getD k Fe.z).par < 0 then [] else
    putL (decide (0 ≤ leastI (selB (fs.getD (es.getD k Fe.z).fuse.toNat Fu.z) (fs.getD (es.getD (es.getD k Fe.z).par.toNat Fe.z).fuse.toNat Fu.z)))) k 4 ++
    putL (decide (gtI (es.getD (es.getD k Fe.z).par.toNat Fe.z).cs < gtI (es.getD k Fe.z).cs)) k 5)))
noncomputable def wkAll (gs : List Ga) (fs : List Fu) (es : List Fe) : Nat → List (Int × Int)
  | 0 => []
  | k + 1 => wkAll gs fs es k ++ wkL gs fs es k
theorem putL_le (b : Bool) (i k : Int) : (putL b i k).length ≤ 1 := by cases b <;> simp [putL]
theorem wkL_le (gs : List Ga) (fs : List Fu) (es : List Fe) (k : Nat) : (wkL gs fs es k).length ≤ 5 := by
  unfold wkL
  simp only [List.length_append]
  have h1 := putL_le (!fitsB (gs.getD (es.getD k Fe.z).gauge.toNat Ga.z) (es.getD k Fe.z).n (es.getD k Fe.z).cs) k 1
  have h2 := putL_le (!holdsB (fs.getD (es.getD k Fe.z).fuse.toNat Fu.z) (es.getD k Fe.z).cs) k 2
  have h3 := putL_le (decide (0 ≤ leastI (ungB (fs.getD (es.getD k Fe.z).fuse.toNat Fu.z) (gs.getD (es.getD k Fe.z).gauge.toNat Ga.z) (es.getD k Fe.z).n.amb))) k 3
  split
  · simp only [List.length_nil]; omega
  · have h4 := putL_le (decide (0 ≤ leastI (selB (fs.getD (es.getD k Fe.z).fuse.toNat Fu.z) (fs.getD (es.getD (es.getD k Fe.z).par.toNat Fe.z).fuse.toNat Fu.z)))) k 4
    have h5 := putL_le (decide (gtI (es.getD (es.getD k Fe.z).par.toNat Fe.z).cs < gtI (es.getD k Fe.z).cs)) k 5
    simp only [List.length_append]
    omega
theorem wkAll_le (gs : List Ga) (fs : List Fu) (es : List Fe) : ∀ k, (wkAll gs fs es k).length ≤ 5 * k
  | 0 => by simp [wkAll]
  | k + 1 => by
    have := wkAll_le gs fs es k
    have := wkL_le gs fs es k
    simp only [wkAll, List.length_append]
    omega

/-- What a round of Weak holds. -/
structure WkRd (B ob ib xb gb fb k : Nat) (f : Fe) (g : Ga) (u : Fu) (C : Option Addr) (cp : Nat) (gv fv ev : Value) (W : World) : Prop where
  i : W.heap[ib]? = some (.cells #[.int .i64 k] 3 (0, 0))
  x : W.heap[xb]? = some (.cells #[.int .i64 f.par, .int .i64 f.gauge, .int .i64 f.fuse, .slice C f.cs.length cp, .int .i64 f.n.len, .int .i64 f.n.drop, .int .i64 f.n.amb] 74 (0, 0))
  gg : GaugeAt W gb g
  ff : FuseAt W fb u
  wi : WiAt W B gv fv ev
  cy : Cyc W B (.slice C f.cs.length cp) f.cs
theorem WkRd.keep {B ob ib xb gb fb k : Nat} {f : Fe} {g : Ga} {u : Fu} {C : Option Addr} {cp : Nat} {gv fv ev : Value} {W W' : World} (h : WkRd B ob ib xb gb fb k f g u C cp gv fv ev W) (hk : KeepW ob W W') (hB : B < ob) (h1 : ob < ib) (h2 : ob < xb) (h3 : ob < gb) (h4 : ob < fb) :
    WkRd B ob ib xb gb fb k f g u C cp gv fv ev W' :=
  ⟨hk.high _ _ _ _ h.i (by omega) (by decide), hk.high _ _ _ _ h.x (by omega) (by decide), hk.high _ _ _ _ h.gg (by omega) (by decide), hk.high _ _ _ _ h.ff (by omega) (by decide), hk.high _ _ _ _ h.wi (by omega) (by decide),
    Sl.keep h.cy fun b o hb => World.cell?_of_block (a := ⟨b, o, none⟩) (hk.low b (by omega))⟩
theorem WkRd.cells {B ob ib xb gb fb k : Nat} {f : Fe} {g : Ga} {u : Fu} {C : Option Addr} {cp : Nat} {gv fv ev : Value} {W : World} (h : WkRd B ob ib xb gb fb k f g u C cp gv fv ev W) :
    W.cell? ⟨xb, 0, none⟩ = some (.int .i64 f.par) ∧ W.cell? ⟨xb, 3, none⟩ = some (.slice C f.cs.length cp) ∧ W.cell? ⟨xb, 4, none⟩ = some (.int .i64 f.n.len) ∧ W.cell? ⟨xb, 5, none⟩ = some (.int .i64 f.n.drop) ∧ W.cell? ⟨xb, 6, none⟩ = some (.int .i64 f.n.amb) ∧
    W.cell? ⟨gb, 0, none⟩ = some (.int .i64 g.area) ∧ W.cell? ⟨gb, 1, none⟩ = some (.int .i64 g.ohm) ∧ W.cell? ⟨gb, 2, none⟩ = some (.int .i64 g.heat) ∧ W.cell? ⟨gb, 3, none⟩ = some (.int .i64 g.cool) ∧ W.cell? ⟨gb, 4, none⟩ = some (.int .i64 g.limit) ∧
    W.cell? ⟨fb, 0, none⟩ = some (.int .i64 u.rating) ∧ W.cell? ⟨fb, 1, none⟩ = some (.int .i64 u.melt) ∧ W.cell? ⟨B, 1, none⟩ = some fv ∧ W.cell? ⟨B, 2, none⟩ = some ev :=
  ⟨cellOf h.x 0, cellOf h.x 3, cellOf h.x 4, cellOf h.x 5, cellOf h.x 6, cellOf h.gg 0, cellOf h.gg 1, cellOf h.gg 2, cellOf h.gg 3, cellOf h.gg 4, cellOf h.ff 0, cellOf h.ff 1, cellOf h.wi 1, cellOf h.wi 2⟩

theorem cycKeep {W W' : World} {ob B : Nat} {v : Value} {cs : List Cu} (h : Cyc W B v cs) (hk : KeepW ob W W') (hB : B ≤ ob) : Cyc W' B v cs :=
  Sl.keep h fun b o hb => World.cell?_of_block (a := ⟨b, o, none⟩) (hk.low b (by omega))
/-- The two variables g and f of a round, made in one statement. -/
def wkR (w0 : World) (j : Nat) (v : Value) (w : World) : Prop :=
  match j with
  | 12 => ∃ p, v = .pointer (some ⟨p, 0, none⟩) ∧ w0.heap.size ≤ p ∧ w.heap[p]? = some (.cells #[.int .i64 0, .int .i64 0, .int .i64 0, .int .i64 0, .int .i64 0] 23 (0, 0))
  | 13 => ∃ p, v = .pointer (some ⟨p, 0, none⟩) ∧ w0.heap.size ≤ p ∧ w.heap[p]? = some (.cells #[.int .i64 0, .int .i64 0] 30 (0, 0))
  | _ => True
theorem wkR_keep {w0 : World} (j : Nat) {v : Value} {w w' : World} (hb : Below w.heap.size w w') (h : wkR w0 j v w) : wkR w0 j v w' := by
  unfold wkR at *
  split at h
  · obtain ⟨p, h1, h2, h3⟩ := h; exact ⟨p, h1, h2, heap_below h3 hb⟩
  · obtain ⟨p, h1, h2, h3⟩ := h; exact ⟨p, h1, h2, heap_below h3 hb⟩
  · trivial
/-- A wiring's list of weaknesses, and its error. -/
noncomputable def weakLs (gs : List Ga) (fs : List Fu) (es : List Fe) : List (Int × Int) := if chkErr gs fs es = 0 then wkAll gs fs es es.length else []
def WkSl (w : World) (v : Value) (l : List (Int × Int)) : Prop := Sl w w.heap.size 2 v l.length fun i j => .int .i64 (if j = 0 then (l.getD i (0, 0)).1 else (l.getD i (0, 0)).2)
theorem WkSl.of {w : World} {base : Nat} {v : Value} {l : List (Int × Int)} (h : w.ownsRow base 71 2 v l.length (weakV l)) : WkSl w v l :=
  Sl.of_owns h fun i j hi hj => match j, hj with
    | 0, _ => (weakV_get l i hi).1
    | 1, _ => (weakV_get l i hi).2

set_option maxRecDepth 100000 in
set_option maxHeartbeats 8000000 in
theorem Weak_any (gs : List Ga) (fs : List Fu) (es : List Fe) (gv fv ev : Value) (w : World) (hz : WSz gs fs es) (h : Wir w w.heap.size gv fv ev gs fs es) :
    Calls Try.prog 38 #[.agg #[gv, fv, ev]] w fun e w' => (∃ v', e = .returned (.tuple #[v', .int .i64 (chkErr gs fs es)]) ∧ WkSl w' v' (weakLs gs fs es)) ∧ Below w.heap.size w w' := by
  have H := hide h
  obtain ⟨A0, b0, off0, cap0, rfl, hnc0, hA0, hc0⟩ := h.g
  obtain ⟨A1, b1, off1, cap1, rfl, hnc1, hA1, hc1⟩ := h.f
  obtain ⟨cv, hsl, hcy⟩ := h.e
  obtain ⟨A, b, off, cap, rfl, hnc, hA, hc⟩ := hsl
  have HC := hide hc
  have HA := hide hA
  have HC0 := hide hc0
  have HA0 := hide hA0
  have HC1 := hide hc1
  have HA1 := hide hA1
  have HCY := hide hcy
  have HZ_ := hide hz
  have hg30 := hz.g
  have hf30 := hz.f
  have he30 := hz.e
  clear h hc hA hc0 hA0 hc1 hA1 hcy hz
  obtain ⟨u, hu⟩ : ∃ u, chkErr gs fs es = u := ⟨_, rfl⟩
  have HU := hide hu
  clear hu
  go_enter Try.func38, Try.ntmps38
  go_wp2_with fail
  generalize hw0 : World.alloc _ _ = w0
  obtain ⟨hb0, hB0, hs0⟩ := alloc1 hw0
  clear hw0
  have HWI : Hid (WiAt w0 w.heap.size (.slice A0 gs.length cap0) (.slice A1 fs.length cap1) (.slice A es.length cap)) := hb0
  have HB0 := hide hB0
  clear hb0 hs0 hB0
  refine (Check_any gs fs es _ _ _ _ HZ_.out ((H.out.below HB0.out).more HB0.out.size)).mono ?_
  rw [HU.out]
  rintro e w1 ⟨rfl, hB1⟩
  have HB1 := hide hB1
  clear hB1
  by_cases hu0 : u = 0
  · have HOK : Hid (WOk gs fs es) := chk_iff.1 (HU.out.trans hu0)
    have HLS : Hid (weakLs gs fs es = wkAll gs fs es es.length) := by show _ = _; unfold weakLs; rw [HU.out, hu0]; rfl
    subst hu0
    have hg20 := HOK.out.g20
    have hf20 := HOK.out.f20
    have he20 := HOK.out.e20
    obtain ⟨k0, k1, k2, _⟩ := wi3 HWI.out HB1.out
    have hl1 : w.heap.size < w1.heap.size := by have := box_lt HWI.out; have := HB1.out.size; omega
    go_wp2_with fail
    generalize hw0 : World.alloc _ _ = w2
    obtain ⟨hb0, hB0, hs0⟩ := alloc1 hw0
    clear hw0
    obtain ⟨ob, hob⟩ : ∃ ob, w1.heap.size = ob := ⟨_, rfl⟩
    rw [hob] at hb0 hB0 ⊢
    have HWO : Hid (WkOut ob (.slice none 0 0) [] w2) := ⟨hb0, World.ownsRow_nil _ _ _ _⟩
    have HB2 : Hid (Below ob w1 w2) := hB0
    have hw0ob : w.heap.size < ob := by have := box_lt HWI.out; have := HB1.out.size; omega
    have HS2 : Hid (w2.heap.size = ob + 1) := by show _ = _; omega
    have HBw : Hid (Below w.heap.size w w2) := Below.to (Below.to HB0.out HB1.out (Nat.le_refl _)) (HB2.out.mono (by omega)) (Nat.le_refl _)
    clear hb0 hB0 hs0 k0 k1 k2 hob
    go_loopw [20] (fun i wr => ∃ k : Nat, k ≤ es.length ∧ i = .int .i64 k ∧ Hid (∃ v, WkOut ob v (wkAll gs fs es k) wr) ∧ Hid (KeepW ob w2 wr)) (fun i _ => es.length - (intOf i).toNat)
    case atStart => exact ⟨0, Nat.zero_le _, rfl, ⟨_, HWO.out⟩, KeepW.refl _ _⟩
    case round =>
      obtain ⟨k, hk, rfl, hO, hK⟩ := hrel
      clear HWO
      have HBq : Hid (Below w.heap.size w wr) := HBw.out.trans ((hK.out.below (by have := HS2.out; omega)).mono (by omega))
      by_cases hlt : k < es.length
      · obtain ⟨f, C, cp, HZ, hA1, hbw, h0, h1, h2, h3, h4, h5, h6, hy⟩ := feAtB HBq.out HA.out HC.out HCY.out hlt
        subst hA1
        have hfo := HOK.out.at hlt HZ.out
        obtain ⟨fp, fg, ff, fn, fcs⟩ := f
        dsimp only at h0 h1 h2 h3 h4 h5 h6
        have hpar0 := hfo.par0
        have hpar1 := hfo.par1
        obtain ⟨gi, hgi⟩ : ∃ gi : Nat, fg = gi := ⟨fg.toNat, by have : 0 ≤ fg := hfo.ga0; omega⟩
        obtain ⟨fi, hfi⟩ : ∃ fi : Nat, ff = fi := ⟨ff.toNat, by have : 0 ≤ ff := hfo.fu0; omega⟩
        subst hgi hfi
        have hgl : gi < gs.length := by have := hfo.ga1; dsimp only at this; omega
        have hfl : fi < fs.length := by have := hfo.fu1; dsimp only at this; omega
        have HN := hide hfo.need
        dsimp only at HN hpar0 hpar1
        clear hfo
        go_upto_region 8 with (fail)
        generalize hw5 : World.alloc _ _ = w5
        obtain ⟨hb5, hb6, hB5, hs5⟩ := alloc2 hw5
        clear hw5 h0 h1 h2 h3 h4 h5 h6
        have HI5 := hide hb5
        have HX5 := hide hb6
        have HB5 := hide hB5
        have hsr : ob + 1 ≤ wr.heap.size := by have := hK.out.size; have := HS2.out; omega
        have HBw5 : Hid (Below w.heap.size w w5) := Below.to HBq.out hB5 (Nat.le_refl _)
        have HWI5 : Hid (WiAt w5 w.heap.size (.slice A0 gs.length cap0) (.slice A1 fs.length cap1) (.slice (some ⟨b, off, none⟩) es.length cap)) := by
          have h1 := heap_below HWI.out HB1.out
          have h2 : w2.heap[w.heap.size]? = _ := (HB2.out.block _ hw0ob).trans h1
          have h3 : wr.heap[w.heap.size]? = _ := (hK.out.low _ hw0ob).trans h2
          exact heap_below h3 hB5
        have HO5 : Hid (∃ v, WkOut ob v (wkAll gs fs es k) w5) := hO.out.imp fun v h => h.below hB5
        obtain ⟨g, HZg, hA01, hbw0, g0, g1, g2, g3, g4⟩ := gaAtB HBw5.out HA0.out HC0.out hgl
        obtain ⟨u, HZu, hA11, hbw1, u0, u1⟩ := fuAtB HBw5.out HA1.out HC1.out hfl
        subst hA01 hA11
        have hls : w.heap.size < w5.heap.size := box_lt HWI5.out
        have hlb0 : b0 < w5.heap.size := by omega
        have hlb1 : b1 < w5.heap.size := by omega
        have hl5 : wr.heap.size < w5.heap.size := by omega
        have hl6 : wr.heap.size + 1 < w5.heap.size := by omega
        obtain ⟨k0, k1, k2, _⟩ := wi3 HWI5.out (Below.refl _ w5)
        have x1 := cellOf hb6 1
        have x2 := cellOf hb6 2
        have hig0 : (0 : Int) ≤ (gi : Int) := by omega
        have hig1 : (gi : Int) < (gs.length : Int) := by omega
        have hif0 : (0 : Int) ≤ (fi : Int) := by omega
        have hif1 : (fi : Int) < (fs.length : Int) := by omega
        have HL5 : Hid (w5.heap.size = wr.heap.size + 2) := hs5
        clear hs5 hb5 hb6 hB5
        go_cut [8, 9] from 25 to 92 (fun gp fp wc => ∃ gb fb, gp = .pointer (some ⟨gb, 0, none⟩) ∧ fp = .pointer (some ⟨fb, 0, none⟩) ∧ Hid (w5.heap.size ≤ gb ∧ w5.heap.size ≤ fb ∧ GaugeAt wc gb g ∧ FuseAt wc fb u ∧ Below w5.heap.size w5 wc))
        case first =>
          refine wp_region_held_drew (S := (fun w' => Below w5.heap.size w5 w')) (by kernel_rfl) ?_ (fun hHeld => ?_)
          · try dsimp only
            exact (by repeat (first | exact Below.refl _ _ | assumption | refine Below.drew ?_ | refine Below.drewN ?_ _ | refine Below.allocT ?_ (Nat.le_refl _) _ | refine Below.setCell ?_ (by simp <;> omega) _ | refine Below.to ?_ (by assumption) (Nat.le_refl _)))
          refine wpAnyH_take (i := 0) (v := ?v1_0) rfl (by kernel_rfl) (by kernel_rfl) (by kernel_rfl) (fun _ _ _ h => h) (Or.inl ⟨by rfl, ?y1_0⟩) (by assumption) ?r1_0
          case' y1_0 => (intro w hSw; (try dsimp only at hSw); (try have hlS := HLK.out _ hSw); obtain ⟨hcS, hfS⟩ := bcell hSw; clear hSw; go_simp; try with_reducible rfl)
          try simp only [Act.put, List.getElem_toArray, List.getElem_cons_succ, List.getElem_cons_zero, List.setIfInBounds_toArray, List.set_cons_zero, List.set_cons_succ]
          refine wpAnyH_take (i := 1) (v := ?v1_1) rfl (by kernel_rfl) (by kernel_rfl) (by kernel_rfl) (fun _ _ _ h => h) (Or.inl ⟨by rfl, ?y1_1⟩) (by assumption) ?r1_1
          case' y1_1 => (intro w hSw; (try dsimp only at hSw); (try have hlS := HLK.out _ hSw); obtain ⟨hcS, hfS⟩ := bcell hSw; clear hSw; go_simp; try with_reducible rfl)
          try simp only [Act.put, List.getElem_toArray, List.getElem_cons_succ, List.getElem_cons_zero, List.setIfInBounds_toArray, List.set_cons_zero, List.set_cons_succ]
          refine wpAnyH_take (i := 2) (v := ?v1_2) rfl (by kernel_rfl) (by kernel_rfl) (by kernel_rfl) (fun _ _ _ h => h) (Or.inl ⟨by rfl, ?y1_2⟩) (by assumption) ?r1_2
          case' y1_2 => (intro w hSw; (try dsimp only at hSw); (try have hlS := HLK.out _ hSw); obtain ⟨hcS, hfS⟩ := bcell hSw; clear hSw; go_simp; try with_reducible rfl)
          try simp only [Act.put, List.getElem_toArray, List.getElem_cons_succ, List.getElem_cons_zero, List.setIfInBounds_toArray, List.set_cons_zero, List.set_cons_succ]
          refine wpAnyH_take (i := 3) (v := ?v1_3) rfl (by kernel_rfl) (by kernel_rfl) (by kernel_rfl) (fun _ _ _ h => h) (Or.inl ⟨by rfl, ?y1_3⟩) (by assumption) ?r1_3
          case' y1_3 => (intro w hSw; (try dsimp only at hSw); (try have hlS := HLK.out _ hSw); obtain ⟨hcS, hfS⟩ := bcell hSw; clear hSw; go_simp; try with_reducible rfl)
          try simp only [Act.put, List.getElem_toArray, List.getElem_cons_succ, List.getElem_cons_zero, List.setIfInBounds_toArray, List.set_cons_zero, List.set_cons_succ]
          refine wpAnyH_take (i := 4) (v := ?v1_4) rfl (by kernel_rfl) (by kernel_rfl) (by kernel_rfl) (fun _ _ _ h => h) (Or.inl ⟨by rfl, ?y1_4⟩) (by assumption) ?r1_4
          case' y1_4 => (intro w hSw; (try dsimp only at hSw); (try have hlS := HLK.out _ hSw); obtain ⟨hcS, hfS⟩ := bcell hSw; clear hSw; go_simp; try with_reducible rfl)
          try simp only [Act.put, List.getElem_toArray, List.getElem_cons_succ, List.getElem_cons_zero, List.setIfInBounds_toArray, List.set_cons_zero, List.set_cons_succ]
          refine wpAnyH_take (i := 5) (v := ?v1_5) rfl (by kernel_rfl) (by kernel_rfl) (by kernel_rfl) (fun _ _ _ h => h) (Or.inl ⟨by rfl, ?y1_5⟩) (by assumption) ?r1_5
          case' y1_5 => (intro w hSw; (try dsimp only at hSw); (try have hlS := HLK.out _ hSw); obtain ⟨hcS, hfS⟩ := bcell hSw; clear hSw; go_simp; try with_reducible rfl)
          try simp only [Act.put, List.getElem_toArray, List.getElem_cons_succ, List.getElem_cons_zero, List.setIfInBounds_toArray, List.set_cons_zero, List.set_cons_succ]
          refine wpAnyH_take (i := 6) (v := ?v1_6) rfl (by kernel_rfl) (by kernel_rfl) (by kernel_rfl) (fun _ _ _ h => h) (Or.inl ⟨by rfl, ?y1_6⟩) (by assumption) ?r1_6
          case' y1_6 => (intro w hSw; (try dsimp only at hSw); (try have hlS := HLK.out _ hSw); obtain ⟨hcS, hfS⟩ := bcell hSw; clear hSw; go_simp; try with_reducible rfl)
          try simp only [Act.put, List.getElem_toArray, List.getElem_cons_succ, List.getElem_cons_zero, List.setIfInBounds_toArray, List.set_cons_zero, List.set_cons_succ]
          refine wpAnyH_take (i := 7) (v := ?v1_7) rfl (by kernel_rfl) (by kernel_rfl) (by kernel_rfl) (fun _ _ _ h => h) (Or.inl ⟨by rfl, ?y1_7⟩) (by assumption) ?r1_7
          case' y1_7 => (intro w hSw; (try dsimp only at hSw); (try have hlS := HLK.out _ hSw); obtain ⟨hcS, hfS⟩ := bcell hSw; clear hSw; go_simp; try with_reducible rfl)
          try simp only [Act.put, List.getElem_toArray, List.getElem_cons_succ, List.getElem_cons_zero, List.setIfInBounds_toArray, List.set_cons_zero, List.set_cons_succ]
          refine wpAnyH_take (i := 8) (v := ?v1_8) rfl (by kernel_rfl) (by kernel_rfl) (by kernel_rfl) (fun _ _ _ h => h) (Or.inl ⟨by rfl, ?y1_8⟩) (by assumption) ?r1_8
          case' y1_8 => (intro w hSw; (try dsimp only at hSw); (try have hlS := HLK.out _ hSw); obtain ⟨hcS, hfS⟩ := bcell hSw; clear hSw; go_simp; try with_reducible rfl)
          try simp only [Act.put, List.getElem_toArray, List.getElem_cons_succ, List.getElem_cons_zero, List.setIfInBounds_toArray, List.set_cons_zero, List.set_cons_succ]
          refine wpAnyH_take (i := 9) (v := ?v1_9) rfl (by kernel_rfl) (by kernel_rfl) (by kernel_rfl) (fun _ _ _ h => h) (Or.inl ⟨by rfl, ?y1_9⟩) (by assumption) ?r1_9
          case' y1_9 => (intro w hSw; (try dsimp only at hSw); (try have hlS := HLK.out _ hSw); obtain ⟨hcS, hfS⟩ := bcell hSw; clear hSw; go_simp; try with_reducible rfl)
          try simp only [Act.put, List.getElem_toArray, List.getElem_cons_succ, List.getElem_cons_zero, List.setIfInBounds_toArray, List.set_cons_zero, List.set_cons_succ]
          refine wpAnyH_take (i := 10) (v := ?v1_10) rfl (by kernel_rfl) (by kernel_rfl) (by kernel_rfl) (fun _ _ _ h => h) (Or.inl ⟨by rfl, ?y1_10⟩) (by assumption) ?r1_10
          case' y1_10 => (intro w hSw; (try dsimp only at hSw); (try have hlS := HLK.out _ hSw); obtain ⟨hcS, hfS⟩ := bcell hSw; clear hSw; go_simp; try with_reducible rfl)
          try simp only [Act.put, List.getElem_toArray, List.getElem_cons_succ, List.getElem_cons_zero, List.setIfInBounds_toArray, List.set_cons_zero, List.set_cons_succ]
          refine wpAnyH_take (i := 11) (v := ?v1_11) rfl (by kernel_rfl) (by kernel_rfl) (by kernel_rfl) (fun _ _ _ h => h) (Or.inl ⟨by rfl, ?y1_11⟩) (by assumption) ?r1_11
          case' y1_11 => (intro w hSw; (try dsimp only at hSw); (try have hlS := HLK.out _ hSw); obtain ⟨hcS, hfS⟩ := bcell hSw; clear hSw; go_simp; try with_reducible rfl)
          try simp only [Act.put, List.getElem_toArray, List.getElem_cons_succ, List.getElem_cons_zero, List.setIfInBounds_toArray, List.set_cons_zero, List.set_cons_succ]
          refine wpAnyH_start [12, 13] (fun j => match j with | 12 => 8 | 13 => 9 | _ => 0) (wkR w5) 2 rfl (by kernel_rfl) (by kernel_rfl) (by decide) (by decide) (by kernel_rfl) hHeld ?hkeep ?hstep ?hend
          case hkeep => exact fun j _ v w w' hb h => wkR_keep j hb h
          case hstep =>
            intro j hj tv w7 hS hd
            have hsz0 : w5.heap.size ≤ w7.heap.size := hS.size
            simp only [List.mem_cons, List.not_mem_nil, or_false] at hj
            rcases hj with rfl | rfl
            all_goals
              refine wpOp_step rfl (fun K hK => ?_)
              generalize hax : putAll _ _ tv _ = ax at hK ⊢
              simp only [putAll, Act.put, List.setIfInBounds_toArray, List.set_cons_zero, List.set_cons_succ] at hax
              rw [← hax]
              go_simp
              exact hK _ _ ⟨⟨_, by rw [← hax]; rfl, _, rfl, hsz0, heap_alloc_new _ _⟩, (by repeat (first | exact Below.refl _ _ | assumption | refine Below.drew ?_ | refine Below.drewN ?_ _ | refine Below.allocT ?_ (Nat.le_refl _) _ | refine Below.setCell ?_ (by simp <;> omega) _ | refine Below.to ?_ (by assumption) (Nat.le_refl _))), (by repeat (first | exact Below.refl _ _ | assumption | refine Below.drew ?_ | refine Below.drewN ?_ _ | refine Below.allocT ?_ (Nat.le_refl _) _ | refine Below.setCell ?_ (by simp <;> omega) _ | refine Below.to ?_ (by assumption) (Nat.le_refl _)))⟩
          case hend =>
            intro tv w7 hS hR
            obtain ⟨p, e12, hp, hpb⟩ := hR 12 (by decide)
            obtain ⟨q, e13, hq, hqb⟩ := hR 13 (by decide)
            clear hR
            have hne : ¬ p = q := fun e => by
              subst e
              rw [hpb] at hqb
              injection hqb with hqb
              injection hqb with _ hqb
              exact absurd hqb (by decide)
            have hne' : ¬ q = p := fun e => hne e.symm
            have hlp := box_lt hpb
            have hlq := box_lt hqb
            have HP := hide hpb
            have HQ := hide hqb
            have p0 := cellOf hpb 0
            have p1 := cellOf hpb 1
            have p2 := cellOf hpb 2
            have p3 := cellOf hpb 3
            have p4 := cellOf hpb 4
            have r0 := unfrozenOf hpb 0
            have r1 := unfrozenOf hpb 1
            have r2 := unfrozenOf hpb 2
            have r3 := unfrozenOf hpb 3
            have r4 := unfrozenOf hpb 4
            have s0 := cellOf hqb 0
            have s1 := cellOf hqb 1
            have v0 := unfrozenOf hqb 0
            have v1 := unfrozenOf hqb 1
            clear hpb hqb
            simp only [putAll, Act.put, List.setIfInBounds_toArray, List.set_cons_zero, List.set_cons_succ, e12, e13]
            refine wpAnyH_ready (rs := [14]) (by kernel_rfl) (by simp) ?_
            refine AllReadyH.cons rfl (fun K hK => ?_) AllReadyH.nil
            go_simp
            refine hK.out _ _ ?_ (fun hNext => ?_)
            · refine Below.setCell (Below.setCell (Below.setCell (Below.setCell (Below.setCell hS ?_ _) ?_ _) ?_ _) ?_ _) ?_ _ <;> exact hp
            clear hK K
            refine wpAnyH_ready (rs := [15]) (by kernel_rfl) (by simp) ?_
            refine AllReadyH.cons rfl (fun K hK => ?_) AllReadyH.nil
            go_simp
            refine hK.out _ _ ?_ (fun hNext2 => ?_)
            · refine Below.setCell (Below.setCell hNext ?_ _) ?_ _ <;> exact hq
            clear hK K
            refine wpAnyH_done (by kernel_rfl) ?_ _
            go_wp2_with fail
            go_meet
            case rel =>
              refine ⟨p, q, rfl, rfl, hp, hq, ?_, ?_, hNext2⟩
              · unfold GaugeAt
                rw [Below.heap_setCell _ _ _ _ hne, Below.heap_setCell _ _ _ _ hne]
                exact setCellOf (setCellOf (setCellOf (setCellOf (setCellOf HP.out _) _) _) _) _
              · unfold FuseAt
                have hq0 := HQ.out
                rw [← Below.heap_setCell w7 ⟨p, 0, none⟩ (.int .i64 g.area) q hne', ← Below.heap_setCell _ ⟨p, 1, none⟩ (.int .i64 g.ohm) q hne', ← Below.heap_setCell _ ⟨p, 2, none⟩ (.int .i64 g.heat) q hne', ← Below.heap_setCell _ ⟨p, 3, none⟩ (.int .i64 g.cool) q hne', ← Below.heap_setCell _ ⟨p, 4, none⟩ (.int .i64 g.limit) q hne'] at hq0
                exact setCellOf (setCellOf hq0 _) _
        case rest =>
          obtain ⟨gb, fb, rfl, rfl, hR⟩ := hcut
          clear k0 k1 k2 x1 x2 g0 g1 g2 g3 g4 u0 u1 hlb0 hlb1 hl5 hl6
          have HB6 : Hid (Below w5.heap.size w5 wc) := hR.out.2.2.2.2
          have HR6 : Hid (WkRd w.heap.size ob wr.heap.size (wr.heap.size + 1) gb fb k ⟨fp, gi, fi, fn, fcs⟩ g u C cp (.slice (some ⟨b0, off0, none⟩) gs.length cap0) (.slice (some ⟨b1, off1, none⟩) fs.length cap1) (.slice (some ⟨b, off, none⟩) es.length cap) wc) :=
            ⟨heap_below HI5.out HB6.out, heap_below HX5.out HB6.out, hR.out.2.2.1, hR.out.2.2.2.1, heap_below HWI5.out HB6.out, Sl.below hy.out (Below.to ((HB5.out.mono HBq.out.size)) (HB6.out.mono (Nat.le_refl _)) (by have := HBq.out.size; omega))⟩
          have hibo : ob < wr.heap.size := by omega
          have hxbo : ob < wr.heap.size + 1 := by omega
          have hgbo : ob < gb := by have := hR.out.1; have := HL5.out; omega
          have hfbo : ob < fb := by have := hR.out.2.1; have := HL5.out; omega
          obtain ⟨v6, hO6⟩ := HO5.out
          have HO6 := hide (hO6.below HB6.out)
          have HK6 : Hid (KeepW ob w2 wc) := (hK.out.trans (KeepW.of HB5.out (by omega))).trans (KeepW.of HB6.out (by have := HL5.out; omega))
          clear hO6
          have hGo : Hid (g.Ok) := Ga.ok_iff.1 (by rw [← HZg.out]; exact tableB_get HOK.out.tab hgl)
          have hUo : Hid (u.Ok) := Fu.ok_iff.1 (by rw [← HZu.out]; exact fusB_get HOK.out.fus hfl)
          obtain ⟨d1, hd1⟩ : ∃ x, fitsB g fn fcs = x := ⟨_, rfl⟩
          obtain ⟨d2, hd2⟩ : ∃ x, holdsB u fcs = x := ⟨_, rfl⟩
          obtain ⟨d3, hd3⟩ : ∃ x, leastI (ungB u g fn.amb) = x := ⟨_, rfl⟩
          have HD1 := hide hd1
          have HD2 := hide hd2
          have HD3 := hide hd3
          clear hd1 hd2 hd3
          have hlk := wkAll_le gs fs es k
          obtain ⟨L, hL⟩ : ∃ L, wkAll gs fs es k = L := ⟨_, rfl⟩
          have HL := hide hL
          rw [hL] at HO6 hlk
          clear hL
          have hsz6 : w.heap.size < wc.heap.size := by have := HB6.out.size; omega
          obtain ⟨q0, q1, q2, q3, q4, q5, q6, q7, q8, q9, q10, q11, q12, q13⟩ := HR6.out.cells
          go_wp2_with fail
          refine (fits_any g fn _ fcs _ hGo.out HN.out (Sl.more HR6.out.cy (Nat.le_of_lt hsz6))).mono ?_
          rw [HD1.out]
          rintro e w1a ⟨rfl, hBa⟩
          have HR1a := hide (HR6.out.keep (KeepW.of hBa (by have := (HK6.out).size; have := HS2.out; omega)) hw0ob hibo hxbo hgbo hfbo)
          have HO1a := hide (HO6.out.below hBa)
          have HK1a : Hid (KeepW ob wc w1a) := (KeepW.refl ob wc).trans (KeepW.of hBa (by have := ((KeepW.refl ob wc)).size; have := (HK6.out).size; have := HS2.out; omega))
          clear q0 q1 q2 q3 q4 q5 q6 q7 q8 q9 q10 q11 q12 q13
          clear hBa
          go_wp2_with fail
          refine (put_any 1 k (!d1) ob wr.heap.size _ L _ HO1a.out HR1a.out.i (by omega)).mono ?_
          rintro e w1z ⟨rfl, ⟨v1z, hOz⟩, hKz⟩
          have HR1z := hide (HR1a.out.keep hKz hw0ob hibo hxbo hgbo hfbo)
          have HO1z := hide hOz
          have HK1z : Hid (KeepW ob wc w1z) := HK1a.out.trans hKz
          clear hOz hKz
          obtain ⟨q0, q1, q2, q3, q4, q5, q6, q7, q8, q9, q10, q11, q12, q13⟩ := HR1z.out.cells
          go_wp2_with fail
          refine (holds_any u _ fcs _ hUo.out HN.out.cyc (Sl.more HR1z.out.cy (by have := HK1z.out.size; omega))).mono ?_
          rw [HD2.out]
          rintro e w2a ⟨rfl, hBa⟩
          have HR2a := hide (HR1z.out.keep (KeepW.of hBa (by have := (HK6.out).size; have := HS2.out; have := HK1z.out.size; omega)) hw0ob hibo hxbo hgbo hfbo)
          have HO2a := hide (HO1z.out.below hBa)
          have HK2a : Hid (KeepW ob wc w2a) := HK1z.out.trans (KeepW.of hBa (by have := (HK1z.out).size; have := (HK6.out).size; have := HS2.out; omega))
          clear q0 q1 q2 q3 q4 q5 q6 q7 q8 q9 q10 q11 q12 q13
          clear hBa
          go_wp2_with fail
          refine (put_any 2 k (!d2) ob wr.heap.size _ (L ++ putL (!d1) k 1) _ HO2a.out HR2a.out.i (by simp only [List.length_append]; have := putL_le (!d1) k 1; omega)).mono ?_
          rintro e w2z ⟨rfl, ⟨v2z, hOz⟩, hKz⟩
          have HR2z := hide (HR2a.out.keep hKz hw0ob hibo hxbo hgbo hfbo)
          have HO2z := hide hOz
          have HK2z : Hid (KeepW ob wc w2z) := HK2a.out.trans hKz
          clear hOz hKz
          obtain ⟨q0, q1, q2, q3, q4, q5, q6, q7, q8, q9, q10, q11, q12, q13⟩ := HR2z.out.cells
          go_wp2_with fail
          refine (unguarded_any u g fn.amb _ hUo.out hGo.out HN.out.amb0 HN.out.amb1).mono ?_
          rw [HD3.out]
          rintro e w3a ⟨rfl, hBa⟩
          have HR3a := hide (HR2z.out.keep (KeepW.of hBa (by have := (HK6.out).size; have := HS2.out; have := HK2z.out.size; omega)) hw0ob hibo hxbo hgbo hfbo)
          have HO3a := hide (HO2z.out.below hBa)
          have HK3a : Hid (KeepW ob wc w3a) := HK2z.out.trans (KeepW.of hBa (by have := (HK2z.out).size; have := (HK6.out).size; have := HS2.out; omega))
          clear q0 q1 q2 q3 q4 q5 q6 q7 q8 q9 q10 q11 q12 q13
          clear hBa
          go_wp2_with fail
          refine (put_any 3 k (decide (0 ≤ d3)) ob wr.heap.size _ (L ++ putL (!d1) k 1 ++ putL (!d2) k 2) _ HO3a.out HR3a.out.i (by simp only [List.length_append]; have := putL_le (!d1) k 1; have := putL_le (!d2) k 2; omega)).mono ?_
          rintro e w3z ⟨rfl, ⟨v3z, hOz⟩, hKz⟩
          have HR3z := hide (HR3a.out.keep hKz hw0ob hibo hxbo hgbo hfbo)
          have HO3z := hide hOz
          have HK3z : Hid (KeepW ob wc w3z) := HK3a.out.trans hKz
          clear hOz hKz
          obtain ⟨q0, q1, q2, q3, q4, q5, q6, q7, q8, q9, q10, q11, q12, q13⟩ := HR3z.out.cells
          by_cases hpn : fp < 0
          · have hpd : decide (0 ≤ fp) = false := by simpa using hpn
            go_wp2_with fail
            go_roundw
            case rel =>
              have hwk : wkAll gs fs es (k + 1) = L ++ putL (!d1) k 1 ++ putL (!d2) k 2 ++ putL (decide (0 ≤ d3)) k 3 := by
                show wkAll gs fs es k ++ wkL gs fs es k = _
                unfold wkL
                rw [HL.out, HZ.out]
                dsimp only
                rw [Int.toNat_natCast, Int.toNat_natCast, HZg.out, HZu.out, HD1.out, HD2.out, HD3.out, if_pos hpn, List.append_nil, List.append_assoc, List.append_assoc]
              exact ⟨k + 1, by omega, by go_num, ⟨v3z, by rw [hwk]; exact HO3z.out⟩, HK6.out.trans HK3z.out⟩
            case measure => simp [intOf]; omega
          · obtain ⟨pi, hpi⟩ : ∃ pi : Nat, fp = pi := ⟨fp.toNat, by omega⟩
            subst hpi
            have hpl : pi < es.length := by omega
            have hp1 : (pi : Int) < (es.length : Int) := by omega
            have hp2 : (0 : Int) ≤ (pi : Int) := by omega
            have hKz : Hid (KeepW ob w2 w3z) := HK6.out.trans HK3z.out
            have HBz : Hid (Below w.heap.size w w3z) := HBw.out.trans ((hKz.out.below (by have := HS2.out; omega)).mono (by omega))
            obtain ⟨a, Ca, cpa, HZa, _, hbb, a0, a1, a2, a3, a4, a5, a6, hya⟩ := feAtB HBz.out (show (some ⟨b, off, none⟩ : Option Addr) = some ⟨b, off, none⟩ ∧ b < w.heap.size ∨ es.length = 0 from .inl ⟨rfl, hbw⟩) HC.out HCY.out hpl
            have hao := HOK.out.at hpl HZa.out
            obtain ⟨ap, ag, af, an, acs⟩ := a
            dsimp only at a0 a1 a2 a3 a4 a5 a6
            obtain ⟨ai, hai⟩ : ∃ ai : Nat, af = ai := ⟨af.toNat, by have : 0 ≤ af := hao.fu0; omega⟩
            subst hai
            have hail : ai < fs.length := by have := hao.fu1; dsimp only at this; omega
            have HNa := hide hao.need.cyc
            dsimp only at HNa
            clear hao
            have hia0 : (0 : Int) ≤ (ai : Int) := by omega
            have hia1 : (ai : Int) < (fs.length : Int) := by omega
            go_upto_region 15 with (fail)
            generalize hw8 : World.alloc _ _ = w8
            obtain ⟨hb8, hB8, hs8⟩ := alloc1 hw8
            clear hw8 a0 a1 a2 a3 a4 a5 a6
            clear q0 q1 q2 q3 q4 q5 q6 q7 q8 q9 q10 q11 q12 q13
            have HA8 := hide hb8
            have hz8 : ob < w3z.heap.size := by have := hKz.out.size; have := HS2.out; omega
            have HK8 : Hid (KeepW ob w3z w8) := KeepW.of hB8 hz8
            have HR8 := hide (HR3z.out.keep HK8.out hw0ob hibo hxbo hgbo hfbo)
            have HO8 := hide (HO3z.out.below hB8)
            have HB8 : Hid (Below w.heap.size w w8) := Below.to HBz.out hB8 (Nat.le_refl _)
            have hya8 : Hid (Cyc w8 w.heap.size (.slice Ca acs.length cpa) acs) := Sl.below hya.out (hB8.mono HBz.out.size)
            obtain ⟨y, HZy, _, hbw1', y0, y1⟩ := fuAtB HB8.out (show (some ⟨b1, off1, none⟩ : Option Addr) = some ⟨b1, off1, none⟩ ∧ b1 < w.heap.size ∨ fs.length = 0 from .inl ⟨rfl, hbw1⟩) HC1.out hail
            have hYo : Hid (y.Ok) := Fu.ok_iff.1 (by rw [← HZy.out]; exact fusB_get HOK.out.fus hail)
            obtain ⟨d4, hd4⟩ : ∃ x, leastI (selB u y) = x := ⟨_, rfl⟩
            obtain ⟨d5, hd5⟩ : ∃ x, gtI fcs = x := ⟨_, rfl⟩
            obtain ⟨d6, hd6⟩ : ∃ x, gtI acs = x := ⟨_, rfl⟩
            have HD4 := hide hd4
            have HD5 := hide hd5
            have HD6 := hide hd6
            clear hd4 hd5 hd6
            have hsz8 : ob < w8.heap.size := by omega
            have h15 : Hid (∀ w', KeepW ob w8 w' → w'.cell? ⟨fb, 0, none⟩ = some (.int .i64 u.rating) ∧ w'.cell? ⟨fb, 1, none⟩ = some (.int .i64 u.melt) ∧ w'.cell? ⟨w.heap.size, 1, none⟩ = some (.slice (some ⟨b1, off1, none⟩) fs.length cap1) ∧ w'.cell? ⟨w3z.heap.size, 2, none⟩ = some (.int .i64 ai) ∧ w'.cell? ⟨b1, off1 + ai * 2, none⟩ = some (.int .i64 y.rating) ∧ w'.cell? ⟨b1, off1 + ai * 2 + 1, none⟩ = some (.int .i64 y.melt) ∧ KeepW ob w8 w') := fun w' hk => by
              have hr := HR8.out.keep hk hw0ob hibo hxbo hgbo hfbo
              have hh := hk.high _ _ _ _ HA8.out (by omega) (by decide)
              have hlo : ∀ o, w'.cell? ⟨b1, o, none⟩ = w8.cell? ⟨b1, o, none⟩ := fun o => World.cell?_of_block (a := ⟨b1, o, none⟩) (hk.low b1 (by omega))
              exact ⟨cellOf hr.ff 0, cellOf hr.ff 1, cellOf hr.wi 1, cellOf hh 2, (hlo _).trans y0, (hlo _).trans y1, hk⟩
            clear y0 y1 hb8 hs8 hB8
            obtain ⟨j0, j1, j2, j3, j4, j5, _⟩ := h15.out w8 (KeepW.refl _ _)
            refine wp_region_held_drew (S := (fun w' => w'.cell? ⟨fb, 0, none⟩ = some (.int .i64 u.rating) ∧ w'.cell? ⟨fb, 1, none⟩ = some (.int .i64 u.melt) ∧ w'.cell? ⟨w.heap.size, 1, none⟩ = some (.slice (some ⟨b1, off1, none⟩) fs.length cap1) ∧ w'.cell? ⟨w3z.heap.size, 2, none⟩ = some (.int .i64 ai) ∧ w'.cell? ⟨b1, off1 + ai * 2, none⟩ = some (.int .i64 y.rating) ∧ w'.cell? ⟨b1, off1 + ai * 2 + 1, none⟩ = some (.int .i64 y.melt) ∧ KeepW ob w8 w')) (by kernel_rfl) ?_ (fun hHeld => ?_)
            · try dsimp only
              first | exact h15.out _ hKx.out | exact h15.out _ (KeepW.refl _ _).drew
            refine wpAnyH_take (i := 0) (v := ?v2_0) rfl (by kernel_rfl) (by kernel_rfl) (by kernel_rfl) (fun _ _ _ h => h) (Or.inl ⟨by rfl, ?y2_0⟩) (by assumption) ?r2_0
            case' y2_0 => (intro w hSw; (try dsimp only at hSw); go_simp; try with_reducible rfl)
            try simp only [Act.put, List.getElem_toArray, List.getElem_cons_succ, List.getElem_cons_zero, List.setIfInBounds_toArray, List.set_cons_zero, List.set_cons_succ]
            refine wpAnyH_take (i := 1) (v := ?v2_1) rfl (by kernel_rfl) (by kernel_rfl) (by kernel_rfl) (fun _ _ _ h => h) (Or.inl ⟨by rfl, ?y2_1⟩) (by assumption) ?r2_1
            case' y2_1 => (intro w hSw; (try dsimp only at hSw); go_simp; try with_reducible rfl)
            try simp only [Act.put, List.getElem_toArray, List.getElem_cons_succ, List.getElem_cons_zero, List.setIfInBounds_toArray, List.set_cons_zero, List.set_cons_succ]
            refine wpAnyH_take (i := 2) (v := ?v2_2) rfl (by kernel_rfl) (by kernel_rfl) (by kernel_rfl) (fun _ _ _ h => h) (Or.inl ⟨by rfl, ?y2_2⟩) (by assumption) ?r2_2
            case' y2_2 => (intro w hSw; (try dsimp only at hSw); go_simp; try with_reducible rfl)
            try simp only [Act.put, List.getElem_toArray, List.getElem_cons_succ, List.getElem_cons_zero, List.setIfInBounds_toArray, List.set_cons_zero, List.set_cons_succ]
            refine wpAnyH_take (i := 3) (v := ?v2_3) rfl (by kernel_rfl) (by kernel_rfl) (by kernel_rfl) (fun _ _ _ h => h) (Or.inl ⟨by rfl, ?y2_3⟩) (by assumption) ?r2_3
            case' y2_3 => (intro w hSw; (try dsimp only at hSw); go_simp; try with_reducible rfl)
            try simp only [Act.put, List.getElem_toArray, List.getElem_cons_succ, List.getElem_cons_zero, List.setIfInBounds_toArray, List.set_cons_zero, List.set_cons_succ]
            refine wpAnyH_take (i := 4) (v := ?v2_4) rfl (by kernel_rfl) (by kernel_rfl) (by kernel_rfl) (fun _ _ _ h => h) (Or.inl ⟨by rfl, ?y2_4⟩) (by assumption) ?r2_4
            case' y2_4 => (intro w hSw; (try dsimp only at hSw); go_simp; try with_reducible rfl)
            try simp only [Act.put, List.getElem_toArray, List.getElem_cons_succ, List.getElem_cons_zero, List.setIfInBounds_toArray, List.set_cons_zero, List.set_cons_succ]
            refine wpAnyH_take (i := 5) (v := ?v2_5) rfl (by kernel_rfl) (by kernel_rfl) (by kernel_rfl) (fun _ _ _ h => h) (Or.inl ⟨by rfl, ?y2_5⟩) (by assumption) ?r2_5
            case' y2_5 => (intro w hSw; (try dsimp only at hSw); go_simp; try with_reducible rfl)
            try simp only [Act.put, List.getElem_toArray, List.getElem_cons_succ, List.getElem_cons_zero, List.setIfInBounds_toArray, List.set_cons_zero, List.set_cons_succ]
            refine wpAnyH_take (i := 6) (v := ?v2_6) rfl (by kernel_rfl) (by kernel_rfl) (by kernel_rfl) (fun _ _ _ h => h) (Or.inl ⟨by rfl, ?y2_6⟩) (by assumption) ?r2_6
            case' y2_6 => (intro w hSw; (try dsimp only at hSw); go_simp; try with_reducible rfl)
            try simp only [Act.put, List.getElem_toArray, List.getElem_cons_succ, List.getElem_cons_zero, List.setIfInBounds_toArray, List.set_cons_zero, List.set_cons_succ]
            refine wpAnyH_take (i := 7) (v := ?v2_7) rfl (by kernel_rfl) (by kernel_rfl) (by kernel_rfl) (fun _ _ _ h => h) (Or.inl ⟨by rfl, ?y2_7⟩) (by assumption) ?r2_7
            case' y2_7 => (intro w hSw; (try dsimp only at hSw); go_simp; try with_reducible rfl)
            try simp only [Act.put, List.getElem_toArray, List.getElem_cons_succ, List.getElem_cons_zero, List.setIfInBounds_toArray, List.set_cons_zero, List.set_cons_succ]
            refine wpAnyH_ready (rs := [8]) (by kernel_rfl) (by simp) ?_
            refine AllReadyH.cons rfl (fun K hK => ?_) AllReadyH.nil
            go_simp
            (first | (go_at_call 63; refine (selective_any u y _ hUo.out hYo.out).mono ?_; rw [HD4.out]; rintro e w9 ⟨rfl, hB9⟩; have HB9 : Hid (Below w8.heap.size w8 w9) := ⟨hB9.os, hB9.tape, hB9.output, hB9.size, hB9.block⟩; have hKx : Hid (KeepW ob w8 w9) := KeepW.of HB9.out hsz8; have HO9 := hide (HO8.out.below HB9.out); clear hB9) | (go_at_call 81; refine (put_any 4 k (decide (0 ≤ d4)) ob wr.heap.size _ _ _ HO9.out (HR8.out.keep hKx.out hw0ob hibo hxbo hgbo hfbo).i (by simp only [List.length_append]; have := putL_le (!d1) k 1; have := putL_le (!d2) k 2; have := putL_le (decide (0 ≤ d3)) k 3; omega)).mono ?_; rintro e w10 ⟨rfl, ⟨v10, hO10⟩, hK10⟩; have HO10 := hide hO10; have hKx : Hid (KeepW ob w8 w10) := hKx.out.trans hK10; clear hO10 hK10))
            (try dsimp only)
            refine hK.out _ _ ?_ (fun hNext => ?_)
            · try dsimp only
              first | exact h15.out _ hKx.out | exact h15.out _ (KeepW.refl _ _).drew
            clear hK K hHeld
            have hHeld := hNext
            clear hNext
            (try dsimp only at hHeld)
            try simp only [Act.put, List.getElem_toArray, List.getElem_cons_succ, List.getElem_cons_zero, List.setIfInBounds_toArray, List.set_cons_zero, List.set_cons_succ]
            refine wpAnyH_take (i := 9) (v := ?v2_9) rfl (by kernel_rfl) (by kernel_rfl) (by kernel_rfl) (fun _ _ _ h => h) (Or.inl ⟨by rfl, ?y2_9⟩) (by assumption) ?r2_9
            case' y2_9 => (intro w hSw; (try dsimp only at hSw); go_simp; try with_reducible rfl)
            try simp only [Act.put, List.getElem_toArray, List.getElem_cons_succ, List.getElem_cons_zero, List.setIfInBounds_toArray, List.set_cons_zero, List.set_cons_succ]
            refine wpAnyH_ready (rs := [10]) (by kernel_rfl) (by simp) ?_
            refine AllReadyH.cons rfl (fun K hK => ?_) AllReadyH.nil
            go_simp
            (first | (go_at_call 63; refine (selective_any u y _ hUo.out hYo.out).mono ?_; rw [HD4.out]; rintro e w9 ⟨rfl, hB9⟩; have HB9 : Hid (Below w8.heap.size w8 w9) := ⟨hB9.os, hB9.tape, hB9.output, hB9.size, hB9.block⟩; have hKx : Hid (KeepW ob w8 w9) := KeepW.of HB9.out hsz8; have HO9 := hide (HO8.out.below HB9.out); clear hB9) | (go_at_call 81; refine (put_any 4 k (decide (0 ≤ d4)) ob wr.heap.size _ _ _ HO9.out (HR8.out.keep hKx.out hw0ob hibo hxbo hgbo hfbo).i (by simp only [List.length_append]; have := putL_le (!d1) k 1; have := putL_le (!d2) k 2; have := putL_le (decide (0 ≤ d3)) k 3; omega)).mono ?_; rintro e w10 ⟨rfl, ⟨v10, hO10⟩, hK10⟩; have HO10 := hide hO10; have hKx : Hid (KeepW ob w8 w10) := hKx.out.trans hK10; clear hO10 hK10))
            (try dsimp only)
            refine hK.out _ _ ?_ (fun hNext => ?_)
            · try dsimp only
              first | exact h15.out _ hKx.out | exact h15.out _ (KeepW.refl _ _).drew
            clear hK K hHeld
            have hHeld := hNext
            clear hNext
            (try dsimp only at hHeld)
            try simp only [Act.put, List.getElem_toArray, List.getElem_cons_succ, List.getElem_cons_zero, List.setIfInBounds_toArray, List.set_cons_zero, List.set_cons_succ]
            refine wpAnyH_done (by kernel_rfl) ?_ _
            have HKa : Hid (KeepW ob w8 w10) := hKx.out
            clear j0 j1 j2 j3 j4 j5 hHeld hKx
            have hsz10 : ob < w10.heap.size := by have := HKa.out.size; omega
            have HR10 := hide (HR8.out.keep HKa.out hw0ob hibo hxbo hgbo hfbo)
            have h16 : Hid (∀ w', KeepW ob w10 w' → w'.cell? ⟨wr.heap.size + 1, 3, none⟩ = some (.slice C fcs.length cp) ∧ w'.cell? ⟨w3z.heap.size, 3, none⟩ = some (.slice Ca acs.length cpa) ∧ KeepW ob w10 w') := fun w' hk =>
              ⟨cellOf (HR10.out.keep hk hw0ob hibo hxbo hgbo hfbo).x 3, cellOf (hk.high _ _ _ _ (HKa.out.high _ _ _ _ HA8.out (by omega) (by decide)) (by omega) (by decide)) 3, hk⟩
            obtain ⟨j0, j1, _⟩ := h16.out w10 (KeepW.refl _ _)
            have hcyf : Hid (∀ w', KeepW ob w10 w' → Cyc w' w'.heap.size (.slice C fcs.length cp) fcs) := fun w' hk => Sl.more (HR10.out.keep hk hw0ob hibo hxbo hgbo hfbo).cy (by have := hk.size; omega)
            have hcya : Hid (∀ w', KeepW ob w10 w' → Cyc w' w'.heap.size (.slice Ca acs.length cpa) acs) := fun w' hk => Sl.more (cycKeep hya8.out (HKa.out.trans hk) (by omega)) (by have := hk.size; omega)
            go_wp2_with fail
            refine wp_region_held_drew (S := (fun w' => w'.cell? ⟨wr.heap.size + 1, 3, none⟩ = some (.slice C fcs.length cp) ∧ w'.cell? ⟨w3z.heap.size, 3, none⟩ = some (.slice Ca acs.length cpa) ∧ KeepW ob w10 w')) (by kernel_rfl) ?_ (fun hHeld => ?_)
            · try dsimp only
              first | exact h16.out _ hKx.out | exact h16.out _ (KeepW.refl _ _).drew
            refine wpAnyH_take (i := 0) (v := ?v3_0) rfl (by kernel_rfl) (by kernel_rfl) (by kernel_rfl) (fun _ _ _ h => h) (Or.inl ⟨by rfl, ?y3_0⟩) (by assumption) ?r3_0
            case' y3_0 => (intro w hSw; (try dsimp only at hSw); go_simp; try with_reducible rfl)
            try simp only [Act.put, List.getElem_toArray, List.getElem_cons_succ, List.getElem_cons_zero, List.setIfInBounds_toArray, List.set_cons_zero, List.set_cons_succ]
            refine wpAnyH_take (i := 1) (v := ?v3_1) rfl (by kernel_rfl) (by kernel_rfl) (by kernel_rfl) (fun _ _ _ h => h) (Or.inl ⟨by rfl, ?y3_1⟩) (by assumption) ?r3_1
            case' y3_1 => (intro w hSw; (try dsimp only at hSw); go_simp; try with_reducible rfl)
            try simp only [Act.put, List.getElem_toArray, List.getElem_cons_succ, List.getElem_cons_zero, List.setIfInBounds_toArray, List.set_cons_zero, List.set_cons_succ]
            refine wpAnyH_take (i := 2) (v := ?v3_2) rfl (by kernel_rfl) (by kernel_rfl) (by kernel_rfl) (fun _ _ _ h => h) (Or.inl ⟨by rfl, ?y3_2⟩) (by assumption) ?r3_2
            case' y3_2 => (intro w hSw; (try dsimp only at hSw); go_simp; try with_reducible rfl)
            try simp only [Act.put, List.getElem_toArray, List.getElem_cons_succ, List.getElem_cons_zero, List.setIfInBounds_toArray, List.set_cons_zero, List.set_cons_succ]
            refine wpAnyH_take (i := 3) (v := ?v3_3) rfl (by kernel_rfl) (by kernel_rfl) (by kernel_rfl) (fun _ _ _ h => h) (Or.inl ⟨by rfl, ?y3_3⟩) (by assumption) ?r3_3
            case' y3_3 => (intro w hSw; (try dsimp only at hSw); go_simp; try with_reducible rfl)
            try simp only [Act.put, List.getElem_toArray, List.getElem_cons_succ, List.getElem_cons_zero, List.setIfInBounds_toArray, List.set_cons_zero, List.set_cons_succ]
            refine wpAnyH_take (i := 5) (v := ?v3_5) rfl (by kernel_rfl) (by kernel_rfl) (by kernel_rfl) (fun _ _ _ h => h) (Or.inl ⟨by rfl, ?y3_5⟩) (by assumption) ?r3_5
            case' y3_5 => (intro w hSw; (try dsimp only at hSw); go_simp; try with_reducible rfl)
            try simp only [Act.put, List.getElem_toArray, List.getElem_cons_succ, List.getElem_cons_zero, List.setIfInBounds_toArray, List.set_cons_zero, List.set_cons_succ]
            refine wpAnyH_take (i := 6) (v := ?v3_6) rfl (by kernel_rfl) (by kernel_rfl) (by kernel_rfl) (fun _ _ _ h => h) (Or.inl ⟨by rfl, ?y3_6⟩) (by assumption) ?r3_6
            case' y3_6 => (intro w hSw; (try dsimp only at hSw); go_simp; try with_reducible rfl)
            try simp only [Act.put, List.getElem_toArray, List.getElem_cons_succ, List.getElem_cons_zero, List.setIfInBounds_toArray, List.set_cons_zero, List.set_cons_succ]
            refine wpAnyH_take (i := 7) (v := ?v3_7) rfl (by kernel_rfl) (by kernel_rfl) (by kernel_rfl) (fun _ _ _ h => h) (Or.inl ⟨by rfl, ?y3_7⟩) (by assumption) ?r3_7
            case' y3_7 => (intro w hSw; (try dsimp only at hSw); go_simp; try with_reducible rfl)
            try simp only [Act.put, List.getElem_toArray, List.getElem_cons_succ, List.getElem_cons_zero, List.setIfInBounds_toArray, List.set_cons_zero, List.set_cons_succ]
            refine wpAnyH_ready (rs := [4]) (by kernel_rfl) (by simp) ?_
            refine AllReadyH.cons rfl (fun K hK => ?_) AllReadyH.nil
            go_simp
            (first | (go_at_call 82; refine (greatest_any (.slice C fcs.length cp) fcs _ HN.out.cyc (hcyf.out _ (KeepW.refl _ _).drew)).mono ?_; rw [HD5.out]; rintro e w11 ⟨rfl, hB11⟩; have HB11 : Hid (Below w10.heap.size w10 w11) := ⟨hB11.os, hB11.tape, hB11.output, hB11.size, hB11.block⟩; have hKx : Hid (KeepW ob w10 w11) := KeepW.of HB11.out hsz10; have HO11 := hide (HO10.out.below HB11.out); clear hB11) | (go_at_call 82; refine (greatest_any (.slice Ca acs.length cpa) acs _ HNa.out (hcya.out _ hKx.out)).mono ?_; rw [HD6.out]; rintro e w12 ⟨rfl, hB12⟩; have HO12 := hide (HO11.out.below hB12); have hKx : Hid (KeepW ob w10 w12) := hKx.out.trans (KeepW.of hB12 (by have := hKx.out.size; omega)); clear hB12) | (go_at_call 81; refine (put_any 5 k (decide (d6 < d5)) ob wr.heap.size _ _ _ HO12.out (HR10.out.keep hKx.out hw0ob hibo hxbo hgbo hfbo).i (by simp only [List.length_append]; have := putL_le (!d1) k 1; have := putL_le (!d2) k 2; have := putL_le (decide (0 ≤ d3)) k 3; have := putL_le (decide (0 ≤ d4)) k 4; omega)).mono ?_; rintro e w13 ⟨rfl, ⟨v13, hO13⟩, hK13⟩; have HO13 := hide hO13; have hKx : Hid (KeepW ob w10 w13) := hKx.out.trans hK13; clear hO13 hK13))
            (try dsimp only)
            refine hK.out _ _ ?_ (fun hNext => ?_)
            · try dsimp only
              first | exact h16.out _ hKx.out | exact h16.out _ (KeepW.refl _ _).drew
            clear hK K hHeld
            have hHeld := hNext
            clear hNext
            (try dsimp only at hHeld)
            try simp only [Act.put, List.getElem_toArray, List.getElem_cons_succ, List.getElem_cons_zero, List.setIfInBounds_toArray, List.set_cons_zero, List.set_cons_succ]
            refine wpAnyH_ready (rs := [8]) (by kernel_rfl) (by simp) ?_
            refine AllReadyH.cons rfl (fun K hK => ?_) AllReadyH.nil
            go_simp
            (first | (go_at_call 82; refine (greatest_any (.slice C fcs.length cp) fcs _ HN.out.cyc (hcyf.out _ (KeepW.refl _ _).drew)).mono ?_; rw [HD5.out]; rintro e w11 ⟨rfl, hB11⟩; have HB11 : Hid (Below w10.heap.size w10 w11) := ⟨hB11.os, hB11.tape, hB11.output, hB11.size, hB11.block⟩; have hKx : Hid (KeepW ob w10 w11) := KeepW.of HB11.out hsz10; have HO11 := hide (HO10.out.below HB11.out); clear hB11) | (go_at_call 82; refine (greatest_any (.slice Ca acs.length cpa) acs _ HNa.out (hcya.out _ hKx.out)).mono ?_; rw [HD6.out]; rintro e w12 ⟨rfl, hB12⟩; have HO12 := hide (HO11.out.below hB12); have hKx : Hid (KeepW ob w10 w12) := hKx.out.trans (KeepW.of hB12 (by have := hKx.out.size; omega)); clear hB12) | (go_at_call 81; refine (put_any 5 k (decide (d6 < d5)) ob wr.heap.size _ _ _ HO12.out (HR10.out.keep hKx.out hw0ob hibo hxbo hgbo hfbo).i (by simp only [List.length_append]; have := putL_le (!d1) k 1; have := putL_le (!d2) k 2; have := putL_le (decide (0 ≤ d3)) k 3; have := putL_le (decide (0 ≤ d4)) k 4; omega)).mono ?_; rintro e w13 ⟨rfl, ⟨v13, hO13⟩, hK13⟩; have HO13 := hide hO13; have hKx : Hid (KeepW ob w10 w13) := hKx.out.trans hK13; clear hO13 hK13))
            (try dsimp only)
            refine hK.out _ _ ?_ (fun hNext => ?_)
            · try dsimp only
              first | exact h16.out _ hKx.out | exact h16.out _ (KeepW.refl _ _).drew
            clear hK K hHeld
            have hHeld := hNext
            clear hNext
            (try dsimp only at hHeld)
            try simp only [Act.put, List.getElem_toArray, List.getElem_cons_succ, List.getElem_cons_zero, List.setIfInBounds_toArray, List.set_cons_zero, List.set_cons_succ]
            refine wpAnyH_take (i := 9) (v := ?v3_9) rfl (by kernel_rfl) (by kernel_rfl) (by kernel_rfl) (fun _ _ _ h => h) (Or.inl ⟨by rfl, ?y3_9⟩) (by assumption) ?r3_9
            case' y3_9 => (intro w hSw; (try dsimp only at hSw); go_simp; try with_reducible rfl)
            try simp only [Act.put, List.getElem_toArray, List.getElem_cons_succ, List.getElem_cons_zero, List.setIfInBounds_toArray, List.set_cons_zero, List.set_cons_succ]
            refine wpAnyH_ready (rs := [10]) (by kernel_rfl) (by simp) ?_
            refine AllReadyH.cons rfl (fun K hK => ?_) AllReadyH.nil
            go_simp
            (first | (go_at_call 82; refine (greatest_any (.slice C fcs.length cp) fcs _ HN.out.cyc (hcyf.out _ (KeepW.refl _ _).drew)).mono ?_; rw [HD5.out]; rintro e w11 ⟨rfl, hB11⟩; have HB11 : Hid (Below w10.heap.size w10 w11) := ⟨hB11.os, hB11.tape, hB11.output, hB11.size, hB11.block⟩; have hKx : Hid (KeepW ob w10 w11) := KeepW.of HB11.out hsz10; have HO11 := hide (HO10.out.below HB11.out); clear hB11) | (go_at_call 82; refine (greatest_any (.slice Ca acs.length cpa) acs _ HNa.out (hcya.out _ hKx.out)).mono ?_; rw [HD6.out]; rintro e w12 ⟨rfl, hB12⟩; have HO12 := hide (HO11.out.below hB12); have hKx : Hid (KeepW ob w10 w12) := hKx.out.trans (KeepW.of hB12 (by have := hKx.out.size; omega)); clear hB12) | (go_at_call 81; refine (put_any 5 k (decide (d6 < d5)) ob wr.heap.size _ _ _ HO12.out (HR10.out.keep hKx.out hw0ob hibo hxbo hgbo hfbo).i (by simp only [List.length_append]; have := putL_le (!d1) k 1; have := putL_le (!d2) k 2; have := putL_le (decide (0 ≤ d3)) k 3; have := putL_le (decide (0 ≤ d4)) k 4; omega)).mono ?_; rintro e w13 ⟨rfl, ⟨v13, hO13⟩, hK13⟩; have HO13 := hide hO13; have hKx : Hid (KeepW ob w10 w13) := hKx.out.trans hK13; clear hO13 hK13))
            (try dsimp only)
            refine hK.out _ _ ?_ (fun hNext => ?_)
            · try dsimp only
              first | exact h16.out _ hKx.out | exact h16.out _ (KeepW.refl _ _).drew
            clear hK K hHeld
            have hHeld := hNext
            clear hNext
            (try dsimp only at hHeld)
            try simp only [Act.put, List.getElem_toArray, List.getElem_cons_succ, List.getElem_cons_zero, List.setIfInBounds_toArray, List.set_cons_zero, List.set_cons_succ]
            refine wpAnyH_done (by kernel_rfl) ?_ _
            have HKb : Hid (KeepW ob w10 w13) := hKx.out
            clear j0 j1 hHeld hKx
            go_wp2_with fail
            go_roundw
            case rel =>
              have hwk : wkAll gs fs es (k + 1) = L ++ putL (!d1) k 1 ++ putL (!d2) k 2 ++ putL (decide (0 ≤ d3)) k 3 ++ putL (decide (0 ≤ d4)) k 4 ++ putL (decide (d6 < d5)) k 5 := by
                show wkAll gs fs es k ++ wkL gs fs es k = _
                unfold wkL
                rw [HL.out, HZ.out]
                dsimp only
                rw [Int.toNat_natCast, Int.toNat_natCast, Int.toNat_natCast, HZg.out, HZu.out, HZa.out]
                dsimp only
                rw [Int.toNat_natCast, HZy.out, HD1.out, HD2.out, HD3.out, HD4.out, HD5.out, HD6.out, if_neg (by omega), List.append_assoc, List.append_assoc, List.append_assoc, List.append_assoc]
              exact ⟨k + 1, by omega, by go_num, ⟨v13, by rw [hwk]; exact HO13.out⟩, (((hKz.out.trans HK8.out).trans HKa.out).trans HKb.out)⟩
            case measure => simp [intOf]; omega
      · obtain ⟨v, hO⟩ := hO.out
        obtain ⟨Av, cpv, rfl⟩ := owns_form hO.own
        have q0 : wr.cell? ⟨ob, 0, none⟩ = some (.slice Av (wkAll gs fs es k).length cpv) := cellOf hO.box 0
        have HO := hide hO
        clear hO
        go_wp2_with fail
        go_ret2
        have hke : k = es.length := by omega
        exact ⟨⟨.slice Av (wkAll gs fs es k).length cpv, by rw [HU.out]; first | rfl | simp, by rw [HLS.out, ← hke]; exact WkSl.of HO.out.own⟩, HBq.out⟩
  · have HLS : Hid (weakLs gs fs es = []) := by show _ = _; unfold weakLs; rw [HU.out, if_neg hu0]
    have hu1 : (u != 0) = true := by simp [hu0]
    clear hu0
    go_wp2_with fail
    go_ret2
    exact ⟨⟨.slice none 0 0, by rw [HU.out]; first | rfl | simp, by rw [HLS.out]; exact Sl.nil _ _ _ _⟩, Below.to HB0.out HB1.out (Nat.le_refl _)⟩
end Go.Proofs.Ytejjjijaojkohaa
/- What a wiring without a weakness does in a short circuit: plain laws. -/
namespace Go.Proofs.Ytejjjijaojkohaa
set_option linter.unusedVariables false
set_option linter.unusedSimpArgs false
set_option linter.unusedSectionVars false
def gaOf (gs : List Ga) (es : List Fe) (i : Nat) : Ga := gs.getD (es.getD i Fe.z).gauge.toNat Ga.z
theorem putL_nil {b : Bool} {i k : Int} (h : putL b i k = []) : b = false := by
  cases b
  · rfl
  · simp [putL] at h
theorem wkAll_nil {gs : List Ga} {fs : List Fu} {es : List Fe} : ∀ {n : Nat}, wkAll gs fs es n = [] → ∀ {i : Nat}, i < n → wkL gs fs es i = []
  | 0, _, i, hi => by omega
  | n + 1, h, i, hi => by
    have h1 : wkAll gs fs es n ++ wkL gs fs es n = [] := h
    rw [List.append_eq_nil_iff] at h1
    rcases Nat.lt_or_ge i n with h2 | h2
    · exact wkAll_nil h1.1 h2
    · rw [show i = n by omega]; exact h1.2
theorem weak_at {gs : List Ga} {fs : List Fu} {es : List Fe} (hc : chkErr gs fs es = 0) (hw : weakLs gs fs es = []) {i : Nat} (hi : i < es.length) :
    leastI (ungB (fuOf fs es i) (gaOf gs es i) (es.getD i Fe.z).n.amb) < 0 ∧ (∀ p : Nat, (es.getD i Fe.z).par = p → leastI (selB (fuOf fs es i) (fuOf fs es p)) < 0) := by
  unfold weakLs at hw
  rw [if_pos hc] at hw
  have h1 := wkAll_nil hw hi
  unfold wkL at h1
  rw [List.append_eq_nil_iff, List.append_eq_nil_iff, List.append_eq_nil_iff] at h1
  obtain ⟨_, _, h3, h4⟩ := h1
  have h3' := putL_nil h3
  simp only [decide_eq_false_iff_not] at h3'
  refine ⟨by unfold fuOf gaOf; omega, fun p hp => ?_⟩
  rw [hp, if_neg (by omega), List.append_eq_nil_iff] at h4
  have h4' := putL_nil h4.1
  simp only [decide_eq_false_iff_not, Int.toNat_natCast] at h4'
  unfold fuOf
  omega
theorem sel_lt {lo up : Fu} (hlo : lo.Ok) (hup : up.Ok) {a : Int} (h0 : 0 ≤ a) (h1 : a ≤ 500) (h : leastI (selB lo up) < 0) : blowDen up a = 0 ∨ (0 < blowDen lo a ∧ blowNum lo a * blowDen up a < blowNum up a * blowDen lo a) := by
  have h2 := leastI_neg h h0 h1
  have b1 := blow_range hlo h0 h1
  have b2 := blow_range hup h0 h1
  unfold selB at h2
  simp only [Bool.and_eq_false_iff, Bool.or_eq_false_iff, decide_eq_false_iff_not] at h2
  rcases h2 with h2 | ⟨h2, h3⟩
  · left; omega
  · right; constructor <;> omega
theorem fold_keep {fs : List Fu} {es : List Fe} {amps : Int} {s : Sh} : ∀ (L : List Nat), (∀ x ∈ L, blowDen (fuOf fs es x) amps = 0 ∨ (0 < s.den ∧ s.num * blowDen (fuOf fs es x) amps < blowNum (fuOf fs es x) amps * s.den)) → L.foldl (stepS fs es amps) s = s
  | [], _ => rfl
  | x :: L, h => by
    rw [List.foldl_cons, step_c1 rfl rfl (h x (List.mem_cons_self ..))]
    exact fold_keep L fun y hy => h y (List.mem_cons_of_mem _ hy)
section
variable {gs : List Ga} {fs : List Fu} {es : List Fe} (hc : chkErr gs fs es = 0) (hw : weakLs gs fs es = [])
include hc hw
theorem fu_ok {i : Nat} (hi : i < es.length) : (fuOf fs es i).Ok := by
  have hok := chk_iff.1 hc
  have h1 := hok.at hi rfl
  have h2 := h1.fu0
  have h3 := h1.fu1
  exact Fu.ok_iff.1 (fusB_get hok.fus (by omega))
theorem ga_ok {i : Nat} (hi : i < es.length) : (gaOf gs es i).Ok := by
  have hok := chk_iff.1 hc
  have h1 := hok.at hi rfl
  have h2 := h1.ga0
  have h3 := h1.ga1
  exact Ga.ok_iff.1 (tableB_get hok.tab (by omega))
theorem par_le : ∀ i, i < es.length → (es.getD i Fe.z).par ≤ (i : Int) - 1 := fun i hi => ((chk_iff.1 hc).at hi rfl).par1
theorem path_sel : ∀ (n : Nat) (i : Nat), i < es.length → ((es.getD i Fe.z).par + 1).toNat ≤ n → ∀ j ∈ pathL es (es.getD i Fe.z).par, leastI (selB (fuOf fs es i) (fuOf fs es j)) < 0
  | n, i, hi, hn, j, hj => by
    by_cases h0 : (es.getD i Fe.z).par < 0
    · rw [pathL_neg h0] at hj; simp at hj
    · obtain ⟨p, hp⟩ : ∃ p : Nat, (es.getD i Fe.z).par = p := ⟨(es.getD i Fe.z).par.toNat, by omega⟩
      have h1 := par_le hc hw i hi
      have hpl : p < es.length := by omega
      have h2 := (weak_at hc hw hi).2 p hp
      rw [hp, pathL_step (par_le hc hw) hpl] at hj
      rcases List.mem_cons.1 hj with rfl | hj
      · exact h2
      · have h3 := par_le hc hw p hpl
        have hjl : j < es.length := by
          have := pathL_le (par_le hc hw) _ _ (by omega) (Nat.le_refl _) j hj
          omega
        match n, hn with
        | 0, hn => omega
        | n + 1, hn =>
          have h4 := path_sel n p hpl (by omega) j hj
          have h5 := sel_trans (fuOf fs es i) (fuOf fs es p) (fuOf fs es j) (fu_ok hc hw hi) (fu_ok hc hw hpl) (fu_ok hc hw hjl) h2 h4
          omega
variable {amps : Int} (h0 : 0 ≤ amps) (h1 : amps ≤ 500) {k : Nat} (hk : k < es.length)
include h0 h1 hk
theorem path_lt : ∀ j ∈ pathL es (es.getD k Fe.z).par, blowDen (fuOf fs es j) amps = 0 ∨ (0 < blowDen (fuOf fs es k) amps ∧ blowNum (fuOf fs es k) amps * blowDen (fuOf fs es j) amps < blowNum (fuOf fs es j) amps * blowDen (fuOf fs es k) amps) := fun j hj => by
  have h2 := par_le hc hw k hk
  have hjl : j < es.length := by
    have := pathL_le (par_le hc hw) _ _ (by omega) (Nat.le_refl _) j hj
    omega
  exact sel_lt (fu_ok hc hw hk) (fu_ok hc hw hjl) h0 h1 (path_sel hc hw _ k hk (Nat.le_refl _) j hj)
/-- What opens first is the feeder itself, if its fuse opens at all. -/
theorem sh_prot : shOf fs es amps k = if blowDen (fuOf fs es k) amps = 0 then Sh.z else ⟨[k], blowNum (fuOf fs es k) amps, blowDen (fuOf fs es k) amps⟩ := by
  have hl := path_lt hc hw h0 h1 hk
  unfold shOf
  rw [pathL_step (par_le hc hw) hk, List.foldl_cons]
  split
  · rename_i hz
    rw [step_c1 rfl rfl (.inl hz)]
    exact fold_keep _ fun x hx => by
      rcases hl x hx with h | ⟨h, _⟩
      · exact .inl h
      · omega
  · rename_i hz
    rw [step_c2 rfl rfl (by rintro (h | ⟨h, _⟩); exact hz h; simp [Sh.z] at h) (.inl rfl)]
    exact fold_keep _ fun x hx => hl x hx
/-- Until then no wire on the way to the root is too warm. -/
theorem prot_rise {x : Nat} (hx : x ∈ pathL es k) {s : Nat} (hs : s ≤ 10000) (h : (shOf fs es amps k).den = 0 ∨ (s : Int) * (shOf fs es amps k).den < (shOf fs es amps k).num) :
    riseErr (gaOf gs es x) (cs1 amps) s = 0 ∧ riseVal (gaOf gs es x) (cs1 amps) s + (es.getD x Fe.z).n.amb ≤ (gaOf gs es x).limit ∧ 0 ≤ riseVal (gaOf gs es x) (cs1 amps) s := by
  have hxl : x < es.length := by
    have := pathL_le (par_le hc hw) _ _ (by omega) (Nat.le_refl _) x hx
    omega
  have hgo := ga_ok hc hw hxl
  have hg := Ga.ok_iff.2 hgo
  have hcy := cs1_ok h0 h1
  have hb : fromB (s : Int) 0 10000 = true := fromB_iff.2 ⟨by omega, by omega⟩
  have hcond : blowDen (fuOf fs es x) amps = 0 ∨ (s : Int) * blowDen (fuOf fs es x) amps < blowNum (fuOf fs es x) amps := by
    rw [sh_prot hc hw h0 h1 hk] at h
    have hl := path_lt hc hw h0 h1 hk
    have bk := blow_range (fu_ok hc hw hk) h0 h1
    have bx := blow_range (fu_ok hc hw hxl) h0 h1
    rw [pathL_step (par_le hc hw) hk] at hx
    by_cases hz : blowDen (fuOf fs es k) amps = 0
    · rcases List.mem_cons.1 hx with rfl | hx
      · exact .inl hz
      · rcases hl x hx with h2 | ⟨h2, _⟩
        · exact .inl h2
        · omega
    · rw [if_neg hz] at h
      simp only at h
      have h' : (s : Int) * blowDen (fuOf fs es k) amps < blowNum (fuOf fs es k) amps := by
        rcases h with h | h
        · exact absurd h hz
        · exact h
      rcases List.mem_cons.1 hx with rfl | hx
      · exact .inr h'
      · rcases hl x hx with h2 | ⟨h2, h3⟩
        · exact .inl h2
        · by_cases hx0 : blowDen (fuOf fs es x) amps = 0
          · exact .inl hx0
          · right
            have hxp : 0 < blowDen (fuOf fs es x) amps := by omega
            by_cases hn : (s : Int) * blowDen (fuOf fs es x) amps < blowNum (fuOf fs es x) amps
            · exact hn
            · exfalso
              have e1 : blowNum (fuOf fs es x) amps * blowDen (fuOf fs es k) amps ≤ (s : Int) * blowDen (fuOf fs es x) amps * blowDen (fuOf fs es k) amps := Int.mul_le_mul_of_nonneg_right (by omega) (by omega)
              have e2 : (s : Int) * blowDen (fuOf fs es k) amps * blowDen (fuOf fs es x) amps < blowNum (fuOf fs es k) amps * blowDen (fuOf fs es x) amps := Int.mul_lt_mul_of_pos_right h' hxp
              have e3 : (s : Int) * blowDen (fuOf fs es x) amps * blowDen (fuOf fs es k) amps = (s : Int) * blowDen (fuOf fs es k) amps * blowDen (fuOf fs es x) amps := by
                rw [Int.mul_assoc, Int.mul_comm (blowDen (fuOf fs es x) amps), ← Int.mul_assoc]
              omega
  have hgd : guardB (fuOf fs es x) (gaOf gs es x) (es.getD x Fe.z).n.amb amps = true := by
    have := leastI_neg (weak_at hc hw hxl).1 h0 h1
    unfold ungB at this
    simpa using this
  have h2 := guard_of hgd s hcond
  have h3 : rsC (gaOf gs es x) amps s = runSt (warmI (gaOf gs es x)) 0 (ups (cs1 amps) s) := rfl
  unfold riseErr riseVal
  rw [hg, hcy, hb]
  simp only [if_true, Bool.and_self, Int.toNat_natCast, Bool.true_and]
  rw [← h3]
  exact ⟨trivial, h2, rsC_nonneg hgo h0 h1 s⟩
end
end Go.Proofs.Ytejjjijaojkohaa
/- A wiring without a weakness is protected in a short circuit: for every wiring, feeder and current; no condition. -/
namespace Go.Proofs.Ytejjjijaojkohaa
open Go.RowKit
set_option linter.unusedVariables false
set_option linter.unusedSimpArgs false
attribute [local go_sem ↓] Go.wp_at_zero Go.wp_at_succ
/-- The variable g of a round. -/
def prR (w0 : World) (j : Nat) (v : Value) (w : World) : Prop :=
  match j with
  | 10 => ∃ p, v = .pointer (some ⟨p, 0, none⟩) ∧ w0.heap.size ≤ p ∧ w.heap[p]? = some (.cells #[.int .i64 0, .int .i64 0, .int .i64 0, .int .i64 0, .int .i64 0] 23 (0, 0))
  | _ => True
theorem prR_keep {w0 : World} (j : Nat) {v : Value} {w w' : World} (hb : Below w.heap.size w w') (h : prR w0 j v w) : prR w0 j v w' := by
  unfold prR at *
  split at h
  · obtain ⟨p, h1, h2, h3⟩ := h; exact ⟨p, h1, h2, heap_below h3 hb⟩
  · trivial

set_option maxRecDepth 100000 in
set_option maxHeartbeats 8000000 in
theorem wiresProtect_walk (gs : List Ga) (fs : List Fu) (es : List Fe) (gv fv ev : Value) (feeder amps : Int) (w : World) (h : Wir w w.heap.size gv fv ev gs fs es) (hg : gs.length ≤ maxLen) (hf : fs.length ≤ maxLen) (he : es.length ≤ maxLen) (hcl : ∀ i, i < es.length → (es.getD i Fe.z).cs.length ≤ maxLen) :
    Calls Try.prog 14 #[.agg #[gv, fv, ev], .int .i64 feeder, .int .i64 amps] w fun e w' => e = .returned (.bool true) ∧ Below w.heap.size w w' := by
  have H := hide h
  obtain ⟨A0, b0, off0, cap0, rfl, hnc0, hA0, hc0⟩ := h.g
  obtain ⟨A1, b1, off1, cap1, rfl, hnc1, hA1, hc1⟩ := h.f
  obtain ⟨cv, hsl, hcy⟩ := h.e
  obtain ⟨A, b, off, cap, rfl, hnc, hA, hc⟩ := hsl
  have HC := hide hc
  have HA := hide hA
  have HC0 := hide hc0
  have HA0 := hide hA0
  have HCY := hide hcy
  have HCL := hide hcl
  clear h hcl hc hA hc0 hA0 hc1 hA1 hcy
  obtain ⟨lb, hlb⟩ : ∃ x, largeB gs fs es = x := ⟨_, rfl⟩
  have HLB := hide hlb
  obtain ⟨ce, hce⟩ : ∃ x, chkErr gs fs es = x := ⟨_, rfl⟩
  have HCE := hide hce
  clear hlb hce
  go_enter Try.func14, Try.ntmps14
  go_wp2_with fail
  generalize hw0 : World.alloc _ _ = w0
  obtain ⟨hb0, hB0, hs0⟩ := alloc1 hw0
  clear hw0
  have HWI : Hid (WiAt w0 w.heap.size (.slice A0 gs.length cap0) (.slice A1 fs.length cap1) (.slice A es.length cap)) := hb0
  have HB0 := hide hB0
  clear hb0 hs0 hB0
  refine (Large_any gs fs es _ _ _ _ hg hf he HCL.out ((H.out.below HB0.out).more HB0.out.size)).mono ?_
  rw [HLB.out]
  rintro e w1 ⟨rfl, hB1⟩
  have HBw : Hid (Below w.heap.size w w1) := Below.to HB0.out hB1 (Nat.le_refl _)
  have HWI1 : Hid (WiAt w1 w.heap.size (.slice A0 gs.length cap0) (.slice A1 fs.length cap1) (.slice A es.length cap)) := heap_below HWI.out hB1
  clear hB1
  cases lb with
  | true =>
    go_wp2_with (go_at_call 17; refine (works_any _).mono ?_; rintro e w2 ⟨rfl, hB2⟩)
    go_ret
    exact ⟨rfl, Below.to HBw.out hB2 (Nat.le_refl _)⟩
  | false =>
    have HSZ := hide (largeB_no HLB.out)
    have he30 := HSZ.out.e
    obtain ⟨k0, k1, k2, _⟩ := wi3 HWI1.out (Below.refl _ w1)
    go_wp2_with fail
    clear k0 k1 k2
    refine (rCheck_any gs fs es _ _ _ _ HSZ.out ((H.out.below HBw.out).more HBw.out.size)).mono ?_
    rw [HCE.out]
    rintro e w2 ⟨rfl, hB2⟩
    have HWI2 : Hid (WiAt w2 w.heap.size (.slice A0 gs.length cap0) (.slice A1 fs.length cap1) (.slice A es.length cap)) := heap_below HWI1.out hB2
    have HBw2 : Hid (Below w.heap.size w w2) := Below.to HBw.out hB2 (Nat.le_refl _)
    clear hB2
    obtain ⟨k0, k1, k2, _⟩ := wi3 HWI2.out (Below.refl _ w2)
    by_cases hce0 : ce = 0
    rotate_left
    · have y0 : (ce != 0) = true := by simp [hce0]
      clear hce0
      go_wp2_with (go_at_call 17; refine (works_any _).mono ?_; rintro e w3 ⟨rfl, hB3⟩)
      go_ret
      exact ⟨rfl, Below.to HBw2.out hB3 (Nat.le_refl _)⟩
    subst hce0
    have HOK : Hid (WOk gs fs es) := chk_iff.1 HCE.out
    have he20 := HOK.out.e20
    by_cases hf0 : feeder < 0
    · go_wp2_with (go_at_call 17; refine (works_any _).mono ?_; rintro e w3 ⟨rfl, hB3⟩)
      go_ret
      exact ⟨rfl, Below.to HBw2.out hB3 (Nat.le_refl _)⟩
    obtain ⟨k, rfl⟩ : ∃ k : Nat, feeder = k := ⟨feeder.toNat, by omega⟩
    by_cases hf1 : (k : Int) < (es.length : Int)
    rotate_left
    · go_wp2_with (go_at_call 17; refine (works_any _).mono ?_; rintro e w3 ⟨rfl, hB3⟩)
      go_ret
      exact ⟨rfl, Below.to HBw2.out hB3 (Nat.le_refl _)⟩
    have hkl : k < es.length := by omega
    go_wp2_with fail
    clear k0 k1 k2
    refine (Copy_any gs fs es _ _ _ _ HSZ.out ((H.out.below HBw2.out).more HBw2.out.size)).mono ?_
    rintro e w3 ⟨gv', fv', ev', rfl, hW3, hB3⟩
    have HW3 := hide hW3
    have HB3 : Hid (Below w.heap.size w w3) := Below.to HBw2.out hB3 (Nat.le_refl _)
    have HWI3 : Hid (WiAt w3 w.heap.size (.slice A0 gs.length cap0) (.slice A1 fs.length cap1) (.slice A es.length cap)) := heap_below HWI2.out hB3
    clear hW3 hB3
    go_wp2_with fail
    refine (Weak_any gs fs es _ _ _ _ HSZ.out HW3.out).mono ?_
    rw [HCE.out]
    rintro e w4 ⟨⟨v4, rfl, hS4⟩, hB4⟩
    have HB4 : Hid (Below w.heap.size w w4) := Below.to HB3.out hB4 (Nat.le_refl _)
    have HWI4 : Hid (WiAt w4 w.heap.size (.slice A0 gs.length cap0) (.slice A1 fs.length cap1) (.slice A es.length cap)) := heap_below HWI3.out hB4
    clear hB4
    obtain ⟨Aa, ba, oa, ca, rfl, hna, hAa, hca⟩ := hS4
    clear hna hAa hca
    obtain ⟨k0, k1, k2, _⟩ := wi3 HWI4.out (Below.refl _ w4)
    obtain ⟨n, hn⟩ : ∃ n, (weakLs gs fs es).length = n := ⟨_, rfl⟩
    rw [hn]
    by_cases hn0 : 0 < n
    · have hn1 : (0 : Int) < (n : Int) := by omega
      clear hn
      go_wp2_with (go_at_call 17; refine (works_any _).mono ?_; rintro e w5 ⟨rfl, hB5⟩)
      go_ret
      exact ⟨rfl, Below.to HB4.out hB5 (Nat.le_refl _)⟩
    have HWK : Hid (weakLs gs fs es = []) := List.eq_nil_of_length_eq_zero (by omega)
    obtain rfl : n = 0 := by omega
    clear hn hn0
    go_wp2_with fail
    clear k0 k1 k2
    refine (Copy_any gs fs es _ _ _ _ HSZ.out ((H.out.below HB4.out).more HB4.out.size)).mono ?_
    rintro e w5 ⟨gv5, fv5, ev5, rfl, hW5, hB5⟩
    have HW5 := hide hW5
    have HB5 : Hid (Below w.heap.size w w5) := Below.to HB4.out hB5 (Nat.le_refl _)
    have HWI5 : Hid (WiAt w5 w.heap.size (.slice A0 gs.length cap0) (.slice A1 fs.length cap1) (.slice A es.length cap)) := heap_below HWI4.out hB5
    clear hW5 hB5
    go_wp2_with fail
    obtain ⟨l, N, D, hl⟩ : ∃ l N D, shAns gs fs es k amps = ⟨l, N, D⟩ := ⟨_, _, _, rfl⟩
    obtain ⟨er, her⟩ : ∃ x, shErr gs fs es k amps = x := ⟨_, rfl⟩
    have HAN := hide hl
    have HER := hide her
    clear hl her
    refine (Short_any gs fs es _ _ _ k amps _ HSZ.out HW5.out).mono ?_
    rw [HAN.out, HER.out]
    rintro e w6 ⟨⟨v6, rfl, hS6⟩, hB6⟩
    have HB6 : Hid (Below w.heap.size w w6) := Below.to HB5.out hB6 (Nat.le_refl _)
    have HWI6 : Hid (WiAt w6 w.heap.size (.slice A0 gs.length cap0) (.slice A1 fs.length cap1) (.slice A es.length cap)) := heap_below HWI5.out hB6
    have HS6 := hide hS6
    clear hB6 hS6
    by_cases her0 : er = 0
    rotate_left
    · have y0 : (er != 0) = true := by simp [her0]
      clear her0
      go_wp2_with (go_at_call 17; refine (works_any _).mono ?_; rintro e w7 ⟨rfl, hB7⟩)
      go_ret
      exact ⟨rfl, Below.to HB6.out hB7 (Nat.le_refl _)⟩
    subst her0
    have hab : 0 ≤ amps ∧ amps ≤ 500 := by
      have h1 := HER.out
      unfold shErr at h1
      rw [if_pos HCE.out] at h1
      split at h1
      · rename_i h2
        simp only [Bool.and_eq_true] at h2
        exact fromB_iff.1 h2.2
      · omega
    obtain ⟨ha0, ha1⟩ := hab
    have hAN : shAns gs fs es k amps = ⟨(shOf fs es amps k).l.reverse, (shOf fs es amps k).num, (shOf fs es amps k).den⟩ := by unfold shAns; rw [if_pos HER.out]; rfl
    have hSP := sh_prot HCE.out HWK.out ha0 ha1 hkl
    have hbr := blow_range (fu_ok HCE.out HWK.out hkl) ha0 ha1
    rw [HAN.out] at hAN
    injection hAN with e1 e2 e3
    have HLD : Hid ((l = [] ∧ D = 0) ∨ (l = [k] ∧ D ≠ 0)) := by
      show _ ∨ _
      rw [e1, e3, hSP]
      split
      · exact .inl ⟨rfl, rfl⟩
      · rename_i hz
        exact .inr ⟨rfl, hz⟩
    have hND : 0 ≤ N ∧ N ≤ 1000000 ∧ 0 ≤ D ∧ D ≤ 250000 := by
      rw [e2, e3, hSP]
      split
      · simp [Sh.z]
      · exact ⟨hbr.1, hbr.2.1, hbr.2.2.1, hbr.2.2.2.1⟩
    obtain ⟨hN0, hN1, hD0, hD1⟩ := hND
    have HPR : Hid (∀ x ∈ pathL es k, ∀ s : Nat, s ≤ 10000 → (D = 0 ∨ (s : Int) * D < N) → riseErr (gaOf gs es x) (cs1 amps) s = 0 ∧ riseVal (gaOf gs es x) (cs1 amps) s + (es.getD x Fe.z).n.amb ≤ (gaOf gs es x).limit ∧ 0 ≤ riseVal (gaOf gs es x) (cs1 amps) s) := fun x hx s hs h => by
      rw [e2, e3] at h
      exact prot_rise HCE.out HWK.out ha0 ha1 hkl hx hs h
    have hpar : Hid (∀ i, i < es.length → (es.getD i Fe.z).par ≤ (i : Int) - 1) := par_le HCE.out HWK.out
    clear e1 e2 e3 hSP hbr
    go_upto_region 9 with (fail)
    go_cut [86] from 64 to 85 (fun t wc => t = .bool false ∧ Hid (w6 = wc))
    case first =>
      have hS := HS6.out
      rcases HLD.out with ⟨hl, hD⟩ | ⟨hl, hD⟩
      · have hS' : Sl w6 w6.heap.size 1 v6 0 (fun i _ => .int .i64 (l.getD i 0 : Nat)) := by have h1 := hS; unfold ShL at h1; rw [hl] at h1 ⊢; exact h1
        obtain ⟨Ab, bb, ob, cb, rfl, hnb, hAb, hcb⟩ := hS'
        have y1 : (D == 0) = true := by simp [hD]
        have HD := hide hD
        clear hD hl hnb hAb hcb hS
        go_wp2_with fail
        go_meet
        case rel => exact ⟨rfl, rfl⟩
      · have hS' : Sl w6 w6.heap.size 1 v6 1 (fun i _ => .int .i64 ([k].getD i 0 : Nat)) := by have h1 := hS; unfold ShL at h1; rw [hl] at h1; exact h1
        obtain ⟨Ab, bb, ob, cb, rfl, hnb, hAb, hcb⟩ := hS'
        have y1 : (D == 0) = false := by simp [hD]
        have HD := hide hD
        have y2 : ((k : Int) != (k : Int)) = false := by simp
        obtain ⟨rfl, hbb⟩ : Ab = some ⟨bb, ob, none⟩ ∧ bb < w6.heap.size := by
          rcases hAb with h | h
          · exact h
          · omega
        have c0 : w6.cell? ⟨bb, ob, none⟩ = some (.int .i64 (k : Int)) := hcb 0 0 (by omega) (by omega)
        clear hD hl hnb hAb hcb hS
        go_wp2_with fail
        go_meet
        case rel => exact ⟨rfl, rfl⟩
    case rest =>
      obtain ⟨rfl, hcc⟩ := hcut
      have hwd := hcc.out
      subst hwd
      clear hcc
      go_wp2_with fail
      go_loopw [13] (fun at_ wr => ∃ x : Int, -1 ≤ x ∧ x < es.length ∧ at_ = .int .i64 x ∧ Hid (∀ j ∈ pathL es x, j ∈ pathL es k) ∧ Hid (Below w6.heap.size w6 wr)) (fun at_ _ => (intOf at_ + 1).toNat)
      case atStart => exact ⟨k, by omega, by omega, rfl, fun j hj => hj, Below.refl _ _⟩
      case round =>
        obtain ⟨x, hx0, hx1, rfl, HX, HK⟩ := hrel
        have HBr : Hid (Below w.heap.size w wr) := Below.to HB6.out HK.out (Nat.le_refl _)
        have HWIr : Hid (WiAt wr w.heap.size (.slice A0 gs.length cap0) (.slice A1 fs.length cap1) (.slice A es.length cap)) := heap_below HWI6.out HK.out
        by_cases hlt : 0 ≤ x
        · obtain ⟨j, rfl⟩ : ∃ j : Nat, x = j := ⟨x.toNat, by omega⟩
          have hjl : j < es.length := by omega
          have hji : (j : Int) < (es.length : Int) := hx1
          have hjm : Hid (j ∈ pathL es k) := HX.out j (by rw [pathL_step hpar.out hjl]; exact List.mem_cons_self ..)
          obtain ⟨f, C, cp, HZ, hA1, hbw, h0, h1, h2, h3, h4, h5, h6, hy⟩ := feAtB HBr.out HA.out HC.out HCY.out hjl
          subst hA1
          have hfo := HOK.out.at hjl HZ.out
          have hpar0 := hfo.par0
          have hpar1 := hfo.par1
          have hamb0 := hfo.need.amb0
          have hamb1 := hfo.need.amb1
          obtain ⟨gi, hgi⟩ : ∃ gi : Nat, f.gauge = gi := ⟨f.gauge.toNat, by have := hfo.ga0; omega⟩
          have hgl : gi < gs.length := by have := hfo.ga1; omega
          clear hfo h0 h2 h3 h4 h5 h6 hy
          rw [hgi] at h1
          have hif0 : (0 : Int) ≤ (gi : Int) := by omega
          have hif1 : (gi : Int) < (gs.length : Int) := by omega
          obtain ⟨g, HZg, hA01, hbw0, g0, g1, g2, g3, g4⟩ := gaAtB HBr.out HA0.out HC0.out hgl
          subst hA01
          have hga : Hid (gaOf gs es j = g) := by show _ = _; unfold gaOf; rw [HZ.out, hgi, Int.toNat_natCast, HZg.out]
          have hGo : Hid (g.Ok) := by show Ga.Ok _; rw [← hga.out]; exact ga_ok HCE.out HWK.out hjl
          have hwl : w.heap.size < wr.heap.size := box_lt HWIr.out
          have hlb0 : b < wr.heap.size := by omega
          have hlb1 : b0 < wr.heap.size := by omega
          obtain ⟨k0, k1, k2, _⟩ := wi3 HWIr.out (Below.refl _ wr)
          go_upto_region 14 with (fail)
          go_cut [14] from 96 to 105 (fun gp wc => ∃ gb, gp = .pointer (some ⟨gb, 0, none⟩) ∧ Hid (GaugeAt wc gb g ∧ Below wr.heap.size wr wc))
          case first =>
            refine wp_region_held_drew (S := (fun w' => Below wr.heap.size wr w')) (by kernel_rfl) ?_ (fun hHeld => ?_)
            · try dsimp only
              exact (by repeat (first | exact Below.refl _ _ | assumption | refine Below.drew ?_ | refine Below.drewN ?_ _ | refine Below.allocT ?_ (Nat.le_refl _) _ | refine Below.setCell ?_ (by simp <;> omega) _ | refine Below.to ?_ (by assumption) (Nat.le_refl _)))
            refine wpAnyH_take (i := 0) (v := ?v1_0) rfl (by kernel_rfl) (by kernel_rfl) (by kernel_rfl) (fun _ _ _ h => h) (Or.inl ⟨by rfl, ?y1_0⟩) (by assumption) ?r1_0
            case' y1_0 => (intro w hSw; (try dsimp only at hSw); (try have hlS := HLK.out _ hSw); obtain ⟨hcS, hfS⟩ := bcell hSw; clear hSw; go_simp; try with_reducible rfl)
            try simp only [Act.put, List.getElem_toArray, List.getElem_cons_succ, List.getElem_cons_zero, List.setIfInBounds_toArray, List.set_cons_zero, List.set_cons_succ]
            refine wpAnyH_take (i := 1) (v := ?v1_1) rfl (by kernel_rfl) (by kernel_rfl) (by kernel_rfl) (fun _ _ _ h => h) (Or.inl ⟨by rfl, ?y1_1⟩) (by assumption) ?r1_1
            case' y1_1 => (intro w hSw; (try dsimp only at hSw); (try have hlS := HLK.out _ hSw); obtain ⟨hcS, hfS⟩ := bcell hSw; clear hSw; go_simp; try with_reducible rfl)
            try simp only [Act.put, List.getElem_toArray, List.getElem_cons_succ, List.getElem_cons_zero, List.setIfInBounds_toArray, List.set_cons_zero, List.set_cons_succ]
            refine wpAnyH_take (i := 2) (v := ?v1_2) rfl (by kernel_rfl) (by kernel_rfl) (by kernel_rfl) (fun _ _ _ h => h) (Or.inl ⟨by rfl, ?y1_2⟩) (by assumption) ?r1_2
            case' y1_2 => (intro w hSw; (try dsimp only at hSw); (try have hlS := HLK.out _ hSw); obtain ⟨hcS, hfS⟩ := bcell hSw; clear hSw; go_simp; try with_reducible rfl)
            try simp only [Act.put, List.getElem_toArray, List.getElem_cons_succ, List.getElem_cons_zero, List.setIfInBounds_toArray, List.set_cons_zero, List.set_cons_succ]
            refine wpAnyH_take (i := 3) (v := ?v1_3) rfl (by kernel_rfl) (by kernel_rfl) (by kernel_rfl) (fun _ _ _ h => h) (Or.inl ⟨by rfl, ?y1_3⟩) (by assumption) ?r1_3
            case' y1_3 => (intro w hSw; (try dsimp only at hSw); (try have hlS := HLK.out _ hSw); obtain ⟨hcS, hfS⟩ := bcell hSw; clear hSw; go_simp; try with_reducible rfl)
            try simp only [Act.put, List.getElem_toArray, List.getElem_cons_succ, List.getElem_cons_zero, List.setIfInBounds_toArray, List.set_cons_zero, List.set_cons_succ]
            refine wpAnyH_take (i := 4) (v := ?v1_4) rfl (by kernel_rfl) (by kernel_rfl) (by kernel_rfl) (fun _ _ _ h => h) (Or.inl ⟨by rfl, ?y1_4⟩) (by assumption) ?r1_4
            case' y1_4 => (intro w hSw; (try dsimp only at hSw); (try have hlS := HLK.out _ hSw); obtain ⟨hcS, hfS⟩ := bcell hSw; clear hSw; go_simp; try with_reducible rfl)
            try simp only [Act.put, List.getElem_toArray, List.getElem_cons_succ, List.getElem_cons_zero, List.setIfInBounds_toArray, List.set_cons_zero, List.set_cons_succ]
            refine wpAnyH_take (i := 5) (v := ?v1_5) rfl (by kernel_rfl) (by kernel_rfl) (by kernel_rfl) (fun _ _ _ h => h) (Or.inl ⟨by rfl, ?y1_5⟩) (by assumption) ?r1_5
            case' y1_5 => (intro w hSw; (try dsimp only at hSw); (try have hlS := HLK.out _ hSw); obtain ⟨hcS, hfS⟩ := bcell hSw; clear hSw; go_simp; try with_reducible rfl)
            try simp only [Act.put, List.getElem_toArray, List.getElem_cons_succ, List.getElem_cons_zero, List.setIfInBounds_toArray, List.set_cons_zero, List.set_cons_succ]
            refine wpAnyH_take (i := 6) (v := ?v1_6) rfl (by kernel_rfl) (by kernel_rfl) (by kernel_rfl) (fun _ _ _ h => h) (Or.inl ⟨by rfl, ?y1_6⟩) (by assumption) ?r1_6
            case' y1_6 => (intro w hSw; (try dsimp only at hSw); (try have hlS := HLK.out _ hSw); obtain ⟨hcS, hfS⟩ := bcell hSw; clear hSw; go_simp; try with_reducible rfl)
            try simp only [Act.put, List.getElem_toArray, List.getElem_cons_succ, List.getElem_cons_zero, List.setIfInBounds_toArray, List.set_cons_zero, List.set_cons_succ]
            refine wpAnyH_take (i := 7) (v := ?v1_7) rfl (by kernel_rfl) (by kernel_rfl) (by kernel_rfl) (fun _ _ _ h => h) (Or.inl ⟨by rfl, ?y1_7⟩) (by assumption) ?r1_7
            case' y1_7 => (intro w hSw; (try dsimp only at hSw); (try have hlS := HLK.out _ hSw); obtain ⟨hcS, hfS⟩ := bcell hSw; clear hSw; go_simp; try with_reducible rfl)
            try simp only [Act.put, List.getElem_toArray, List.getElem_cons_succ, List.getElem_cons_zero, List.setIfInBounds_toArray, List.set_cons_zero, List.set_cons_succ]
            refine wpAnyH_take (i := 8) (v := ?v1_8) rfl (by kernel_rfl) (by kernel_rfl) (by kernel_rfl) (fun _ _ _ h => h) (Or.inl ⟨by rfl, ?y1_8⟩) (by assumption) ?r1_8
            case' y1_8 => (intro w hSw; (try dsimp only at hSw); (try have hlS := HLK.out _ hSw); obtain ⟨hcS, hfS⟩ := bcell hSw; clear hSw; go_simp; try with_reducible rfl)
            try simp only [Act.put, List.getElem_toArray, List.getElem_cons_succ, List.getElem_cons_zero, List.setIfInBounds_toArray, List.set_cons_zero, List.set_cons_succ]
            refine wpAnyH_take (i := 9) (v := ?v1_9) rfl (by kernel_rfl) (by kernel_rfl) (by kernel_rfl) (fun _ _ _ h => h) (Or.inl ⟨by rfl, ?y1_9⟩) (by assumption) ?r1_9
            case' y1_9 => (intro w hSw; (try dsimp only at hSw); (try have hlS := HLK.out _ hSw); obtain ⟨hcS, hfS⟩ := bcell hSw; clear hSw; go_simp; try with_reducible rfl)
            try simp only [Act.put, List.getElem_toArray, List.getElem_cons_succ, List.getElem_cons_zero, List.setIfInBounds_toArray, List.set_cons_zero, List.set_cons_succ]
            refine wpAnyH_start [10] (fun j => match j with | 10 => 14 | _ => 0) (prR wr) 1 rfl (by kernel_rfl) (by kernel_rfl) (by decide) (by decide) (by kernel_rfl) hHeld ?hkeep ?hstep ?hend
            case hkeep => exact fun j _ v w w' hb h => prR_keep j hb h
            case hstep =>
              intro j hj tv w7 hS hd
              have hsz0 : wr.heap.size ≤ w7.heap.size := hS.size
              simp only [List.mem_cons, List.not_mem_nil, or_false] at hj
              subst hj
              refine wpOp_step rfl (fun K hK => ?_)
              generalize hax : putAll _ _ tv _ = ax at hK ⊢
              simp only [putAll, Act.put, List.setIfInBounds_toArray, List.set_cons_zero, List.set_cons_succ] at hax
              rw [← hax]
              go_simp
              exact hK _ _ ⟨⟨_, by rw [← hax]; rfl, _, rfl, hsz0, heap_alloc_new _ _⟩, (by repeat (first | exact Below.refl _ _ | assumption | refine Below.drew ?_ | refine Below.drewN ?_ _ | refine Below.allocT ?_ (Nat.le_refl _) _ | refine Below.setCell ?_ (by simp <;> omega) _ | refine Below.to ?_ (by assumption) (Nat.le_refl _))), (by repeat (first | exact Below.refl _ _ | assumption | refine Below.drew ?_ | refine Below.drewN ?_ _ | refine Below.allocT ?_ (Nat.le_refl _) _ | refine Below.setCell ?_ (by simp <;> omega) _ | refine Below.to ?_ (by assumption) (Nat.le_refl _)))⟩
            case hend =>
              intro tv w7 hS hR
              obtain ⟨p, e12, hp, hpb⟩ := hR 10 (by decide)
              clear hR
              have hlp := box_lt hpb
              have HP := hide hpb
              have p0 := cellOf hpb 0
              have p1 := cellOf hpb 1
              have p2 := cellOf hpb 2
              have p3 := cellOf hpb 3
              have p4 := cellOf hpb 4
              have r0 := unfrozenOf hpb 0
              have r1 := unfrozenOf hpb 1
              have r2 := unfrozenOf hpb 2
              have r3 := unfrozenOf hpb 3
              have r4 := unfrozenOf hpb 4
              clear hpb
              simp only [putAll, Act.put, List.setIfInBounds_toArray, List.set_cons_zero, List.set_cons_succ, e12]
              refine wpAnyH_ready (rs := [11]) (by kernel_rfl) (by simp) ?_
              refine AllReadyH.cons rfl (fun K hK => ?_) AllReadyH.nil
              go_simp
              refine hK.out _ _ ?_ (fun hNext => ?_)
              · refine Below.setCell (Below.setCell (Below.setCell (Below.setCell (Below.setCell hS ?_ _) ?_ _) ?_ _) ?_ _) ?_ _ <;> exact hp
              clear hK K
              refine wpAnyH_done (by kernel_rfl) ?_ _
              go_wp2_with fail
              go_meet
              case rel =>
                refine ⟨p, rfl, ?_, hNext⟩
                unfold GaugeAt
                exact setCellOf (setCellOf (setCellOf (setCellOf (setCellOf HP.out _) _) _) _) _
          case rest =>
            obtain ⟨gb, rfl, hR⟩ := hcut
            obtain ⟨wk, rfl⟩ : ∃ x : World, x = wc := ⟨_, rfl⟩
            clear k0 k1 k2 h1 g0 g1 g2 g3 g4
            have HG := hide hR.out.1
            have HBk : Hid (Below w6.heap.size w6 wk) := Below.to HK.out hR.out.2 (Nat.le_refl _)
            clear hR
            have HX' : Hid (∀ y ∈ pathL es f.par, y ∈ pathL es k) := fun y hy => HX.out y (by rw [pathL_step hpar.out hjl, HZ.out]; exact List.mem_cons_of_mem _ hy)
            have hbk : w6.heap.size ≤ wk.heap.size := HBk.out.size
            have hwk6 : w.heap.size < w6.heap.size := box_lt HWI6.out
            go_wp2_with fail
            go_loopw [15] (fun sv wr => ∃ t : Nat, t ≤ 100 ∧ sv = .int .i64 t ∧ Hid (Below wk.heap.size wk wr)) (fun sv _ => 100 - (intOf sv).toNat)
            case atStart => exact ⟨0, by omega, rfl, Below.refl _ _⟩
            case round =>
              obtain ⟨t, ht0, rfl, HK2⟩ := hrel
              have HBs : Hid (Below w6.heap.size w6 wr) := Below.to HBk.out HK2.out (Nat.le_refl _)
              have HBr2 : Hid (Below w.heap.size w wr) := Below.to HB6.out HBs.out (Nat.le_refl _)
              have HWI2r : Hid (WiAt wr w.heap.size (.slice (some ⟨b0, off0, none⟩) gs.length cap0) (.slice A1 fs.length cap1) (.slice (some ⟨b, off, none⟩) es.length cap)) := heap_below HWI6.out HBs.out
              have HG2 : Hid (GaugeAt wr gb g) := heap_below HG.out HK2.out
              obtain ⟨m1, m2⟩ := mul_range (show (0 : Int) ≤ (t : Int) by omega) (show (t : Int) ≤ 100 by omega) hD0 hD1
              go_upto_region 16 with (fail)
              go_cut [118] from 106 to 117 (fun tv wc => tv = .bool (decide (t < 100 ∧ (D = 0 ∨ (t : Int) * D < N))) ∧ Hid (wr = wc))
              case first =>
                by_cases z0 : t < 100
                · have y0 : (t : Int) < 100 := by omega
                  by_cases z1 : D = 0
                  · have y1 : (D == 0) = true := by simp [z1]
                    have Z1 := hide z1
                    clear z1
                    go_wp2_with fail
                    go_meet
                    case rel => exact ⟨by simp [Z1.out, z0], rfl⟩
                  · have y1 : (D == 0) = false := by simp [z1]
                    have Z1 := hide z1
                    clear z1
                    go_wp2_with fail
                    go_meet
                    case rel => exact ⟨by simp [Z1.out, z0], rfl⟩
                · have y0 : ¬ (t : Int) < 100 := by omega
                  go_wp2_with fail
                  go_meet
                  case rel => exact ⟨by simp [z0], rfl⟩
              case rest =>
                obtain ⟨rfl, hcc⟩ := hcut
                have hwd := hcc.out
                subst hwd
                clear hcc
                by_cases hc : t < 100 ∧ (D = 0 ∨ (t : Int) * D < N)
                · rw [decide_eq_true hc]
                  obtain ⟨p1, p2, p3⟩ := HPR.out j hjm.out t (by omega) hc.2
                  rw [hga.out] at p1 p2 p3
                  rw [HZ.out] at p2
                  obtain ⟨rv, hrv⟩ : ∃ x, riseVal g (cs1 amps) t = x := ⟨_, rfl⟩
                  rw [hrv] at p2 p3
                  have HRV : Hid (riseVal g [⟨amps, 1⟩] t = rv) := hrv
                  have HRE : Hid (riseErr g [⟨amps, 1⟩] t = 0) := p1
                  have ht1 : t < 100 := hc.1
                  clear hc hrv p1
                  obtain ⟨am, ham⟩ : ∃ x, f.n.amb = x := ⟨_, rfl⟩
                  have HAM := hide ham
                  rw [ham] at p2 hamb0 hamb1
                  clear ham
                  have hlim := hGo.out.limit1
                  obtain ⟨g0, g1, g2, g3, g4, _⟩ := gauge5 HG2.out (Below.refl _ wr)
                  go_wp2_with fail
                  refine (Rise_any g _ [⟨amps, 1⟩] t _ (by simp) (cyc_one (heap_new _ _ _ (by simp)))).mono ?_
                  rw [HRV.out, HRE.out]
                  rintro e w8 ⟨rfl, hB8⟩
                  have HW8 : Hid (Below wr.heap.size wr w8) := (by repeat (first | exact Below.refl _ _ | assumption | refine Below.drew ?_ | refine Below.drewN ?_ _ | refine Below.allocT ?_ (Nat.le_refl _) _ | refine Below.setCell ?_ (by simp <;> omega) _ | refine Below.to ?_ (by assumption) (Nat.le_refl _)))
                  clear hB8 g0 g1 g2 g3 g4
                  obtain ⟨f', C', cp', HZ', _, _, _, _, _, _, _, _, h6, _⟩ := feAtB (Below.to HBr2.out HW8.out (Nat.le_refl _)) (show (some ⟨b, off, none⟩ : Option Addr) = some ⟨b, off, none⟩ ∧ b < w.heap.size ∨ es.length = 0 from .inl ⟨rfl, hbw⟩) HC.out HCY.out hjl
                  obtain rfl : f = f' := by have h1 := HZ.out; rw [HZ'.out] at h1; exact h1.symm
                  rw [HAM.out] at h6
                  have HG8 : Hid (GaugeAt w8 gb g) := heap_below HG2.out HW8.out
                  have g4 := cellOf HG8.out 4
                  have HWI8 := heap_below HWI2r.out HW8.out
                  obtain ⟨k0, k1, k2, _⟩ := wi3 HWI8 (Below.refl _ w8)
                  have q1 : w.heap.size < w8.heap.size := box_lt HWI8
                  have q2 : gb < w8.heap.size := box_lt HG8.out
                  have q3 : b < w8.heap.size := by omega
                  have hwr : IntKind.i64.wrap (rv + am) = rv + am := IntWalk.i64_in _ (by omega)
                  have yq : decide (g.limit < IntKind.i64.wrap (rv + am)) = false := decide_eq_false (by rw [hwr]; omega)
                  clear HWI8
                  go_upto_region 19 with (fail)
                  refine wp_region_held_drew (S := (fun w' => Below w8.heap.size w8 w')) (by kernel_rfl) ?_ (fun hHeld => ?_)
                  · try dsimp only
                    exact (by repeat (first | exact Below.refl _ _ | assumption | refine Below.drew ?_ | refine Below.drewN ?_ _ | refine Below.allocT ?_ (Nat.le_refl _) _ | refine Below.setCell ?_ (by simp <;> omega) _ | refine Below.to ?_ (by assumption) (Nat.le_refl _)))
                  refine wpAnyH_take (i := 0) (v := ?v2_0) rfl (by kernel_rfl) (by kernel_rfl) (by kernel_rfl) (fun _ _ _ h => h) (Or.inl ⟨by rfl, ?y2_0⟩) (by assumption) ?r2_0
                  case' y2_0 => (intro w hSw; (try dsimp only at hSw); (try have hlS := HLK.out _ hSw); obtain ⟨hcS, hfS⟩ := bcell hSw; clear hSw; go_simp; try with_reducible rfl)
                  try simp only [Act.put, List.getElem_toArray, List.getElem_cons_succ, List.getElem_cons_zero, List.setIfInBounds_toArray, List.set_cons_zero, List.set_cons_succ]
                  refine wpAnyH_take (i := 1) (v := ?v2_1) rfl (by kernel_rfl) (by kernel_rfl) (by kernel_rfl) (fun _ _ _ h => h) (Or.inl ⟨by rfl, ?y2_1⟩) (by assumption) ?r2_1
                  case' y2_1 => (intro w hSw; (try dsimp only at hSw); (try have hlS := HLK.out _ hSw); obtain ⟨hcS, hfS⟩ := bcell hSw; clear hSw; go_simp; try with_reducible rfl)
                  try simp only [Act.put, List.getElem_toArray, List.getElem_cons_succ, List.getElem_cons_zero, List.setIfInBounds_toArray, List.set_cons_zero, List.set_cons_succ]
                  refine wpAnyH_take (i := 2) (v := ?v2_2) rfl (by kernel_rfl) (by kernel_rfl) (by kernel_rfl) (fun _ _ _ h => h) (Or.inl ⟨by rfl, ?y2_2⟩) (by assumption) ?r2_2
                  case' y2_2 => (intro w hSw; (try dsimp only at hSw); (try have hlS := HLK.out _ hSw); obtain ⟨hcS, hfS⟩ := bcell hSw; clear hSw; go_simp; try with_reducible rfl)
                  try simp only [Act.put, List.getElem_toArray, List.getElem_cons_succ, List.getElem_cons_zero, List.setIfInBounds_toArray, List.set_cons_zero, List.set_cons_succ]
                  refine wpAnyH_take (i := 3) (v := ?v2_3) rfl (by kernel_rfl) (by kernel_rfl) (by kernel_rfl) (fun _ _ _ h => h) (Or.inl ⟨by rfl, ?y2_3⟩) (by assumption) ?r2_3
                  case' y2_3 => (intro w hSw; (try dsimp only at hSw); (try have hlS := HLK.out _ hSw); obtain ⟨hcS, hfS⟩ := bcell hSw; clear hSw; go_simp; try with_reducible rfl)
                  try simp only [Act.put, List.getElem_toArray, List.getElem_cons_succ, List.getElem_cons_zero, List.setIfInBounds_toArray, List.set_cons_zero, List.set_cons_succ]
                  refine wpAnyH_take (i := 4) (v := ?v2_4) rfl (by kernel_rfl) (by kernel_rfl) (by kernel_rfl) (fun _ _ _ h => h) (Or.inl ⟨by rfl, ?y2_4⟩) (by assumption) ?r2_4
                  case' y2_4 => (intro w hSw; (try dsimp only at hSw); (try have hlS := HLK.out _ hSw); obtain ⟨hcS, hfS⟩ := bcell hSw; clear hSw; go_simp; try with_reducible rfl)
                  try simp only [Act.put, List.getElem_toArray, List.getElem_cons_succ, List.getElem_cons_zero, List.setIfInBounds_toArray, List.set_cons_zero, List.set_cons_succ]
                  refine wpAnyH_take (i := 5) (v := ?v2_5) rfl (by kernel_rfl) (by kernel_rfl) (by kernel_rfl) (fun _ _ _ h => h) (Or.inl ⟨by rfl, ?y2_5⟩) (by assumption) ?r2_5
                  case' y2_5 => (intro w hSw; (try dsimp only at hSw); (try have hlS := HLK.out _ hSw); obtain ⟨hcS, hfS⟩ := bcell hSw; clear hSw; go_simp; try with_reducible rfl)
                  try simp only [Act.put, List.getElem_toArray, List.getElem_cons_succ, List.getElem_cons_zero, List.setIfInBounds_toArray, List.set_cons_zero, List.set_cons_succ]
                  refine wpAnyH_take (i := 6) (v := ?v2_6) rfl (by kernel_rfl) (by kernel_rfl) (by kernel_rfl) (fun _ _ _ h => h) (Or.inl ⟨by rfl, ?y2_6⟩) (by assumption) ?r2_6
                  case' y2_6 => (intro w hSw; (try dsimp only at hSw); (try have hlS := HLK.out _ hSw); obtain ⟨hcS, hfS⟩ := bcell hSw; clear hSw; go_simp; try with_reducible rfl)
                  try simp only [Act.put, List.getElem_toArray, List.getElem_cons_succ, List.getElem_cons_zero, List.setIfInBounds_toArray, List.set_cons_zero, List.set_cons_succ]
                  refine wpAnyH_take (i := 7) (v := ?v2_7) rfl (by kernel_rfl) (by kernel_rfl) (by kernel_rfl) (fun _ _ _ h => h) (Or.inl ⟨by rfl, ?y2_7⟩) (by assumption) ?r2_7
                  case' y2_7 => (intro w hSw; (try dsimp only at hSw); (try have hlS := HLK.out _ hSw); obtain ⟨hcS, hfS⟩ := bcell hSw; clear hSw; go_simp; try with_reducible rfl)
                  try simp only [Act.put, List.getElem_toArray, List.getElem_cons_succ, List.getElem_cons_zero, List.setIfInBounds_toArray, List.set_cons_zero, List.set_cons_succ]
                  refine wpAnyH_take (i := 8) (v := ?v2_8) rfl (by kernel_rfl) (by kernel_rfl) (by kernel_rfl) (fun _ _ _ h => h) (Or.inl ⟨by rfl, ?y2_8⟩) (by assumption) ?r2_8
                  case' y2_8 => (intro w hSw; (try dsimp only at hSw); (try have hlS := HLK.out _ hSw); obtain ⟨hcS, hfS⟩ := bcell hSw; clear hSw; go_simp; try with_reducible rfl)
                  try simp only [Act.put, List.getElem_toArray, List.getElem_cons_succ, List.getElem_cons_zero, List.setIfInBounds_toArray, List.set_cons_zero, List.set_cons_succ]
                  refine wpAnyH_take (i := 9) (v := ?v2_9) rfl (by kernel_rfl) (by kernel_rfl) (by kernel_rfl) (fun _ _ _ h => h) (Or.inl ⟨by rfl, ?y2_9⟩) (by assumption) ?r2_9
                  case' y2_9 => (intro w hSw; (try dsimp only at hSw); (try have hlS := HLK.out _ hSw); obtain ⟨hcS, hfS⟩ := bcell hSw; clear hSw; go_simp; try with_reducible rfl)
                  try simp only [Act.put, List.getElem_toArray, List.getElem_cons_succ, List.getElem_cons_zero, List.setIfInBounds_toArray, List.set_cons_zero, List.set_cons_succ]
                  refine wpAnyH_take (i := 10) (v := ?v2_10) rfl (by kernel_rfl) (by kernel_rfl) (by kernel_rfl) (fun _ _ _ h => h) (Or.inl ⟨by rfl, ?y2_10⟩) (by assumption) ?r2_10
                  case' y2_10 => (intro w hSw; (try dsimp only at hSw); (try have hlS := HLK.out _ hSw); obtain ⟨hcS, hfS⟩ := bcell hSw; clear hSw; go_simp; try with_reducible rfl)
                  try simp only [Act.put, List.getElem_toArray, List.getElem_cons_succ, List.getElem_cons_zero, List.setIfInBounds_toArray, List.set_cons_zero, List.set_cons_succ]
                  refine wpAnyH_take (i := 11) (v := ?v2_11) rfl (by kernel_rfl) (by kernel_rfl) (by kernel_rfl) (fun _ _ _ h => h) (Or.inl ⟨by rfl, ?y2_11⟩) (by assumption) ?r2_11
                  case' y2_11 => (intro w hSw; (try dsimp only at hSw); (try have hlS := HLK.out _ hSw); obtain ⟨hcS, hfS⟩ := bcell hSw; clear hSw; go_simp; try with_reducible rfl)
                  try simp only [Act.put, List.getElem_toArray, List.getElem_cons_succ, List.getElem_cons_zero, List.setIfInBounds_toArray, List.set_cons_zero, List.set_cons_succ]
                  refine wpAnyH_take (i := 12) (v := ?v2_12) rfl (by kernel_rfl) (by kernel_rfl) (by kernel_rfl) (fun _ _ _ h => h) (Or.inl ⟨by rfl, ?y2_12⟩) (by assumption) ?r2_12
                  case' y2_12 => (intro w hSw; (try dsimp only at hSw); (try have hlS := HLK.out _ hSw); obtain ⟨hcS, hfS⟩ := bcell hSw; clear hSw; go_simp; try with_reducible rfl)
                  try simp only [Act.put, List.getElem_toArray, List.getElem_cons_succ, List.getElem_cons_zero, List.setIfInBounds_toArray, List.set_cons_zero, List.set_cons_succ]
                  refine wpAnyH_take (i := 13) (v := ?v2_13) rfl (by kernel_rfl) (by kernel_rfl) (by kernel_rfl) (fun _ _ _ h => h) (Or.inl ⟨by rfl, ?y2_13⟩) (by assumption) ?r2_13
                  case' y2_13 => (intro w hSw; (try dsimp only at hSw); (try have hlS := HLK.out _ hSw); obtain ⟨hcS, hfS⟩ := bcell hSw; clear hSw; go_simp; try with_reducible rfl)
                  try simp only [Act.put, List.getElem_toArray, List.getElem_cons_succ, List.getElem_cons_zero, List.setIfInBounds_toArray, List.set_cons_zero, List.set_cons_succ]
                  refine wpAnyH_take (i := 14) (v := ?v2_14) rfl (by kernel_rfl) (by kernel_rfl) (by kernel_rfl) (fun _ _ _ h => h) (Or.inl ⟨by rfl, ?y2_14⟩) (by assumption) ?r2_14
                  case' y2_14 => (intro w hSw; (try dsimp only at hSw); (try have hlS := HLK.out _ hSw); obtain ⟨hcS, hfS⟩ := bcell hSw; clear hSw; go_simp; try with_reducible rfl)
                  try simp only [Act.put, List.getElem_toArray, List.getElem_cons_succ, List.getElem_cons_zero, List.setIfInBounds_toArray, List.set_cons_zero, List.set_cons_succ]
                  refine wpAnyH_take (i := 15) (v := ?v2_15) rfl (by kernel_rfl) (by kernel_rfl) (by kernel_rfl) (fun _ _ _ h => h) (Or.inl ⟨by rfl, ?y2_15⟩) (by assumption) ?r2_15
                  case' y2_15 => (intro w hSw; (try dsimp only at hSw); (try have hlS := HLK.out _ hSw); obtain ⟨hcS, hfS⟩ := bcell hSw; clear hSw; go_simp; try with_reducible rfl)
                  try simp only [Act.put, List.getElem_toArray, List.getElem_cons_succ, List.getElem_cons_zero, List.setIfInBounds_toArray, List.set_cons_zero, List.set_cons_succ]
                  refine wpAnyH_done (by kernel_rfl) ?_ _
                  go_wp2_with fail
                  go_roundw
                  case rel => exact ⟨t + 1, by omega, by go_num, Below.to (Below.to HK2.out HW8.out (Nat.le_refl _)) hHeld (Nat.le_refl _)⟩
                  case measure => simp [intOf]; omega
                · rw [decide_eq_false hc]
                  clear hc
                  obtain ⟨f', C', cp', HZ', _, _, h0, _⟩ := feAtB HBr2.out (show (some ⟨b, off, none⟩ : Option Addr) = some ⟨b, off, none⟩ ∧ b < w.heap.size ∨ es.length = 0 from .inl ⟨rfl, hbw⟩) HC.out HCY.out hjl
                  obtain rfl : f = f' := by have h1 := HZ.out; rw [HZ'.out] at h1; exact h1.symm
                  obtain ⟨k0, k1, k2, _⟩ := wi3 HWI2r.out (Below.refl _ wr)
                  go_wp2_with fail
                  go_roundw
                  case rel => exact ⟨f.par, by omega, by omega, rfl, HX'.out, HBs.out⟩
                  case measure => simp [intOf]; omega
        · go_wp2_with (go_at_call 17; refine (works_any _).mono ?_; rintro e w7 ⟨rfl, hB7⟩)
          go_ret
          exact ⟨rfl, Below.to HBr.out hB7 (Nat.le_refl _)⟩
end Go.Proofs.Ytejjjijaojkohaa

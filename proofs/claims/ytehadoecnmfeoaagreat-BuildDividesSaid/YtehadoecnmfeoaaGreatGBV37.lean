/- Part 37 of this claim's texts: walks and plain laws. -/
import Derived.Test.YtehadoecnmfeoaaGreatRows
import Derived.Test.YtehadoecnmfeoaaGreatGBV31
import Derived.Test.YtehadoecnmfeoaaGreatGBV36
import Derived.Test.YtehadoecnmfeoaaGreatGBV29
import Derived.Deep.DeepMust
import Derived.Deep.RegionHeld3
import Derived.Deep.DrawnRows
import Derived.Test.YtehadoecnmfeoaaGreatGBV3
import Derived.Test.YtehadoecnmfeoaaGreatGBV8
import Derived.Test.YtehadoecnmfeoaaGreatGBV17
/- Whether wires go together: walks of both sides. -/
namespace Go.Proofs.YtehadoecnmfeoaaGreat
open Go.RowKit
set_option linter.unusedVariables false
set_option linter.unusedSimpArgs false
set_option maxRecDepth 100000 in
set_option maxHeartbeats 4000000 in
theorem together_any (a b : Nat) (A0 A1 A2 A3 A4 A5 : Option Addr) (q0 q1 q2 q3 q4 q5 : Nat) (l : Lo) (w : World) (hs : SizedL l) (h : LoA w w.heap.size A0 A1 A2 A3 A4 A5 q0 q1 q2 q3 q4 q5 l) (ok : LoOk l) (ha : a < l.ws.length) (hb : b < l.ws.length) (hN : l.m.opts.length ≤ 12) :
    Calls Tryz.prog 65 #[.agg #[.slice A0 l.m.opts.length q0, .slice A1 l.m.rules.length q1, .slice A2 l.ss.length q2, .slice A3 l.us.length q3, .slice A4 l.ps.length q4, .slice A5 l.ws.length q5], .int .i64 (a : Nat), .int .i64 (b : Nat)] w fun e w' => e = .returned (.bool (tgB l.m (fmW l a) (fmW l b))) ∧ Below w.heap.size w w' := by
  obtain ⟨bw, ow, x, Af, qf, HX, hA5, hbw, hq5, HXF, _, _, _, _, _, _, e6⟩ := h.wi ha
  subst hA5
  obtain ⟨b2, o2, y, Ag, qg, HY, hA6, hb2, hq6, HYF, _, _, _, _, _, _, e7⟩ := h.wi hb
  injection hA6 with hA6
  injection hA6 with p1 p2
  subst p1 p2
  have hx : fmW l a = x.form := by unfold fmW; rw [HX.out]
  have hy : fmW l b = y.form := by unfold fmW; rw [HY.out]
  rw [hx, hy, ← imp_tg]
  have hxv := (LoOk.wi ok ha).2
  have hyv := (LoOk.wi ok hb).2
  rw [HX.out] at hxv
  rw [HY.out] at hyv
  have hxl := (hs.wn (l.ws.getD a Wi.o) (getD_mem7 ha)).2
  have hyl := (hs.wn (l.ws.getD b Wi.o) (getD_mem7 hb)).2
  rw [HX.out] at hxl
  rw [HY.out] at hyl
  have he1 : l.m.errF [x.form, y.form] = 0 := errF_all ok.m fun g hg => by
    simp only [List.mem_cons, List.not_mem_nil, or_false] at hg
    rcases hg with rfl | rfl
    · exact hxv
    · exact hyv
  have he2 : l.m.errF [y.form, x.form] = 0 := errF_all ok.m fun g hg => by
    simp only [List.mem_cons, List.not_mem_nil, or_false] at hg
    rcases hg with rfl | rfl
    · exact hyv
    · exact hxv
  have h1 : ∀ W, Below w.heap.size w W → Calls Tryz.prog 126 #[.agg #[.slice A0 l.m.opts.length q0, .slice A1 l.m.rules.length q1], .slice Af x.form.length qf, .slice Ag y.form.length qg] W (MeeN (impL l.m x.form y.form).head? (impL l.m x.form y.form).isEmpty W) := fun W hW => Implies_n l.m x.form y.form _ _ _ _ W hs.m hxl hyl (h.up hW).m (HXF.out.up hW) (HYF.out.up hW) he1 hN
  have h2 : ∀ W, Below w.heap.size w W → Calls Tryz.prog 126 #[.agg #[.slice A0 l.m.opts.length q0, .slice A1 l.m.rules.length q1], .slice Ag y.form.length qg, .slice Af x.form.length qf] W (MeeN (impL l.m y.form x.form).head? (impL l.m y.form x.form).isEmpty W) := fun W hW => Implies_n l.m y.form x.form _ _ _ _ W hs.m hyl hxl (h.up hW).m (HYF.out.up hW) (HXF.out.up hW) he2 hN
  obtain ⟨z1, hz1⟩ : ∃ z, (impL l.m x.form y.form).isEmpty = z := ⟨_, rfl⟩
  obtain ⟨z2, hz2⟩ : ∃ z, (impL l.m y.form x.form).isEmpty = z := ⟨_, rfl⟩
  rw [hz1] at h1
  rw [hz2] at h2
  rw [hz1, hz2]
  have H := hide h
  have HI1 := hide h1
  have HI2 := hide h2
  have ia0 : (0 : Int) ≤ (a : Int) := by omega
  have ia1 : (a : Int) < (l.ws.length : Int) := by omega
  have ib0 : (0 : Int) ≤ (b : Int) := by omega
  have ib1 : (b : Int) < (l.ws.length : Int) := by omega
  have iq5 : (l.ws.length : Int) ≤ (q5 : Int) := by omega
  clear h h1 h2 hz1 hz2 he1 he2 hxl hyl hxv hyv hx hy hq5 hq6 hs
  go_enter Tryz.func65, Tryz.ntmps65
  go_upto_region 1 with (fail)
  generalize hw0 : World.alloc _ _ = w0
  obtain ⟨hb0, hB0, hs0⟩ := alloc1 hw0
  have HB0 := hide hB0
  have HL0 : Hid (LoBox w0 w.heap.size A0 A1 A2 A3 A4 (some ⟨bw, ow, none⟩) q0 q1 q2 q3 q4 q5 l) := hb0
  have c0 := cellOf hb0 0; have c1 := cellOf hb0 1; have c2 := cellOf hb0 2; have c3 := cellOf hb0 3; have c4 := cellOf hb0 4; have c5 := cellOf hb0 5
  have hlb := box_lt hb0
  have f6 := (HB0.out.cell (p := ⟨bw, ow + a * 7 + 6, none⟩) hbw).trans e6
  have f7 := (HB0.out.cell (p := ⟨bw, ow + b * 7 + 6, none⟩) hbw).trans e7
  have lbw : bw < w0.heap.size := Nat.lt_of_lt_of_le hbw HB0.out.size
  clear hw0 hb0 hB0 hs0 e6 e7
  refine wp_region_held_drew (S := (fun w' => Below w0.heap.size w0 w')) (by kernel_rfl) ?_ (fun hHeld => ?_)
  · try dsimp only
    exact (by repeat (first | exact Below.refl _ _ | assumption | refine Below.drew ?_ | refine Below.drewN ?_ _ | refine Below.allocT ?_ (Nat.le_refl _) _ | refine Below.setCell ?_ (by simp <;> omega) _ | refine Below.to ?_ (by assumption) (Nat.le_refl _)))
  refine zT 0 rfl ?_
  try simp only [zX]
  refine zT 1 rfl ?_
  try simp only [zX]
  refine zT 2 rfl ?_
  try simp only [zX]
  refine zT 3 rfl ?_
  try simp only [zX]
  refine zT 4 rfl ?_
  try simp only [zX]
  refine zT 5 rfl ?_
  try simp only [zX]
  refine zT 6 rfl ?_
  try simp only [zX]
  refine zT 7 rfl ?_
  try simp only [zX]
  refine zT 8 rfl ?_
  try simp only [zX]
  refine zT 9 rfl ?_
  try simp only [zX]
  refine zT 10 rfl ?_
  try simp only [zX]
  refine zT 11 rfl ?_
  try simp only [zX]
  refine zT 12 rfl ?_
  try simp only [zX]
  refine zT 13 rfl ?_
  try simp only [zX]
  refine wpAnyH_done (by kernel_rfl) ?_ _
  generalize hwd : World.drew _ = wd at hHeld ⊢
  have HBd := hide (Below.to HB0.out hHeld (Nat.le_refl _))
  have HLd := hide (HL0.out.to hHeld)
  clear hwd hHeld c0 c1 c2 c3 c4 c5 hlb f6 f7 lbw
  have d0 := cellOf HLd.out 0; have d1 := cellOf HLd.out 1; have d2 := cellOf HLd.out 2; have d3 := cellOf HLd.out 3; have d4 := cellOf HLd.out 4; have d5 := cellOf HLd.out 5
  have hld := box_lt HLd.out
  go_upto_region 3 with (go_at_call 126; refine (HI1.out wd HBd.out).mono ?_; rintro e w1 ⟨v1, rfl, _, hB1⟩; have HL1 := hide (HLd.out.to hB1); have HB1 := hide (Below.to HBd.out hB1 (Nat.le_refl _)); clear hB1 d0 d1 d2 d3 d4 d5 hld; have c0 := cellOf HL1.out 0; have c1 := cellOf HL1.out 1; have c2 := cellOf HL1.out 2; have c3 := cellOf HL1.out 3; have c4 := cellOf HL1.out 4; have c5 := cellOf HL1.out 5; have hlb := box_lt HL1.out)
  go_upto_region 4 with (go_at_call 126; refine (HI2.out w1 HB1.out).mono ?_; rintro e w2 ⟨v2, rfl, _, hB2⟩; have HB2 := hide (Below.to HB1.out hB2 (Nat.le_refl _)); clear hB2 c0 c1 c2 c3 c4 c5 hlb)
  cases z1 with
  | true =>
    go_wp2_with fail
    go_ret
    exact ⟨rfl, HB2.out⟩
  | false =>
    go_wp2_with fail
    go_ret
    exact ⟨rfl, HB2.out⟩
set_option maxRecDepth 100000 in
set_option maxHeartbeats 4000000 in
theorem divide1_any (d : Md) (w0 k : Nat) (t : List Int) (Af : Option Addr) (qf : Nat) (Aw : Option Addr) (qw : Nat) (lb wb : Nat) (A0 A1 A2 A3 A4 A5 : Option Addr) (q0 q1 q2 q3 q4 q5 : Nat) (l : Lo) (w : World) (hs : SizedL l) (h : LoA w w.heap.size A0 A1 A2 A3 A4 A5 q0 q1 q2 q3 q4 q5 l) (hx : LoBox w lb A0 A1 A2 A3 A4 A5 q0 q1 q2 q3 q4 q5 l) (hy : w.heap[wb]? = some (.cells #[.int .i64 (k : Nat)] 3 (0, 0))) (ok : LoOk l) (hw0 : w0 < l.ws.length) (hk : k < l.ws.length) (hN : l.m.opts.length ≤ 12) (hd : d.ws = (w0 : Int) :: t) (hf : d.f = fmW l w0) (hwl : d.ws.length ≤ 1000) (hw : Ints w w.heap.size (.slice Aw d.ws.length qw) d.ws) :
    Calls Tryz.prog 64 #[.agg #[.slice Af d.f.length qf, .slice Aw d.ws.length qw], .pointer (some ⟨lb, 0, none⟩), .pointer (some ⟨wb, 0, none⟩)] w fun e w' => e = .returned (.bool (tgB l.m d.f (fmW l k))) ∧ Below w.heap.size w w' := by
  have hl0 : 0 < d.ws.length := by rw [hd]; simp
  obtain ⟨b1, o1, y, HY, hA, hb1, hq1, ey0⟩ := hw.at7 hl0
  subst hA
  have hyw : y = (w0 : Int) := by rw [← HY.out, hd]; rfl
  subst hyw
  rw [Nat.add_zero] at ey0
  obtain ⟨z, hz⟩ : ∃ z, tgB l.m d.f (fmW l k) = z := ⟨_, rfl⟩
  rw [hz]
  have htg : ∀ W, Below w.heap.size w W → Calls Tryz.prog 65 #[.agg #[.slice A0 l.m.opts.length q0, .slice A1 l.m.rules.length q1, .slice A2 l.ss.length q2, .slice A3 l.us.length q3, .slice A4 l.ps.length q4, .slice A5 l.ws.length q5], .int .i64 (w0 : Nat), .int .i64 (k : Nat)] W fun e w' => e = .returned (.bool z) ∧ Below W.heap.size W w' := fun W hW => by
    have h1 := together_any w0 k A0 A1 A2 A3 A4 A5 q0 q1 q2 q3 q4 q5 l W hs (h.up hW) ok hw0 hk hN
    rw [← hf, hz] at h1
    exact h1
  have HTG := hide htg
  have HX := hide hx
  have HYB := hide hy
  have i1 : (0 : Int) < (d.ws.length : Int) := by omega
  have iq : (d.ws.length : Int) ≤ (qw : Int) := by omega
  clear h hx hy hd hf hw hz htg hs ok hq1 HY
  go_enter Tryz.func64, Tryz.ntmps64
  go_upto_region 1 with (fail)
  generalize hwn : World.alloc _ _ = wn
  obtain ⟨hb0, hB0, hs0⟩ := alloc1 hwn
  have HB0 := hide hB0
  have m0 := cellOf hb0 0
  have m1 := cellOf hb0 1
  have lm := box_lt hb0
  have c0 := cellOf (HX.out.to hB0) 0; have c1 := cellOf (HX.out.to hB0) 1; have c2 := cellOf (HX.out.to hB0) 2; have c3 := cellOf (HX.out.to hB0) 3; have c4 := cellOf (HX.out.to hB0) 4; have c5 := cellOf (HX.out.to hB0) 5
  have hlb := box_lt (HX.out.to hB0)
  have k0 := cellOf (box_to HYB.out hB0) 0
  have lk := box_lt (box_to HYB.out hB0)
  have ey := (hB0.cell (p := ⟨b1, o1, none⟩) hb1).trans ey0
  have lb1 : b1 < wn.heap.size := Nat.lt_of_lt_of_le hb1 hB0.size
  clear hwn hb0 hB0 hs0 ey0
  refine wp_region_held_drew (S := (fun w' => Below wn.heap.size wn w')) (by kernel_rfl) ?_ (fun hHeld => ?_)
  · try dsimp only
    exact (by repeat (first | exact Below.refl _ _ | assumption | refine Below.drew ?_ | refine Below.drewN ?_ _ | refine Below.allocT ?_ (Nat.le_refl _) _ | refine Below.setCell ?_ (by simp <;> omega) _ | refine Below.to ?_ (by assumption) (Nat.le_refl _)))
  refine zT 0 rfl ?_
  try simp only [zX]
  refine zT 1 rfl ?_
  try simp only [zX]
  refine zT 2 rfl ?_
  try simp only [zX]
  refine zT 3 rfl ?_
  try simp only [zX]
  refine zT 4 rfl ?_
  try simp only [zX]
  refine zT 5 rfl ?_
  try simp only [zX]
  refine wpAnyH_ready (rs := [6]) (by kernel_rfl) (by simp) ?_
  refine AllReadyH.cons rfl (fun K hK => ?_) AllReadyH.nil
  go_simp
  ((go_at_call 65; refine (HTG.out _ (Below.to HB0.out (by repeat (first | exact Below.refl _ _ | assumption | refine Below.drew ?_ | refine Below.drewN ?_ _ | refine Below.allocT ?_ (Nat.le_refl _) _ | refine Below.setCell ?_ (by simp <;> omega) _ | refine Below.to ?_ (by assumption) (Nat.le_refl _))) (Nat.le_refl _))).mono ?_; rintro e w2 ⟨rfl, hB2⟩))
  (try dsimp only)
  refine hK.out _ _ ?_ (fun hNext => ?_)
  · try dsimp only
    exact (by repeat (first | exact Below.refl _ _ | assumption | refine Below.drew ?_ | refine Below.drewN ?_ _ | refine Below.allocT ?_ (Nat.le_refl _) _ | refine Below.setCell ?_ (by simp <;> omega) _ | refine Below.to ?_ (by assumption) (Nat.le_refl _)))
  clear hK K hHeld
  have hHeld := hNext
  clear hNext
  (try dsimp only at hHeld)
  try simp only [zX]
  refine zT 7 rfl ?_
  try simp only [zX]
  refine wpAnyH_done (by kernel_rfl) ?_ _
  go_wp2_with fail
  go_ret
  exact ⟨rfl, Below.to HB0.out hHeld (Nat.le_refl _)⟩
set_option maxRecDepth 100000 in
theorem index_divide (p : Md → Bool) (c0 c1 : Value) (v : Value) (gs : List Md) (w : World) (hm : gs.length ≤ maxLen) (h : Mods w w.heap.size v gs)
    (hf : ∀ (i : Nat) (x : Md) (Af : Option Addr) (qf : Nat) (Aw : Option Addr) (qw : Nat) (W : World), i < gs.length → gs.getD i Md.o = x → Below w.heap.size w W → Ints W w.heap.size (.slice Af x.f.length qf) x.f → Ints W w.heap.size (.slice Aw x.ws.length qw) x.ws → Calls Tryz.prog 64 #[.agg #[.slice Af x.f.length qf, .slice Aw x.ws.length qw], c0, c1] W fun e w' => e = .returned (.bool (p x)) ∧ Below W.heap.size W w') :
    Calls Tryz.prog 63 #[v, .func (.func 64) #[] #[c0, c1]] w fun e w' => e = .returned (.int .i64 (idxI p gs)) ∧ Below w.heap.size w w' := by
  unfold maxLen at hm
  obtain ⟨A, cap, rfl⟩ := Mods.form h
  have H := hide h; clear h
  have HF := hide hf; clear hf
  go_enter Tryz.func63, Tryz.ntmps63
  go_wp2
  go_loopw [5, 8] (fun _ i wr => ∃ k : Nat, k ≤ gs.length ∧ i = .int .i64 k ∧ Hid (∀ j, j < k → p (gs.getD j Md.o) = false) ∧ Below w.heap.size w wr) (fun _ i _ => gs.length - (intOf i).toNat)
  case atStart => exact ⟨0, Nat.zero_le _, rfl, fun j hj => by omega, Below.refl _ _⟩
  case round =>
    obtain ⟨k, hk, rfl, hz, hB⟩ := hrel
    by_cases hlt : k < gs.length
    · obtain ⟨b, off, x, Af, qf, Aw, qw, HX, rfl, hbb, hq, HFO, HWO, e0, e1⟩ := Mods.at (H.out.below hB) hlt
      have hf := fun W (hW : Below w.heap.size w W) => HF.out k x Af qf Aw qw W hlt HX.out hW
      have HF2 := hide hf
      have HB := hide hB
      clear hf
      by_cases hp : p x = true
      · have HP := hide hp
        clear hp
        go_wp2_with (go_at_call 64; refine (HF2.out _ hB HFO.out HWO.out).mono ?_; rw [HP.out]; rintro e w1 ⟨rfl, hB1⟩)
        go_ret
        exact ⟨ret_int (idxI_at p Md.o gs k hz.out hlt (by rw [HX.out]; exact HP.out)).symm, Below.to HB.out hB1 (Nat.le_refl _)⟩
      · have hp' : p x = false := by simpa using hp
        have HP := hide hp'
        clear hp hp'
        go_wp2_with (go_at_call 64; refine (HF2.out _ hB HFO.out HWO.out).mono ?_; rw [HP.out]; rintro e w1 ⟨rfl, hB1⟩)
        go_roundw
        case rel => exact ⟨k + 1, by omega, by go_num, fun j hj => by
            rcases Nat.lt_or_ge j k with h | h
            · exact hz.out j h
            · rw [show j = k from by omega, HX.out]; exact HP.out, Below.to HB.out hB1 (Nat.le_refl _)⟩
        case measure => simp [intOf]; omega
    · go_wp2
      go_ret
      exact ⟨ret_int (idxI_none p Md.o gs (fun j hj => hz.out j (by omega))).symm, hB⟩
def sameV (V : List (List Bool)) (f g : List Int) : Bool := V.all fun x => evF1 (vf x) f == evF1 (vf x) g
theorem sameV_no {V : List (List Bool)} {f g : List Int} {k : Nat} (hk : k < V.length) (h : (evF1 (vf (V.getD k [])) f == evF1 (vf (V.getD k [])) g) = false) : sameV V f g = false := by
  unfold sameV
  rw [List.all_eq_false]
  exact ⟨V.getD k [], getD_mem7 hk, by rw [h]; simp⟩
theorem sameV_yes {V : List (List Bool)} {f g : List Int} (h : ∀ k, k < V.length → (evF1 (vf (V.getD k [])) f == evF1 (vf (V.getD k [])) g) = true) : sameV V f g = true := by
  unfold sameV
  rw [List.all_eq_true]
  intro y hy
  obtain ⟨k, hk, he⟩ := List.mem_iff_getElem.1 hy
  have := h k hk
  rwa [List.getD_eq_getElem?_getD, List.getElem?_eq_getElem hk, Option.getD_some, he] at this
set_option maxRecDepth 100000 in
set_option maxHeartbeats 4000000 in
theorem rtogether_any (V : List (List Bool)) (N : Nat) (f g : List Int) (A9 : Option Addr) (q9 : Nat) (Af : Option Addr) (qf : Nat) (Ag : Option Addr) (qg : Nat) (w : World) (hV : Vars w w.heap.size (.slice A9 V.length q9) V) (hVn : V.length ≤ 5000) (hVN : ∀ x ∈ V, x.length = N) (hf : Ints w w.heap.size (.slice Af f.length qf) f) (hg : Ints w w.heap.size (.slice Ag g.length qg) g) (hfv : validF N f = true) (hgv : validF N g = true) :
    Calls Tryz.prog 69 #[.slice A9 V.length q9, .slice Af f.length qf, .slice Ag g.length qg] w fun e w' => e = .returned (.bool (sameV V f g)) ∧ Below w.heap.size w w' := by
  have HV := hide hV
  have HVN := hide hVN
  have HF := hide hf
  have HG := hide hg
  have HFV := hide hfv
  have HGV := hide hgv
  obtain ⟨z, hz⟩ : ∃ z, sameV V f g = z := ⟨_, rfl⟩
  rw [hz]
  have HZ := hide hz
  clear hV hVN hf hg hfv hgv hz
  go_enter Tryz.func69, Tryz.ntmps69
  go_wp2_with fail
  go_loopw [7] (fun i wr => ∃ k : Nat, i = .int .i64 k ∧ k ≤ V.length ∧ Hid (∀ j, j < k → (evF1 (vf (V.getD j [])) f == evF1 (vf (V.getD j [])) g) = true) ∧ Hid (Below w.heap.size w wr)) (fun i _ => V.length - (intOf i).toNat)
  case atStart => exact ⟨0, rfl, Nat.zero_le _, fun j hj => absurd hj (by omega), Below.refl _ _⟩
  case round =>
    obtain ⟨k, rfl, hk, HNO, HB⟩ := hrel
    by_cases hkl : k < V.length
    case neg =>
      have hkl1 : ¬ (k : Int) < (V.length : Int) := by omega
      have hr : z = true := by rw [← HZ.out]; exact sameV_yes fun j hj => HNO.out j (by omega)
      subst hr
      clear hkl
      go_wp2_with fail
      go_ret
      exact ⟨rfl, HB.out⟩
    case pos =>
    have hkl1 : (k : Int) < (V.length : Int) := by omega
    have ik0 : (0 : Int) ≤ (k : Int) := by omega
    obtain ⟨bv, ov, x, Ax, qx, HX, hA9, hbv, hq9, HXB, ev0⟩ := Vars.at8 HV.out hkl
    subst hA9
    have ev : wr.cell? ⟨bv, ov + k, none⟩ = some (.slice Ax x.length qx) := (HB.out.cell (p := ⟨bv, ov + k, none⟩) hbv).trans ev0
    have lbv : bv < wr.heap.size := Nat.lt_of_lt_of_le hbv HB.out.size
    have iq9 : (V.length : Int) ≤ (q9 : Int) := by omega
    have hxn := HVN.out x (by rw [← HX.out]; exact getD_mem7 hkl)
    obtain ⟨a, ha⟩ : ∃ a, evF1 (vf x) f = a := ⟨_, rfl⟩
    obtain ⟨b, hb⟩ : ∃ a, evF1 (vf x) g = a := ⟨_, rfl⟩
    have htr : ∀ W, Below wr.heap.size wr W → ∀ (v : Value) (r : Bool), (v = .slice Af f.length qf ∧ r = a) ∨ (v = .slice Ag g.length qg ∧ r = b) → Calls Tryz.prog 61 #[v, .slice Ax x.length qx] W fun e w' => e = .returned (.bool r) ∧ W = w' := fun W hW v r h => by
      have hB2 := Below.to HB.out hW (Nat.le_refl _)
      rcases h with ⟨rfl, rfl⟩ | ⟨rfl, rfl⟩
      · have h1 := True_any f N x _ _ w.heap.size W (HF.out.below hB2) (Sl.below HXB.out hB2) hxn HFV.out
        rw [ha] at h1
        exact h1
      · have h1 := True_any g N x _ _ w.heap.size W (HG.out.below hB2) (Sl.below HXB.out hB2) hxn HGV.out
        rw [hb] at h1
        exact h1
    have HTR := hide htr
    have heq : (evF1 (vf (V.getD k [])) f == evF1 (vf (V.getD k [])) g) = (a == b) := by rw [HX.out, ha, hb]
    have HEQ := hide heq
    clear ev0 hq9 hxn htr ha hb heq
    cases a with
    | true =>
      cases b with
      | true =>
        go_upto_region 4 with (fail)
        refine wp_region_held_drew (S := (fun w' => Below wr.heap.size wr w')) (by kernel_rfl) ?_ (fun hHeld => ?_)
        · try dsimp only
          exact (by repeat (first | exact Below.refl _ _ | assumption | refine Below.drew ?_ | refine Below.drewN ?_ _ | refine Below.allocT ?_ (Nat.le_refl _) _ | refine Below.setCell ?_ (by simp <;> omega) _ | refine Below.to ?_ (by assumption) (Nat.le_refl _)))
        refine zT 0 rfl ?_
        try simp only [zX]
        refine zT 1 rfl ?_
        try simp only [zX]
        refine zT 2 rfl ?_
        try simp only [zX]
        refine zT 3 rfl ?_
        try simp only [zX]
        refine zT 4 rfl ?_
        try simp only [zX]
        refine zT 6 rfl ?_
        try simp only [zX]
        refine zT 7 rfl ?_
        try simp only [zX]
        refine zT 8 rfl ?_
        try simp only [zX]
        refine zT 9 rfl ?_
        try simp only [zX]
        refine zT 10 rfl ?_
        try simp only [zX]
        refine wpAnyH_ready (rs := [5]) (by kernel_rfl) (by simp) ?_
        refine AllReadyH.cons rfl (fun K hK => ?_) AllReadyH.nil
        go_simp
        ((go_at_call 61; refine (HTR.out _ (by repeat (first | exact Below.refl _ _ | assumption | refine Below.drew ?_ | refine Below.drewN ?_ _ | refine Below.allocT ?_ (Nat.le_refl _) _ | refine Below.setCell ?_ (by simp <;> omega) _ | refine Below.to ?_ (by assumption) (Nat.le_refl _))) _ _ (by first | exact .inl ⟨rfl, rfl⟩ | exact .inr ⟨rfl, rfl⟩)).mono ?_; rintro e w2 ⟨rfl, rfl⟩))
        (try dsimp only)
        refine hK.out _ _ ?_ (fun hNext => ?_)
        · try dsimp only
          exact (by repeat (first | exact Below.refl _ _ | assumption | refine Below.drew ?_ | refine Below.drewN ?_ _ | refine Below.allocT ?_ (Nat.le_refl _) _ | refine Below.setCell ?_ (by simp <;> omega) _ | refine Below.to ?_ (by assumption) (Nat.le_refl _)))
        clear hK K hHeld
        have hHeld := hNext
        clear hNext
        (try dsimp only at hHeld)
        try simp only [zX]
        refine wpAnyH_ready (rs := [11]) (by kernel_rfl) (by simp) ?_
        refine AllReadyH.cons rfl (fun K hK => ?_) AllReadyH.nil
        go_simp
        ((go_at_call 61; refine (HTR.out _ (by repeat (first | exact Below.refl _ _ | assumption | refine Below.drew ?_ | refine Below.drewN ?_ _ | refine Below.allocT ?_ (Nat.le_refl _) _ | refine Below.setCell ?_ (by simp <;> omega) _ | refine Below.to ?_ (by assumption) (Nat.le_refl _))) _ _ (by first | exact .inl ⟨rfl, rfl⟩ | exact .inr ⟨rfl, rfl⟩)).mono ?_; rintro e w2 ⟨rfl, rfl⟩))
        (try dsimp only)
        refine hK.out _ _ ?_ (fun hNext => ?_)
        · try dsimp only
          exact (by repeat (first | exact Below.refl _ _ | assumption | refine Below.drew ?_ | refine Below.drewN ?_ _ | refine Below.allocT ?_ (Nat.le_refl _) _ | refine Below.setCell ?_ (by simp <;> omega) _ | refine Below.to ?_ (by assumption) (Nat.le_refl _)))
        clear hK K hHeld
        have hHeld := hNext
        clear hNext
        (try dsimp only at hHeld)
        try simp only [zX]
        refine zT 12 rfl ?_
        try simp only [zX]
        refine wpAnyH_done (by kernel_rfl) ?_ _
        go_wp2_with fail
        go_roundw
        case rel => exact ⟨k + 1, by go_num, by omega, fun j hj => by
            rcases Nat.lt_or_ge j k with h1 | h1
            · exact HNO.out j h1
            · rw [show j = k by omega]; exact HEQ.out, Below.to HB.out hHeld (Nat.le_refl _)⟩
        case measure => simp [intOf]; omega
      | false =>
        have hr : z = false := by rw [← HZ.out]; exact sameV_no hkl HEQ.out
        subst hr
        go_upto_region 4 with (fail)
        refine wp_region_held_drew (S := (fun w' => Below wr.heap.size wr w')) (by kernel_rfl) ?_ (fun hHeld => ?_)
        · try dsimp only
          exact (by repeat (first | exact Below.refl _ _ | assumption | refine Below.drew ?_ | refine Below.drewN ?_ _ | refine Below.allocT ?_ (Nat.le_refl _) _ | refine Below.setCell ?_ (by simp <;> omega) _ | refine Below.to ?_ (by assumption) (Nat.le_refl _)))
        refine zT 0 rfl ?_
        try simp only [zX]
        refine zT 1 rfl ?_
        try simp only [zX]
        refine zT 2 rfl ?_
        try simp only [zX]
        refine zT 3 rfl ?_
        try simp only [zX]
        refine zT 4 rfl ?_
        try simp only [zX]
        refine zT 6 rfl ?_
        try simp only [zX]
        refine zT 7 rfl ?_
        try simp only [zX]
        refine zT 8 rfl ?_
        try simp only [zX]
        refine zT 9 rfl ?_
        try simp only [zX]
        refine zT 10 rfl ?_
        try simp only [zX]
        refine wpAnyH_ready (rs := [5]) (by kernel_rfl) (by simp) ?_
        refine AllReadyH.cons rfl (fun K hK => ?_) AllReadyH.nil
        go_simp
        ((go_at_call 61; refine (HTR.out _ (by repeat (first | exact Below.refl _ _ | assumption | refine Below.drew ?_ | refine Below.drewN ?_ _ | refine Below.allocT ?_ (Nat.le_refl _) _ | refine Below.setCell ?_ (by simp <;> omega) _ | refine Below.to ?_ (by assumption) (Nat.le_refl _))) _ _ (by first | exact .inl ⟨rfl, rfl⟩ | exact .inr ⟨rfl, rfl⟩)).mono ?_; rintro e w2 ⟨rfl, rfl⟩))
        (try dsimp only)
        refine hK.out _ _ ?_ (fun hNext => ?_)
        · try dsimp only
          exact (by repeat (first | exact Below.refl _ _ | assumption | refine Below.drew ?_ | refine Below.drewN ?_ _ | refine Below.allocT ?_ (Nat.le_refl _) _ | refine Below.setCell ?_ (by simp <;> omega) _ | refine Below.to ?_ (by assumption) (Nat.le_refl _)))
        clear hK K hHeld
        have hHeld := hNext
        clear hNext
        (try dsimp only at hHeld)
        try simp only [zX]
        refine wpAnyH_ready (rs := [11]) (by kernel_rfl) (by simp) ?_
        refine AllReadyH.cons rfl (fun K hK => ?_) AllReadyH.nil
        go_simp
        ((go_at_call 61; refine (HTR.out _ (by repeat (first | exact Below.refl _ _ | assumption | refine Below.drew ?_ | refine Below.drewN ?_ _ | refine Below.allocT ?_ (Nat.le_refl _) _ | refine Below.setCell ?_ (by simp <;> omega) _ | refine Below.to ?_ (by assumption) (Nat.le_refl _))) _ _ (by first | exact .inl ⟨rfl, rfl⟩ | exact .inr ⟨rfl, rfl⟩)).mono ?_; rintro e w2 ⟨rfl, rfl⟩))
        (try dsimp only)
        refine hK.out _ _ ?_ (fun hNext => ?_)
        · try dsimp only
          exact (by repeat (first | exact Below.refl _ _ | assumption | refine Below.drew ?_ | refine Below.drewN ?_ _ | refine Below.allocT ?_ (Nat.le_refl _) _ | refine Below.setCell ?_ (by simp <;> omega) _ | refine Below.to ?_ (by assumption) (Nat.le_refl _)))
        clear hK K hHeld
        have hHeld := hNext
        clear hNext
        (try dsimp only at hHeld)
        try simp only [zX]
        refine zT 12 rfl ?_
        try simp only [zX]
        refine wpAnyH_done (by kernel_rfl) ?_ _
        go_wp2_with fail
        go_ret
        exact ⟨rfl, Below.to HB.out hHeld (Nat.le_refl _)⟩
    | false =>
      cases b with
      | true =>
        have hr : z = false := by rw [← HZ.out]; exact sameV_no hkl HEQ.out
        subst hr
        go_upto_region 4 with (fail)
        refine wp_region_held_drew (S := (fun w' => Below wr.heap.size wr w')) (by kernel_rfl) ?_ (fun hHeld => ?_)
        · try dsimp only
          exact (by repeat (first | exact Below.refl _ _ | assumption | refine Below.drew ?_ | refine Below.drewN ?_ _ | refine Below.allocT ?_ (Nat.le_refl _) _ | refine Below.setCell ?_ (by simp <;> omega) _ | refine Below.to ?_ (by assumption) (Nat.le_refl _)))
        refine zT 0 rfl ?_
        try simp only [zX]
        refine zT 1 rfl ?_
        try simp only [zX]
        refine zT 2 rfl ?_
        try simp only [zX]
        refine zT 3 rfl ?_
        try simp only [zX]
        refine zT 4 rfl ?_
        try simp only [zX]
        refine zT 6 rfl ?_
        try simp only [zX]
        refine zT 7 rfl ?_
        try simp only [zX]
        refine zT 8 rfl ?_
        try simp only [zX]
        refine zT 9 rfl ?_
        try simp only [zX]
        refine zT 10 rfl ?_
        try simp only [zX]
        refine wpAnyH_ready (rs := [5]) (by kernel_rfl) (by simp) ?_
        refine AllReadyH.cons rfl (fun K hK => ?_) AllReadyH.nil
        go_simp
        ((go_at_call 61; refine (HTR.out _ (by repeat (first | exact Below.refl _ _ | assumption | refine Below.drew ?_ | refine Below.drewN ?_ _ | refine Below.allocT ?_ (Nat.le_refl _) _ | refine Below.setCell ?_ (by simp <;> omega) _ | refine Below.to ?_ (by assumption) (Nat.le_refl _))) _ _ (by first | exact .inl ⟨rfl, rfl⟩ | exact .inr ⟨rfl, rfl⟩)).mono ?_; rintro e w2 ⟨rfl, rfl⟩))
        (try dsimp only)
        refine hK.out _ _ ?_ (fun hNext => ?_)
        · try dsimp only
          exact (by repeat (first | exact Below.refl _ _ | assumption | refine Below.drew ?_ | refine Below.drewN ?_ _ | refine Below.allocT ?_ (Nat.le_refl _) _ | refine Below.setCell ?_ (by simp <;> omega) _ | refine Below.to ?_ (by assumption) (Nat.le_refl _)))
        clear hK K hHeld
        have hHeld := hNext
        clear hNext
        (try dsimp only at hHeld)
        try simp only [zX]
        refine wpAnyH_ready (rs := [11]) (by kernel_rfl) (by simp) ?_
        refine AllReadyH.cons rfl (fun K hK => ?_) AllReadyH.nil
        go_simp
        ((go_at_call 61; refine (HTR.out _ (by repeat (first | exact Below.refl _ _ | assumption | refine Below.drew ?_ | refine Below.drewN ?_ _ | refine Below.allocT ?_ (Nat.le_refl _) _ | refine Below.setCell ?_ (by simp <;> omega) _ | refine Below.to ?_ (by assumption) (Nat.le_refl _))) _ _ (by first | exact .inl ⟨rfl, rfl⟩ | exact .inr ⟨rfl, rfl⟩)).mono ?_; rintro e w2 ⟨rfl, rfl⟩))
        (try dsimp only)
        refine hK.out _ _ ?_ (fun hNext => ?_)
        · try dsimp only
          exact (by repeat (first | exact Below.refl _ _ | assumption | refine Below.drew ?_ | refine Below.drewN ?_ _ | refine Below.allocT ?_ (Nat.le_refl _) _ | refine Below.setCell ?_ (by simp <;> omega) _ | refine Below.to ?_ (by assumption) (Nat.le_refl _)))
        clear hK K hHeld
        have hHeld := hNext
        clear hNext
        (try dsimp only at hHeld)
        try simp only [zX]
        refine zT 12 rfl ?_
        try simp only [zX]
        refine wpAnyH_done (by kernel_rfl) ?_ _
        go_wp2_with fail
        go_ret
        exact ⟨rfl, Below.to HB.out hHeld (Nat.le_refl _)⟩
      | false =>
        go_upto_region 4 with (fail)
        refine wp_region_held_drew (S := (fun w' => Below wr.heap.size wr w')) (by kernel_rfl) ?_ (fun hHeld => ?_)
        · try dsimp only
          exact (by repeat (first | exact Below.refl _ _ | assumption | refine Below.drew ?_ | refine Below.drewN ?_ _ | refine Below.allocT ?_ (Nat.le_refl _) _ | refine Below.setCell ?_ (by simp <;> omega) _ | refine Below.to ?_ (by assumption) (Nat.le_refl _)))
        refine zT 0 rfl ?_
        try simp only [zX]
        refine zT 1 rfl ?_
        try simp only [zX]
        refine zT 2 rfl ?_
        try simp only [zX]
        refine zT 3 rfl ?_
        try simp only [zX]
        refine zT 4 rfl ?_
        try simp only [zX]
        refine zT 6 rfl ?_
        try simp only [zX]
        refine zT 7 rfl ?_
        try simp only [zX]
        refine zT 8 rfl ?_
        try simp only [zX]
        refine zT 9 rfl ?_
        try simp only [zX]
        refine zT 10 rfl ?_
        try simp only [zX]
        refine wpAnyH_ready (rs := [5]) (by kernel_rfl) (by simp) ?_
        refine AllReadyH.cons rfl (fun K hK => ?_) AllReadyH.nil
        go_simp
        ((go_at_call 61; refine (HTR.out _ (by repeat (first | exact Below.refl _ _ | assumption | refine Below.drew ?_ | refine Below.drewN ?_ _ | refine Below.allocT ?_ (Nat.le_refl _) _ | refine Below.setCell ?_ (by simp <;> omega) _ | refine Below.to ?_ (by assumption) (Nat.le_refl _))) _ _ (by first | exact .inl ⟨rfl, rfl⟩ | exact .inr ⟨rfl, rfl⟩)).mono ?_; rintro e w2 ⟨rfl, rfl⟩))
        (try dsimp only)
        refine hK.out _ _ ?_ (fun hNext => ?_)
        · try dsimp only
          exact (by repeat (first | exact Below.refl _ _ | assumption | refine Below.drew ?_ | refine Below.drewN ?_ _ | refine Below.allocT ?_ (Nat.le_refl _) _ | refine Below.setCell ?_ (by simp <;> omega) _ | refine Below.to ?_ (by assumption) (Nat.le_refl _)))
        clear hK K hHeld
        have hHeld := hNext
        clear hNext
        (try dsimp only at hHeld)
        try simp only [zX]
        refine wpAnyH_ready (rs := [11]) (by kernel_rfl) (by simp) ?_
        refine AllReadyH.cons rfl (fun K hK => ?_) AllReadyH.nil
        go_simp
        ((go_at_call 61; refine (HTR.out _ (by repeat (first | exact Below.refl _ _ | assumption | refine Below.drew ?_ | refine Below.drewN ?_ _ | refine Below.allocT ?_ (Nat.le_refl _) _ | refine Below.setCell ?_ (by simp <;> omega) _ | refine Below.to ?_ (by assumption) (Nat.le_refl _))) _ _ (by first | exact .inl ⟨rfl, rfl⟩ | exact .inr ⟨rfl, rfl⟩)).mono ?_; rintro e w2 ⟨rfl, rfl⟩))
        (try dsimp only)
        refine hK.out _ _ ?_ (fun hNext => ?_)
        · try dsimp only
          exact (by repeat (first | exact Below.refl _ _ | assumption | refine Below.drew ?_ | refine Below.drewN ?_ _ | refine Below.allocT ?_ (Nat.le_refl _) _ | refine Below.setCell ?_ (by simp <;> omega) _ | refine Below.to ?_ (by assumption) (Nat.le_refl _)))
        clear hK K hHeld
        have hHeld := hNext
        clear hNext
        (try dsimp only at hHeld)
        try simp only [zX]
        refine zT 12 rfl ?_
        try simp only [zX]
        refine wpAnyH_done (by kernel_rfl) ?_ _
        go_wp2_with fail
        go_roundw
        case rel => exact ⟨k + 1, by go_num, by omega, fun j hj => by
            rcases Nat.lt_or_ge j k with h1 | h1
            · exact HNO.out j h1
            · rw [show j = k by omega]; exact HEQ.out, Below.to HB.out hHeld (Nat.le_refl _)⟩
        case measure => simp [intOf]; omega
end Go.Proofs.YtehadoecnmfeoaaGreat
/- The rules because of which no variant meets a formula. Plain laws. -/
namespace Go.Proofs.YtehadoecnmfeoaaGreat
set_option linter.unusedVariables false
/-- Some rules of a model, by number. -/
def rulesAt (m : Mo) (K : List Nat) : List (List Int) := K.map fun k => m.rules.getD k []
/-- The variants in which a formula, some rules, and those from one on hold. -/
def corS (m : Mo) (f : List Int) (K : List Nat) (j : Nat) : List (List Bool) := (exts m.opts.length []).filter fun x => evF1 (vf x) f && (allF (vf x) (rulesAt m K) && allF (vf x) (m.rules.drop j))
/-- Those of the first i rules that are left. -/
def kept (m : Mo) (f : List Int) : Nat → List Nat
  | 0 => []
  | i + 1 => if (corS m f (kept m f i) (i + 1)).isEmpty then kept m f i else kept m f i ++ [i]
/-- A model with some of the rules. -/
def fewM (m : Mo) (K : List Nat) : Mo := ⟨m.opts, rulesAt m K⟩
/-- What Core returns. -/
def corE (m : Mo) (f : List Int) : Int := if m.errF [f] ≠ 0 then m.errF [f] else if whereF (allM m) f ≠ [] then 1 else 0
def corL (m : Mo) (f : List Int) : List Nat := if corE m f = 0 then kept m f m.rules.length else []
end Go.Proofs.YtehadoecnmfeoaaGreat
/- The rules because of which no variant meets a formula: walk. -/
namespace Go.Proofs.YtehadoecnmfeoaaGreat
open Go.RowKit
set_option linter.unusedVariables false
set_option linter.unusedSimpArgs false
/-- A list of rules and an error. -/
def CorP (l : List Nat) (er : Int) (w : World) (e : Ending) (w' : World) : Prop := ∃ v, e = .returned (.tuple #[v, .int .i64 er]) ∧ Nods w' w'.heap.size v l ∧ Below w.heap.size w w'
theorem CorP.none (er : Int) {w w' : World} (h : Below w.heap.size w w') : CorP [] er w (.returned (.tuple #[.slice none 0 0, .int .i64 er])) w' := ⟨_, rfl, Sl.nil _ _ _ _, h⟩
/-- What a slice from k on gives. -/
def slcV (A : Option Addr) (n cap k : Nat) : Value := sliced A k n cap 1
theorem Forms.drop {w : World} {B n cap : Nat} {A : Option Addr} {l : List (List Int)} {k : Nat} (h : Forms w B (.slice A n cap) l) (hk : k ≤ l.length) : Forms w B (slcV A n cap k) (l.drop k) := by
  obtain ⟨fv, ⟨A1, b1, off1, cap1, hv, hn, hA, hc⟩, h2⟩ := h
  injection hv with e1 e2 e3
  subst e1 e2 e3
  unfold slcV sliced
  split
  · rename_i hck
    have h0 : l.drop k = [] := List.drop_eq_nil_of_le (by omega)
    rw [h0, show l.length - k = 0 by omega, show cap - k = 0 by omega]
    exact ⟨fun _ => undef, ⟨A, b1, off1, 0, rfl, Nat.le_refl _, .inr rfl, fun i j hi hj => by simp at hi⟩, fun i hi => by simp at hi⟩
  · refine ⟨fun i => fv (k + i), ⟨A.map (·.add (k * 1)), b1, off1 + k, cap - k, by rw [List.length_drop], by rw [List.length_drop]; omega, ?_, fun i j hi hj => ?_⟩, fun i hi => ?_⟩
    · rcases hA with ⟨hA, hb⟩ | hA
      · subst hA
        refine .inl ⟨?_, hb⟩
        simp only [Option.map_some, Nat.mul_one]
        congr 1
        unfold Addr.add
        split
        · rename_i h0; rw [h0]; rfl
        · rfl
      · exact .inr (by rw [List.length_drop]; omega)
    · rw [List.length_drop] at hi
      have := hc (k + i) j (by omega) hj
      rw [show off1 + k + (i * 1 + j) = off1 + ((k + i) * 1 + j) by omega]
      exact this
    · rw [List.length_drop] at hi
      have := h2 (k + i) (by omega)
      rw [show (l.drop k).getD i [] = l.getD (k + i) [] by simp [List.getD_eq_getElem?_getD]]
      exact this
/-- What holds of the forest between two rules of Core. -/
structure CorI (m : Mo) (f : List Int) (w1 : World) (F : Fo) (a k : Nat) (w2 : World) (F1 : Fo) : Prop where
  op : OpR k w1 F w2 F1
  lt : a < F1.ks.length
  ev : ∀ v, ev F1.ks v a = evF1 v f
theorem CorI.step {m : Mo} {f : List Int} {w1 : World} {F : Fo} {a k l : Nat} {w2 w3 : World} {F1 F2 : Fo} (h : CorI m f w1 F a k w2 F1) (r : OpR l w2 F1 w3 F2) : CorI m f w1 F a (k + l) w3 F2 :=
  ⟨h.op.trans r, Nat.lt_of_lt_of_le h.lt r.st.le, fun v => by rw [r.st.ev h.op.st.here.wf h.lt, h.ev v]⟩
end Go.Proofs.YtehadoecnmfeoaaGreat

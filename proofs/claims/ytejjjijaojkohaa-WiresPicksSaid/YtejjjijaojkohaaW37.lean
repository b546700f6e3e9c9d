/- A wiring's argument opened; the size of a wiring: no condition. -/
import Derived.Test.YtejjjijaojkohaaRows
import Derived.Test.YtejjjijaojkohaaK7
import Derived.Test.YtejjjijaojkohaaW32
import Derived.Test.YtejjjijaojkohaaW33
namespace Go.Proofs.Ytejjjijaojkohaa
open Go.Joins Go.ChangeShapes Go.WideShapes Go.ChangeAt Go.RowKit Go.Deep
set_option maxRecDepth 100000
set_option linter.unusedVariables false
set_option linter.unusedSimpArgs false
section
variable {H : Type} {enc : TypeId × Value → H} {W : World} {base b0 : Nat} {r : Reach} {spare : Nat → Bool} {held : Bool} {v : Value} {d : DataW H} {p : List MemPlace}
theorem cellsInt : Try.prog.cellsOf 3 = 1 := by kernel_rfl
theorem cellsCus : Try.prog.cellsOf 31 = 1 := by kernel_rfl
theorem cellsNeed : Try.prog.cellsOf 48 = 4 := by kernel_rfl
theorem cellsFe : Try.prog.cellsOf 74 = 7 := by kernel_rfl

theorem need_cells {n : Nat} {c0 c1 c2 c3 : Value} {y : DataW H × List MemPlace} (h : DataW.trod enc Try.prog W base spare held n 48 [c0, c1, c2, c3] = some y) :
    ∃ (cs : List Cu) (m : Ne), Cyc W W.heap.size c0 cs ∧ cs.length ≤ maxLen ∧ c1 = .int .i64 m.len ∧ c2 = .int .i64 m.drop ∧ c3 = .int .i64 m.amb := by
  obtain ⟨xs, n', _, _, _, hlen, hf⟩ := DataW.trod_struct Try.underlying48 h
  have g0 := hf 0 _ rfl
  have g1 := hf 1 _ rfl
  have g2 := hf 2 _ rfl
  have g3 := hf 3 _ rfl
  match xs, hlen with
  | [y0, y1, y2, y3], _ =>
    obtain ⟨a1, rfl, _⟩ := int_cell (y := y1) (by simpa [cellsInt] using g1)
    obtain ⟨a2, rfl, _⟩ := int_cell (y := y2) (by simpa [cellsInt] using g2)
    obtain ⟨a3, rfl, _⟩ := int_cell (y := y3) (by simpa [cellsInt] using g3)
    obtain ⟨cs, hc, hl, _⟩ := cycle_cell (y := y0) (by simpa [cellsCus] using g0)
    exact ⟨cs, ⟨a1, a2, a3⟩, hc, hl, rfl, rfl, rfl⟩

theorem feeders_cell {n : Nat} {c : Value} {y : DataW H × List MemPlace} (h : DataW.trod enc Try.prog W base spare held n 61 [c] = some y) :
    ∃ es : List Fe, Fes W W.heap.size c es ∧ es.length ≤ maxLen ∧ ∀ i, i < es.length → (es.getD i Fe.z).cs.length ≤ maxLen := by
  obtain ⟨xs, hsl, hl, hR⟩ := open_rows (α := Fe × Value) (Fe.z, .slice none 0 0) (fun x j => feC x.1 x.2 j) (fun x => Cyc W W.heap.size x.2 x.1.cs ∧ x.1.cs.length ≤ maxLen) Try.underlying61 cellsFe (by omega) (by
    intro n cs' y hlen ht
    match cs', hlen with
    | [c0, c1, c2, c3, c4, c5, c6], _ =>
      obtain ⟨xs, n', _, _, _, hlen, hf⟩ := DataW.trod_struct Try.underlying74 ht
      have g0 := hf 0 _ rfl
      have g1 := hf 1 _ rfl
      have g2 := hf 2 _ rfl
      have g3 := hf 3 _ rfl
      match xs, hlen with
      | [y0, y1, y2, y3], _ =>
        obtain ⟨a0, rfl, _⟩ := int_cell (y := y0) (by simpa [cellsInt] using g0)
        obtain ⟨a1, rfl, _⟩ := int_cell (y := y1) (by simpa [cellsInt] using g1)
        obtain ⟨a2, rfl, _⟩ := int_cell (y := y2) (by simpa [cellsInt] using g2)
        obtain ⟨cs, m, hc, hcl, rfl, rfl, rfl⟩ := need_cells (y := y3) (by simpa [cellsNeed] using g3)
        refine ⟨(⟨a0, a1, a2, m, cs⟩, c3), fun j hj => ?_, hc, hcl⟩
        match j, hj with
        | 0, _ => rfl
        | 1, _ => rfl
        | 2, _ => rfl
        | 3, _ => rfl
        | 4, _ => rfl
        | 5, _ => rfl
        | 6, _ => rfl) h
  have hg : ∀ i, i < xs.length → (xs.map (·.1)).getD i Fe.z = (xs.getD i (Fe.z, .slice none 0 0)).1 := fun i hi => by simp [hi]
  refine ⟨xs.map (·.1), ⟨fun i => (xs.getD i (Fe.z, .slice none 0 0)).2, ?_, fun i hi => ?_⟩, by simpa using hl, fun i hi => ?_⟩
  · rw [List.length_map]
    exact Sl.congr hsl fun i j hi hj => by rw [hg i hi]
  · rw [List.length_map] at hi
    rw [hg i hi]
    exact (hR i hi).1
  · rw [List.length_map] at hi
    rw [hg i hi]
    exact (hR i hi).2

theorem open_wiring (hv : Value.okWide Try.prog W r b0 63 v) (h : DataW.Trod enc Try.prog W base spare held 63 v d p) :
    ∃ (gv fv ev : Value) (gs : List Ga) (fs : List Fu) (es : List Fe), v = .agg #[gv, fv, ev] ∧ Wir W W.heap.size gv fv ev gs fs es ∧ gs.length ≤ maxLen ∧ fs.length ≤ maxLen ∧ es.length ≤ maxLen ∧ ∀ i, i < es.length → (es.getD i Fe.z).cs.length ≤ maxLen := by
  obtain ⟨c0, c1, c2, y0, y1, y2, m, rfl, _, _, hy0, hy1, hy2⟩ := open_agg3 Try.underlying63 (by kernel_rfl) (by kernel_rfl) hv h
  obtain ⟨gs, hg, hgl⟩ := gauges_cell hy0
  obtain ⟨fs, hf, hfl⟩ := fuses_cell hy1
  obtain ⟨es, he, hel, hcl⟩ := feeders_cell hy2
  exact ⟨c0, c1, c2, gs, fs, es, rfl, ⟨hg, hf, he⟩, hgl, hfl, hel, hcl⟩
end
/-- A wiring is larger than a statement looks at. -/
def largeB (gs : List Ga) (fs : List Fu) (es : List Fe) : Bool := decide (30 < gs.length) || decide (30 < fs.length) || decide (30 < es.length) || es.any fun f => decide (20 < f.cs.length)
theorem largeB_no {gs : List Ga} {fs : List Fu} {es : List Fe} (h : largeB gs fs es = false) : WSz gs fs es := by
  unfold largeB at h
  simp only [Bool.or_eq_false_iff, decide_eq_false_iff_not, List.any_eq_false, decide_eq_true_eq] at h
  obtain ⟨⟨⟨a, b⟩, c⟩, e⟩ := h
  refine ⟨by omega, by omega, by omega, fun i hi => ?_⟩
  have hm : es.getD i Fe.z ∈ es := by
    rw [List.getD_eq_getElem?_getD, List.getElem?_eq_getElem hi]
    exact List.getElem_mem _
  have := e _ hm
  omega
theorem Cyc.len {w : World} {B : Nat} {v : Value} {cs : List Cu} (h : Cyc w B v cs) (hc : ∀ A cap, v = .slice A cs.length cap → cap ≤ maxLen) : cs.length ≤ maxLen := by
  obtain ⟨A, b, off, cap, hv, hn, _⟩ := h
  exact Nat.le_trans hn (hc A cap hv)

set_option maxHeartbeats 2000000 in
theorem Large_any (gs : List Ga) (fs : List Fu) (es : List Fe) (gv fv ev : Value) (w : World) (hg : gs.length ≤ maxLen) (hf : fs.length ≤ maxLen) (he : es.length ≤ maxLen) (hcl : ∀ i, i < es.length → (es.getD i Fe.z).cs.length ≤ maxLen) (h : Wir w w.heap.size gv fv ev gs fs es) :
    Calls Try.prog 37 #[.agg #[gv, fv, ev]] w fun e w' => e = .returned (.bool (largeB gs fs es)) ∧ Below w.heap.size w w' := by
  have hg2 : gs.length ≤ 9223372036854775807 := hg
  have hf2 : fs.length ≤ 9223372036854775807 := hf
  have he2 : es.length ≤ 9223372036854775807 := he
  obtain ⟨A0, cap0, rfl⟩ := Sl.form h.g
  obtain ⟨A1, cap1, rfl⟩ := Sl.form h.f
  obtain ⟨cv, hsl, hcy⟩ := h.e
  obtain ⟨A, b, off, cap, rfl, hnc, hA, hc⟩ := hsl
  have HC := hide hc
  have HA := hide hA
  have HCY := hide hcy
  have HCL := hide hcl
  clear h hc hA hcy hcl hg hf he
  by_cases h1 : 30 < gs.length
  · have hd : largeB gs fs es = true := by simp [largeB, h1]
    have HD := hide hd
    have h1' : (30 : Int) < (gs.length : Int) := by omega
    clear hd
    go_enter Try.func37, Try.ntmps37
    go_wp2_with fail
    go_ret
    exact ⟨ret_bool HD.out.symm, (by repeat (first | exact Below.refl _ _ | assumption | refine Below.drew ?_ | refine Below.drewN ?_ _ | refine Below.allocT ?_ (Nat.le_refl _) _ | refine Below.setCell ?_ (by simp <;> omega) _ | refine Below.to ?_ (by assumption) (Nat.le_refl _)))⟩
  · have h1' : ¬ (30 : Int) < (gs.length : Int) := by omega
    by_cases h2 : 30 < fs.length
    · have hd : largeB gs fs es = true := by simp [largeB, h2]
      have HD := hide hd
      have h2' : (30 : Int) < (fs.length : Int) := by omega
      clear hd
      go_enter Try.func37, Try.ntmps37
      go_wp2_with fail
      go_ret
      exact ⟨ret_bool HD.out.symm, (by repeat (first | exact Below.refl _ _ | assumption | refine Below.drew ?_ | refine Below.drewN ?_ _ | refine Below.allocT ?_ (Nat.le_refl _) _ | refine Below.setCell ?_ (by simp <;> omega) _ | refine Below.to ?_ (by assumption) (Nat.le_refl _)))⟩
    · have h2' : ¬ (30 : Int) < (fs.length : Int) := by omega
      by_cases h3 : 30 < es.length
      · have hd : largeB gs fs es = true := by simp [largeB, h3]
        have HD := hide hd
        have h3' : (30 : Int) < (es.length : Int) := by omega
        clear hd
        go_enter Try.func37, Try.ntmps37
        go_wp2_with fail
        go_ret
        exact ⟨ret_bool HD.out.symm, (by repeat (first | exact Below.refl _ _ | assumption | refine Below.drew ?_ | refine Below.drewN ?_ _ | refine Below.allocT ?_ (Nat.le_refl _) _ | refine Below.setCell ?_ (by simp <;> omega) _ | refine Below.to ?_ (by assumption) (Nat.le_refl _)))⟩
      · have h3' : ¬ (30 : Int) < (es.length : Int) := by omega
        have HL : Hid (largeB gs fs es = es.any fun f => decide (20 < f.cs.length)) := by show _ = _; simp [largeB, h1, h2, h3]
        clear h1 h2 h3
        go_enter Try.func37, Try.ntmps37
        go_wp2_with fail
        generalize hw0 : World.alloc _ _ = w0
        obtain ⟨hb0, hB0, hs0⟩ := alloc1 hw0
        clear hw0
        have j2 := cellOf hb0 2
        clear hb0
        have hlt0 : w.heap.size < w0.heap.size := by omega
        clear hs0
        go_loop [3] (fun i => ∃ k : Nat, k ≤ es.length ∧ i = .int .i64 k ∧ Hid (∀ j, j < k → (fun f : Fe => decide (20 < f.cs.length)) (es.getD j Fe.z) = false)) (fun i => es.length - (intOf i).toNat)
        case atStart => exact ⟨0, Nat.zero_le _, rfl, fun j hj => by omega⟩
        case round =>
          obtain ⟨k, hk, rfl, hz⟩ := hrel
          by_cases hlt : k < es.length
          · obtain ⟨f, C, cp, HZ, hA1, hbw, g0, g1, g2, g3, g4, g5, g6, hy⟩ := feAtB hB0 HA.out HC.out HCY.out hlt
            subst hA1
            have hcm : Hid (f.cs.length ≤ maxLen) := by show _; have := HCL.out k hlt; rw [HZ.out] at this; exact this
            cases hd : decide (20 < f.cs.length)
            · have HD := hide hd
              clear hd
              go_wp2_with (go_at_call 18; refine (far_any _ _ _ _ _ rfl hcm.out).mono ?_; rw [HD.out]; rintro e w1 ⟨rfl, rfl⟩)
              go_round
              case rel => exact ⟨k + 1, by omega, by go_num, fun j hj => by
                  rcases Nat.lt_or_ge j k with h | h
                  · exact hz.out j h
                  · rw [show j = k from by omega, HZ.out]; exact HD.out⟩
              case measure => simp [intOf]; omega
            · have HD := hide hd
              clear hd
              go_wp2_with (go_at_call 18; refine (far_any _ _ _ _ _ rfl hcm.out).mono ?_; rw [HD.out]; rintro e w1 ⟨rfl, rfl⟩)
              go_ret
              exact ⟨ret_bool (by rw [HL.out, any_at _ Fe.z es k hlt (by rw [HZ.out]; exact HD.out)]), hB0⟩
          · go_wp2
            go_ret
            exact ⟨ret_bool (by rw [HL.out, any_none _ Fe.z es (fun j hj => hz.out j (by omega))]), hB0⟩
end Go.Proofs.Ytejjjijaojkohaa

/- The arguments of the laws about gauges, fuses and needs, opened; tables copied: no condition. -/
import Derived.Test.YtejjjijaojkohaaRows
import Derived.Test.YtejjjijaojkohaaWO
import Derived.Test.YtejjjijaojkohaaW27
import Derived.Test.YtejjjijaojkohaaW30
namespace Go.Proofs.Ytejjjijaojkohaa
open Go.Joins Go.ChangeShapes Go.WideShapes Go.ChangeAt Go.RowKit Go.Deep
set_option maxRecDepth 100000
section
variable {H : Type} {enc : TypeId × Value → H} {W : World} {base b0 : Nat} {r : Reach} {spare : Nat → Bool} {held : Bool} {v : Value} {d : DataW H} {p : List MemPlace}

instance : Inhabited Ga := ⟨Ga.z⟩
instance : Inhabited Fu := ⟨Fu.z⟩
theorem cycle_cell {n : Nat} {c : Value} {y : DataW H × List MemPlace} (h : DataW.trod enc Try.prog W base spare held n 31 [c] = some y) :
    ∃ cs : List Cu, Cyc W W.heap.size c cs ∧ cs.length ≤ maxLen ∧ ∀ x ∈ cs, I64 x.amps ∧ I64 x.secs := by
  rcases open_slice_fields Try.underlying31 Try.underlying54 (by kernel_rfl) (by kernel_rfl) h with ⟨hcs, _⟩ | ⟨a, len', cap', m, D, Pl, hcs, _, hl, hm, hmm, _, hel⟩
  · simp at hcs
    subst hcs
    exact ⟨[], Sl.nil _ _ _ _, by simp, by simp⟩
  · simp at hcs
    subst hcs
    have hlm : len' ≤ m := by rw [hmm]; split <;> omega
    have hel2 : ∀ i, i < len' → ∃ c : Cu, W.cell? (a.add (i * 2 + 0)) = some (.int .i64 c.amps) ∧ W.cell? (a.add (i * 2 + 1)) = some (.int .i64 c.secs) ∧ I64 c.amps ∧ I64 c.secs := by
      intro i hi
      obtain ⟨ys, n, _, _, _, hfd⟩ := hel i (by omega)
      obtain ⟨u0, y0, hc0, _, ht0⟩ := hfd 0 _ rfl
      obtain ⟨u1, y1, hc1, _, ht1⟩ := hfd 1 _ rfl
      obtain ⟨x0, rfl, w0⟩ := int_cell ht0
      obtain ⟨x1, rfl, w1⟩ := int_cell ht1
      exact ⟨⟨x0, x1⟩, hc0, hc1, w0, w1⟩
    obtain ⟨F, hF⟩ := choose_lt (α := Cu) hel2
    refine ⟨(List.range len').map F, ?_, by simp; omega, ?_⟩
    · have hlen : ((List.range len').map F).length = len' := by simp
      have hget : ∀ i, i < len' → ((List.range len').map F).getD i Cu.z = F i := fun i hi => by simp [hi]
      unfold Cyc
      rw [hlen]
      rcases Nat.eq_zero_or_pos len' with h0 | h0
      · exact ⟨_, 0, 0, _, rfl, hl, .inr h0, fun i j hi => absurd hi (by omega)⟩
      · obtain ⟨hs, hb⟩ := cell_addr0 (hF 0 h0).1
        refine ⟨_, a.block, a.off, _, rfl, hl, .inl ⟨by rw [← hs], hb⟩, fun i j hi hj => ?_⟩
        have h2 := hF i hi
        unfold cyF
        rw [hget i hi]
        match j, hj with
        | 0, _ => exact cell_addr hs h2.1
        | 1, _ => exact cell_addr hs h2.2.1
    · intro c hc
      obtain ⟨i, hi, rfl⟩ := List.mem_map.1 hc
      have := hF i (by simpa using hi)
      exact this.2.2
theorem open_need (hv : Value.okWide Try.prog W r b0 48 v) (h : DataW.Trod enc Try.prog W base spare held 48 v d p) :
    ∃ (c : Value) (cs : List Cu) (n : Ne), v = .agg #[c, .int .i64 n.len, .int .i64 n.drop, .int .i64 n.amb] ∧ Cyc W W.heap.size c cs ∧ cs.length ≤ maxLen ∧ (∀ x ∈ cs, I64 x.amps ∧ I64 x.secs) ∧ I64 n.len ∧ I64 n.drop ∧ I64 n.amb := by
  obtain ⟨c0, c1, c2, c3, y0, y1, y2, y3, m, rfl, _, _, hy0, hy1, hy2, hy3⟩ := open_agg4 Try.underlying48 (by kernel_rfl) (by kernel_rfl) hv h
  obtain ⟨a1, rfl, w1⟩ := int_cell hy1
  obtain ⟨a2, rfl, w2⟩ := int_cell hy2
  obtain ⟨a3, rfl, w3⟩ := int_cell hy3
  obtain ⟨cs, hc, hl, hx⟩ := cycle_cell hy0
  exact ⟨c0, cs, ⟨a1, a2, a3⟩, rfl, hc, hl, hx, w1, w2, w3⟩
theorem gauges_cell {n : Nat} {c : Value} {y : DataW H × List MemPlace} (h : DataW.trod enc Try.prog W base spare held n 57 [c] = some y) :
    ∃ gs : List Ga, Gas W W.heap.size c gs ∧ gs.length ≤ maxLen := by
  rcases open_slice_fields Try.underlying57 Try.underlying23 (by kernel_rfl) (by kernel_rfl) h with ⟨hcs, _⟩ | ⟨a, len', cap', m, D, Pl, hcs, _, hl, hm, hmm, _, hel⟩
  · simp at hcs
    subst hcs
    exact ⟨[], Sl.nil _ _ _ _, by simp⟩
  · simp at hcs
    subst hcs
    have hlm : len' ≤ m := by rw [hmm]; split <;> omega
    have hel2 : ∀ i, i < len' → ∃ c : Ga, ∀ j, j < 5 → W.cell? (a.add (i * 5 + j)) = some (.int .i64 (gaC c j)) := by
      intro i hi
      obtain ⟨ys, n, _, _, _, hfd⟩ := hel i (by omega)
      obtain ⟨u0, y0, hc0, _, ht0⟩ := hfd 0 _ rfl
      obtain ⟨u1, y1, hc1, _, ht1⟩ := hfd 1 _ rfl
      obtain ⟨u2, y2, hc2, _, ht2⟩ := hfd 2 _ rfl
      obtain ⟨u3, y3, hc3, _, ht3⟩ := hfd 3 _ rfl
      obtain ⟨u4, y4, hc4, _, ht4⟩ := hfd 4 _ rfl
      obtain ⟨x0, rfl, w0⟩ := int_cell ht0
      obtain ⟨x1, rfl, w1⟩ := int_cell ht1
      obtain ⟨x2, rfl, w2⟩ := int_cell ht2
      obtain ⟨x3, rfl, w3⟩ := int_cell ht3
      obtain ⟨x4, rfl, w4⟩ := int_cell ht4
      refine ⟨⟨x0, x1, x2, x3, x4⟩, fun j hj => ?_⟩
      match j, hj with
      | 0, _ => exact hc0
      | 1, _ => exact hc1
      | 2, _ => exact hc2
      | 3, _ => exact hc3
      | 4, _ => exact hc4
    obtain ⟨F, hF⟩ := choose_lt (α := Ga) hel2
    refine ⟨(List.range len').map F, ?_, by simp; omega⟩
    have hlen : ((List.range len').map F).length = len' := by simp
    have hget : ∀ i, i < len' → ((List.range len').map F).getD i Ga.z = F i := fun i hi => by simp [hi]
    unfold Gas
    rw [hlen]
    rcases Nat.eq_zero_or_pos len' with h0 | h0
    · exact ⟨_, 0, 0, _, rfl, hl, .inr h0, fun i j hi => absurd hi (by omega)⟩
    · obtain ⟨hs, hb⟩ := cell_addr0 (hF 0 h0 0 (by omega))
      refine ⟨_, a.block, a.off, _, rfl, hl, .inl ⟨by rw [← hs], hb⟩, fun i j hi hj => ?_⟩
      unfold gaF
      rw [hget i hi]
      exact cell_addr hs (hF i hi j hj)
theorem fuses_cell {n : Nat} {c : Value} {y : DataW H × List MemPlace} (h : DataW.trod enc Try.prog W base spare held n 60 [c] = some y) :
    ∃ fs : List Fu, Fus W W.heap.size c fs ∧ fs.length ≤ maxLen := by
  rcases open_slice_fields Try.underlying60 Try.underlying30 (by kernel_rfl) (by kernel_rfl) h with ⟨hcs, _⟩ | ⟨a, len', cap', m, D, Pl, hcs, _, hl, hm, hmm, _, hel⟩
  · simp at hcs
    subst hcs
    exact ⟨[], Sl.nil _ _ _ _, by simp⟩
  · simp at hcs
    subst hcs
    have hlm : len' ≤ m := by rw [hmm]; split <;> omega
    have hel2 : ∀ i, i < len' → ∃ c : Fu, ∀ j, j < 2 → W.cell? (a.add (i * 2 + j)) = some (.int .i64 (if j = 0 then c.rating else c.melt)) := by
      intro i hi
      obtain ⟨ys, n, _, _, _, hfd⟩ := hel i (by omega)
      obtain ⟨u0, y0, hc0, _, ht0⟩ := hfd 0 _ rfl
      obtain ⟨u1, y1, hc1, _, ht1⟩ := hfd 1 _ rfl
      obtain ⟨x0, rfl, w0⟩ := int_cell ht0
      obtain ⟨x1, rfl, w1⟩ := int_cell ht1
      refine ⟨⟨x0, x1⟩, fun j hj => ?_⟩
      match j, hj with
      | 0, _ => exact hc0
      | 1, _ => exact hc1
    obtain ⟨F, hF⟩ := choose_lt (α := Fu) hel2
    refine ⟨(List.range len').map F, ?_, by simp; omega⟩
    have hlen : ((List.range len').map F).length = len' := by simp
    have hget : ∀ i, i < len' → ((List.range len').map F).getD i Fu.z = F i := fun i hi => by simp [hi]
    unfold Fus
    rw [hlen]
    rcases Nat.eq_zero_or_pos len' with h0 | h0
    · exact ⟨_, 0, 0, _, rfl, hl, .inr h0, fun i j hi => absurd hi (by omega)⟩
    · obtain ⟨hs, hb⟩ := cell_addr0 (hF 0 h0 0 (by omega))
      refine ⟨_, a.block, a.off, _, rfl, hl, .inl ⟨by rw [← hs], hb⟩, fun i j hi hj => ?_⟩
      unfold fuF
      rw [hget i hi]
      exact cell_addr hs (hF i hi j hj)
theorem cells_slice {t e : TypeId} (ht : Try.prog.underlying t = some (.slice e)) (hv : Value.okWide Try.prog W r b0 t v) : v.cells = #[v] := by
  obtain ⟨a0, len, cap, rfl⟩ := okWide_slice ht hv
  rfl
theorem open_gauges (hv : Value.okWide Try.prog W r b0 57 v) (h : DataW.Trod enc Try.prog W base spare held 57 v d p) :
    ∃ gs : List Ga, Gas W W.heap.size v gs ∧ gs.length ≤ maxLen := by
  obtain ⟨fuel, hf⟩ := h
  rw [cells_slice Try.underlying57 hv] at hf
  exact gauges_cell hf
theorem open_fuses (hv : Value.okWide Try.prog W r b0 60 v) (h : DataW.Trod enc Try.prog W base spare held 60 v d p) :
    ∃ gs : List Fu, Fus W W.heap.size v gs ∧ gs.length ≤ maxLen := by
  obtain ⟨fuel, hf⟩ := h
  rw [cells_slice Try.underlying60 hv] at hf
  exact fuses_cell hf
end
theorem infoGa : (Try.prog.info? 23).map (fun i => (i.zero, i.size, i.bytes)) = some (some (.agg #[.int .i64 0, .int .i64 0, .int .i64 0, .int .i64 0, .int .i64 0]), 5, 40) := by kernel_rfl
theorem infoFu : (Try.prog.info? 30).map (fun i => (i.zero, i.size, i.bytes)) = some (some (.agg #[.int .i64 0, .int .i64 0]), 2, 16) := by kernel_rfl
theorem gaF_one (gs : List Ga) (i j : Nat) : (gaF gs i j).oneCell' = true := rfl
theorem fuF_one (gs : List Fu) (i j : Nat) : (fuF gs i j).oneCell' = true := rfl
end Go.Proofs.Ytejjjijaojkohaa

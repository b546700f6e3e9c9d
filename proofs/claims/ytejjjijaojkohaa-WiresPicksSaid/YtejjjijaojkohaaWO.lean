/- The arguments of the laws about wires, opened: no condition. -/
import Derived.Test.YtejjjijaojkohaaRows
import Derived.Test.YtejjjijaojkohaaW9
import Derived.Test.YtejjjijaojkohaaK4
namespace Go.Proofs.Ytejjjijaojkohaa
open Go.Joins Go.ChangeShapes Go.WideShapes Go.ChangeAt Go.RowKit Go.Deep
set_option maxRecDepth 100000
section
variable {H : Type} {enc : TypeId × Value → H} {W : World} {base b0 : Nat} {r : Reach} {spare : Nat → Bool} {held : Bool} {v : Value} {d : DataW H} {p : List MemPlace}

def I64 (n : Int) : Prop := -9223372036854775808 ≤ n ∧ n ≤ 9223372036854775807
theorem I64.of {n : Int} (h : (Lit.int .i64 n).wf = true) : I64 n := by
  simp [Lit.wf, IntKind.min, IntKind.max, IntKind.signed, IntKind.bits] at h
  exact ⟨by omega, by omega⟩
theorem int_cell {n : Nat} {c : Value} {y : DataW H × List MemPlace} (h : DataW.trod enc Try.prog W base spare held n 3 [c] = some y) : ∃ a, c = .int .i64 a ∧ I64 a := by
  obtain ⟨a, e0, _, wa⟩ := DataW.trod_int Try.underlying3 h
  simp at e0
  exact ⟨a, e0, I64.of wa⟩

theorem open_gauge (hv : Value.okWide Try.prog W r b0 23 v) (h : DataW.Trod enc Try.prog W base spare held 23 v d p) :
    ∃ g : Ga, v = .agg #[.int .i64 g.area, .int .i64 g.ohm, .int .i64 g.heat, .int .i64 g.cool, .int .i64 g.limit] := by
  obtain ⟨c0, c1, c2, c3, c4, y0, y1, y2, y3, y4, m, rfl, _, _, hy0, hy1, hy2, hy3, hy4⟩ := open_agg5 Try.underlying23 (by kernel_rfl) (by kernel_rfl) hv h
  obtain ⟨a0, rfl, _⟩ := int_cell hy0
  obtain ⟨a1, rfl, _⟩ := int_cell hy1
  obtain ⟨a2, rfl, _⟩ := int_cell hy2
  obtain ⟨a3, rfl, _⟩ := int_cell hy3
  obtain ⟨a4, rfl, _⟩ := int_cell hy4
  exact ⟨⟨a0, a1, a2, a3, a4⟩, rfl⟩
theorem open_fuse (hv : Value.okWide Try.prog W r b0 30 v) (h : DataW.Trod enc Try.prog W base spare held 30 v d p) :
    ∃ f : Fu, v = .agg #[.int .i64 f.rating, .int .i64 f.melt] := by
  obtain ⟨c0, c1, y0, y1, m, rfl, _, _, hy0, hy1⟩ := open_agg2 Try.underlying30 (by kernel_rfl) (by kernel_rfl) hv h
  obtain ⟨a0, rfl, _⟩ := int_cell hy0
  obtain ⟨a1, rfl, _⟩ := int_cell hy1
  exact ⟨⟨a0, a1⟩, rfl⟩
theorem open_i64 (hv : Value.okWide Try.prog W r b0 3 v) (h : DataW.Trod enc Try.prog W base spare held 3 v d p) : ∃ a, v = .int .i64 a ∧ I64 a := by
  obtain ⟨a, rfl, _, _, wa⟩ := open_int Try.underlying3 hv h
  exact ⟨a, rfl, I64.of wa⟩

instance : Inhabited Cu := ⟨Cu.z⟩
/-- Where a slice's first cell was read there is a block, and the address names no part of a cell. -/
theorem cell_addr0 {a : Addr} {u : Value} (h : W.cell? (a.add 0) = some u) : a.spot = none ∧ a.block < W.heap.size := by
  have h' : W.cell? a = some u := h
  unfold World.cell? at h'
  cases hh : W.heap[a.block]? with
  | none => rw [hh] at h'; cases h'
  | some o =>
    refine ⟨?_, (Array.getElem?_eq_some_iff.1 hh).1⟩
    rw [hh] at h'
    cases o with
    | cells c t f =>
      simp only at h'
      cases hsp : a.spot with
      | none => rfl
      | some q => rw [if_pos (by simp [hsp])] at h'; cases h'
    | _ => cases h'
theorem cell_addr {a : Addr} {m : Nat} {u : Value} (hs : a.spot = none) (h : W.cell? (a.add m) = some u) : W.cell? ⟨a.block, a.off + m, none⟩ = some u := by
  obtain ⟨b, o, s⟩ := a
  simp only at hs
  subst hs
  unfold Addr.add at h
  split at h
  · rename_i h0
    rw [h0]; exact h
  · exact h

theorem open_cycle (hv : Value.okWide Try.prog W r b0 31 v) (h : DataW.Trod enc Try.prog W base spare held 31 v d p) :
    ∃ cs : List Cu, Cyc W W.heap.size v cs ∧ cs.length ≤ maxLen ∧ ∀ c ∈ cs, I64 c.amps ∧ I64 c.secs := by
  obtain ⟨a0, len, cap, rfl⟩ := okWide_slice Try.underlying31 hv
  obtain ⟨fuel, hf⟩ := h
  rcases open_slice_fields Try.underlying31 Try.underlying54 (by kernel_rfl) (by kernel_rfl) hf with ⟨hcs, _⟩ | ⟨a, len', cap', m, D, Pl, hcs, _, hl, hm, hmm, _, hel⟩
  · simp [Value.cells] at hcs
    obtain ⟨rfl, rfl, rfl⟩ := hcs
    exact ⟨[], Sl.nil _ _ _ _, by simp, by simp⟩
  · simp [Value.cells] at hcs
    obtain ⟨rfl, rfl, rfl⟩ := hcs
    have hlm : len ≤ m := by rw [hmm]; split <;> omega
    have hel2 : ∀ i, i < len → ∃ c : Cu, W.cell? (a.add (i * 2 + 0)) = some (.int .i64 c.amps) ∧ W.cell? (a.add (i * 2 + 1)) = some (.int .i64 c.secs) ∧ I64 c.amps ∧ I64 c.secs := by
      intro i hi
      obtain ⟨ys, n, _, _, _, hfd⟩ := hel i (by omega)
      obtain ⟨u0, y0, hc0, _, ht0⟩ := hfd 0 _ rfl
      obtain ⟨u1, y1, hc1, _, ht1⟩ := hfd 1 _ rfl
      obtain ⟨x0, rfl, w0⟩ := int_cell ht0
      obtain ⟨x1, rfl, w1⟩ := int_cell ht1
      exact ⟨⟨x0, x1⟩, hc0, hc1, w0, w1⟩
    obtain ⟨F, hF⟩ := choose_lt (α := Cu) hel2
    refine ⟨(List.range len).map F, ?_, by simp; omega, ?_⟩
    · have hlen : ((List.range len).map F).length = len := by simp
      have hget : ∀ i, i < len → ((List.range len).map F).getD i Cu.z = F i := fun i hi => by simp [hi]
      unfold Cyc
      rw [hlen]
      rcases Nat.eq_zero_or_pos len with h0 | h0
      · exact ⟨_, 0, 0, _, rfl, hl, .inr h0, fun i j hi => absurd hi (by omega)⟩
      · obtain ⟨hs, hb⟩ := cell_addr0 (hF 0 h0).1
        refine ⟨_, a.block, a.off, _, rfl, hl, .inl ⟨by rw [← hs], hb⟩, fun i j hi hj => ?_⟩
        have h2 := hF i hi
        unfold cyF
        rw [hget i hi]
        match j, hj with
        | 0, _ => exact cell_addr hs h2.1
        | 1, _ => exact cell_addr hs h2.2.1
    · intro c hc
      obtain ⟨i, hi, rfl⟩ := List.mem_map.1 hc
      have := hF i (by simpa using hi)
      exact this.2.2
end
end Go.Proofs.Ytejjjijaojkohaa

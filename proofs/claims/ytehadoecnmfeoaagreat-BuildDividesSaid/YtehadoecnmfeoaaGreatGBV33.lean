/- Part 33 of this claim's texts: walks and plain laws. -/
import Derived.Test.YtehadoecnmfeoaaGreatRows
import Derived.Test.YtehadoecnmfeoaaGreatGBV32
import Derived.Test.YtehadoecnmfeoaaGreatGBV23
import Derived.Test.YtehadoecnmfeoaaGreatGBV22
import Derived.Deep.RegionHeld3
import Derived.Deep.DrawnRows
/- The runs that join spots, as both programs find them: plain. -/
namespace Go.Proofs.YtehadoecnmfeoaaGreat
set_option linter.unusedVariables false
set_option linter.unusedSimpArgs false
set_option linter.unusedSectionVars false
section
variable {l : Lo} (h : LoOk l)
include h
/-- Some of the spots lie on the first side of a run and some do not: the run parts two of them. -/
theorem LoOk.both {k : Nat} (hk : k < l.us.length) {ts : List Nat} (ht : ∀ t ∈ ts, t < l.ss.length) :
    ((∃ x ∈ ts, Rch l.rs k (l.rs.getD k (0, 0)).1 x) ∧ ∃ y ∈ ts, ¬ Rch l.rs k (l.rs.getD k (0, 0)).1 y) ↔ ∃ x ∈ ts, ∃ y ∈ ts, ¬ Rch l.rs k x y := by
  have hkl : k < l.rs.length := by rw [rs_len]; exact hk
  obtain ⟨a, b, hab⟩ : ∃ a b, l.rs.getD k (0, 0) = (a, b) := ⟨_, _, rfl⟩
  rw [hab]
  simp only
  constructor
  · rintro ⟨⟨x, hx, h1⟩, y, hy, h2⟩
    exact ⟨x, hx, y, hy, fun q => h2 (h1.trans q)⟩
  · rintro ⟨x, hx, y, hy, hn⟩
    have hp := h.tree.part hkl (.inl hab) (ht x hx) (ht y hy)
    by_cases h1 : Rch l.rs k a x
    · exact ⟨⟨x, hx, h1⟩, y, hy, fun q => hn (h1.symm.trans q)⟩
    · by_cases h2 : Rch l.rs k a y
      · exact ⟨⟨y, hy, h2⟩, x, hx, h1⟩
      · exact absurd (hp.1 ⟨fun q => absurd q h1, fun q => absurd q h2⟩) hn
open Classical in
/-- One round of Joined. -/
theorem LoOk.join_step {k : Nat} (hk : k < l.us.length) {ts : List Nat} (ht : ∀ t ∈ ts, t < l.ss.length) (c : Bool)
    (hc : c = true ↔ ((∃ x ∈ ts, Rch l.rs k (l.rs.getD k (0, 0)).1 x) ∧ ∃ y ∈ ts, ¬ Rch l.rs k (l.rs.getD k (0, 0)).1 y)) :
    (if c = true then runLen l k else 0) = if ∃ x ∈ ts, ∃ y ∈ ts, ¬ Rch l.rs k x y then runLen l k else 0 := by
  by_cases hq : ∃ x ∈ ts, ∃ y ∈ ts, ¬ Rch l.rs k x y
  · rw [if_pos hq, if_pos (hc.2 ((h.both hk ht).2 hq))]
  · rw [if_neg hq, if_neg (fun q => hq ((h.both hk ht).1 (hc.1 q)))]
end
end Go.Proofs.YtehadoecnmfeoaaGreat
/- The ends of a wire, the wires through a run: walks. -/
namespace Go.Proofs.YtehadoecnmfeoaaGreat
open Go.RowKit
set_option linter.unusedVariables false
set_option linter.unusedSimpArgs false
theorem LoOk.pos {l : Lo} (h : LoOk l) : 0 < l.ss.length := by have := h.tree.len; omega
end Go.Proofs.YtehadoecnmfeoaaGreat

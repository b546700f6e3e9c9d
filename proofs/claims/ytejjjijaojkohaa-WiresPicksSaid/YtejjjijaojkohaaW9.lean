/- The look at an example: works returns true: a walk. -/
import Derived.Test.YtejjjijaojkohaaRows
import Derived.Test.YtejjjijaojkohaaW8
namespace Go.Proofs.Ytejjjijaojkohaa
open Go.RowKit
set_option linter.unusedVariables false

theorem worksR : riseVal ⟨100, 20, 512, 128, 90⟩ [⟨10, 1⟩] 6 = 54 ∧ riseErr ⟨100, 20, 512, 128, 90⟩ [⟨10, 1⟩] 6 = 0 := by decide +kernel
theorem worksB : blowN ⟨9, 100⟩ 10 = 100 ∧ blowD ⟨9, 100⟩ 10 = 19 ∧ blowErr ⟨9, 100⟩ 10 = 0 := by decide +kernel

theorem cyc_one {w : World} {k : Nat} {a s : Int} {t : TypeId} (h : w.heap[k]? = some (.cells #[.int .i64 a, .int .i64 s] t (0, 0))) : Cyc w w.heap.size (.slice (some ⟨k, 0, none⟩) 1 1) [⟨a, s⟩] := by
  refine ⟨_, k, 0, 1, rfl, Nat.le_refl _, .inl ⟨rfl, box_lt h⟩, fun i j hi hj => ?_⟩
  have hi0 : i = 0 := by have : i < 1 := hi; omega
  subst hi0
  rw [cellOf h]
  match j, hj with
  | 0, _ => rfl
  | 1, _ => rfl

/-- Block b holds a gauge's numbers. -/
def GaugeAt (w : World) (b : Nat) (g : Ga) : Prop := w.heap[b]? = some (.cells #[.int .i64 g.area, .int .i64 g.ohm, .int .i64 g.heat, .int .i64 g.cool, .int .i64 g.limit] 23 (0, 0))
theorem gauge5 {w0 w1 : World} {b : Nat} {g : Ga} (h : GaugeAt w0 b g) (hB : Below w0.heap.size w0 w1) :
    w1.cell? ⟨b, 0, none⟩ = some (.int .i64 g.area) ∧ w1.cell? ⟨b, 1, none⟩ = some (.int .i64 g.ohm) ∧ w1.cell? ⟨b, 2, none⟩ = some (.int .i64 g.heat) ∧ w1.cell? ⟨b, 3, none⟩ = some (.int .i64 g.cool) ∧ w1.cell? ⟨b, 4, none⟩ = some (.int .i64 g.limit) ∧ Below w0.heap.size w0 w1 :=
  ⟨cellOf (box_to h hB) 0, cellOf (box_to h hB) 1, cellOf (box_to h hB) 2, cellOf (box_to h hB) 3, cellOf (box_to h hB) 4, hB⟩

theorem works_any (w : World) :
    Calls Try.prog 17 #[] w fun e w' => e = .returned (.bool true) ∧ Below w.heap.size w w' := by
  obtain ⟨r1, r2⟩ := worksR
  obtain ⟨b1, b2, b3⟩ := worksB
  have HR1 := hide r1
  have HR2 := hide r2
  have HB1 := hide b1
  have HB2 := hide b2
  have HB3 := hide b3
  clear r1 r2 b1 b2 b3
  go_enter Try.func17, Try.ntmps17
  go_wp2_with fail
  refine (Rise_any ⟨100, 20, 512, 128, 90⟩ _ [⟨10, 1⟩] 6 _ (by simp) (cyc_one (heap_new _ _ _ (by simp)))).mono ?_
  rw [HR1.out, HR2.out]
  rintro e w1 ⟨rfl, hB⟩
  have hW1 : Below w.heap.size w w1 := (by repeat (first | exact Below.refl _ _ | assumption | refine Below.drew ?_ | refine Below.drewN ?_ _ | refine Below.allocT ?_ (Nat.le_refl _) _ | refine Below.setCell ?_ (by simp <;> omega) _ | refine Below.to ?_ (by assumption) (Nat.le_refl _)))
  go_wp2_with (go_at_call 19; refine (Blow_any ⟨9, 100⟩ 10 _).mono ?_; rw [HB1.out, HB2.out, HB3.out]; rintro e w2 ⟨rfl, hB2⟩)
  go_ret
  exact ⟨rfl, (by repeat (first | exact Below.refl _ _ | assumption | refine Below.drew ?_ | refine Below.drewN ?_ _ | refine Below.allocT ?_ (Nat.le_refl _) _ | refine Below.setCell ?_ (by simp <;> omega) _ | refine Below.to ?_ (by assumption) (Nat.le_refl _)))⟩
end Go.Proofs.Ytejjjijaojkohaa

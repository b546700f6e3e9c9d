/- Small functions of the forest: walks. -/
import Derived.Test.YtohofcmikfkilaaRows
import Derived.Test.YtohofcmikfkilaaF1
import Derived.BigQuiet
import Derived.BigRegion
import Derived.IntWalk
import Derived.Deep.CutRange
import Derived.Deep.RegionHeld3
namespace Go.Proofs.Ytohofcmikfkilaa
open Go.RowKit
open Go.Maps (Keyed)
set_option linter.unusedVariables false
set_option linter.unusedSimpArgs false

set_option maxRecDepth 100000 in
theorem branch_any (F : Fo) (n o : Nat) (b : Bool) (w : World) (h : FoAt w F) (hn : n < F.ks.length) :
    Calls Try.prog 97 #[.pointer (some ⟨F.p, 0, none⟩), .int .i64 n, .int .i64 o, .bool b] w fun e w' => e = .returned (.int .i64 (brK F.ks n o b : Nat)) ∧ Below w.heap.size w w' := by
  have c1 := h.cellS
  obtain ⟨k0, k1, k2⟩ := h.knot hn
  obtain ⟨l0, _, _, l3⟩ := h.lts
  have hi0 : (0 : Int) ≤ (n : Int) := by omega
  have hi1 : (n : Int) < (F.ks.length : Int) := by omega
  have hbr : brK F.ks n o b = if topK F.ks n = o then (if b then highK F.ks n else lowK F.ks n) else n := rfl
  have HBR := hide hbr
  clear hbr h
  by_cases ht : topK F.ks n = o
  · have ht1 : ((topK F.ks n : Int) != (o : Int)) = false := by simp [ht]
    have HT := hide ht
    clear ht
    cases b
    · go_enter Try.func97, Try.ntmps97
      go_wp2
      go_ret
      refine ⟨?_, (by repeat (first | exact Below.refl _ _ | assumption | refine Below.drew ?_ | refine Below.drewN ?_ _ | refine Below.allocT ?_ (Nat.le_refl _) _ | refine Below.setCell ?_ (by simp <;> omega) _ | refine Below.to ?_ (by assumption) (Nat.le_refl _)))⟩
      rw [HBR.out, if_pos HT.out]; rfl
    · go_enter Try.func97, Try.ntmps97
      go_wp2
      go_ret
      refine ⟨?_, (by repeat (first | exact Below.refl _ _ | assumption | refine Below.drew ?_ | refine Below.drewN ?_ _ | refine Below.allocT ?_ (Nat.le_refl _) _ | refine Below.setCell ?_ (by simp <;> omega) _ | refine Below.to ?_ (by assumption) (Nat.le_refl _)))⟩
      rw [HBR.out, if_pos HT.out]; rfl
  · have ht1 : ((topK F.ks n : Int) != (o : Int)) = true := by simp; omega
    have HT := hide ht
    clear ht
    go_enter Try.func97, Try.ntmps97
    go_wp2
    go_ret
    refine ⟨?_, (by repeat (first | exact Below.refl _ _ | assumption | refine Below.drew ?_ | refine Below.drewN ?_ _ | refine Below.allocT ?_ (Nat.le_refl _) _ | refine Below.setCell ?_ (by simp <;> omega) _ | refine Below.to ?_ (by assumption) (Nat.le_refl _)))⟩
    rw [HBR.out, if_neg HT.out]; rfl

/-- The forest that newForest makes. -/
def newFo (B N : Nat) : Fo := ⟨B, B + 3, N, [⟨N, 0, 0⟩, ⟨N, 0, 0⟩], B, 2, B + 1, 0, fun _ => none, B + 2, 0, fun _ => none⟩
theorem newFo_at (N : Nat) (hN : N ≤ 1000) (w w' : World) (C : Array Value) (hC : C = #[.int .i64 N, .int .i64 0, .int .i64 0, .int .i64 N, .int .i64 0, .int .i64 0])
    (h0 : w'.heap[w.heap.size]? = some (.cells C 135 (0, 0))) (h1 : w'.heap[w.heap.size + 1]? = some (.map #[] 0)) (h2 : w'.heap[w.heap.size + 2]? = some (.map #[] 0))
    (h3 : w'.heap[w.heap.size + 3]? = some (.cells #[.int .i64 N, .slice (some ⟨w.heap.size, 0, none⟩) 2 2, .map (some (w.heap.size + 1)), .map (some (w.heap.size + 2))] 99 (0, 0))) : FoAt w' (newFo w.heap.size N) where
  box := h3
  row := by
    subst hC
    exact ⟨by simp [flat, newFo], .inr ⟨w.heap.size, 2, _, rfl, Nat.le_refl _, h0, Nat.le_refl _, by unfold maxLen; decide, rfl, by simp [newFo, flat, List.range_succ, knF, topK, lowK, highK]⟩⟩
  known := ⟨.map [], ⟨#[], 0, h1, ⟨by simp, MapKept.stamped_empty 0, by simp⟩, Nat.le_refl _, rfl⟩, fun a l _ => ⟨fun _ => rfl, fun x h => by cases h⟩⟩
  joined := ⟨.map [], ⟨#[], 0, h2, ⟨by simp, MapKept.stamped_empty 0, by simp⟩, Nat.le_refl _, rfl⟩, fun a l _ => ⟨fun _ => rfl, fun x h => by cases h⟩⟩
  wf := WF.start N
  k1 := fun k x h => by cases h
  k2 := fun i h2 hi => by simp [newFo] at hi; omega
  j1 := fun o a b x h => by cases h
  nkk := by simp [newFo]
  pb := by simp [newFo]
  bb := by simp [newFo]
  ne1 := by simp [newFo]
  ne2 := by simp [newFo]
  small := by simp [newFo]; omega
set_option maxRecDepth 100000 in
theorem newForest_any (N : Nat) (hN : N ≤ 1000) (w : World) :
    Calls Try.prog 93 #[.int .i64 N] w fun e w' => e = .returned (.pointer (some ⟨w.heap.size + 3, 0, none⟩)) ∧ FoAt w' (newFo w.heap.size N) ∧ Below w.heap.size w w' := by
  have hmm := @run_makeMap Try.prog
  go_enter Try.func93, Try.ntmps93
  go_wp2
  go_ret
  obtain ⟨a0, a1, a2, a3, hB, _⟩ := alloc4 (rfl : _ = (((w.alloc (.cells #[.int .i64 N, .int .i64 0, .int .i64 0, .int .i64 N, .int .i64 0, .int .i64 0] 135)).alloc (.map #[] 0)).alloc (.map #[] 0)).alloc (.cells #[.int .i64 N, .slice (some ⟨w.heap.size, 0, none⟩) 2 2, .map (some (w.heap.size + 1)), .map (some (w.heap.size + 1 + 1))] 99))
  exact ⟨rfl, newFo_at N hN w _ _ rfl a0 a1 a2 a3, hB⟩
end Go.Proofs.Ytohofcmikfkilaa

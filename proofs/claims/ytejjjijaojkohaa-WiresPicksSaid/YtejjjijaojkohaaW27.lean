/- A need copied: a walk. -/
import Derived.Test.YtejjjijaojkohaaRows
import Derived.Test.YtejjjijaojkohaaW26
import Derived.Deep.Cut
import Derived.Test.YtejjjijaojkohaaK6
namespace Go.Proofs.Ytejjjijaojkohaa
open Go.RowKit
set_option linter.unusedVariables false
set_option linter.unusedSimpArgs false

theorem owns_keep {w w' : World} {base e size n : Nat} {v : Value} {xs : List Value} (h : w.ownsRow base e size v n xs) (hk : ∀ g, base ≤ g → w'.heap[g]? = w.heap[g]?) : w'.ownsRow base e size v n xs := by
  obtain ⟨h1, h2 | ⟨g, cap, cur, h3, h4, h5, h6⟩⟩ := h
  · exact ⟨h1, .inl h2⟩
  · exact ⟨h1, .inr ⟨g, cap, cur, h3, h4, (hk g h4).trans h5, h6⟩⟩

set_option maxRecDepth 100000 in
theorem copyNeed_own (n : Ne) (v : Value) (cs : List Cu) (w : World) (hn : cs.length ≤ 20) (h : Cyc w w.heap.size v cs) :
    Calls Try.prog 32 #[.agg #[v, .int .i64 n.len, .int .i64 n.drop, .int .i64 n.amb]] w fun e w' => ∃ v', e = .returned (.agg #[v', .int .i64 n.len, .int .i64 n.drop, .int .i64 n.amb]) ∧ w'.ownsRow w.heap.size 54 2 v' cs.length (flat cs.length 2 (cyF cs)) ∧ Below w.heap.size w w' := by
  obtain ⟨i0, hi0, hz0, hz1, hz2⟩ := info_parts infoCu
  have H := hide h
  obtain ⟨A, cap, rfl⟩ := h.form
  clear h
  go_enter Try.func32, Try.ntmps32
  go_upto_region 1 with (fail)
  obtain ⟨w0, hw0⟩ : ∃ w0 : World, (w.alloc (.cells #[(.slice A cs.length cap), .int .i64 n.len, .int .i64 n.drop, .int .i64 n.amb] 48)).alloc (.cells #[.slice none 0 0, .int .i64 0, .int .i64 0, .int .i64 0] 48) = w0 := ⟨_, rfl⟩
  have hs0 : w0.heap.size = w.heap.size + 2 := by rw [← hw0]; simp
  have hne : NeedAt w0 w.heap.size (.slice A cs.length cap) n := by unfold NeedAt; rw [← hw0, heap_old _ _ _ (by simp <;> omega), heap_new _ _ _ rfl]
  have hze : w0.heap[w.heap.size + 1]? = some (.cells #[.slice none 0 0, .int .i64 0, .int .i64 0, .int .i64 0] 48 (0, 0)) := by rw [← hw0, heap_new _ _ _ (by simp)]
  have hB0 : Below w.heap.size w w0 := by rw [← hw0]; exact (by repeat (first | exact Below.refl _ _ | assumption | refine Below.drew ?_ | refine Below.drewN ?_ _ | refine Below.allocT ?_ (Nat.le_refl _) _ | refine Below.setCell ?_ (by simp <;> omega) _ | refine Below.to ?_ (by assumption) (Nat.le_refl _)))
  have HNE := hide hne
  have HZE := hide hze
  have HB0 := hide hB0
  have HC0 : Hid (Cyc w0 w0.heap.size (.slice A cs.length cap) cs) := (H.out.below hB0).more hB0.size
  rw [hw0]
  obtain ⟨k0, k1, k2, k3, _⟩ := need4 hne (Below.refl _ w0)
  have kk0 : (w0.alloc (.cells #[] 54)).cell? ⟨w.heap.size, 0, none⟩ = some (.slice A cs.length cap) := cellOf ((heap_old _ _ _ (by omega)).trans HNE.out) 0
  have HS0 := hide hs0
  clear hne hze hB0 hw0 hs0
  go_wp2_with (at_builtin; refine wpList_append_any _ rfl (.tmp 3) (.tmp 5) _ rfl w0.heap.size 54 i0 _ 2 16 Try.underlying31 hi0 hz0 hz1 hz2 rfl (by omega) (.slice (some ⟨w0.heap.size, 0, none⟩) 0 0) 0 [] rfl (World.ownsRow_made w0 #[] 0 (Nat.le_refl _) (by unfold maxLen; omega) rfl) w0.heap.size A cs.length cap (flat cs.length 2 (cyF cs)) rfl ((HC0.out.reads (by omega)).alloc (Nat.le_refl _) _) (flat_one (by omega) (cyF_one cs)) (by unfold maxLen; omega) (by omega) (by simp) ?_; intro v1 w1 hown1 hg1 hat1; have hW1 : Below w0.heap.size w0 w1 := (Below.allocT (Below.refl _ w0) (Nat.le_refl _) _).grown hg1 (by simp) (fun k e => by simp [Value.ownBlock] at e; omega); have HW1 := hide hW1; have hn1 := box_to HNE.out hW1; have hf1 : w1.frozen? ⟨w.heap.size, 0, none⟩ = false := unfrozenOf hn1 0; obtain ⟨l0, l1, l2, l3, _⟩ := need4 hn1 (Below.refl _ w1); have hz1' := box_to HZE.out hW1; have z0 := cellOf hz1' 0; have z1 := cellOf hz1' 1; have z2 := cellOf hz1' 2; have z3 := cellOf hz1' 3; have y0 := unfrozenOf hz1' 0; have y1 := unfrozenOf hz1' 1; have y2 := unfrozenOf hz1' 2; have y3 := unfrozenOf hz1' 3; rw [Nat.zero_add, List.nil_append] at hown1; have hS1 : Cyc w1 w1.heap.size v1 cs := Sl.of_owns hown1 (fun i j hi hj => flat_get hi hj); obtain ⟨A1, c1, rfl⟩ := hS1.form; have HO1 := hide hown1; have HN1 := hide hn1; have HZ1 := hide hz1'; clear hS1 hn1 hz1' hown1)
  obtain ⟨wz, hwz⟩ : ∃ wz : World, (((((w1.setCell ⟨w.heap.size, 0, none⟩ (.slice A1 cs.length c1)).setCell ⟨w.heap.size + 1, 0, none⟩ (.slice A1 cs.length c1)).setCell ⟨w.heap.size + 1, 1, none⟩ (.int .i64 n.len)).setCell ⟨w.heap.size + 1, 2, none⟩ (.int .i64 n.drop)).setCell ⟨w.heap.size + 1, 3, none⟩ (.int .i64 n.amb)) = wz := ⟨_, rfl⟩
  have hs0 := HS0.out
  have hZ : NeedAt wz (w.heap.size + 1) (.slice A1 cs.length c1) n := by
    rw [← hwz]
    exact setCellOf (setCellOf (setCellOf (setCellOf ((Below.heap_setCell _ _ _ _ (by simp)).trans HZ1.out) _) _) _) _
  have hO : wz.ownsRow w0.heap.size 54 2 (.slice A1 cs.length c1) cs.length (flat cs.length 2 (cyF cs)) := owns_keep HO1.out fun g hg => by
    rw [← hwz]
    iterate 5 rw [Below.heap_setCell _ _ _ _ (by simp <;> omega)]
  have hBz : Below w.heap.size w wz := by
    rw [← hwz]
    exact Below.setCell (Below.setCell (Below.setCell (Below.setCell (Below.setCell (Below.to HB0.out HW1.out (by omega)) (by simp) _) (by simp) _) (by simp) _) (by simp) _) (by simp) _
  rw [hwz]
  obtain ⟨m0, m1, m2, m3, _⟩ := need4 hZ (Below.refl _ wz)
  refine bodyPost_ret (v := .agg #[(.slice A1 cs.length c1), .int .i64 n.len, .int .i64 n.drop, .int .i64 n.amb]) ?_ rfl ⟨_, rfl, owns_base hO (by omega), hBz⟩
  rw [results_cell1 rfl]
  go_simp
theorem copyNeed_any (n : Ne) (v : Value) (cs : List Cu) (w : World) (hn : cs.length ≤ 20) (h : Cyc w w.heap.size v cs) :
    Calls Try.prog 32 #[.agg #[v, .int .i64 n.len, .int .i64 n.drop, .int .i64 n.amb]] w fun e w' => ∃ v', e = .returned (.agg #[v', .int .i64 n.len, .int .i64 n.drop, .int .i64 n.amb]) ∧ Cyc w' w'.heap.size v' cs ∧ Below w.heap.size w w' :=
  (copyNeed_own n v cs w hn h).mono fun _ _ ⟨v', he, ho, hb⟩ => ⟨v', he, Sl.of_owns ho (fun i j hi hj => flat_get hi hj), hb⟩
end Go.Proofs.Ytejjjijaojkohaa

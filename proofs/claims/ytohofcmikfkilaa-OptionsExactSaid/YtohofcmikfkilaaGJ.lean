/- Group J of this claim's texts: walks and plain laws. -/
import Derived.Test.YtohofcmikfkilaaRows
import Derived.Test.YtohofcmikfkilaaGI
import Derived.Test.YtohofcmikfkilaaGG
import Derived.Deep.RegionHeld3
import Derived.Deep.DrawnRows
import Derived.Test.YtohofcmikfkilaaGH
import Derived.Test.YtohofcmikfkilaaGF
/- The order of variants. Plain laws. -/
namespace Go.Proofs.Ytohofcmikfkilaa
set_option linter.unusedVariables false
/-- Whether a variant comes before another one. -/
def befB : List Bool → List Bool → Bool
  | a :: x, b :: y => if a = b then befB x y else b
  | _, _ => false
theorem befB_self : ∀ x, befB x x = false
  | [] => rfl
  | a :: x => by simp [befB, befB_self x]
theorem befB_asym : ∀ x y, befB x y = true → befB y x = false
  | [], _, h => by simp [befB] at h
  | _ :: _, [], h => by simp [befB] at h
  | a :: x, b :: y, h => by
    unfold befB at h ⊢
    by_cases hab : a = b
    · rw [if_pos hab] at h
      rw [if_pos hab.symm]
      exact befB_asym x y h
    · rw [if_neg hab] at h
      rw [if_neg (fun e => hab e.symm)]
      cases a <;> cases b <;> simp_all
theorem befB_app (l : List Bool) : ∀ x y, befB (l ++ x) (l ++ y) = befB x y := by
  intro x y
  induction l with
  | nil => rfl
  | cons a l ih => simp only [List.cons_append, befB, if_true, ih]
theorem exts_sorted : ∀ (k : Nat) (l : List Bool), (exts k l).Pairwise fun x y => befB x y = true
  | 0, l => by simp [exts]
  | k + 1, l => by
    have h1 : exts (k + 1) l = exts k (l ++ [false]) ++ exts k (l ++ [true]) := rfl
    rw [h1, List.pairwise_append]
    refine ⟨exts_sorted k _, exts_sorted k _, fun x hx y hy => ?_⟩
    obtain ⟨x', rfl, _⟩ := exts_prefix hx
    obtain ⟨y', rfl, _⟩ := exts_prefix hy
    rw [List.append_assoc, List.append_assoc, befB_app]
    rfl
theorem allM_sorted (m : Mo) : (allM m).Pairwise fun x y => befB x y = true := (exts_sorted _ _).filter _
/-- What is found first comes before all else of the kind. -/
theorem find_before {l : List (List Bool)} (hs : l.Pairwise fun x y => befB x y = true) {p : List Bool → Bool} {x y : List Bool} (hx : l.find? p = some x) (hy : y ∈ l) (hp : p y = true) : befB y x = false := by
  obtain ⟨_, ps, bs, rfl, has⟩ := List.find?_eq_some_iff_append.1 hx
  rcases List.mem_append.1 hy with h | h
  · have := has y h
    rw [hp] at this
    simp at this
  · rcases List.mem_cons.1 h with rfl | h
    · exact befB_self _
    · rw [List.pairwise_append] at hs
      exact befB_asym _ _ ((List.pairwise_cons.1 hs.2.1).1 y h)
theorem befB_at : ∀ (x y : List Bool) (k : Nat), k < x.length → k < y.length → (∀ j, j < k → x.getD j false = y.getD j false) → x.getD k false ≠ y.getD k false → befB x y = y.getD k false
  | [], _, k, h, _, _, _ => by simp at h
  | _ :: _, [], k, _, h, _, _ => by simp at h
  | a :: x, b :: y, 0, _, _, _, h => by
    simp only [List.getD_cons_zero] at h ⊢
    simp [befB, h]
  | a :: x, b :: y, k + 1, h1, h2, hj, h => by
    have h0 := hj 0 (by omega)
    simp only [List.getD_cons_zero, List.getD_cons_succ] at h0 h ⊢
    rw [befB, if_pos h0]
    exact befB_at x y k (by simpa using h1) (by simpa using h2) (fun j hjk => by have := hj (j + 1) (by omega); simpa using this) h
theorem befB_none : ∀ (x y : List Bool), (∀ j, j < x.length → j < y.length → x.getD j false = y.getD j false) → befB x y = false
  | [], _, _ => rfl
  | _ :: _, [], _ => rfl
  | a :: x, b :: y, hj => by
    have h0 := hj 0 (by simp) (by simp)
    simp only [List.getD_cons_zero] at h0
    rw [befB, if_pos h0]
    exact befB_none x y fun j h1 h2 => by have := hj (j + 1) (by simpa using h1) (by simpa using h2); simpa using this
/-- The variant of Most, and any other one. -/
theorem most_law {m : Mo} {l : List (List Int)} {ws : List Int} {x : List Bool} (hw : ∀ x ∈ ws, -1000000 ≤ x ∧ x ≤ 1000000) (hl : l.length ≤ 1000) (h0 : allM m ≠ [])
    (hx : (exts m.opts.length []).find? (fun y => valF m l ws y == bestF m l ws) = some x) :
    x.length = m.opts.length ∧ allF (vf x) m.rules = true ∧ fsum (vf x) l ws = bestF m l ws ∧
    ∀ y : List Bool, y.length = m.opts.length → allF (vf y) m.rules = true → fsum (vf y) l ws ≤ bestF m l ws ∧ (fsum (vf y) l ws = bestF m l ws → befB y x = false) := by
  have hbig := bestF_big hw hl (by rw [satM_true]; exact h0)
  have hmem := List.mem_of_find?_eq_some hx
  have hp := List.find?_some hx
  have hlen := exts_len _ _ _ hmem
  have hval : valF m l ws x = bestF m l ws := by simpa using hp
  have hall : allF (vf x) m.rules = true := by
    cases hf : allF (vf x) m.rules with
    | true => rfl
    | false =>
      unfold valF at hval
      rw [if_neg (by simp [hf])] at hval
      omega
  have hvy : ∀ y : List Bool, allF (vf y) m.rules = true → valF m l ws y = fsum (vf y) l ws := fun y hy => by unfold valF; rw [if_pos hy]
  refine ⟨by simpa using hlen, hall, by rw [← hvy x hall]; exact hval, fun y hy hya => ⟨?_, fun he => ?_⟩⟩
  · rw [← hvy y hya]
    exact maxL_mem _ _ (List.mem_map.2 ⟨y, exts_all _ y hy, rfl⟩)
  · exact find_before (exts_sorted _ _) hx (exts_all _ y hy) (by rw [hvy y hya, he]; simp)
end Go.Proofs.Ytohofcmikfkilaa
/- Which variant comes before; the sum of a variant: walks. -/
namespace Go.Proofs.Ytohofcmikfkilaa
open Go.RowKit
set_option linter.unusedVariables false
set_option linter.unusedSimpArgs false
set_option maxRecDepth 100000 in
set_option maxHeartbeats 4000000 in
theorem before_any (a b : List Bool) (u v : Value) (w : World) (ha : Bols w w.heap.size u a) (hb : Bols w w.heap.size v b) (hal : a.length ≤ maxLen) (hbl : b.length ≤ maxLen) :
    Calls Try.prog 50 #[u, v] w fun e w' => e = .returned (.bool (befB a b)) ∧ Below w.heap.size w w' := by
  obtain ⟨A, b0, off, cap, rfl, hnc, hA, hc⟩ := ha
  obtain ⟨A1, b1, off1, cap1, rfl, hnc1, hA1, hc1⟩ := hb
  have HC := hide hc
  have HA := hide hA
  have HC1 := hide hc1
  have HA1 := hide hA1
  unfold maxLen at hal hbl
  clear hc hA hc1 hA1
  go_enter Try.func50, Try.ntmps50
  go_wp2_with fail
  go_loopw [5] (fun i wr => ∃ k : Nat, k ≤ a.length ∧ k ≤ b.length ∧ i = .int .i64 k ∧ Hid (∀ j, j < k → a.getD j false = b.getD j false) ∧ Hid (Below w.heap.size w wr)) (fun i _ => a.length - (intOf i).toNat)
  case atStart => exact ⟨0, Nat.zero_le _, Nat.zero_le _, rfl, fun j hj => by omega, Below.refl _ _⟩
  case round =>
    obtain ⟨k, hk, hk2, rfl, hall, hB⟩ := hrel
    by_cases hlt : k < a.length
    · by_cases hlt2 : k < b.length
      · obtain ⟨rfl, hbb⟩ : A = some ⟨b0, off, none⟩ ∧ b0 < w.heap.size := by
          rcases HA.out with h | h
          · exact h
          · omega
        obtain ⟨rfl, hbb1⟩ : A1 = some ⟨b1, off1, none⟩ ∧ b1 < w.heap.size := by
          rcases HA1.out with h | h
          · exact h
          · omega
        obtain ⟨x, hx⟩ : ∃ x, a.getD k false = x := ⟨_, rfl⟩
        obtain ⟨y, hy⟩ : ∃ y, b.getD k false = y := ⟨_, rfl⟩
        have c0 : wr.cell? ⟨b0, off + k, none⟩ = some (.bool x) := by
          have h1 := HC.out k 0 hlt (by omega)
          rw [Nat.mul_one, Nat.add_zero, hx] at h1
          exact (hB.out.cell (p := ⟨b0, off + k, none⟩) hbb).trans h1
        have c1 : wr.cell? ⟨b1, off1 + k, none⟩ = some (.bool y) := by
          have h1 := HC1.out k 0 hlt2 (by omega)
          rw [Nat.mul_one, Nat.add_zero, hy] at h1
          exact (hB.out.cell (p := ⟨b1, off1 + k, none⟩) hbb1).trans h1
        have l0 : b0 < wr.heap.size := Nat.lt_of_lt_of_le hbb hB.out.size
        have l1 : b1 < wr.heap.size := Nat.lt_of_lt_of_le hbb1 hB.out.size
        have c1' : ∀ W, Below wr.heap.size wr W → W.cell? ⟨b1, off1 + k, none⟩ = some (.bool y) := fun W hW => (hW.cell (p := ⟨b1, off1 + k, none⟩) l1).trans c1
        have HC1' := hide c1'
        have j0 : (k : Int) < (a.length : Int) := by omega
        have j1 : (k : Int) < (b.length : Int) := by omega
        have HX := hide hx
        have HY := hide hy
        clear hx hy c1'
        by_cases hxy : x = y
        · have hne : (!(x == y)) = false := by simp [hxy]
          have HE := hide hxy
          clear hxy
          go_wp2_with fail
          refine wp_region_held_drew (S := (fun w' => Below wr.heap.size wr w')) (by kernel_rfl) ?_ (fun hHeld => ?_)
          · try dsimp only
            exact (by repeat (first | exact Below.refl _ _ | assumption | refine Below.drew ?_ | refine Below.drewN ?_ _ | refine Below.allocT ?_ (Nat.le_refl _) _ | refine Below.setCell ?_ (by simp <;> omega) _ | refine Below.to ?_ (by assumption) (Nat.le_refl _)))
          refine wpAnyH_take (i := 0) (v := ?v27_0) rfl (by kernel_rfl) (by kernel_rfl) (by kernel_rfl) (fun _ _ _ h => h) (Or.inl ⟨by rfl, ?y27_0⟩) (by assumption) ?r27_0
          case' y27_0 => (intro w hSw; (try dsimp only at hSw); (try have hlS := HLK.out _ hSw); obtain ⟨hcS, hfS⟩ := bcell hSw; clear hSw; go_simp; try with_reducible rfl)
          try simp only [Act.put, List.getElem_toArray, List.getElem_cons_succ, List.getElem_cons_zero, List.setIfInBounds_toArray, List.set_cons_zero, List.set_cons_succ]
          refine wpAnyH_take (i := 1) (v := ?v27_1) rfl (by kernel_rfl) (by kernel_rfl) (by kernel_rfl) (fun _ _ _ h => h) (Or.inl ⟨by rfl, ?y27_1⟩) (by assumption) ?r27_1
          case' y27_1 => (intro w hSw; (try dsimp only at hSw); (try have hlS := HLK.out _ hSw); obtain ⟨hcS, hfS⟩ := bcell hSw; clear hSw; go_simp; try with_reducible rfl)
          try simp only [Act.put, List.getElem_toArray, List.getElem_cons_succ, List.getElem_cons_zero, List.setIfInBounds_toArray, List.set_cons_zero, List.set_cons_succ]
          refine wpAnyH_take (i := 2) (v := ?v27_2) rfl (by kernel_rfl) (by kernel_rfl) (by kernel_rfl) (fun _ _ _ h => h) (Or.inl ⟨by rfl, ?y27_2⟩) (by assumption) ?r27_2
          case' y27_2 => (intro w hSw; (try dsimp only at hSw); (try have hlS := HLK.out _ hSw); obtain ⟨hcS, hfS⟩ := bcell hSw; clear hSw; go_simp; try with_reducible rfl)
          try simp only [Act.put, List.getElem_toArray, List.getElem_cons_succ, List.getElem_cons_zero, List.setIfInBounds_toArray, List.set_cons_zero, List.set_cons_succ]
          refine wpAnyH_take (i := 3) (v := ?v27_3) rfl (by kernel_rfl) (by kernel_rfl) (by kernel_rfl) (fun _ _ _ h => h) (Or.inl ⟨by rfl, ?y27_3⟩) (by assumption) ?r27_3
          case' y27_3 => (intro w hSw; (try dsimp only at hSw); (try have hlS := HLK.out _ hSw); obtain ⟨hcS, hfS⟩ := bcell hSw; clear hSw; go_simp; try with_reducible rfl)
          try simp only [Act.put, List.getElem_toArray, List.getElem_cons_succ, List.getElem_cons_zero, List.setIfInBounds_toArray, List.set_cons_zero, List.set_cons_succ]
          refine wpAnyH_take (i := 4) (v := ?v27_4) rfl (by kernel_rfl) (by kernel_rfl) (by kernel_rfl) (fun _ _ _ h => h) (Or.inl ⟨by rfl, ?y27_4⟩) (by assumption) ?r27_4
          case' y27_4 => (intro w hSw; (try dsimp only at hSw); (try have hlS := HLK.out _ hSw); obtain ⟨hcS, hfS⟩ := bcell hSw; clear hSw; go_simp; try with_reducible rfl)
          try simp only [Act.put, List.getElem_toArray, List.getElem_cons_succ, List.getElem_cons_zero, List.setIfInBounds_toArray, List.set_cons_zero, List.set_cons_succ]
          refine wpAnyH_take (i := 5) (v := ?v27_5) rfl (by kernel_rfl) (by kernel_rfl) (by kernel_rfl) (fun _ _ _ h => h) (Or.inl ⟨by rfl, ?y27_5⟩) (by assumption) ?r27_5
          case' y27_5 => (intro w hSw; (try dsimp only at hSw); (try have hlS := HLK.out _ hSw); obtain ⟨hcS, hfS⟩ := bcell hSw; clear hSw; go_simp; try with_reducible rfl)
          try simp only [Act.put, List.getElem_toArray, List.getElem_cons_succ, List.getElem_cons_zero, List.setIfInBounds_toArray, List.set_cons_zero, List.set_cons_succ]
          refine wpAnyH_take (i := 6) (v := ?v27_6) rfl (by kernel_rfl) (by kernel_rfl) (by kernel_rfl) (fun _ _ _ h => h) (Or.inl ⟨by rfl, ?y27_6⟩) (by assumption) ?r27_6
          case' y27_6 => (intro w hSw; (try dsimp only at hSw); (try have hlS := HLK.out _ hSw); obtain ⟨hcS, hfS⟩ := bcell hSw; clear hSw; go_simp; try with_reducible rfl)
          try simp only [Act.put, List.getElem_toArray, List.getElem_cons_succ, List.getElem_cons_zero, List.setIfInBounds_toArray, List.set_cons_zero, List.set_cons_succ]
          refine wpAnyH_take (i := 7) (v := ?v27_7) rfl (by kernel_rfl) (by kernel_rfl) (by kernel_rfl) (fun _ _ _ h => h) (Or.inl ⟨by rfl, ?y27_7⟩) (by assumption) ?r27_7
          case' y27_7 => (intro w hSw; (try dsimp only at hSw); (try have hlS := HLK.out _ hSw); obtain ⟨hcS, hfS⟩ := bcell hSw; clear hSw; go_simp; try with_reducible rfl)
          try simp only [Act.put, List.getElem_toArray, List.getElem_cons_succ, List.getElem_cons_zero, List.setIfInBounds_toArray, List.set_cons_zero, List.set_cons_succ]
          refine wpAnyH_take (i := 8) (v := ?v27_8) rfl (by kernel_rfl) (by kernel_rfl) (by kernel_rfl) (fun _ _ _ h => h) (Or.inl ⟨by rfl, ?y27_8⟩) (by assumption) ?r27_8
          case' y27_8 => (intro w hSw; (try dsimp only at hSw); (try have hlS := HLK.out _ hSw); obtain ⟨hcS, hfS⟩ := bcell hSw; clear hSw; go_simp; try with_reducible rfl)
          try simp only [Act.put, List.getElem_toArray, List.getElem_cons_succ, List.getElem_cons_zero, List.setIfInBounds_toArray, List.set_cons_zero, List.set_cons_succ]
          refine wpAnyH_done (by kernel_rfl) ?_ _
          go_wp2_with fail
          go_roundw
          case rel => exact ⟨k + 1, by omega, by omega, by go_num, fun j hj => by
              rcases Nat.lt_or_ge j k with h | h
              · exact hall.out j h
              · rw [show j = k from by omega, HX.out, HY.out, HE.out], Below.to hB.out hHeld (Nat.le_refl _)⟩
          case measure => simp [intOf]; omega
        · have hne : (!(x == y)) = true := by simpa using hxy
          have hbf : befB a b = y := by
            have h1 := befB_at a b k hlt hlt2 hall.out (by rw [HX.out, HY.out]; exact hxy)
            rwa [HY.out] at h1
          have HBF := hide hbf
          clear hxy hbf
          go_wp2_with fail
          refine wp_region_held_drew (S := (fun w' => Below wr.heap.size wr w')) (by kernel_rfl) ?_ (fun hHeld => ?_)
          · try dsimp only
            exact (by repeat (first | exact Below.refl _ _ | assumption | refine Below.drew ?_ | refine Below.drewN ?_ _ | refine Below.allocT ?_ (Nat.le_refl _) _ | refine Below.setCell ?_ (by simp <;> omega) _ | refine Below.to ?_ (by assumption) (Nat.le_refl _)))
          refine wpAnyH_take (i := 0) (v := ?v28_0) rfl (by kernel_rfl) (by kernel_rfl) (by kernel_rfl) (fun _ _ _ h => h) (Or.inl ⟨by rfl, ?y28_0⟩) (by assumption) ?r28_0
          case' y28_0 => (intro w hSw; (try dsimp only at hSw); (try have hlS := HLK.out _ hSw); obtain ⟨hcS, hfS⟩ := bcell hSw; clear hSw; go_simp; try with_reducible rfl)
          try simp only [Act.put, List.getElem_toArray, List.getElem_cons_succ, List.getElem_cons_zero, List.setIfInBounds_toArray, List.set_cons_zero, List.set_cons_succ]
          refine wpAnyH_take (i := 1) (v := ?v28_1) rfl (by kernel_rfl) (by kernel_rfl) (by kernel_rfl) (fun _ _ _ h => h) (Or.inl ⟨by rfl, ?y28_1⟩) (by assumption) ?r28_1
          case' y28_1 => (intro w hSw; (try dsimp only at hSw); (try have hlS := HLK.out _ hSw); obtain ⟨hcS, hfS⟩ := bcell hSw; clear hSw; go_simp; try with_reducible rfl)
          try simp only [Act.put, List.getElem_toArray, List.getElem_cons_succ, List.getElem_cons_zero, List.setIfInBounds_toArray, List.set_cons_zero, List.set_cons_succ]
          refine wpAnyH_take (i := 2) (v := ?v28_2) rfl (by kernel_rfl) (by kernel_rfl) (by kernel_rfl) (fun _ _ _ h => h) (Or.inl ⟨by rfl, ?y28_2⟩) (by assumption) ?r28_2
          case' y28_2 => (intro w hSw; (try dsimp only at hSw); (try have hlS := HLK.out _ hSw); obtain ⟨hcS, hfS⟩ := bcell hSw; clear hSw; go_simp; try with_reducible rfl)
          try simp only [Act.put, List.getElem_toArray, List.getElem_cons_succ, List.getElem_cons_zero, List.setIfInBounds_toArray, List.set_cons_zero, List.set_cons_succ]
          refine wpAnyH_take (i := 3) (v := ?v28_3) rfl (by kernel_rfl) (by kernel_rfl) (by kernel_rfl) (fun _ _ _ h => h) (Or.inl ⟨by rfl, ?y28_3⟩) (by assumption) ?r28_3
          case' y28_3 => (intro w hSw; (try dsimp only at hSw); (try have hlS := HLK.out _ hSw); obtain ⟨hcS, hfS⟩ := bcell hSw; clear hSw; go_simp; try with_reducible rfl)
          try simp only [Act.put, List.getElem_toArray, List.getElem_cons_succ, List.getElem_cons_zero, List.setIfInBounds_toArray, List.set_cons_zero, List.set_cons_succ]
          refine wpAnyH_take (i := 4) (v := ?v28_4) rfl (by kernel_rfl) (by kernel_rfl) (by kernel_rfl) (fun _ _ _ h => h) (Or.inl ⟨by rfl, ?y28_4⟩) (by assumption) ?r28_4
          case' y28_4 => (intro w hSw; (try dsimp only at hSw); (try have hlS := HLK.out _ hSw); obtain ⟨hcS, hfS⟩ := bcell hSw; clear hSw; go_simp; try with_reducible rfl)
          try simp only [Act.put, List.getElem_toArray, List.getElem_cons_succ, List.getElem_cons_zero, List.setIfInBounds_toArray, List.set_cons_zero, List.set_cons_succ]
          refine wpAnyH_take (i := 5) (v := ?v28_5) rfl (by kernel_rfl) (by kernel_rfl) (by kernel_rfl) (fun _ _ _ h => h) (Or.inl ⟨by rfl, ?y28_5⟩) (by assumption) ?r28_5
          case' y28_5 => (intro w hSw; (try dsimp only at hSw); (try have hlS := HLK.out _ hSw); obtain ⟨hcS, hfS⟩ := bcell hSw; clear hSw; go_simp; try with_reducible rfl)
          try simp only [Act.put, List.getElem_toArray, List.getElem_cons_succ, List.getElem_cons_zero, List.setIfInBounds_toArray, List.set_cons_zero, List.set_cons_succ]
          refine wpAnyH_take (i := 6) (v := ?v28_6) rfl (by kernel_rfl) (by kernel_rfl) (by kernel_rfl) (fun _ _ _ h => h) (Or.inl ⟨by rfl, ?y28_6⟩) (by assumption) ?r28_6
          case' y28_6 => (intro w hSw; (try dsimp only at hSw); (try have hlS := HLK.out _ hSw); obtain ⟨hcS, hfS⟩ := bcell hSw; clear hSw; go_simp; try with_reducible rfl)
          try simp only [Act.put, List.getElem_toArray, List.getElem_cons_succ, List.getElem_cons_zero, List.setIfInBounds_toArray, List.set_cons_zero, List.set_cons_succ]
          refine wpAnyH_take (i := 7) (v := ?v28_7) rfl (by kernel_rfl) (by kernel_rfl) (by kernel_rfl) (fun _ _ _ h => h) (Or.inl ⟨by rfl, ?y28_7⟩) (by assumption) ?r28_7
          case' y28_7 => (intro w hSw; (try dsimp only at hSw); (try have hlS := HLK.out _ hSw); obtain ⟨hcS, hfS⟩ := bcell hSw; clear hSw; go_simp; try with_reducible rfl)
          try simp only [Act.put, List.getElem_toArray, List.getElem_cons_succ, List.getElem_cons_zero, List.setIfInBounds_toArray, List.set_cons_zero, List.set_cons_succ]
          refine wpAnyH_take (i := 8) (v := ?v28_8) rfl (by kernel_rfl) (by kernel_rfl) (by kernel_rfl) (fun _ _ _ h => h) (Or.inl ⟨by rfl, ?y28_8⟩) (by assumption) ?r28_8
          case' y28_8 => (intro w hSw; (try dsimp only at hSw); (try have hlS := HLK.out _ hSw); obtain ⟨hcS, hfS⟩ := bcell hSw; clear hSw; go_simp; try with_reducible rfl)
          try simp only [Act.put, List.getElem_toArray, List.getElem_cons_succ, List.getElem_cons_zero, List.setIfInBounds_toArray, List.set_cons_zero, List.set_cons_succ]
          refine wpAnyH_done (by kernel_rfl) ?_ _
          have c2 := HC1'.out _ hHeld
          go_wp2_with fail
          go_ret
          exact ⟨ret_bool HBF.out.symm, Below.to hB.out hHeld (Nat.le_refl _)⟩
      · have hbf : befB a b = false := befB_none a b fun j h1 h2 => hall.out j (by omega)
        have HBF := hide hbf
        have j0 : (k : Int) < (a.length : Int) := by omega
        have j1 : ¬ (k : Int) < (b.length : Int) := by omega
        clear hbf
        go_wp2_with fail
        go_ret
        exact ⟨ret_bool HBF.out.symm, hB.out⟩
    · have hbf : befB a b = false := befB_none a b fun j h1 h2 => hall.out j (by omega)
      have HBF := hide hbf
      have j0 : ¬ (k : Int) < (a.length : Int) := by omega
      clear hbf
      go_wp2_with fail
      go_ret
      exact ⟨ret_bool HBF.out.symm, hB.out⟩
theorem Mo.errF_one {m : Mo} {f : List Int} (h : m.err = 0) (hf : validF m.opts.length f = true) : m.errF [f] = 0 := by
  rw [Mo.errF_ok h, List.all_cons, hf]
  simp
set_option maxRecDepth 100000 in
set_option maxHeartbeats 4000000 in
theorem sumOf_any (m : Mo) (l : List (List Int)) (ws : List Int) (vs : List Bool) (ov rv lv wv vv : Value) (w : World) (hs : SizedM m) (hl : Sized l) (h : MoAt w w.heap.size ov rv m) (hf : Forms w w.heap.size lv l) (hws : Ints w w.heap.size wv ws) (hv : Bols w w.heap.size vv vs) (he : m.errF l = 0) (hN : vs.length = m.opts.length) (hl2 : l.length ≤ 200) (hlw : ws.length = l.length) (hw : ∀ x ∈ ws, -1000000 ≤ x ∧ x ≤ 1000000) :
    Calls Try.prog 49 #[.agg #[ov, rv], .agg #[lv, wv], vv] w fun e w' => e = .returned (.tuple #[.int .i64 (fsum (vf vs) l ws), .bool true]) ∧ Below w.heap.size w w' := by
  obtain ⟨A, cap, hov⟩ := Sl.form h.o
  obtain ⟨Ar, capr, hrv⟩ := h.r.form
  obtain ⟨fvs, ⟨Al, bl, offl, capl, rfl, hncl, hAl, hcl⟩, hfi⟩ := hf
  obtain ⟨Aw, bw, offw, capw, rfl, hncw, hAw, hcw⟩ := hws
  obtain ⟨Av, capv, hvv⟩ := Sl.form hv
  have H := hide h
  have HS := hide hs
  have HAL := hide hAl
  have HCL := hide hcl
  have HFI := hide hfi
  have HL := hide hl
  have HAW := hide hAw
  have HCW := hide hcw
  have HV := hide hv
  have HE := hide (Mo.okF he)
  have HN := hide hN
  have HLW := hide hlw
  have HW := hide hw
  have hz1 : ((l.length : Int) != (ws.length : Int)) = false := by simp [hlw]
  subst hov hrv hvv
  clear h hs hAl hcl hfi hl hAw hcw hv he hN hlw hw
  go_enter Try.func49, Try.ntmps49
  go_upto_region 1 with (fail)
  generalize hw0 : World.alloc _ _ = w0
  obtain ⟨hb0, hb1, hB0, hs0⟩ := alloc2 hw0
  clear hw0
  have HX0 := hide hb0
  have HX1 := hide hb1
  have HB0 := hide hB0
  have c0 := cellOf hb0 0
  have c1 := cellOf hb0 1
  have d0 := cellOf hb1 0
  have d1 := cellOf hb1 1
  clear hb0 hb1 hB0 hs0
  go_wp2_with fail
  clear c0 c1 d0 d1
  go_loopw [8, 9] (fun sv i wr => ∃ t : Nat, t ≤ l.length ∧ i = .int .i64 t ∧ sv = .int .i64 (fsum (vf vs) (l.take t) ws) ∧ Hid (Below w0.heap.size w0 wr)) (fun _ i _ => l.length - (intOf i).toNat)
  case atStart => exact ⟨0, Nat.zero_le _, rfl, by simp [fsum], Below.refl _ _⟩
  case round =>
    obtain ⟨t, ht, rfl, rfl, hBi⟩ := hrel
    have hx0 := box_to HX0.out hBi.out
    have hx1 := box_to HX1.out hBi.out
    have c0 := cellOf hx0 0
    have c1 := cellOf hx0 1
    have d0 := cellOf hx1 0
    have d1 := cellOf hx1 1
    have b0l := box_lt hx0
    have b1l := box_lt hx1
    have hBr := Below.to HB0.out hBi.out (Nat.le_refl _)
    have HBR := hide hBr
    have hfb := fsum_bd (vf vs) (l.take t) ws HW.out
    have hlt200 : ((l.take t).length : Int) ≤ 200 := by simp; omega
    clear hx0 hx1
    by_cases htl : t < l.length
    · obtain ⟨rfl, hbb, Af, capf, p0, p1⟩ := rows_get (enc := Value.int .i64) (z := 0) HAL.out HCL.out HFI.out htl
      obtain ⟨f, hfe⟩ : ∃ f, l.getD t [] = f := ⟨_, rfl⟩
      rw [hfe] at p0 p1
      have hfv : validF m.opts.length f = true := HE.out.2 f (by rw [← hfe]; exact getD_mem htl)
      have hfl : f.length ≤ maxLen := HL.out.2 f (by rw [← hfe]; exact getD_mem htl)
      have c2 : wr.cell? ⟨bl, offl + t, none⟩ = some (.slice Af f.length capf) := (hBr.cell (p := ⟨bl, offl + t, none⟩) hbb).trans p0
      have l0 : bl < wr.heap.size := Nat.lt_of_lt_of_le hbb hBr.size
      obtain ⟨hh1, hh2⟩ := hol_ok (Mo.errF_one HE.out.1 hfv) HN.out
      have hcall : ∀ W, Below wr.heap.size wr W → Calls Try.prog 45 #[.agg #[.slice A m.opts.length cap, .slice Ar m.rules.length capr], .slice Af f.length capf, .slice Av vs.length capv] W fun e w' => e = .returned (.tuple #[.bool (evF1 (vf vs) f), .int .i64 0]) ∧ Below W.heap.size W w' :=
        fun W hW => by
          have hW2 := Below.to HBR.out hW (Nat.le_refl _)
          have h1 := Holds_any m f vs (.slice A m.opts.length cap) (.slice Ar m.rules.length capr) (.slice Af f.length capf) (.slice Av vs.length capv) W HS.out hfl (H.out.up hW2) (GRow.up (enc := Value.int .i64) (z := 0) p1 hW2) (Sl.up HV.out hW2)
          rwa [hh1, hh2] at h1
      have hsn := fsum_snoc (vf vs) l ws t HLW.out.symm htl
      rw [hfe] at hsn
      obtain ⟨s, hs⟩ : ∃ s, fsum (vf vs) (l.take t) ws = s := ⟨_, rfl⟩
      rw [hs] at hsn hfb
      rw [hs]
      have j0 : (t : Int) < (l.length : Int) := by omega
      have j2 : -200000000 ≤ s := by omega
      have j3 : s ≤ 200000000 := by omega
      obtain ⟨rfl, hbw⟩ : Aw = some ⟨bw, offw, none⟩ ∧ bw < w.heap.size := by
        rcases HAW.out with h | h
        · exact h
        · have := HLW.out; omega
      have htw : t < ws.length := by have := HLW.out; omega
      obtain ⟨y, hy⟩ : ∃ y, ws.getD t 0 = y := ⟨_, rfl⟩
      rw [hy] at hsn
      obtain ⟨j4, j5⟩ := HW.out y (by rw [← hy]; exact getD_mem htw)
      have c3 : ∀ W, Below wr.heap.size wr W → W.cell? ⟨bw, offw + t, none⟩ = some (.int .i64 y) ∧ W.heap[w.heap.size + 1]? = some (.cells #[.slice (some ⟨bl, offl, none⟩) l.length capl, .slice (some ⟨bw, offw, none⟩) ws.length capw] 69 (0, 0)) := fun W hW => by
        have hW2 := Below.to HBR.out hW (Nat.le_refl _)
        have h1 := HCW.out t 0 htw (by omega)
        rw [Nat.mul_one, Nat.add_zero, hy] at h1
        exact ⟨(hW2.cell (p := ⟨bw, offw + t, none⟩) hbw).trans h1, box_to (box_to HX1.out hBi.out) hW⟩
      have j6 : (t : Int) < (ws.length : Int) := by omega
      have HC3 := hide c3
      have HCALL := hide hcall
      clear p0 p1 hfe hs hy hfb hBr c3 hfv hcall hh1 hh2 htw
      cases hev : evF1 (vf vs) f with
      | true =>
        rw [hev] at HCALL hsn
        have HSN := hide hsn
        clear hev hsn
        go_wp2_with fail
        refine wp_region_held_drew (S := (fun w' => Below wr.heap.size wr w')) (by kernel_rfl) ?_ (fun hHeld => ?_)
        · try dsimp only
          exact (by repeat (first | exact Below.refl _ _ | assumption | refine Below.drew ?_ | refine Below.drewN ?_ _ | refine Below.allocT ?_ (Nat.le_refl _) _ | refine Below.setCell ?_ (by simp <;> omega) _ | refine Below.to ?_ (by assumption) (Nat.le_refl _)))
        refine wpAnyH_take (i := 0) (v := ?v29_0) rfl (by kernel_rfl) (by kernel_rfl) (by kernel_rfl) (fun _ _ _ h => h) (Or.inl ⟨by rfl, ?y29_0⟩) (by assumption) ?r29_0
        case' y29_0 => (intro w hSw; (try dsimp only at hSw); (try have hlS := HLK.out _ hSw); obtain ⟨hcS, hfS⟩ := bcell hSw; clear hSw; go_simp; try with_reducible rfl)
        try simp only [Act.put, List.getElem_toArray, List.getElem_cons_succ, List.getElem_cons_zero, List.setIfInBounds_toArray, List.set_cons_zero, List.set_cons_succ]
        refine wpAnyH_take (i := 1) (v := ?v29_1) rfl (by kernel_rfl) (by kernel_rfl) (by kernel_rfl) (fun _ _ _ h => h) (Or.inl ⟨by rfl, ?y29_1⟩) (by assumption) ?r29_1
        case' y29_1 => (intro w hSw; (try dsimp only at hSw); (try have hlS := HLK.out _ hSw); obtain ⟨hcS, hfS⟩ := bcell hSw; clear hSw; go_simp; try with_reducible rfl)
        try simp only [Act.put, List.getElem_toArray, List.getElem_cons_succ, List.getElem_cons_zero, List.setIfInBounds_toArray, List.set_cons_zero, List.set_cons_succ]
        refine wpAnyH_take (i := 2) (v := ?v29_2) rfl (by kernel_rfl) (by kernel_rfl) (by kernel_rfl) (fun _ _ _ h => h) (Or.inl ⟨by rfl, ?y29_2⟩) (by assumption) ?r29_2
        case' y29_2 => (intro w hSw; (try dsimp only at hSw); (try have hlS := HLK.out _ hSw); obtain ⟨hcS, hfS⟩ := bcell hSw; clear hSw; go_simp; try with_reducible rfl)
        try simp only [Act.put, List.getElem_toArray, List.getElem_cons_succ, List.getElem_cons_zero, List.setIfInBounds_toArray, List.set_cons_zero, List.set_cons_succ]
        refine wpAnyH_take (i := 3) (v := ?v29_3) rfl (by kernel_rfl) (by kernel_rfl) (by kernel_rfl) (fun _ _ _ h => h) (Or.inl ⟨by rfl, ?y29_3⟩) (by assumption) ?r29_3
        case' y29_3 => (intro w hSw; (try dsimp only at hSw); (try have hlS := HLK.out _ hSw); obtain ⟨hcS, hfS⟩ := bcell hSw; clear hSw; go_simp; try with_reducible rfl)
        try simp only [Act.put, List.getElem_toArray, List.getElem_cons_succ, List.getElem_cons_zero, List.setIfInBounds_toArray, List.set_cons_zero, List.set_cons_succ]
        refine wpAnyH_take (i := 4) (v := ?v29_4) rfl (by kernel_rfl) (by kernel_rfl) (by kernel_rfl) (fun _ _ _ h => h) (Or.inl ⟨by rfl, ?y29_4⟩) (by assumption) ?r29_4
        case' y29_4 => (intro w hSw; (try dsimp only at hSw); (try have hlS := HLK.out _ hSw); obtain ⟨hcS, hfS⟩ := bcell hSw; clear hSw; go_simp; try with_reducible rfl)
        try simp only [Act.put, List.getElem_toArray, List.getElem_cons_succ, List.getElem_cons_zero, List.setIfInBounds_toArray, List.set_cons_zero, List.set_cons_succ]
        refine wpAnyH_take (i := 5) (v := ?v29_5) rfl (by kernel_rfl) (by kernel_rfl) (by kernel_rfl) (fun _ _ _ h => h) (Or.inl ⟨by rfl, ?y29_5⟩) (by assumption) ?r29_5
        case' y29_5 => (intro w hSw; (try dsimp only at hSw); (try have hlS := HLK.out _ hSw); obtain ⟨hcS, hfS⟩ := bcell hSw; clear hSw; go_simp; try with_reducible rfl)
        try simp only [Act.put, List.getElem_toArray, List.getElem_cons_succ, List.getElem_cons_zero, List.setIfInBounds_toArray, List.set_cons_zero, List.set_cons_succ]
        refine wpAnyH_take (i := 6) (v := ?v29_6) rfl (by kernel_rfl) (by kernel_rfl) (by kernel_rfl) (fun _ _ _ h => h) (Or.inl ⟨by rfl, ?y29_6⟩) (by assumption) ?r29_6
        case' y29_6 => (intro w hSw; (try dsimp only at hSw); (try have hlS := HLK.out _ hSw); obtain ⟨hcS, hfS⟩ := bcell hSw; clear hSw; go_simp; try with_reducible rfl)
        try simp only [Act.put, List.getElem_toArray, List.getElem_cons_succ, List.getElem_cons_zero, List.setIfInBounds_toArray, List.set_cons_zero, List.set_cons_succ]
        refine wpAnyH_ready (rs := [7]) (by kernel_rfl) (by simp) ?_
        refine AllReadyH.cons rfl (fun K hK => ?_) AllReadyH.nil
        go_simp
        ((go_at_call 45; refine (HCALL.out _ (by assumption)).mono ?_; rintro e w1 ⟨rfl, hB1⟩))
        (try dsimp only)
        refine hK.out _ _ ?_ (fun hNext => ?_)
        · try dsimp only
          exact (by repeat (first | exact Below.refl _ _ | assumption | refine Below.drew ?_ | refine Below.drewN ?_ _ | refine Below.allocT ?_ (Nat.le_refl _) _ | refine Below.setCell ?_ (by simp <;> omega) _ | refine Below.to ?_ (by assumption) (Nat.le_refl _)))
        clear hK K hHeld
        have hHeld := hNext
        clear hNext
        (try dsimp only at hHeld)
        try simp only [Act.put, List.getElem_toArray, List.getElem_cons_succ, List.getElem_cons_zero, List.setIfInBounds_toArray, List.set_cons_zero, List.set_cons_succ]
        refine wpAnyH_take (i := 8) (v := ?v29_8) rfl (by kernel_rfl) (by kernel_rfl) (by kernel_rfl) (fun _ _ _ h => h) (Or.inl ⟨by rfl, ?y29_8⟩) (by assumption) ?r29_8
        case' y29_8 => (intro w hSw; (try dsimp only at hSw); (try have hlS := HLK.out _ hSw); obtain ⟨hcS, hfS⟩ := bcell hSw; clear hSw; go_simp; try with_reducible rfl)
        try simp only [Act.put, List.getElem_toArray, List.getElem_cons_succ, List.getElem_cons_zero, List.setIfInBounds_toArray, List.set_cons_zero, List.set_cons_succ]
        refine wpAnyH_take (i := 9) (v := ?v29_9) rfl (by kernel_rfl) (by kernel_rfl) (by kernel_rfl) (fun _ _ _ h => h) (Or.inl ⟨by rfl, ?y29_9⟩) (by assumption) ?r29_9
        case' y29_9 => (intro w hSw; (try dsimp only at hSw); (try have hlS := HLK.out _ hSw); obtain ⟨hcS, hfS⟩ := bcell hSw; clear hSw; go_simp; try with_reducible rfl)
        try simp only [Act.put, List.getElem_toArray, List.getElem_cons_succ, List.getElem_cons_zero, List.setIfInBounds_toArray, List.set_cons_zero, List.set_cons_succ]
        refine wpAnyH_take (i := 10) (v := ?v29_10) rfl (by kernel_rfl) (by kernel_rfl) (by kernel_rfl) (fun _ _ _ h => h) (Or.inl ⟨by rfl, ?y29_10⟩) (by assumption) ?r29_10
        case' y29_10 => (intro w hSw; (try dsimp only at hSw); (try have hlS := HLK.out _ hSw); obtain ⟨hcS, hfS⟩ := bcell hSw; clear hSw; go_simp; try with_reducible rfl)
        try simp only [Act.put, List.getElem_toArray, List.getElem_cons_succ, List.getElem_cons_zero, List.setIfInBounds_toArray, List.set_cons_zero, List.set_cons_succ]
        refine wpAnyH_take (i := 11) (v := ?v29_11) rfl (by kernel_rfl) (by kernel_rfl) (by kernel_rfl) (fun _ _ _ h => h) (Or.inl ⟨by rfl, ?y29_11⟩) (by assumption) ?r29_11
        case' y29_11 => (intro w hSw; (try dsimp only at hSw); (try have hlS := HLK.out _ hSw); obtain ⟨hcS, hfS⟩ := bcell hSw; clear hSw; go_simp; try with_reducible rfl)
        try simp only [Act.put, List.getElem_toArray, List.getElem_cons_succ, List.getElem_cons_zero, List.setIfInBounds_toArray, List.set_cons_zero, List.set_cons_succ]
        refine wpAnyH_take (i := 12) (v := ?v29_12) rfl (by kernel_rfl) (by kernel_rfl) (by kernel_rfl) (fun _ _ _ h => h) (Or.inl ⟨by rfl, ?y29_12⟩) (by assumption) ?r29_12
        case' y29_12 => (intro w hSw; (try dsimp only at hSw); (try have hlS := HLK.out _ hSw); obtain ⟨hcS, hfS⟩ := bcell hSw; clear hSw; go_simp; try with_reducible rfl)
        try simp only [Act.put, List.getElem_toArray, List.getElem_cons_succ, List.getElem_cons_zero, List.setIfInBounds_toArray, List.set_cons_zero, List.set_cons_succ]
        refine wpAnyH_done (by kernel_rfl) ?_ _
        obtain ⟨e0, hx⟩ := HC3.out _ hHeld
        have e1 := cellOf hx 0
        have e2 := cellOf hx 1
        clear hx
        go_wp2_with fail
        go_roundw
        case rel => exact ⟨t + 1, by omega, by go_num, by rw [HSN.out]; rfl, Below.to hBi.out hHeld (Nat.le_refl _)⟩
        case measure => simp [intOf]; omega
      | false =>
        rw [hev] at HCALL hsn
        have HSN := hide hsn
        clear hev hsn
        go_wp2_with fail
        refine wp_region_held_drew (S := (fun w' => Below wr.heap.size wr w')) (by kernel_rfl) ?_ (fun hHeld => ?_)
        · try dsimp only
          exact (by repeat (first | exact Below.refl _ _ | assumption | refine Below.drew ?_ | refine Below.drewN ?_ _ | refine Below.allocT ?_ (Nat.le_refl _) _ | refine Below.setCell ?_ (by simp <;> omega) _ | refine Below.to ?_ (by assumption) (Nat.le_refl _)))
        refine wpAnyH_take (i := 0) (v := ?v30_0) rfl (by kernel_rfl) (by kernel_rfl) (by kernel_rfl) (fun _ _ _ h => h) (Or.inl ⟨by rfl, ?y30_0⟩) (by assumption) ?r30_0
        case' y30_0 => (intro w hSw; (try dsimp only at hSw); (try have hlS := HLK.out _ hSw); obtain ⟨hcS, hfS⟩ := bcell hSw; clear hSw; go_simp; try with_reducible rfl)
        try simp only [Act.put, List.getElem_toArray, List.getElem_cons_succ, List.getElem_cons_zero, List.setIfInBounds_toArray, List.set_cons_zero, List.set_cons_succ]
        refine wpAnyH_take (i := 1) (v := ?v30_1) rfl (by kernel_rfl) (by kernel_rfl) (by kernel_rfl) (fun _ _ _ h => h) (Or.inl ⟨by rfl, ?y30_1⟩) (by assumption) ?r30_1
        case' y30_1 => (intro w hSw; (try dsimp only at hSw); (try have hlS := HLK.out _ hSw); obtain ⟨hcS, hfS⟩ := bcell hSw; clear hSw; go_simp; try with_reducible rfl)
        try simp only [Act.put, List.getElem_toArray, List.getElem_cons_succ, List.getElem_cons_zero, List.setIfInBounds_toArray, List.set_cons_zero, List.set_cons_succ]
        refine wpAnyH_take (i := 2) (v := ?v30_2) rfl (by kernel_rfl) (by kernel_rfl) (by kernel_rfl) (fun _ _ _ h => h) (Or.inl ⟨by rfl, ?y30_2⟩) (by assumption) ?r30_2
        case' y30_2 => (intro w hSw; (try dsimp only at hSw); (try have hlS := HLK.out _ hSw); obtain ⟨hcS, hfS⟩ := bcell hSw; clear hSw; go_simp; try with_reducible rfl)
        try simp only [Act.put, List.getElem_toArray, List.getElem_cons_succ, List.getElem_cons_zero, List.setIfInBounds_toArray, List.set_cons_zero, List.set_cons_succ]
        refine wpAnyH_take (i := 3) (v := ?v30_3) rfl (by kernel_rfl) (by kernel_rfl) (by kernel_rfl) (fun _ _ _ h => h) (Or.inl ⟨by rfl, ?y30_3⟩) (by assumption) ?r30_3
        case' y30_3 => (intro w hSw; (try dsimp only at hSw); (try have hlS := HLK.out _ hSw); obtain ⟨hcS, hfS⟩ := bcell hSw; clear hSw; go_simp; try with_reducible rfl)
        try simp only [Act.put, List.getElem_toArray, List.getElem_cons_succ, List.getElem_cons_zero, List.setIfInBounds_toArray, List.set_cons_zero, List.set_cons_succ]
        refine wpAnyH_take (i := 4) (v := ?v30_4) rfl (by kernel_rfl) (by kernel_rfl) (by kernel_rfl) (fun _ _ _ h => h) (Or.inl ⟨by rfl, ?y30_4⟩) (by assumption) ?r30_4
        case' y30_4 => (intro w hSw; (try dsimp only at hSw); (try have hlS := HLK.out _ hSw); obtain ⟨hcS, hfS⟩ := bcell hSw; clear hSw; go_simp; try with_reducible rfl)
        try simp only [Act.put, List.getElem_toArray, List.getElem_cons_succ, List.getElem_cons_zero, List.setIfInBounds_toArray, List.set_cons_zero, List.set_cons_succ]
        refine wpAnyH_take (i := 5) (v := ?v30_5) rfl (by kernel_rfl) (by kernel_rfl) (by kernel_rfl) (fun _ _ _ h => h) (Or.inl ⟨by rfl, ?y30_5⟩) (by assumption) ?r30_5
        case' y30_5 => (intro w hSw; (try dsimp only at hSw); (try have hlS := HLK.out _ hSw); obtain ⟨hcS, hfS⟩ := bcell hSw; clear hSw; go_simp; try with_reducible rfl)
        try simp only [Act.put, List.getElem_toArray, List.getElem_cons_succ, List.getElem_cons_zero, List.setIfInBounds_toArray, List.set_cons_zero, List.set_cons_succ]
        refine wpAnyH_take (i := 6) (v := ?v30_6) rfl (by kernel_rfl) (by kernel_rfl) (by kernel_rfl) (fun _ _ _ h => h) (Or.inl ⟨by rfl, ?y30_6⟩) (by assumption) ?r30_6
        case' y30_6 => (intro w hSw; (try dsimp only at hSw); (try have hlS := HLK.out _ hSw); obtain ⟨hcS, hfS⟩ := bcell hSw; clear hSw; go_simp; try with_reducible rfl)
        try simp only [Act.put, List.getElem_toArray, List.getElem_cons_succ, List.getElem_cons_zero, List.setIfInBounds_toArray, List.set_cons_zero, List.set_cons_succ]
        refine wpAnyH_ready (rs := [7]) (by kernel_rfl) (by simp) ?_
        refine AllReadyH.cons rfl (fun K hK => ?_) AllReadyH.nil
        go_simp
        ((go_at_call 45; refine (HCALL.out _ (by assumption)).mono ?_; rintro e w1 ⟨rfl, hB1⟩))
        (try dsimp only)
        refine hK.out _ _ ?_ (fun hNext => ?_)
        · try dsimp only
          exact (by repeat (first | exact Below.refl _ _ | assumption | refine Below.drew ?_ | refine Below.drewN ?_ _ | refine Below.allocT ?_ (Nat.le_refl _) _ | refine Below.setCell ?_ (by simp <;> omega) _ | refine Below.to ?_ (by assumption) (Nat.le_refl _)))
        clear hK K hHeld
        have hHeld := hNext
        clear hNext
        (try dsimp only at hHeld)
        try simp only [Act.put, List.getElem_toArray, List.getElem_cons_succ, List.getElem_cons_zero, List.setIfInBounds_toArray, List.set_cons_zero, List.set_cons_succ]
        refine wpAnyH_take (i := 8) (v := ?v30_8) rfl (by kernel_rfl) (by kernel_rfl) (by kernel_rfl) (fun _ _ _ h => h) (Or.inl ⟨by rfl, ?y30_8⟩) (by assumption) ?r30_8
        case' y30_8 => (intro w hSw; (try dsimp only at hSw); (try have hlS := HLK.out _ hSw); obtain ⟨hcS, hfS⟩ := bcell hSw; clear hSw; go_simp; try with_reducible rfl)
        try simp only [Act.put, List.getElem_toArray, List.getElem_cons_succ, List.getElem_cons_zero, List.setIfInBounds_toArray, List.set_cons_zero, List.set_cons_succ]
        refine wpAnyH_take (i := 9) (v := ?v30_9) rfl (by kernel_rfl) (by kernel_rfl) (by kernel_rfl) (fun _ _ _ h => h) (Or.inl ⟨by rfl, ?y30_9⟩) (by assumption) ?r30_9
        case' y30_9 => (intro w hSw; (try dsimp only at hSw); (try have hlS := HLK.out _ hSw); obtain ⟨hcS, hfS⟩ := bcell hSw; clear hSw; go_simp; try with_reducible rfl)
        try simp only [Act.put, List.getElem_toArray, List.getElem_cons_succ, List.getElem_cons_zero, List.setIfInBounds_toArray, List.set_cons_zero, List.set_cons_succ]
        refine wpAnyH_take (i := 10) (v := ?v30_10) rfl (by kernel_rfl) (by kernel_rfl) (by kernel_rfl) (fun _ _ _ h => h) (Or.inl ⟨by rfl, ?y30_10⟩) (by assumption) ?r30_10
        case' y30_10 => (intro w hSw; (try dsimp only at hSw); (try have hlS := HLK.out _ hSw); obtain ⟨hcS, hfS⟩ := bcell hSw; clear hSw; go_simp; try with_reducible rfl)
        try simp only [Act.put, List.getElem_toArray, List.getElem_cons_succ, List.getElem_cons_zero, List.setIfInBounds_toArray, List.set_cons_zero, List.set_cons_succ]
        refine wpAnyH_take (i := 11) (v := ?v30_11) rfl (by kernel_rfl) (by kernel_rfl) (by kernel_rfl) (fun _ _ _ h => h) (Or.inl ⟨by rfl, ?y30_11⟩) (by assumption) ?r30_11
        case' y30_11 => (intro w hSw; (try dsimp only at hSw); (try have hlS := HLK.out _ hSw); obtain ⟨hcS, hfS⟩ := bcell hSw; clear hSw; go_simp; try with_reducible rfl)
        try simp only [Act.put, List.getElem_toArray, List.getElem_cons_succ, List.getElem_cons_zero, List.setIfInBounds_toArray, List.set_cons_zero, List.set_cons_succ]
        refine wpAnyH_take (i := 12) (v := ?v30_12) rfl (by kernel_rfl) (by kernel_rfl) (by kernel_rfl) (fun _ _ _ h => h) (Or.inl ⟨by rfl, ?y30_12⟩) (by assumption) ?r30_12
        case' y30_12 => (intro w hSw; (try dsimp only at hSw); (try have hlS := HLK.out _ hSw); obtain ⟨hcS, hfS⟩ := bcell hSw; clear hSw; go_simp; try with_reducible rfl)
        try simp only [Act.put, List.getElem_toArray, List.getElem_cons_succ, List.getElem_cons_zero, List.setIfInBounds_toArray, List.set_cons_zero, List.set_cons_succ]
        refine wpAnyH_done (by kernel_rfl) ?_ _
        go_wp2_with fail
        go_roundw
        case rel => exact ⟨t + 1, by omega, by go_num, by rw [HSN.out]; simp, Below.to hBi.out hHeld (Nat.le_refl _)⟩
        case measure => simp [intOf]; omega
    · obtain rfl : t = l.length := by omega
      rw [List.take_length]
      obtain ⟨s, hs⟩ : ∃ s, fsum (vf vs) l ws = s := ⟨_, rfl⟩
      have HSS := hide hs
      rw [hs]
      clear hs hfb hBr
      go_wp2_with fail
      go_ret2
      exact ⟨by rw [HSS.out]; rfl, HBR.out⟩
end Go.Proofs.Ytohofcmikfkilaa
/- The first variant in which a node holds. Plain laws. -/
namespace Go.Proofs.Ytohofcmikfkilaa
set_option linter.unusedVariables false
structure HeadI (ks : List Kn) (N n : Nat) (l : List Bool) (m : Nat) : Prop where
  head : (sat ks N n []).head? = (sat ks N m l).head?
  ne : m ≠ 0
  lt : m < ks.length
  top : l.length ≤ topK ks m
theorem HeadI.start {ks : List Kn} {N n : Nat} (hn : n < ks.length) (h0 : n ≠ 0) : HeadI ks N n [] n := ⟨rfl, h0, hn, Nat.zero_le _⟩
theorem HeadI.next {ks : List Kn} {N n m : Nat} {l : List Bool} (hw : WF N ks) (h : HeadI ks N n l m) (hl : l.length < N) : HeadI ks N n (l ++ [decide (brK ks m l.length false = 0)]) (brK ks m l.length (decide (brK ks m l.length false = 0))) := by
  have hst := sat_step hw h.lt hl
  have hne := sat_ne hw h.lt h.ne h.top
  by_cases h0 : brK ks m l.length false = 0
  · have hd : decide (brK ks m l.length false = 0) = true := decide_eq_true h0
    rw [hd]
    rw [h0, sat_zero, List.nil_append] at hst
    refine ⟨h.head.trans (by rw [hst]), fun e => ?_, brK_lt hw h.lt hl, ?_⟩
    · rw [e, sat_zero] at hst
      exact hne hst
    · rw [List.length_append]; exact brK_top hw h.lt hl h.top
  · have hd : decide (brK ks m l.length false = 0) = false := decide_eq_false h0
    rw [hd]
    have hb := brK_lt hw (b := false) h.lt hl
    have htop : (l ++ [false]).length ≤ topK ks (brK ks m l.length false) := by rw [List.length_append]; exact brK_top hw h.lt hl h.top
    refine ⟨h.head.trans ?_, h0, hb, htop⟩
    rw [hst]
    have h5 := sat_ne hw hb h0 htop
    match sat ks N (brK ks m l.length false) (l ++ [false]), h5 with
    | [], h5 => exact absurd rfl h5
    | x :: r, _ => rfl
theorem HeadI.finish {ks : List Kn} {N n m : Nat} {l : List Bool} (hw : WF N ks) (h : HeadI ks N n l m) (hl : l.length = N) : (sat ks N n []).head? = some l := by
  have h1 : m = 1 := by
    rcases Nat.lt_or_ge m 2 with h2 | h2
    · have := h.ne; omega
    · have h3 := hw.opt m h2 h.lt
      have h4 := h.top
      omega
  rw [h.head, h1, sat_one, hl, Nat.sub_self]
  rfl
end Go.Proofs.Ytohofcmikfkilaa
/- The first variant in which a node holds: walk. -/
namespace Go.Proofs.Ytohofcmikfkilaa
open Go.RowKit
set_option linter.unusedVariables false
set_option linter.unusedSimpArgs false
set_option maxRecDepth 100000 in
theorem firstNo_any (F : Fo) (w : World) :
    Calls Try.prog 82 #[.pointer (some ⟨F.p, 0, none⟩), .int .i64 0] w fun e w' => e = .returned (.slice none 0 0) ∧ w = w' := by
  go_enter Try.func82, Try.ntmps82
  go_wp2_with fail
  go_ret
  exact ⟨rfl, rfl⟩
def FirR (F : Fo) (n : Nat) (w : World) (e : Ending) (w' : World) : Prop := ∃ x : List Bool, e = .returned (.slice (some ⟨w.heap.size, 0, none⟩) F.N F.N) ∧ VarAt w' w.heap.size F.N x ∧ x.length = F.N ∧ (sat F.ks F.N n []).head? = some x ∧ Below w.heap.size w w'
set_option maxRecDepth 100000 in
set_option maxHeartbeats 4000000 in
theorem firstYes_any (F : Fo) (n : Nat) (w : World) (h : FoAt w F) (hn : n < F.ks.length) (h0 : n ≠ 0) (hN : F.N ≤ 12) :
    Calls Try.prog 82 #[.pointer (some ⟨F.p, 0, none⟩), .int .i64 n] w (FirR F n w) := by
  obtain ⟨i1, hi1, jz0, jz1, jz2⟩ := info_parts infoBool
  have hmk : ∀ W : World, (Instr.makeSlice 29 (.int .i64 F.N) (.int .i64 F.N)).run Try.prog W = .ok (.slice (some ⟨W.heap.size, 0, none⟩) F.N F.N) (W.alloc (.cells (madeCells #[.bool false] (F.N * 1)) 4)) := fun W => by
    have h1 := run_make (P := Try.prog) W 29 4 i1 (.bool false) Try.underlying29 hi1 jz0 .i64 .i64 F.N F.N (by omega) (Int.le_refl _) (by rw [jz2]; omega) (by omega)
    rw [jz1] at h1
    simpa [Value.cells] using h1
  have d0 := h.cellN
  have h01 : ((n : Int) == 0) = false := by simp; omega
  have HS := hide (HeadI.start (N := F.N) hn h0)
  have H := hide h
  clear h hn h0
  go_enter Try.func82, Try.ntmps82
  go_wp2_with fail
  generalize hw0 : World.alloc _ _ = w0
  obtain ⟨hb0, hB0, hs0⟩ := alloc1 hw0
  clear hw0
  have hva : VarAt w0 w.heap.size F.N [] := by
    unfold VarAt
    rw [hb0, made_bools]
    rfl
  have HVA := hide hva
  have HB0 := hide hB0
  clear hb0 hB0 hs0 hva hmk
  go_loopw [1, 16] (fun nv i wr => ∃ (k : Nat) (l : List Bool) (m : Nat), k ≤ F.N ∧ l.length = k ∧ i = .int .i64 k ∧ nv = .int .i64 m ∧ Hid (HeadI F.ks F.N n l m) ∧ Hid (VarAt wr w.heap.size F.N l) ∧ Hid (Below w.heap.size w wr)) (fun _ i _ => F.N - (intOf i).toNat)
  case atStart => exact ⟨0, [], n, Nat.zero_le _, rfl, rfl, rfl, HS.out, HVA.out, HB0.out⟩
  case round =>
    obtain ⟨k, l, m, hk, hll, rfl, rfl, hI, hV, hB⟩ := hrel
    by_cases hlt : k < F.N
    · have hF := H.out.below hB.out
      have e0 := hF.cellN
      have hb1 := branch_any F m k false wr hF hI.out.lt
      have HF := hide hF
      have hnx := hI.out.next hF.wf (by omega)
      rw [hll] at hnx
      obtain ⟨c, hc⟩ : ∃ c, brK F.ks m k false = c := ⟨_, rfl⟩
      obtain ⟨b, hb⟩ : ∃ b, decide (c = 0) = b := ⟨_, rfl⟩
      rw [hc, hb] at hnx
      rw [hc] at hb1
      have hcb : ((c : Int) == 0) = b := by
        rw [← hb]
        by_cases h0 : c = 0
        · simp [h0]
        · simp [h0]
      have HB1 := hide hb1
      have HNX := hide hnx
      have HLL := hide hll
      have j0 : (k : Int) < (F.N : Int) := by omega
      have v0 : wr.cell? ⟨w.heap.size, k, none⟩ = some (.bool false) := by rw [← hll]; exact hV.out.cell (by omega)
      clear hF hb1 hnx hll hc hb
      go_wp2_with fail
      refine HB1.out.mono ?_
      rintro e w1 ⟨rfl, hB1⟩
      have hV1 := hV.out.below hB1
      have x0 : w1.cell? ⟨w.heap.size, k, none⟩ = some (.bool false) := by rw [← HLL.out]; exact hV1.cell (by rw [HLL.out]; exact hlt)
      have x1 : w1.frozen? ⟨w.heap.size, k, none⟩ = false := unfrozenOf hV1 _
      have HV1 := hide hV1
      have HB1' := hide hB1
      clear hV1 hB1 v0
      go_wp2_with fail
      generalize hw9 : World.setCell _ _ _ = w9
      have hV9 : VarAt w9 w.heap.size F.N (l ++ [b]) := by
        rw [← hw9]
        have h1 := HV1.out.set (by rw [HLL.out]; exact hlt) b
        rw [HLL.out] at h1
        exact h1
      have hB9 : Below w.heap.size w w9 := by
        rw [← hw9]
        exact (Below.to hB.out HB1'.out (Nat.le_refl _)).setCell (Nat.le_refl _) _
      have y0 : w9.cell? ⟨w.heap.size, k, none⟩ = some (.bool b) := by
        rw [cellOf hV9]
        have hk1 : k < (l ++ [b]).length := by simp [HLL.out]
        simp [List.getElem?_append, HLL.out]
      have hb2 := branch_any F m k b w9 (H.out.below hB9) hI.out.lt
      have HB2 := hide hb2
      have HV9 := hide hV9
      have HB9 := hide hB9
      clear hw9 hV9 hB9 x0 x1 hb2
      go_wp2_with fail
      refine HB2.out.mono ?_
      rintro e w10 ⟨rfl, hB10⟩
      have HB10 := hide hB10
      clear hB10 y0
      go_wp2_with fail
      go_roundw
      case rel => exact ⟨k + 1, l ++ [b], _, by omega, by simp [HLL.out], by go_num, rfl, HNX.out, HV9.out.below HB10.out, Below.to HB9.out HB10.out (Nat.le_refl _)⟩
      case measure => simp [intOf]; omega
    · obtain rfl : k = F.N := by omega
      have hfin := hI.out.finish H.out.wf hll
      have HFIN := hide hfin
      have HLL := hide hll
      clear hfin hll
      go_wp2_with fail
      go_ret
      exact ⟨l, rfl, hV.out, HLL.out, HFIN.out, hB.out⟩
end Go.Proofs.Ytohofcmikfkilaa
/- Whether formulas can be met; whether one implies another: walks. -/
namespace Go.Proofs.Ytohofcmikfkilaa
open Go.RowKit
set_option linter.unusedVariables false
set_option linter.unusedSimpArgs false
theorem all_beg {m : Mo} {w w1 w2 : World} {F F1 : Fo} {n k : Nat} {l : List (List Int)} {lv : Value} (h : BegR m w w1 F n) (hN : m.opts.length ≤ 12) (r : OpR k w1 F w2 F1) (hl : l.length ≤ 200) (hk : k + 102 * l.length ≤ 200000) (hf : Forms w w.heap.size lv l) (hv : ∀ f ∈ l, validF m.opts.length f = true) :
    Calls Try.prog 74 #[.pointer (some ⟨F.p, 0, none⟩), lv] w2
      fun e w' => ∃ g F', e = .returned (.int .i64 (g : Nat)) ∧ OpR (k + 102 * l.length) w1 F w' F' ∧ OpR (102 * l.length) w2 F1 w' F' ∧ g < F'.ks.length ∧ ∀ v, ev F'.ks v g = allF v l := by
  have hc := all_any F1 l lv w2 r.st.here (by rw [r.st.ba]; exact Nat.le_trans h.base2 r.st.keep.size) (by rw [r.st.N, h.N]; exact hv) (by
    rw [r.st.ba]
    exact (hf.below (r.low h)).more h.base) (by omega) ((h.room hN (k := k + 102 * l.length) hk |>.step r))
  rw [r.st.p] at hc
  refine hc.mono ?_
  rintro e w' ⟨g, F', rfl, r1, r2, r3⟩
  exact ⟨g, F', rfl, r.trans r1, r1, r2, r3⟩
theorem not_beg {m : Mo} {w w1 w2 : World} {F F1 : Fo} {n k x : Nat} (h : BegR m w w1 F n) (hN : m.opts.length ≤ 12) (r : OpR k w1 F w2 F1) (hk : k + 1 ≤ 200000) (hx : x < F1.ks.length) :
    Calls Try.prog 83 #[.pointer (some ⟨F.p, 0, none⟩), .int .i64 x] w2
      fun e w' => ∃ g F', e = .returned (.int .i64 (g : Nat)) ∧ OpR (k + 1) w1 F w' F' ∧ OpR 1 w2 F1 w' F' ∧ g < F'.ks.length ∧ ∀ v, ev F'.ks v g = !ev F1.ks v x := by
  have hc := not_any F1 x w2 r.st.here hx ((h.room hN (k := k + 1) hk |>.step r))
  rw [r.st.p] at hc
  refine hc.mono ?_
  rintro e w' ⟨g, F', rfl, r1, r2, r3⟩
  exact ⟨g, F', rfl, r.trans r1, r1, r2, r3⟩
/-- A variant (or none), whether so, and an error. -/
def MeeP (x : List Bool) (is : Bool) (er : Int) (w : World) (e : Ending) (w' : World) : Prop := ∃ v, e = .returned (.tuple #[v, .bool is, .int .i64 er]) ∧ Bols w' w'.heap.size v x ∧ Below w.heap.size w w'
/-- What Meets returns. -/
def meeL (m : Mo) (l : List (List Int)) : List (List Bool) := satM m fun v => allF v l
def meeX (m : Mo) (l : List (List Int)) : List Bool := if frmE m l = 0 then (meeL m l).head?.getD [] else []
def meeB (m : Mo) (l : List (List Int)) : Bool := if frmE m l = 0 then !(meeL m l).isEmpty else false
theorem mee_bad {m : Mo} {l : List (List Int)} (h : frmE m l ≠ 0) : meeX m l = [] ∧ meeB m l = false := by unfold meeX meeB; rw [if_neg h, if_neg h]; exact ⟨rfl, rfl⟩
theorem mee_no {m : Mo} {l : List (List Int)} (h : frmE m l = 0) (h2 : meeL m l = []) : meeX m l = [] ∧ meeB m l = false := by unfold meeX meeB; rw [if_pos h, if_pos h, h2]; exact ⟨rfl, rfl⟩
theorem mee_yes {m : Mo} {l : List (List Int)} {x : List Bool} (h : frmE m l = 0) (h2 : (meeL m l).head? = some x) : meeX m l = x ∧ meeB m l = true := by
  unfold meeX meeB
  rw [if_pos h, if_pos h, h2]
  match meeL m l, h2 with
  | a :: r, _ => exact ⟨rfl, rfl⟩
theorem MeeP.bad {x : List Bool} {b : Bool} {er : Int} {w w' : World} (h : x = [] ∧ b = false) (hb : Below w.heap.size w w') : MeeP x b er w (.returned (.tuple #[.slice none 0 0, .bool false, .int .i64 er])) w' := by
  obtain ⟨rfl, rfl⟩ := h
  exact ⟨_, rfl, Sl.nil _ _ _ _, hb⟩
/-- What Implies returns. -/
def impL (m : Mo) (f g : List Int) : List (List Bool) := satM m fun v => evF1 v f && !evF1 v g
def impX (m : Mo) (f g : List Int) : List Bool := if m.errF [f, g] = 0 then (impL m f g).head?.getD [] else []
def impB (m : Mo) (f g : List Int) : Bool := if m.errF [f, g] = 0 then (impL m f g).isEmpty else false
theorem imp_bad {m : Mo} {f g : List Int} (h : m.errF [f, g] ≠ 0) : impX m f g = [] ∧ impB m f g = false := by unfold impX impB; rw [if_neg h, if_neg h]; exact ⟨rfl, rfl⟩
theorem imp_yes {m : Mo} {f g : List Int} (h : m.errF [f, g] = 0) (h2 : impL m f g = []) : impX m f g = [] ∧ impB m f g = true := by unfold impX impB; rw [if_pos h, if_pos h, h2]; exact ⟨rfl, rfl⟩
theorem imp_no {m : Mo} {f g : List Int} {x : List Bool} (h : m.errF [f, g] = 0) (h2 : (impL m f g).head? = some x) : impX m f g = x ∧ impB m f g = false := by
  unfold impX impB
  rw [if_pos h, if_pos h, h2]
  match impL m f g, h2 with
  | a :: r, _ => exact ⟨rfl, rfl⟩
theorem FirR.bols {F : Fo} {b : Nat} {w' : World} {x : List Bool} (hV : VarAt w' b F.N x) (hx : x.length = F.N) : Bols w' w'.heap.size (.slice (some ⟨b, 0, none⟩) F.N F.N) x := by
  have h1 := VarAt.bols (w := w') (b := b) (l := x) (by rw [hx]; exact hV)
  rw [hx] at h1
  exact h1
/-- first, in one: the variant that it gives. -/
def FstP (F : Fo) (n : Nat) (w : World) (e : Ending) (w' : World) : Prop := ∃ v, e = .returned v ∧ Bols w' w'.heap.size v ((sat F.ks F.N n []).head?.getD []) ∧ Below w.heap.size w w'
theorem first_any (F : Fo) (n : Nat) (w : World) (h : FoAt w F) (hn : n < F.ks.length) (hN : F.N ≤ 12) :
    Calls Try.prog 82 #[.pointer (some ⟨F.p, 0, none⟩), .int .i64 n] w (FstP F n w) := by
  by_cases h0 : n = 0
  · subst h0
    refine (firstNo_any F w).mono ?_
    rintro e w' ⟨rfl, rfl⟩
    refine ⟨_, rfl, ?_, Below.refl _ _⟩
    rw [sat_zero]
    exact Sl.nil _ _ _ _
  · refine (firstYes_any F n w h hn h0 hN).mono ?_
    rintro e w' ⟨x, rfl, h1, h2, h3, h4⟩
    refine ⟨_, rfl, ?_, h4⟩
    rw [h3]
    exact FirR.bols h1 h2
/-- Whether a node is no. -/
theorem node_no {F : Fo} {w : World} {n : Nat} (h : FoAt w F) (hn : n < F.ks.length) : decide (n = 0) = (sat F.ks F.N n []).isEmpty := by
  by_cases h0 : n = 0
  · rw [h0, sat_zero]; rfl
  · have h1 := sat_ne h.wf hn h0 (l := []) (Nat.zero_le _)
    rw [decide_eq_false h0]
    match sat F.ks F.N n [], h1 with
    | a :: r, _ => rfl
theorem forms_two {w : World} {b B : Nat} {fv gv : Value} {f g : List Int} {t : Nat} (hb : w.heap[b]? = some (.cells #[fv, gv] t (0, 0))) (hB : b < B) (h : Ints w B fv f) (h2 : Ints w B gv g) : Forms w B (.slice (some ⟨b, 0, none⟩) 2 2) [f, g] :=
  ⟨fun i => if i = 0 then fv else gv, ⟨_, b, 0, 2, rfl, Nat.le_refl _, .inl ⟨rfl, hB⟩, fun i j hi hj => by
    simp at hi
    obtain rfl : j = 0 := by omega
    rcases (by omega : i = 0 ∨ i = 1) with rfl | rfl
    · exact cellOf hb 0
    · exact cellOf hb 1⟩, fun i hi => by
    simp at hi
    rcases (by omega : i = 0 ∨ i = 1) with rfl | rfl
    · exact h
    · exact h2⟩
theorem sized_two {f g : List Int} (h : f.length ≤ maxLen) (h2 : g.length ≤ maxLen) : Sized [f, g] := ⟨by unfold maxLen; simp, fun x hg => by simp at hg; rcases hg with rfl | rfl <;> assumption⟩
set_option maxRecDepth 100000 in
set_option maxHeartbeats 4000000 in
theorem Meets_model (m : Mo) (l : List (List Int)) (ov rv lv : Value) (w : World) (hs : SizedM m) (hl : Sized l) (h : MoAt w w.heap.size ov rv m) (hf : Forms w w.heap.size lv l) (hm : m.err ≠ 0) :
    Calls Try.prog 41 #[.agg #[ov, rv], lv] w (MeeP (meeX m l) (meeB m l) (frmE m l) w) := by
  obtain ⟨A, cap, hov⟩ := Sl.form h.o
  obtain ⟨Ar, capr, hrv⟩ := h.r.form
  obtain ⟨Al, capl, hlv⟩ := hf.form
  have H := hide h
  have HF := hide hf
  have HS := hide hs
  have HL := hide hl
  subst hov hrv hlv
  have hee := frm_err (l := l) hm
  have hbad := mee_bad (l := l) (by rw [hee]; exact hm)
  obtain ⟨z, hz⟩ : ∃ z, m.err = z := ⟨_, rfl⟩
  rw [hz] at hm hee
  have hz1 : (z != 0) = true := by simpa using hm
  have HM := hide hz
  have HEE := hide hee
  have HBAD := hide hbad
  clear h hf hs hl hm hz hee hbad
  go_enter Try.func41, Try.ntmps41
  go_upto_region 1 with (fail)
  generalize hw0 : World.alloc _ _ = w0
  obtain ⟨hb0, hB0, hs0⟩ := alloc1 hw0
  clear hw0
  have c0 := cellOf hb0 0
  have c1 := cellOf hb0 1
  have HX0 : Hid (MoBox w0 w.heap.size (.slice A m.opts.length cap) (.slice Ar m.rules.length capr)) := hb0
  have HB0 := hide hB0
  have hck := CheckModel_any m (.slice A m.opts.length cap) (.slice Ar m.rules.length capr) w0 HS.out (H.out.up hB0)
  have HCK := hide hck
  clear hb0 hB0 hs0 hck
  go_wp2_with (go_at_call 24; refine HCK.out.mono ?_; rw [HM.out]; rintro e w1 ⟨rfl, hB1⟩; have hbx := box_to HX0.out hB1; have d0 := cellOf hbx 0; have d1 := cellOf hbx 1; have HB1 : Hid (Below w.heap.size w w1) := Below.to HB0.out hB1 (Nat.le_refl _); clear hbx hB1 c0 c1)
  go_ret3
  rw [HEE.out]
  exact MeeP.bad HBAD.out HB1.out
set_option maxRecDepth 100000 in
set_option maxHeartbeats 4000000 in
theorem Meets_many (m : Mo) (l : List (List Int)) (ov rv lv : Value) (w : World) (hs : SizedM m) (hl : Sized l) (h : MoAt w w.heap.size ov rv m) (hf : Forms w w.heap.size lv l) (hm : m.err = 0) (h200 : 200 < l.length) :
    Calls Try.prog 41 #[.agg #[ov, rv], lv] w (MeeP (meeX m l) (meeB m l) (frmE m l) w) := by
  obtain ⟨A, cap, hov⟩ := Sl.form h.o
  obtain ⟨Ar, capr, hrv⟩ := h.r.form
  obtain ⟨Al, capl, hlv⟩ := hf.form
  have H := hide h
  have HF := hide hf
  have HS := hide hs
  have HL := hide hl
  subst hov hrv hlv
  have hee := frm_many (l := l) hm h200
  have hbad := mee_bad (l := l) (by rw [hee]; omega)
  have hz1 : (200 : Int) < (l.length : Int) := by omega
  have HM := hide hm
  have HEE := hide hee
  have HBAD := hide hbad
  clear h hf hs hl hm hee h200 hbad
  go_enter Try.func41, Try.ntmps41
  go_upto_region 1 with (fail)
  generalize hw0 : World.alloc _ _ = w0
  obtain ⟨hb0, hB0, hs0⟩ := alloc1 hw0
  clear hw0
  have c0 := cellOf hb0 0
  have c1 := cellOf hb0 1
  have HX0 : Hid (MoBox w0 w.heap.size (.slice A m.opts.length cap) (.slice Ar m.rules.length capr)) := hb0
  have HB0 := hide hB0
  have hck := CheckModel_any m (.slice A m.opts.length cap) (.slice Ar m.rules.length capr) w0 HS.out (H.out.up hB0)
  have HCK := hide hck
  clear hb0 hB0 hs0 hck
  go_wp2_with (go_at_call 24; refine HCK.out.mono ?_; rw [HM.out]; rintro e w1 ⟨rfl, hB1⟩; have hbx := box_to HX0.out hB1; have d0 := cellOf hbx 0; have d1 := cellOf hbx 1; have HB1 : Hid (Below w.heap.size w w1) := Below.to HB0.out hB1 (Nat.le_refl _); clear hbx hB1 c0 c1)
  go_ret3
  rw [HEE.out]
  exact MeeP.bad HBAD.out HB1.out
set_option maxRecDepth 100000 in
set_option maxHeartbeats 4000000 in
theorem Meets_form (m : Mo) (l : List (List Int)) (ov rv lv : Value) (w : World) (hs : SizedM m) (hl : Sized l) (h : MoAt w w.heap.size ov rv m) (hf : Forms w w.heap.size lv l) (hm : m.err = 0) (h200 : l.length ≤ 200) (he : m.errF l ≠ 0) :
    Calls Try.prog 41 #[.agg #[ov, rv], lv] w (MeeP (meeX m l) (meeB m l) (frmE m l) w) := by
  obtain ⟨A, cap, hov⟩ := Sl.form h.o
  obtain ⟨Ar, capr, hrv⟩ := h.r.form
  obtain ⟨Al, capl, hlv⟩ := hf.form
  have H := hide h
  have HF := hide hf
  have HS := hide hs
  have HL := hide hl
  subst hov hrv hlv
  have hee := frm_rest (l := l) hm h200
  have hbad := mee_bad (l := l) (by rw [hee]; exact he)
  have hz1 : ¬ (200 : Int) < (l.length : Int) := by omega
  obtain ⟨z, hz⟩ : ∃ z, m.errF l = z := ⟨_, rfl⟩
  have HE0 := hide he
  rw [hz] at he hee
  have hz2 : (z != 0) = true := by simpa using he
  have HM := hide hm
  have HZ := hide hz
  have HEE := hide hee
  have HBAD := hide hbad
  clear h hf hs hl hm hee h200 he hz hbad
  go_enter Try.func41, Try.ntmps41
  go_upto_region 1 with (fail)
  generalize hw0 : World.alloc _ _ = w0
  obtain ⟨hb0, hB0, hs0⟩ := alloc1 hw0
  clear hw0
  have c0 := cellOf hb0 0
  have c1 := cellOf hb0 1
  have HX0 : Hid (MoBox w0 w.heap.size (.slice A m.opts.length cap) (.slice Ar m.rules.length capr)) := hb0
  have HB0 := hide hB0
  have hck := CheckModel_any m (.slice A m.opts.length cap) (.slice Ar m.rules.length capr) w0 HS.out (H.out.up hB0)
  have HCK := hide hck
  clear hb0 hB0 hs0 hck
  go_wp2_with (first | (go_at_call 24; refine HCK.out.mono ?_; rw [HM.out]; rintro e w1 ⟨rfl, hB1⟩; have hbx := box_to HX0.out hB1; have d0 := cellOf hbx 0; have d1 := cellOf hbx 1; have HB1 : Hid (Below w.heap.size w w1) := Below.to HB0.out hB1 (Nat.le_refl _); clear hbx hB1 c0 c1) | (go_at_call 60; refine (begin_err m l _ _ _ _ HS.out HL.out (H.out.up HB1.out) (HF.out.up HB1.out) HE0.out).mono ?_; rw [HZ.out]; rintro e w2 ⟨rfl, hB2⟩; have HB2 : Hid (Below w.heap.size w w2) := Below.to HB1.out hB2 (Nat.le_refl _); clear hB2))
  go_ret3
  rw [HEE.out]
  exact MeeP.bad HBAD.out HB2.out
set_option maxRecDepth 100000 in
set_option maxHeartbeats 4000000 in
theorem Meets_ok (m : Mo) (l : List (List Int)) (ov rv lv : Value) (w : World) (hs : SizedM m) (hl : Sized l) (h : MoAt w w.heap.size ov rv m) (hf : Forms w w.heap.size lv l) (he : m.errF l = 0) (hN : m.opts.length ≤ 12) (h200 : l.length ≤ 200) :
    Calls Try.prog 41 #[.agg #[ov, rv], lv] w (MeeP (meeX m l) (meeB m l) (frmE m l) w) := by
  obtain ⟨A, cap, hov⟩ := Sl.form h.o
  obtain ⟨Ar, capr, hrv⟩ := h.r.form
  obtain ⟨Al, capl, hlv⟩ := hf.form
  have H := hide h
  have HF := hide hf
  have HS := hide hs
  have HL := hide hl
  subst hov hrv hlv
  have hm := (Mo.okF he).1
  have hfr : frmE m l = 0 := by rw [frm_rest hm h200]; exact he
  have hz1 : ¬ (200 : Int) < (l.length : Int) := by omega
  have HE := hide he
  have HM := hide hm
  have HFR := hide hfr
  clear h hf hs hl hm he hfr
  go_enter Try.func41, Try.ntmps41
  go_upto_region 1 with (fail)
  generalize hw0 : World.alloc _ _ = w0
  obtain ⟨hb0, hB0, hs0⟩ := alloc1 hw0
  clear hw0
  have c0 := cellOf hb0 0
  have c1 := cellOf hb0 1
  have HX0 : Hid (MoBox w0 w.heap.size (.slice A m.opts.length cap) (.slice Ar m.rules.length capr)) := hb0
  have HB0 := hide hB0
  have hck := CheckModel_any m (.slice A m.opts.length cap) (.slice Ar m.rules.length capr) w0 HS.out (H.out.up hB0)
  have HCK := hide hck
  clear hb0 hB0 hs0 hck
  go_wp2_with (first | (go_at_call 24; refine HCK.out.mono ?_; rw [HM.out]; rintro e w1 ⟨rfl, hB1⟩; have hbx := box_to HX0.out hB1; have d0 := cellOf hbx 0; have d1 := cellOf hbx 1; have HB1 : Hid (Below w.heap.size w w1) := Below.to HB0.out hB1 (Nat.le_refl _); clear hbx hB1 c0 c1) | (go_at_call 60; refine (begin_ok m l _ _ _ _ HS.out HL.out (H.out.up HB1.out) (HF.out.up HB1.out) HE.out hN).mono ?_; rintro e w2 ⟨F, n, rfl, r1⟩; have R1 : Hid (BegR m w w2 F n) := r1.of HB1.out; clear r1 d0 d1))
  refine (all_beg R1.out hN R1.out.op h200 (by omega) HF.out (Mo.okF HE.out).2).mono ?_
  rintro e w3 ⟨g, F2, rfl, r2, r3, hg, r4⟩
  have R2 := hide r2
  have R4 := hide r4
  have R3 := hide r3
  have hn2 : n < F2.ks.length := Nat.lt_of_lt_of_le R1.out.lt r3.st.le
  clear r2 r3 r4
  go_wp2_with fail
  refine (and_beg (l := [n, g]) R1.out hN R2.out (by omega) (by simp) (by intro x hx; simp at hx; rcases hx with rfl | rfl <;> assumption)).mono ?_
  rintro e w4 ⟨x, F3, rfl, r5, r6, hx, r7⟩
  have hN3 : F3.N = m.opts.length := r5.st.N.trans R1.out.N
  have hsat : sat F3.ks F3.N x [] = meeL m l := satM_node (p := fun v => allF v l) hN3 (fun v => by rw [r7 v, List.all_cons, List.all_cons, List.all_nil, R4.out v, R3.out.st.ev R1.out.here.wf R1.out.lt, R1.out.ev v, Bool.and_true])
  have hfi := first_any F3 x w4 r5.st.here hx (by omega)
  rw [r5.st.p] at hfi
  have hno := node_no r5.st.here hx
  rw [hsat] at hno
  have hx1 : ((x : Int) != 0) = !(meeL m l).isEmpty := by
    rw [← hno]
    by_cases h0 : x = 0
    · simp [h0]
    · simp [h0]
  obtain ⟨b, hb⟩ : ∃ b, (meeL m l).isEmpty = b := ⟨_, rfl⟩
  rw [hb] at hx1
  have HSAT := hide hsat
  have HFI := hide hfi
  have HLOW := hide (r5.low R1.out)
  have HB := hide hb
  clear r5 r6 r7 hN3 hsat hfi hno hb
  go_wp2_with fail
  refine HFI.out.mono ?_
  rintro e w5 ⟨v5, rfl, hv5, hB5⟩
  obtain ⟨A5, cap5, hA5⟩ := Sl.form hv5
  rw [HSAT.out] at hv5
  have HV5 := hide hv5
  have HB5 := hide hB5
  clear hA5 hv5 hB5
  go_wp2_with fail
  go_ret3
  rw [HFR.out]
  refine ⟨v5, ?_, ?_, Below.to HLOW.out HB5.out (Nat.le_refl _)⟩
  · unfold meeB
    rw [HFR.out, if_pos rfl, HB.out]
    rfl
  · unfold meeX
    rw [HFR.out, if_pos rfl]
    exact HV5.out
theorem Meets_any (m : Mo) (l : List (List Int)) (ov rv lv : Value) (w : World) (hs : SizedM m) (hl : Sized l) (h : MoAt w w.heap.size ov rv m) (hf : Forms w w.heap.size lv l) (hN : m.err = 0 → m.opts.length ≤ 12) :
    Calls Try.prog 41 #[.agg #[ov, rv], lv] w (MeeP (meeX m l) (meeB m l) (frmE m l) w) := by
  by_cases hm : m.err = 0
  · by_cases h200 : l.length ≤ 200
    · by_cases he : m.errF l = 0
      · exact Meets_ok m l ov rv lv w hs hl h hf he (hN hm) h200
      · exact Meets_form m l ov rv lv w hs hl h hf hm h200 he
    · exact Meets_many m l ov rv lv w hs hl h hf hm (by omega)
  · exact Meets_model m l ov rv lv w hs hl h hf hm
set_option maxRecDepth 100000 in
set_option maxHeartbeats 4000000 in
theorem Implies_err (m : Mo) (f g : List Int) (ov rv fv gv : Value) (w : World) (hs : SizedM m) (hl : f.length ≤ maxLen) (hl2 : g.length ≤ maxLen) (h : MoAt w w.heap.size ov rv m) (hf : Ints w w.heap.size fv f) (hg : Ints w w.heap.size gv g) (he : m.errF [f, g] ≠ 0) :
    Calls Try.prog 43 #[.agg #[ov, rv], fv, gv] w (MeeP (impX m f g) (impB m f g) (m.errF [f, g]) w) := by
  obtain ⟨A, cap, hov⟩ := Sl.form h.o
  obtain ⟨Ar, capr, hrv⟩ := h.r.form
  obtain ⟨Al, capl, hlv⟩ := Sl.form hf
  obtain ⟨Ag, capg, hgv⟩ := Sl.form hg
  have H := hide h
  have HF := hide hf
  have HG := hide hg
  subst hov hrv hlv hgv
  have hB2 : Below w.heap.size w ((w.alloc (.cells #[.slice A m.opts.length cap, .slice Ar m.rules.length capr] 25)).alloc (.cells #[.slice Al f.length capl, .slice Ag g.length capg] 35)) := (by repeat (first | exact Below.refl _ _ | assumption | refine Below.drew ?_ | refine Below.drewN ?_ _ | refine Below.allocT ?_ (Nat.le_refl _) _ | refine Below.setCell ?_ (by simp <;> omega) _ | refine Below.to ?_ (by assumption) (Nat.le_refl _)))
  have hbe := begin_err m [f, g] (.slice A m.opts.length cap) (.slice Ar m.rules.length capr) (.slice (some ⟨w.heap.size + 1, 0, none⟩) 2 2) _ hs (sized_two hl hl2) (h.up hB2) (forms_two (heap_new _ _ _ (by simp)) (by simp) (hf.up hB2) (hg.up hB2)) he
  have hbad := imp_bad he
  have hne : (m.errF [f, g] != 0) = true := by simpa using he
  obtain ⟨z, hz⟩ : ∃ z, m.errF [f, g] = z := ⟨_, rfl⟩
  rw [hz] at hne hbe
  have HZ := hide hz
  have HBE := hide hbe
  have HBAD := hide hbad
  clear h hf hg hz he hbe hB2 hbad
  go_enter Try.func43, Try.ntmps43
  go_wp2_with (go_at_call 60; refine HBE.out.mono ?_; rintro e w1 ⟨rfl, hB1⟩)
  go_ret3
  rw [HZ.out]
  exact MeeP.bad HBAD.out (by repeat (first | exact Below.refl _ _ | assumption | refine Below.drew ?_ | refine Below.drewN ?_ _ | refine Below.allocT ?_ (Nat.le_refl _) _ | refine Below.setCell ?_ (by simp <;> omega) _ | refine Below.to ?_ (by assumption) (Nat.le_refl _)))
set_option maxRecDepth 100000 in
set_option maxHeartbeats 4000000 in
theorem Implies_ok (m : Mo) (f g : List Int) (ov rv fv gv : Value) (w : World) (hs : SizedM m) (hl : f.length ≤ maxLen) (hl2 : g.length ≤ maxLen) (h : MoAt w w.heap.size ov rv m) (hf : Ints w w.heap.size fv f) (hg : Ints w w.heap.size gv g) (he : m.errF [f, g] = 0) (hN : m.opts.length ≤ 12) :
    Calls Try.prog 43 #[.agg #[ov, rv], fv, gv] w (MeeP (impX m f g) (impB m f g) (m.errF [f, g]) w) := by
  obtain ⟨A, cap, hov⟩ := Sl.form h.o
  obtain ⟨Ar, capr, hrv⟩ := h.r.form
  obtain ⟨Al, capl, hlv⟩ := Sl.form hf
  obtain ⟨Ag, capg, hgv⟩ := Sl.form hg
  have H := hide h
  have HF := hide hf
  have HG := hide hg
  subst hov hrv hlv hgv
  have hB2 : Below w.heap.size w ((w.alloc (.cells #[.slice A m.opts.length cap, .slice Ar m.rules.length capr] 25)).alloc (.cells #[.slice Al f.length capl, .slice Ag g.length capg] 35)) := (by repeat (first | exact Below.refl _ _ | assumption | refine Below.drew ?_ | refine Below.drewN ?_ _ | refine Below.allocT ?_ (Nat.le_refl _) _ | refine Below.setCell ?_ (by simp <;> omega) _ | refine Below.to ?_ (by assumption) (Nat.le_refl _)))
  have hbe := begin_ok m [f, g] (.slice A m.opts.length cap) (.slice Ar m.rules.length capr) (.slice (some ⟨w.heap.size + 1, 0, none⟩) 2 2) _ hs (sized_two hl hl2) (h.up hB2) (forms_two (heap_new _ _ _ (by simp)) (by simp) (hf.up hB2) (hg.up hB2)) he hN
  have HBE := hide hbe
  have HE := hide he
  have HOK := hide (Mo.okF he)
  clear h hf hg he hbe hB2
  go_enter Try.func43, Try.ntmps43
  go_wp2_with (go_at_call 60; refine HBE.out.mono ?_; rintro e w1 ⟨F, n, rfl, r1⟩; have R1 : Hid (BegR m w w1 F n) := r1.of (by repeat (first | exact Below.refl _ _ | assumption | refine Below.drew ?_ | refine Below.drewN ?_ _ | refine Below.allocT ?_ (Nat.le_refl _) _ | refine Below.setCell ?_ (by simp <;> omega) _ | refine Below.to ?_ (by assumption) (Nat.le_refl _))); clear r1)
  refine (grow_beg R1.out hN R1.out.op (by omega) HF.out (HOK.out.2 f (by simp))).mono ?_
  rintro e w2 ⟨a, F2, rfl, r2, r3, ha, r4⟩
  have R2 := hide r2
  have R3 := hide r3
  have R4 := hide r4
  clear r2 r3 r4
  go_wp2_with fail
  refine (grow_beg R1.out hN R2.out (by omega) HG.out (HOK.out.2 g (by simp))).mono ?_
  rintro e w3 ⟨b, F3, rfl, r5, r6, hb, r7⟩
  have R5 := hide r5
  have R6 := hide r6
  have R7 := hide r7
  clear r5 r6 r7
  go_wp2_with fail
  refine (not_beg R1.out hN R5.out (by omega) hb).mono ?_
  rintro e w4 ⟨c, F4, rfl, r8, r9, hc, r10⟩
  have R8 := hide r8
  have hev4 : ∀ v, ev F4.ks v n = allF v m.rules ∧ ev F4.ks v a = evF1 v f ∧ ev F4.ks v c = !evF1 v g := fun v => by
    have hn2 := Nat.lt_of_lt_of_le R1.out.lt R3.out.st.le
    have hn3 := Nat.lt_of_lt_of_le hn2 R6.out.st.le
    have ha3 := Nat.lt_of_lt_of_le ha R6.out.st.le
    refine ⟨?_, ?_, ?_⟩
    · rw [r9.st.ev R5.out.st.here.wf hn3, R6.out.st.ev R2.out.st.here.wf hn2, R3.out.st.ev R1.out.here.wf R1.out.lt, R1.out.ev v]
    · rw [r9.st.ev R5.out.st.here.wf ha3, R6.out.st.ev R2.out.st.here.wf ha, R4.out v]
    · rw [r10 v, R7.out v]
  have HEV := hide hev4
  have hn4 : n < F4.ks.length := Nat.lt_of_lt_of_le (Nat.lt_of_lt_of_le (Nat.lt_of_lt_of_le R1.out.lt R3.out.st.le) R6.out.st.le) r9.st.le
  have ha4 : a < F4.ks.length := Nat.lt_of_lt_of_le (Nat.lt_of_lt_of_le ha R6.out.st.le) r9.st.le
  clear r8 r9 r10 hev4
  go_wp2_with fail
  refine (and_beg (l := [n, a, c]) R1.out hN R8.out (by omega) (by simp) (by intro x hx; simp at hx; rcases hx with rfl | rfl | rfl <;> assumption)).mono ?_
  rintro e w5 ⟨x, F5, rfl, r11, _, hx, r12⟩
  have hN3 : F5.N = m.opts.length := r11.st.N.trans R1.out.N
  have hsat : sat F5.ks F5.N x [] = impL m f g := satM_node (p := fun v => evF1 v f && !evF1 v g) hN3 (fun v => by rw [r12 v, List.all_cons, List.all_cons, List.all_cons, List.all_nil, (HEV.out v).1, (HEV.out v).2.1, (HEV.out v).2.2, Bool.and_true])
  have hfi := first_any F5 x w5 r11.st.here hx (by omega)
  rw [r11.st.p] at hfi
  have hno := node_no r11.st.here hx
  rw [hsat] at hno
  have hx1 : ((x : Int) == 0) = (impL m f g).isEmpty := by
    rw [← hno]
    by_cases h0 : x = 0
    · simp [h0]
    · simp [h0]
  obtain ⟨y, hy⟩ : ∃ b, (impL m f g).isEmpty = b := ⟨_, rfl⟩
  rw [hy] at hx1
  have HSAT := hide hsat
  have HFI := hide hfi
  have HLOW := hide (r11.low R1.out)
  have HB := hide hy
  clear r11 r12 hN3 hsat hfi hno hy
  go_wp2_with fail
  refine HFI.out.mono ?_
  rintro e w6 ⟨v6, rfl, hv6, hB6⟩
  rw [HSAT.out] at hv6
  have HV6 := hide hv6
  have HB6 := hide hB6
  clear hv6 hB6
  go_wp2_with fail
  go_ret3
  rw [HE.out]
  refine ⟨v6, ?_, ?_, Below.to HLOW.out HB6.out (Nat.le_refl _)⟩
  · unfold impB
    rw [HE.out, if_pos rfl, HB.out]
    rfl
  · unfold impX
    rw [HE.out, if_pos rfl]
    exact HV6.out
theorem Implies_any (m : Mo) (f g : List Int) (ov rv fv gv : Value) (w : World) (hs : SizedM m) (hl : f.length ≤ maxLen) (hl2 : g.length ≤ maxLen) (h : MoAt w w.heap.size ov rv m) (hf : Ints w w.heap.size fv f) (hg : Ints w w.heap.size gv g) (hN : m.err = 0 → m.opts.length ≤ 12) :
    Calls Try.prog 43 #[.agg #[ov, rv], fv, gv] w (MeeP (impX m f g) (impB m f g) (m.errF [f, g]) w) := by
  by_cases he : m.errF [f, g] = 0
  · exact Implies_ok m f g ov rv fv gv w hs hl hl2 h hf hg he (hN (Mo.okF he).1)
  · exact Implies_err m f g ov rv fv gv w hs hl hl2 h hf hg he
end Go.Proofs.Ytohofcmikfkilaa
/- Meets and Implies as the elder program has them: walks. -/
namespace Go.Proofs.Ytohofcmikfkilaa
open Go.RowKit
set_option linter.unusedVariables false
set_option linter.unusedSimpArgs false
/-- Those of the buildable variants in which the first k formulas hold. -/
def whereK (m : Mo) (l : List (List Int)) (k : Nat) : List (List Bool) := (l.take k).foldl whereF (allM m)
theorem whereK_succ {m : Mo} {l : List (List Int)} {k : Nat} (hk : k < l.length) : whereK m l (k + 1) = whereF (whereK m l k) (l.getD k []) := by
  unfold whereK
  rw [take_getD (z := []) hk, List.foldl_append]
  rfl
theorem whereK_mem (l : List (List Int)) : ∀ (M : List (List Bool)) (x : List Bool), x ∈ l.foldl whereF M → x ∈ M := by
  induction l with
  | nil => intro M x h; exact h
  | cons f l ih => intro M x h; exact whereF_mem (ih _ _ h)
theorem whereK_len (l : List (List Int)) : ∀ (M : List (List Bool)), (l.foldl whereF M).length ≤ M.length := by
  induction l with
  | nil => intro M; exact Nat.le_refl _
  | cons f l ih => intro M; exact Nat.le_trans (ih _) (whereF_le _ _)
theorem foldl_where (l : List (List Int)) : ∀ (M : List (List Bool)), l.foldl whereF M = M.filter fun x => allF (vf x) l := by
  induction l with
  | nil => intro M; exact (List.filter_eq_self.2 (fun _ _ => rfl)).symm
  | cons f l ih =>
    intro M
    simp only [List.foldl_cons, ih, whereF, List.filter_filter]
    refine List.filter_congr fun x _ => ?_
    simp only [allF, List.all_cons]
    rw [Bool.and_comm]
theorem whereK_all (m : Mo) (l : List (List Int)) : whereK m l l.length = meeL m l := by
  unfold whereK meeL
  rw [List.take_length, foldl_where, satM_all]
set_option maxRecDepth 100000 in
set_option maxHeartbeats 4000000 in
theorem rMeets_any (m : Mo) (l : List (List Int)) (ov rv lv : Value) (w : World) (hs : SizedM m) (hl : Sized l) (h : MoAt w w.heap.size ov rv m) (hf : Forms w w.heap.size lv l) (hN : m.err = 0 → m.opts.length ≤ 12) :
    Calls Try.prog 42 #[.agg #[ov, rv], lv] w (MeeP (meeX m l) (meeB m l) (frmE m l) w) := by
  obtain ⟨A, cap, hov⟩ := Sl.form h.o
  obtain ⟨Ar, capr, hrv⟩ := h.r.form
  have HFO := hide hf
  obtain ⟨fvs, ⟨Al, bl, offl, capl, rfl, hncl, hAl, hcl⟩, hfi⟩ := hf
  have H := hide h
  have HS := hide hs
  have HAL := hide hAl
  have HCL := hide hcl
  have HFI := hide hfi
  have HL := hide hl
  have HN := hide hN
  subst hov hrv
  clear h hs hAl hcl hfi hl hN
  go_enter Try.func42, Try.ntmps42
  go_upto_region 1 with (fail)
  generalize hw0 : World.alloc _ _ = w0
  obtain ⟨hb0, hB0, hs0⟩ := alloc1 hw0
  clear hw0
  have HX0 : Hid (MoBox w0 w.heap.size (.slice A m.opts.length cap) (.slice Ar m.rules.length capr)) := hb0
  have HB0 := hide hB0
  have c0 := cellOf hb0 0
  have c1 := cellOf hb0 1
  have hck := rcheckForms_any m l (.slice A m.opts.length cap) (.slice Ar m.rules.length capr) (.slice Al l.length capl) w0 HS.out HL.out (H.out.up hB0) (HFO.out.up hB0)
  have HCK := hide hck
  clear hb0 hB0 hs0 hck
  by_cases he : frmE m l = 0
  · have HE := hide he
    obtain ⟨heF, hl200⟩ := frm_ok he
    have HEF := hide (Mo.okF heF)
    have hN2 := HN.out (Mo.okF heF).1
    clear he heF
    go_wp2_with (first | (go_at_call 64; refine HCK.out.mono ?_; rw [HE.out]; rintro e w1 ⟨rfl, hB1⟩; have hbx := box_to HX0.out hB1; have d0 := cellOf hbx 0; have d1 := cellOf hbx 1; have HB1 : Hid (Below w.heap.size w w1) := Below.to HB0.out hB1 (Nat.le_refl _); clear hbx hB1 c0 c1) | (go_at_call 65; refine (Variants_any m _ _ _ (H.out.up HB1.out) HEF.out.1 hN2).mono ?_; rintro e w2 ⟨v2, rfl, hv2, hB2⟩; have HV2 := hide hv2.rows; have HB2 : Hid (Below w.heap.size w w2) := Below.to HB1.out hB2 (Nat.le_refl _); clear hv2 hB2 d0 d1))
    go_loopw [8, 9] (fun av i wr => ∃ k : Nat, k ≤ l.length ∧ i = .int .i64 k ∧ Hid (Vars wr wr.heap.size av (whereK m l k)) ∧ Hid (Below w.heap.size w wr)) (fun _ i _ => l.length - (intOf i).toNat)
    case atStart => exact ⟨0, Nat.zero_le _, rfl, HV2.out, HB2.out⟩
    case round =>
      obtain ⟨k, hk, rfl, hV, hB⟩ := hrel
      obtain ⟨A1, cap1, hA1⟩ := hV.out.form
      subst hA1
      have hm4 : (whereK m l k).length ≤ 4096 := Nat.le_trans (whereK_len _ _) (allM_le4 hN2)
      obtain ⟨M, hM⟩ : ∃ M, whereK m l k = M := ⟨_, rfl⟩
      rw [hM] at hV hm4
      have hMl : ∀ x ∈ M, x.length = m.opts.length := fun x hx => by
        rw [← hM] at hx
        exact allM_len (whereK_mem _ _ _ hx)
      rw [hM]
      have HM := hide hM
      have HML := hide hMl
      clear hM hMl
      by_cases hkl : k < l.length
      · obtain ⟨rfl, hbb, Af, capf, p0, p1⟩ := rows_get (enc := Value.int .i64) (z := 0) HAL.out HCL.out HFI.out hkl
        obtain ⟨f, hfe⟩ : ∃ f, l.getD k [] = f := ⟨_, rfl⟩
        rw [hfe] at p0 p1
        have hfv : validF m.opts.length f = true := HEF.out.2 f (by rw [← hfe]; exact getD_mem hkl)
        have c2 : wr.cell? ⟨bl, offl + k, none⟩ = some (.slice Af f.length capf) := (hB.out.cell (p := ⟨bl, offl + k, none⟩) hbb).trans p0
        have hwh := Where_any m.opts.length M f (.slice A1 M.length cap1) (.slice Af f.length capf) wr hV.out (GRow.up (enc := Value.int .i64) (z := 0) p1 hB.out) HML.out hfv (by omega)
        have HWH := hide hwh
        have hws := whereK_succ (m := m) hkl
        rw [HM.out, hfe] at hws
        have HWS := hide hws
        have j0 : (k : Int) < (l.length : Int) := by omega
        clear p0 p1 hfe hfv hwh hws
        go_wp2_with (go_at_call 75; refine HWH.out.mono ?_; rintro e w3 ⟨v3, rfl, hv3, hB3⟩; have HV3 := hide hv3.rows; have HB3 := hide hB3; clear hv3 hB3)
        go_roundw
        case rel => exact ⟨k + 1, by omega, by go_num, by rw [HWS.out]; exact HV3.out, Below.to hB.out HB3.out (Nat.le_refl _)⟩
        case measure => simp [intOf]; omega
      · obtain rfl : k = l.length := by omega
        have hall : meeL m l = M := by rw [← whereK_all]; exact HM.out
        have HALL := hide hall
        by_cases hM0 : M = []
        · subst hM0
          have HBAD := hide (mee_no HE.out hall)
          clear hall
          go_wp2_with fail
          go_ret3
          rw [HE.out]
          exact MeeP.bad HBAD.out hB.out
        · have hpos : 0 < M.length := List.length_pos_iff.2 hM0
          have hMl : ((M.length : Int) == 0) = false := by simp; omega
          obtain ⟨x, hx⟩ : ∃ x, M.getD 0 [] = x := ⟨_, rfl⟩
          have hhead : (meeL m l).head? = some x := by
            rw [hall, ← hx]
            match M, hpos with
            | a :: r, _ => rfl
          have HYES := hide (mee_yes HE.out hhead)
          obtain ⟨rvs, ⟨A9, bm, offm, cap9, hse, hncm, hAm, hcm⟩, hrm⟩ := hV.out
          injection hse with e1 e2 e3
          subst e1
          obtain ⟨rfl, hbm, Ax, capx, q0, q1⟩ := rows_get (enc := Value.bool) (z := false) hAm hcm hrm hpos
          rw [hx] at q0 q1
          rw [Nat.add_zero] at q0
          have j0 : (0 : Int) < (M.length : Int) := by omega
          have HQ1 := hide q1
          clear hall hM0 hhead hx hAm hcm hrm q1 e2 e3 hncm
          go_wp2_with fail
          go_ret3
          rw [HE.out, HYES.out.1, HYES.out.2]
          exact ⟨_, rfl, HQ1.out, hB.out⟩
  · have hbad := mee_bad he
    obtain ⟨z, hz⟩ : ∃ z, frmE m l = z := ⟨_, rfl⟩
    rw [hz] at he
    have hz1 : (z != 0) = true := by simpa using he
    have HZ := hide hz
    have HBAD := hide hbad
    clear he hz hbad
    go_wp2_with (go_at_call 64; refine HCK.out.mono ?_; rw [HZ.out]; rintro e w1 ⟨rfl, hB1⟩)
    go_ret3
    rw [HZ.out]
    exact MeeP.bad HBAD.out (Below.to HB0.out hB1 (Nat.le_refl _))
theorem errF_left {m : Mo} {f g : List Int} (h : m.errF [f] ≠ 0) : m.errF [f, g] = m.errF [f] := by
  by_cases hm : m.err = 0
  · rw [Mo.errF_ok hm] at h ⊢
    rw [Mo.errF_ok hm]
    cases hf : validF m.opts.length f with
    | true => simp [hf] at h
    | false => simp [hf]
  · rw [Mo.errF_err hm, Mo.errF_err hm]
theorem errF_right {m : Mo} {f g : List Int} (h : m.errF [f] = 0) : m.errF [f, g] = m.errF [g] := by
  obtain ⟨hm, hf⟩ := Mo.okF h
  rw [Mo.errF_ok hm, Mo.errF_ok hm, List.all_cons, hf f (by simp), Bool.true_and]
theorem impL_where (m : Mo) (f g : List Int) : impL m f g = (whereF (allM m) f).filter fun x => !evF1 (vf x) g := by
  unfold impL whereF
  rw [satM_all, List.filter_filter]
  exact List.filter_congr fun x _ => by rw [Bool.and_comm]
set_option maxRecDepth 100000 in
set_option maxHeartbeats 4000000 in
theorem rImplies_any (m : Mo) (f g : List Int) (ov rv fv gv : Value) (w : World) (hs : SizedM m) (hl : f.length ≤ maxLen) (hl2 : g.length ≤ maxLen) (h : MoAt w w.heap.size ov rv m) (hf : Ints w w.heap.size fv f) (hg : Ints w w.heap.size gv g) (hN : m.err = 0 → m.opts.length ≤ 12) :
    Calls Try.prog 44 #[.agg #[ov, rv], fv, gv] w (MeeP (impX m f g) (impB m f g) (m.errF [f, g]) w) := by
  obtain ⟨A, cap, hov⟩ := Sl.form h.o
  obtain ⟨Ar, capr, hrv⟩ := h.r.form
  obtain ⟨Al, capl, hlv⟩ := Sl.form hf
  obtain ⟨Ag, capg, hgv⟩ := Sl.form hg
  have H := hide h
  have HF := hide hf
  have HG := hide hg
  have HS := hide hs
  have HN := hide hN
  subst hov hrv hlv hgv
  clear h hf hg hs hN
  go_enter Try.func44, Try.ntmps44
  go_upto_region 1 with (fail)
  generalize hw0 : World.alloc _ _ = w0
  obtain ⟨hb0, hB0, hs0⟩ := alloc1 hw0
  clear hw0
  have HX0 : Hid (MoBox w0 w.heap.size (.slice A m.opts.length cap) (.slice Ar m.rules.length capr)) := hb0
  have HB0 := hide hB0
  have c0 := cellOf hb0 0
  have c1 := cellOf hb0 1
  have hck := rCheckFormula_any m f (.slice A m.opts.length cap) (.slice Ar m.rules.length capr) (.slice Al f.length capl) w0 HS.out hl (H.out.up hB0) (HF.out.up hB0)
  have HCK := hide hck
  clear hb0 hB0 hs0 hck
  by_cases he : m.errF [f] = 0
  · have HE := hide he
    have hfg := errF_right (g := g) he
    have hm := (Mo.okF he).1
    have HFV := hide ((Mo.okF he).2 f (by simp))
    have hN2 := HN.out hm
    have HM := hide hm
    have HFG := hide hfg
    clear he hfg hm
    go_upto_region 4 with (go_at_call 27; refine HCK.out.mono ?_; rw [HE.out]; rintro e w1 ⟨rfl, hB1⟩; have hbx := box_to HX0.out hB1; have d0 := cellOf hbx 0; have d1 := cellOf hbx 1; have HX1 := hide hbx; have HB1 : Hid (Below w.heap.size w w1) := Below.to HB0.out hB1 (Nat.le_refl _); clear hbx hB1 c0 c1)
    have hck := rCheckFormula_any m g (.slice A m.opts.length cap) (.slice Ar m.rules.length capr) (.slice Ag g.length capg) w1 HS.out hl2 (H.out.up HB1.out) (HG.out.up HB1.out)
    rw [← HFG.out] at hck
    have HCK2 := hide hck
    clear hck
    by_cases hg0 : m.errF [f, g] = 0
    · have HG0 := hide hg0
      have HGV := hide ((Mo.okF hg0).2 g (by simp))
      clear hg0
      have hle := Nat.le_trans (whereF_le (allM m) f) (allM_le4 hN2)
      obtain ⟨M, hM⟩ : ∃ M, whereF (allM m) f = M := ⟨_, rfl⟩
      have hMl : ∀ x ∈ M, x.length = m.opts.length := fun x hx => by
        rw [← hM] at hx
        exact allM_len (whereF_mem hx)
      have himp := impL_where m f g
      rw [hM] at himp hle
      have HM2 := hide hM
      have HML := hide hMl
      have HIMP := hide himp
      clear hM hMl himp
      go_upto_region 7 with (go_at_call 27; refine HCK2.out.mono ?_; rw [HG0.out]; rintro e w2 ⟨rfl, hB2⟩; have hbx := box_to HX1.out hB2; have c0 := cellOf hbx 0; have c1 := cellOf hbx 1; have HB2 : Hid (Below w.heap.size w w2) := Below.to HB1.out hB2 (Nat.le_refl _); clear hbx hB2 d0 d1)
      go_wp2_with (first | (go_at_call 65; refine (Variants_any m _ _ _ (H.out.up HB2.out) HM.out hN2).mono ?_; rintro e w3 ⟨v3, rfl, hv3, hB3⟩; obtain ⟨A3, cap3, hA3, _, _⟩ := hv3.form; subst hA3; have HV3 := hide hv3; have HB3 : Hid (Below w.heap.size w w3) := Below.to HB2.out hB3 (Nat.le_refl _); clear hv3 hB3 c0 c1) | (go_at_call 75; refine (Where_any m.opts.length (allM m) f _ _ _ HV3.out.rows (HF.out.up HB3.out) (fun x hx => allM_len hx) HFV.out (by have := allM_le4 hN2; omega)).mono ?_; rw [HM2.out]; rintro e w4 ⟨v4, rfl, hv4, hB4⟩; obtain ⟨A4, cap4, hA4, hc3, hc4⟩ := hv4.form; subst hA4; have HV4 := hide hv4.rows; have HB4 : Hid (Below w.heap.size w w4) := Below.to HB3.out hB4 (Nat.le_refl _); clear hv4 hB4))
      obtain ⟨rvs, ⟨A9, bm, offm, cap9, hse, hncm, hAm, hcm⟩, hrm⟩ := HV4.out
      injection hse with e1 e2 e3
      subst e1 e3
      have HAM := hide hAm
      have HCM := hide hcm
      have HRM := hide hrm
      clear hAm hcm hrm e2
      go_loop [12] (fun i => ∃ k : Nat, k ≤ M.length ∧ i = .int .i64 k ∧ Hid (∀ j, j < k → evF1 (vf (M.getD j [])) g = true)) (fun i => M.length - (intOf i).toNat)
      case atStart => exact ⟨0, Nat.zero_le _, rfl, fun j hj => by omega⟩
      case round =>
        obtain ⟨k, hk, rfl, hall⟩ := hrel
        by_cases hkl : k < M.length
        · obtain ⟨rfl, hbm, Ax, capx, q0, q1⟩ := rows_get (enc := Value.bool) (z := false) HAM.out HCM.out HRM.out hkl
          obtain ⟨x, hx⟩ : ∃ x, M.getD k [] = x := ⟨_, rfl⟩
          rw [hx] at q0 q1
          have hxN : x.length = m.opts.length := HML.out x (by rw [← hx]; exact getD_mem hkl)
          have htr := True_any g m.opts.length x (.slice Ag g.length capg) (.slice Ax x.length capx) w4.heap.size w4 (GRow.up (enc := Value.int .i64) (z := 0) HG.out HB4.out) q1 hxN HGV.out
          have j0 : (k : Int) < (M.length : Int) := by omega
          have HX := hide hx
          have HQ1 := hide q1
          clear hx q1 hxN
          cases hev : evF1 (vf x) g with
          | true =>
            rw [hev] at htr
            have HTR := hide htr
            have HEV := hide hev
            clear hev htr
            go_wp2_with (go_at_call 66; refine HTR.out.mono ?_; rintro e w5 ⟨rfl, rfl⟩)
            go_round
            case rel => exact ⟨k + 1, by omega, by go_num, fun j hj => by
                rcases Nat.lt_or_ge j k with h | h
                · exact hall.out j h
                · rw [show j = k from by omega, HX.out]; exact HEV.out⟩
            case measure => simp [intOf]; omega
          | false =>
            rw [hev] at htr
            have HTR := hide htr
            have hhead : (impL m f g).head? = some x := by
              rw [HIMP.out, List.head?_filter, ← HX.out]
              exact find_first [] _ M k hkl (by rw [HX.out]; simp [hev]) (fun j hj => by rw [hall.out j hj]; rfl)
            have HNO := hide (imp_no HG0.out hhead)
            clear hev htr hhead
            go_wp2_with (go_at_call 66; refine HTR.out.mono ?_; rintro e w5 ⟨rfl, rfl⟩)
            go_ret3
            rw [HG0.out, HNO.out.1, HNO.out.2]
            exact ⟨_, rfl, HQ1.out, HB4.out⟩
        · have hempty : impL m f g = [] := by
            rw [HIMP.out, List.filter_eq_nil_iff]
            intro x hx
            obtain ⟨j, hj, rfl⟩ := List.getElem_of_mem hx
            have := hall.out j (by omega)
            rw [List.getD_eq_getElem?_getD, List.getElem?_eq_getElem hj, Option.getD_some] at this
            simp [this]
          have HYES := hide (imp_yes HG0.out hempty)
          clear hempty
          go_wp2_with fail
          go_ret3
          rw [HG0.out, HYES.out.1, HYES.out.2]
          exact ⟨_, rfl, Sl.nil _ _ _ _, HB4.out⟩
    · have hbad := imp_bad hg0
      obtain ⟨z, hz⟩ : ∃ z, m.errF [f, g] = z := ⟨_, rfl⟩
      rw [hz] at hg0
      have hz1 : (z != 0) = true := by simpa using hg0
      have HZ := hide hz
      have HBAD := hide hbad
      clear hg0 hz hbad
      go_wp2_with (go_at_call 27; refine HCK2.out.mono ?_; rw [HZ.out]; rintro e w2 ⟨rfl, hB2⟩)
      go_ret3
      rw [HZ.out]
      exact MeeP.bad HBAD.out (Below.to HB1.out hB2 (Nat.le_refl _))
  · have hee := errF_left (g := g) he
    have hbad := imp_bad (g := g) (by rw [hee]; exact he)
    obtain ⟨z, hz⟩ : ∃ z, m.errF [f] = z := ⟨_, rfl⟩
    rw [hz] at he hee
    have hz1 : (z != 0) = true := by simpa using he
    have HZ := hide hz
    have HEE := hide hee
    have HBAD := hide hbad
    clear he hz hbad hee
    go_wp2_with (go_at_call 27; refine HCK.out.mono ?_; rw [HZ.out]; rintro e w1 ⟨rfl, hB1⟩)
    go_ret3
    rw [HEE.out]
    exact MeeP.bad HBAD.out (Below.to HB0.out hB1 (Nat.le_refl _))
end Go.Proofs.Ytohofcmikfkilaa
/- Arguments opened: sums and pairs of formulas; lengths of the answers. No condition. -/
namespace Go.Proofs.Ytohofcmikfkilaa
open Go.Joins Go.ChangeShapes Go.WideShapes Go.ChangeAt Go.RowKit Go.Deep
set_option maxRecDepth 100000
set_option linter.unusedVariables false
set_option linter.unusedSimpArgs false
section
variable {H : Type} {enc : TypeId × Value → H} {W : World} {base b0 : Nat} {r : Reach} {spare : Nat → Bool} {held : Bool} {v : Value} {d : DataW H} {p : List MemPlace}
theorem open_two (hv : Value.okWide Try.prog W r b0 59 v) (h : DataW.Trod enc Try.prog W base spare held 59 v d p) :
    ∃ (fv gv : Value) (f g : List Int), v = .agg #[fv, gv] ∧ Ints W W.heap.size fv f ∧ f.length ≤ maxLen ∧ Ints W W.heap.size gv g ∧ g.length ≤ maxLen := by
  obtain ⟨c0, c1, y0, y1, n, rfl, _, _, hy0, hy1⟩ := open_agg2 Try.underlying59 (by kernel_rfl) (by kernel_rfl) hv h
  obtain ⟨f, hf, hfl, _⟩ := ints_cell Try.underlying35 hy0
  obtain ⟨g, hg, hgl, _⟩ := ints_cell Try.underlying35 hy1
  exact ⟨c0, c1, f, g, rfl, hf, hfl, hg, hgl⟩
end
theorem satM_in {m : Mo} {p : (Nat → Bool) → Bool} {x : List Bool} (h : x ∈ satM m p) : x.length = m.opts.length ∧ allF (vf x) m.rules = true ∧ p (vf x) = true := by
  rw [satM_all, List.mem_filter] at h
  refine ⟨allM_len h.1, ?_, h.2⟩
  have h1 := h.1
  unfold allM at h1
  exact (List.mem_filter.1 h1).2
theorem head_in {α : Type} {l : List α} {x : α} (h : l.head? = some x) : x ∈ l := by
  match l, h with
  | a :: r, h => injection h with h; subst h; exact List.mem_cons_self
theorem headD_len {m : Mo} {p : (Nat → Bool) → Bool} (hN : m.opts.length ≤ 12) : ((satM m p).head?.getD []).length ≤ 1000 := by
  cases hh : (satM m p).head? with
  | none => simp
  | some x =>
    have := (satM_in (head_in hh)).1
    simp only [Option.getD_some]
    omega
theorem meeX_le {m : Mo} {l : List (List Int)} (hN : m.err = 0 → m.opts.length ≤ 12) : (meeX m l).length ≤ 1000 := by
  unfold meeX
  split
  · rename_i h
    exact headD_len (hN (Mo.okF (frm_ok h).1).1)
  · simp
theorem impX_le {m : Mo} {f g : List Int} (hN : m.err = 0 → m.opts.length ≤ 12) : (impX m f g).length ≤ 1000 := by
  unfold impX
  split
  · rename_i h
    exact headD_len (hN (Mo.okF h).1)
  · simp
theorem bui_yes1 {m : Mo} {vs : List Bool} (h : m.err = 0) (h2 : vs.length = m.opts.length) (h3 : allF (vf vs) m.rules = true) : buiR m vs = -1 ∧ buiB m vs = true ∧ buiE m vs = 0 := by
  obtain ⟨h4, h5, h6⟩ := bui_ok h h2
  have h7 := fst_neg h3
  rw [h7] at h5 h6
  exact ⟨h5, h6.trans (by simp), h4⟩
theorem bui_inv1 {m : Mo} {vs : List Bool} (he : buiE m vs = 0) (hb : buiB m vs = true) : m.err = 0 ∧ vs.length = m.opts.length ∧ allF (vf vs) m.rules = true := by
  have h0 := he
  unfold buiE at h0
  split at h0
  · rename_i h1; exact absurd h0 h1
  · rename_i h1
    split at h0
    · omega
    · rename_i h2
      have h3 : m.err = 0 := by omega
      have h4 : vs.length = m.opts.length := by omega
      refine ⟨h3, h4, ?_⟩
      obtain ⟨_, _, h5⟩ := bui_ok h3 h4
      rw [hb] at h5
      cases hf : allF (vf vs) m.rules with
      | true => rfl
      | false =>
        have := fst_pos hf
        have h6 := h5.symm
        rw [decide_eq_true_eq] at h6
        omega
end Go.Proofs.Ytohofcmikfkilaa

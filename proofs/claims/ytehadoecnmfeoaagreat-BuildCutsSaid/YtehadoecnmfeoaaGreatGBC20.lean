/- Part 20 of this claim's texts: walks and plain laws. -/
import Derived.Test.YtehadoecnmfeoaaGreatRows
import Derived.Test.YtehadoecnmfeoaaGreatGBC19
import Derived.Test.YtehadoecnmfeoaaGreatGBC18
import Derived.Laws.EntriesVeiled
import Derived.Deep.DeepMust
import Derived.Deep.RegionHeld3
import Derived.Deep.DrawnRows
/- Reels (the program): walk. -/
namespace Go.Proofs.YtehadoecnmfeoaaGreat
open Go.RowKit
set_option linter.unusedVariables false
set_option linter.unusedSimpArgs false
set_option maxRecDepth 100000 in
theorem bwithin_any (n lo hi : Int) (w : World) (b : Bool) (hb : btw n lo hi = b) : Calls Tryz.prog 72 #[.int .i64 n, .int .i64 lo, .int .i64 hi] w fun e w' => e = .returned (.bool b) ∧ w = w' := by
  subst hb
  by_cases h1 : lo ≤ n
  · have hr : btw n lo hi = decide (n ≤ hi) := by simp [btw, h1]
    have HR := hide hr
    have h1' : decide (lo ≤ n) = true := decide_eq_true h1
    clear hr
    by_cases h2 : n ≤ hi
    · go_enter Tryz.func72, Tryz.ntmps72
      go_wp2
      go_ret
      exact ⟨ret_bool (by rw [HR.out]; simp [h2]), rfl⟩
    · go_enter Tryz.func72, Tryz.ntmps72
      go_wp2
      go_ret
      exact ⟨ret_bool (by rw [HR.out]; simp [h2]), rfl⟩
  · have hr : btw n lo hi = false := by simp [btw, h1]
    have HR := hide hr
    clear hr
    go_enter Tryz.func72, Tryz.ntmps72
    go_wp2
    go_ret
    exact ⟨ret_bool (by rw [HR.out]), rfl⟩
set_option maxRecDepth 100000 in
theorem piece_any (x len : Int) (b : Nat) (w : World) (h : w.heap[b]? = some (.cells #[.int .i64 len] 3 (0, 0))) :
    Calls Tryz.prog 117 #[.int .i64 x, .pointer (some ⟨b, 0, none⟩)] w fun e w' => e = .returned (.bool (!btw x 1 len)) ∧ Below w.heap.size w w' := by
  have c0 := cellOf h 0
  have hl := box_lt h
  obtain ⟨z, hz⟩ : ∃ z, btw x 1 len = z := ⟨_, rfl⟩
  rw [hz]
  have HZ := hide hz
  clear h hz
  go_enter Tryz.func117, Tryz.ntmps117
  go_wp2_with (go_at_call 72; refine (bwithin_any _ _ _ _ _ HZ.out).mono ?_; rintro e w1 ⟨rfl, rfl⟩)
  go_ret
  exact ⟨rfl, Below.refl _ _⟩
theorem Ints.form7 {w : World} {B : Nat} {v : Value} {l : List Int} (h : Ints w B v l) : ∃ A cap, v = .slice A l.length cap := Sl.form h
set_option maxRecDepth 100000 in
theorem index_piece (p : Int → Bool) (c0 : Value) (v : Value) (gs : List Int) (w : World) (hm : gs.length ≤ maxLen) (h : Ints w w.heap.size v gs)
    (hf : ∀ (i : Nat) (x : Int)  (W : World), i < gs.length → gs.getD i 0 = x → Below w.heap.size w W → Calls Tryz.prog 117 #[.int .i64 x, c0] W fun e w' => e = .returned (.bool (p x)) ∧ Below W.heap.size W w') :
    Calls Tryz.prog 157 #[v, .func (.func 117) #[] #[c0]] w fun e w' => e = .returned (.int .i64 (idxI p gs)) ∧ Below w.heap.size w w' := by
  unfold maxLen at hm
  obtain ⟨A, cap, rfl⟩ := Ints.form7 h
  have H := hide h; clear h
  have HF := hide hf; clear hf
  go_enter Tryz.func157, Tryz.ntmps157
  go_wp2
  go_loopw [5, 8] (fun _ i wr => ∃ k : Nat, k ≤ gs.length ∧ i = .int .i64 k ∧ Hid (∀ j, j < k → p (gs.getD j 0) = false) ∧ Below w.heap.size w wr) (fun _ i _ => gs.length - (intOf i).toNat)
  case atStart => exact ⟨0, Nat.zero_le _, rfl, fun j hj => by omega, Below.refl _ _⟩
  case round =>
    obtain ⟨k, hk, rfl, hz, hB⟩ := hrel
    by_cases hlt : k < gs.length
    · obtain ⟨b, off, x, HX, rfl, hbb, hq, e0⟩ := Ints.at7 (H.out.below hB) hlt
      have hf := fun W (hW : Below w.heap.size w W) => HF.out k x  W hlt HX.out hW
      have HF2 := hide hf
      have HB := hide hB
      clear hf
      by_cases hp : p x = true
      · have HP := hide hp
        clear hp
        go_wp2_with (go_at_call 117; refine (HF2.out _ hB).mono ?_; rw [HP.out]; rintro e w1 ⟨rfl, hB1⟩)
        go_ret
        exact ⟨ret_int (idxI_at p 0 gs k hz.out hlt (by rw [HX.out]; exact HP.out)).symm, Below.to HB.out hB1 (Nat.le_refl _)⟩
      · have hp' : p x = false := by simpa using hp
        have HP := hide hp'
        clear hp hp'
        go_wp2_with (go_at_call 117; refine (HF2.out _ hB).mono ?_; rw [HP.out]; rintro e w1 ⟨rfl, hB1⟩)
        go_roundw
        case rel => exact ⟨k + 1, by omega, by go_num, fun j hj => by
            rcases Nat.lt_or_ge j k with h | h
            · exact hz.out j h
            · rw [show j = k from by omega, HX.out]; exact HP.out, Below.to HB.out hB1 (Nat.le_refl _)⟩
        case measure => simp [intOf]; omega
    · go_wp2
      go_ret
      exact ⟨ret_int (idxI_none p 0 gs (fun j hj => hz.out j (by omega))).symm, hB⟩
set_option maxRecDepth 100000 in
theorem contains_piece (p : Int → Bool) (c0 : Value) (v : Value) (gs : List Int) (w : World) (hm : gs.length ≤ maxLen) (h : Ints w w.heap.size v gs)
    (hf : ∀ (i : Nat) (x : Int)  (W : World), i < gs.length → gs.getD i 0 = x → Below w.heap.size w W → Calls Tryz.prog 117 #[.int .i64 x, c0] W fun e w' => e = .returned (.bool (p x)) ∧ Below W.heap.size W w') :
    Calls Tryz.prog 70 #[v, .func (.func 117) #[] #[c0]] w fun e w' => e = .returned (.bool (gs.any p)) ∧ Below w.heap.size w w' := by
  have hc := index_piece p c0 v gs w hm h hf
  have he := idxI_any p gs
  have hlo := idxI_lo p gs
  have hhi := idxI_hi p gs
  obtain ⟨z, hz⟩ : ∃ z, idxI p gs = z := ⟨_, rfl⟩
  rw [hz] at hc he hlo hhi
  obtain ⟨A, cap, rfl⟩ := Ints.form7 h
  have HC := hide hc
  have HE := hide he
  unfold maxLen at hm
  have hz2 : z ≤ 9223372036854775807 := by omega
  clear hc he hz h hf
  go_enter Tryz.func70, Tryz.ntmps70
  go_wp2_with (go_at_call 157; refine HC.out.mono ?_; rintro e w1 ⟨rfl, hB1⟩)
  go_ret
  exact ⟨ret_bool HE.out, hB1⟩

end Go.Proofs.YtehadoecnmfeoaaGreat

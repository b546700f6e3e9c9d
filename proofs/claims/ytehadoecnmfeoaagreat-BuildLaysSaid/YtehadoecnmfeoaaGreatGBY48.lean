/- Part 48 of this claim's texts: walks and plain laws. -/
import Derived.Test.YtehadoecnmfeoaaGreatRows
import Derived.Test.YtehadoecnmfeoaaGreatGBY47
import Derived.Test.YtehadoecnmfeoaaGreatGBY41
import Derived.Test.YtehadoecnmfeoaaGreatGBY43
import Derived.Deep.DeepMust
import Derived.Deep.RegionHeld3
import Derived.Deep.DrawnRows
import Derived.Test.YtehadoecnmfeoaaGreatGBY11
/- Lay on both sides, compared: walk of BuildLays. -/
namespace Go.Proofs.YtehadoecnmfeoaaGreat
open Go.Joins Go.ChangeShapes Go.WideShapes Go.ChangeAt Go.RowKit Go.Deep
set_option linter.unusedVariables false
set_option linter.unusedSimpArgs false
theorem foldS_len (f : List Nat → Nat) (g : Nat → List Nat) (len : Nat) (hg : ∀ i, (g i).length ≤ len) : ∀ (n : Nat) (s : List Nat × Int), s.1.length ≤ len → ((List.range n).foldl (fun s i => stL f s (g i)) s).1.length ≤ len
  | 0, s, h => h
  | n + 1, s, h => by
    rw [List.range_succ, List.foldl_append]
    show (stL f _ (g n)).1.length ≤ len
    have h1 := foldS_len f g len hg n s h
    unfold stL
    split
    · exact hg n
    · exact h1
theorem layS_len {l : Lo} {ms : List Md} {n : Int} : (layS l ms n).1.length ≤ 8 := by
  unfold layS
  split
  · rename_i h
    have h8 : ms.length ≤ 8 := by
      unfold layE at h
      by_cases h1 : bldE l ms = 0
      · rw [if_neg (by simp [h1])] at h
        by_cases h2 : btw n 1 4 = false ∨ 8 < ms.length
        · rw [if_pos h2] at h
          cases h
        · exact Nat.le_of_not_lt fun h3 => h2 (.inr h3)
      · rw [if_pos h1] at h
        exact absurd h h1
    rw [layR_all]
    refine Nat.le_trans (foldS_len _ _ ms.length (fun i => ?_) _ _ (Nat.zero_le _)) h8
    rw [List.nil_append, digL_len]
    exact Nat.le_refl _
  · exact Nat.zero_le _
set_option maxRecDepth 100000 in
set_option maxHeartbeats 8000000 in
theorem buildLays_walk (n : Int) (ms : List Md) (Am : Option Addr) (qm : Nat) (A0 A1 A2 A3 A4 A5 : Option Addr) (q0 q1 q2 q3 q4 q5 : Nat) (l : Lo) (w : World) (hs : SizedL l) (hd : SizedD ms) (h : LoA w w.heap.size A0 A1 A2 A3 A4 A5 q0 q1 q2 q3 q4 q5 l) (hm : Mods w w.heap.size (.slice Am ms.length qm) ms) :
    Calls Tryz.prog 6 #[.agg #[.slice A0 l.m.opts.length q0, .slice A1 l.m.rules.length q1, .slice A2 l.ss.length q2, .slice A3 l.us.length q3, .slice A4 l.ps.length q4, .slice A5 l.ws.length q5], .slice Am ms.length qm, .int .i64 n] w fun e w' => e = .returned (.bool true) ∧ Below w.heap.size w w' := by
  have H := hide h
  have HS := hide hs
  have HM := hide hm
  have HD := hide hd
  have hml : ms.length ≤ 9223372036854775807 := by have := hd.n; unfold maxLen at this; exact this
  clear h hs hm hd
  obtain ⟨lg, hlg⟩ : ∃ z, lrgB l ms = z := ⟨_, rfl⟩
  have HLG := hide hlg
  cases lg with
  | true =>
    clear hlg
    go_enter Tryz.func6, Tryz.ntmps6
    go_upto_region 1 with (fail)
    generalize hw0 : World.alloc _ _ = w0
    obtain ⟨hb0, hB0, hs0⟩ := alloc1 hw0
    have HB0 := hide hB0
    have HL0 : Hid (LoBox w0 w.heap.size A0 A1 A2 A3 A4 A5 q0 q1 q2 q3 q4 q5 l) := hb0
    have c0 := cellOf hb0 0; have c1 := cellOf hb0 1; have c2 := cellOf hb0 2; have c3 := cellOf hb0 3; have c4 := cellOf hb0 4; have c5 := cellOf hb0 5
    have hlb := box_lt hb0
    clear hw0 hb0 hB0 hs0
    go_wp2_with (first
      | (go_at_call 14; refine (large12_any ms Am qm A0 A1 A2 A3 A4 A5 q0 q1 q2 q3 q4 q5 l _ (H.out.up HB0.out)).mono ?_; rw [HLG.out]; rintro e w1 ⟨rfl, hB1⟩; have HL1 := hide (HL0.out.to hB1); have HB1 := hide (Below.to HB0.out hB1 (Nat.le_refl _)); clear hB1 c0 c1 c2 c3 c4 c5 hlb; have d0 := cellOf HL1.out 0; have d1 := cellOf HL1.out 1; have d2 := cellOf HL1.out 2; have d3 := cellOf HL1.out 3; have d4 := cellOf HL1.out 4; have d5 := cellOf HL1.out 5; have hld := box_lt HL1.out)
      | (go_at_call 15; refine (works_build _).mono ?_; rintro e w2 ⟨rfl, hB2⟩))
    go_ret
    exact ⟨rfl, Below.to HB1.out hB2 (Nat.le_refl _)⟩
  | false =>
  by_cases hm5 : 5 < ms.length ∧ ms.length ≤ 8
  case pos =>
    have hm1 : (5 : Int) < (ms.length : Int) := by omega
    have hm2 : (ms.length : Int) ≤ 8 := by omega
    clear hlg hm5
    go_enter Tryz.func6, Tryz.ntmps6
    go_upto_region 1 with (fail)
    generalize hw0 : World.alloc _ _ = w0
    obtain ⟨hb0, hB0, hs0⟩ := alloc1 hw0
    have HB0 := hide hB0
    have HL0 : Hid (LoBox w0 w.heap.size A0 A1 A2 A3 A4 A5 q0 q1 q2 q3 q4 q5 l) := hb0
    have c0 := cellOf hb0 0; have c1 := cellOf hb0 1; have c2 := cellOf hb0 2; have c3 := cellOf hb0 3; have c4 := cellOf hb0 4; have c5 := cellOf hb0 5
    have hlb := box_lt hb0
    clear hw0 hb0 hB0 hs0
    go_wp2_with (first
      | (go_at_call 14; refine (large12_any ms Am qm A0 A1 A2 A3 A4 A5 q0 q1 q2 q3 q4 q5 l _ (H.out.up HB0.out)).mono ?_; rw [HLG.out]; rintro e w1 ⟨rfl, hB1⟩; have HL1 := hide (HL0.out.to hB1); have HB1 := hide (Below.to HB0.out hB1 (Nat.le_refl _)); clear hB1 c0 c1 c2 c3 c4 c5 hlb; have d0 := cellOf HL1.out 0; have d1 := cellOf HL1.out 1; have d2 := cellOf HL1.out 2; have d3 := cellOf HL1.out 3; have d4 := cellOf HL1.out 4; have d5 := cellOf HL1.out 5; have hld := box_lt HL1.out)
      | (go_at_call 15; refine (works_build _).mono ?_; rintro e w2 ⟨rfl, hB2⟩))
    go_ret
    exact ⟨rfl, Below.to HB1.out hB2 (Nat.le_refl _)⟩
  case neg =>
  by_cases ho7 : 7 < l.m.opts.length
  case pos =>
    have ho1 : (7 : Int) < (l.m.opts.length : Int) := by omega
    clear hlg ho7
    by_cases hm1 : 5 < ms.length
    · have hm1i : (5 : Int) < (ms.length : Int) := by omega
      have hm2i : ¬ (ms.length : Int) ≤ 8 := by omega
      clear hm5 hm1
      go_enter Tryz.func6, Tryz.ntmps6
      go_upto_region 1 with (fail)
      generalize hw0 : World.alloc _ _ = w0
      obtain ⟨hb0, hB0, hs0⟩ := alloc1 hw0
      have HB0 := hide hB0
      have HL0 : Hid (LoBox w0 w.heap.size A0 A1 A2 A3 A4 A5 q0 q1 q2 q3 q4 q5 l) := hb0
      have c0 := cellOf hb0 0; have c1 := cellOf hb0 1; have c2 := cellOf hb0 2; have c3 := cellOf hb0 3; have c4 := cellOf hb0 4; have c5 := cellOf hb0 5
      have hlb := box_lt hb0
      clear hw0 hb0 hB0 hs0
      go_wp2_with (first
        | (go_at_call 14; refine (large12_any ms Am qm A0 A1 A2 A3 A4 A5 q0 q1 q2 q3 q4 q5 l _ (H.out.up HB0.out)).mono ?_; rw [HLG.out]; rintro e w1 ⟨rfl, hB1⟩; have HL1 := hide (HL0.out.to hB1); have HB1 := hide (Below.to HB0.out hB1 (Nat.le_refl _)); clear hB1 c0 c1 c2 c3 c4 c5 hlb; have d0 := cellOf HL1.out 0; have d1 := cellOf HL1.out 1; have d2 := cellOf HL1.out 2; have d3 := cellOf HL1.out 3; have d4 := cellOf HL1.out 4; have d5 := cellOf HL1.out 5; have hld := box_lt HL1.out)
        | (go_at_call 15; refine (works_build _).mono ?_; rintro e w2 ⟨rfl, hB2⟩))
      go_ret
      exact ⟨rfl, Below.to HB1.out hB2 (Nat.le_refl _)⟩
    · have hm1i : ¬ (5 : Int) < (ms.length : Int) := by omega
      clear hm5 hm1
      go_enter Tryz.func6, Tryz.ntmps6
      go_upto_region 1 with (fail)
      generalize hw0 : World.alloc _ _ = w0
      obtain ⟨hb0, hB0, hs0⟩ := alloc1 hw0
      have HB0 := hide hB0
      have HL0 : Hid (LoBox w0 w.heap.size A0 A1 A2 A3 A4 A5 q0 q1 q2 q3 q4 q5 l) := hb0
      have c0 := cellOf hb0 0; have c1 := cellOf hb0 1; have c2 := cellOf hb0 2; have c3 := cellOf hb0 3; have c4 := cellOf hb0 4; have c5 := cellOf hb0 5
      have hlb := box_lt hb0
      clear hw0 hb0 hB0 hs0
      go_wp2_with (first
        | (go_at_call 14; refine (large12_any ms Am qm A0 A1 A2 A3 A4 A5 q0 q1 q2 q3 q4 q5 l _ (H.out.up HB0.out)).mono ?_; rw [HLG.out]; rintro e w1 ⟨rfl, hB1⟩; have HL1 := hide (HL0.out.to hB1); have HB1 := hide (Below.to HB0.out hB1 (Nat.le_refl _)); clear hB1 c0 c1 c2 c3 c4 c5 hlb; have d0 := cellOf HL1.out 0; have d1 := cellOf HL1.out 1; have d2 := cellOf HL1.out 2; have d3 := cellOf HL1.out 3; have d4 := cellOf HL1.out 4; have d5 := cellOf HL1.out 5; have hld := box_lt HL1.out)
        | (go_at_call 15; refine (works_build _).mono ?_; rintro e w2 ⟨rfl, hB2⟩))
      go_ret
      exact ⟨rfl, Below.to HB1.out hB2 (Nat.le_refl _)⟩
  case neg =>
  have HNN : Hid (l.m.err = 0 → l.m.opts.length ≤ 12) := fun he => by have := lrg_small hlg he; omega
  have ho1 : ¬ (7 : Int) < (l.m.opts.length : Int) := by omega
  clear hlg ho7
  obtain ⟨er, her⟩ : ∃ z, layE l ms n = z := ⟨_, rfl⟩
  obtain ⟨S, hS⟩ : ∃ z, layS l ms n = z := ⟨_, rfl⟩
  obtain ⟨R, hR⟩ : ∃ z, S.1 = z := ⟨_, rfl⟩
  obtain ⟨le, hle⟩ : ∃ z, S.2 = z := ⟨_, rfl⟩
  have HRL : Hid ((R.map fun (n : Nat) => (n : Int)).length ≤ maxLen) := by
    show _ ≤ _
    rw [List.length_map, ← hR, ← hS]
    have := layS_len (l := l) (ms := ms) (n := n)
    unfold maxLen
    omega
  have HER := hide her
  have HSS := hide hS
  have HR := hide hR
  have HLE := hide hle
  have g1 : (er == er) = true := by simp
  have g2 : (le == le) = true := by simp
  clear her hS hR hle
  by_cases hm1 : 5 < ms.length
  case' pos =>
    have hm1i : (5 : Int) < (ms.length : Int) := by omega
    have hm2i : ¬ (ms.length : Int) ≤ 8 := by omega
    clear hm5 hm1
  case' neg =>
    have hm1i : ¬ (5 : Int) < (ms.length : Int) := by omega
    clear hm5 hm1
  all_goals
    go_enter Tryz.func6, Tryz.ntmps6
    go_upto_region 1 with (fail)
    generalize hw0 : World.alloc _ _ = w0
    obtain ⟨hb0, hB0, hs0⟩ := alloc1 hw0
    have HB0 := hide hB0
    have HL0 : Hid (LoBox w0 w.heap.size A0 A1 A2 A3 A4 A5 q0 q1 q2 q3 q4 q5 l) := hb0
    have c0 := cellOf hb0 0; have c1 := cellOf hb0 1; have c2 := cellOf hb0 2; have c3 := cellOf hb0 3; have c4 := cellOf hb0 4; have c5 := cellOf hb0 5
    have hlb := box_lt hb0
    clear hw0 hb0 hB0 hs0
    go_upto_region 4 with (first
      | (go_at_call 14; refine (large12_any ms Am qm A0 A1 A2 A3 A4 A5 q0 q1 q2 q3 q4 q5 l _ (H.out.up HB0.out)).mono ?_; rw [HLG.out]; rintro e w1 ⟨rfl, hB1⟩; have HL1 := hide (HL0.out.to hB1); have HB1 := hide (Below.to HB0.out hB1 (Nat.le_refl _)); clear hB1 c0 c1 c2 c3 c4 c5 hlb; have d0 := cellOf HL1.out 0; have d1 := cellOf HL1.out 1; have d2 := cellOf HL1.out 2; have d3 := cellOf HL1.out 3; have d4 := cellOf HL1.out 4; have d5 := cellOf HL1.out 5; have hld := box_lt HL1.out)
      | (go_at_call 24; refine (Lay_any n ms Am qm A0 A1 A2 A3 A4 A5 q0 q1 q2 q3 q4 q5 l w1 HS.out HD.out (H.out.up HB1.out) (HM.out.up HB1.out) HNN.out).mono ?_; rw [HER.out, HSS.out]; rintro e w2 ⟨v2, he2, hv2, hB2⟩; rw [HR.out] at hv2; rw [HLE.out] at he2; subst he2; have HV2 := hide hv2; have HL2 := hide (HL1.out.to hB2); have HB2 := hide (Below.to HB1.out hB2 (Nat.le_refl _)); clear hv2 hB2 d0 d1 d2 d3 d4 d5 hld; have c0 := cellOf HL2.out 0; have c1 := cellOf HL2.out 1; have c2 := cellOf HL2.out 2; have c3 := cellOf HL2.out 3; have c4 := cellOf HL2.out 4; have c5 := cellOf HL2.out 5; have hlb := box_lt HL2.out))
    go_upto_region 5 with (go_at_call 25; refine (rLay_any n ms Am qm A0 A1 A2 A3 A4 A5 q0 q1 q2 q3 q4 q5 l w2 HS.out HD.out (H.out.up HB2.out) (HM.out.up HB2.out) HNN.out).mono ?_; rw [HER.out, HSS.out]; rintro e w3 ⟨v3, he3, hv3, hB3⟩; rw [HR.out] at hv3; rw [HLE.out] at he3; subst he3; have HV3 := hide hv3; have HV23 := hide (Sl.up HV2.out hB3); have HB3 := hide (Below.to HB2.out hB3 (Nat.le_refl _)); clear hv3 hB3 c0 c1 c2 c3 c4 c5 hlb)
    go_wp2_with (first
      | (go_at_call 21; refine (sameInts12_any (R.map fun (n : Nat) => (n : Int)) _ _ w3 HRL.out (Nods.ints7 HV23.out) (Nods.ints7 HV3.out)).mono ?_; rintro e w4 ⟨rfl, hB4⟩; have HB4 := hide (Below.to HB3.out hB4 (Nat.le_refl _)); clear hB4)
      | (go_at_call 15; refine (works_build _).mono ?_; rintro e w5 ⟨rfl, hB5⟩))
    go_ret
    exact ⟨rfl, Below.to HB4.out hB5 (Nat.le_refl _)⟩
end Go.Proofs.YtehadoecnmfeoaaGreat
/- The laws' looms, opened: no condition. -/
namespace Go.Proofs.YtehadoecnmfeoaaGreat
open Go.Joins Go.ChangeShapes Go.WideShapes Go.ChangeAt Go.RowKit Go.Deep
set_option maxRecDepth 100000
set_option linter.unusedVariables false
set_option linter.unusedSimpArgs false
section
variable {H : Type} {enc : TypeId × Value → H} {W : World} {base b0 : Nat} {r : Reach} {spare : Nat → Bool} {held : Bool} {v : Value} {d : DataW H} {p : List MemPlace}
theorem open_lo (hv : Value.okWide Tryz.prog W r b0 31 v) (h : DataW.Trod enc Tryz.prog W base spare held 31 v d p) :
    ∃ (A0 A1 A2 A3 A4 A5 : Option Addr) (q0 q1 q2 q3 q4 q5 : Nat), ∃ l : Lo, v = .agg #[.slice A0 l.m.opts.length q0, .slice A1 l.m.rules.length q1, .slice A2 l.ss.length q2, .slice A3 l.us.length q3, .slice A4 l.ps.length q4, .slice A5 l.ws.length q5] ∧ LoA W W.heap.size A0 A1 A2 A3 A4 A5 q0 q1 q2 q3 q4 q5 l ∧ SizedL l := by
  obtain ⟨ov, rv, sv, uv, pv, wv, l, rfl, hl, hs, _⟩ := open_loom hv h
  obtain ⟨A0, A1, A2, A3, A4, A5, q0, q1, q2, q3, q4, q5, rfl, rfl, rfl, rfl, rfl, rfl, hla⟩ := hl.form
  exact ⟨A0, A1, A2, A3, A4, A5, q0, q1, q2, q3, q4, q5, l, rfl, hla, hs⟩
theorem open_int (hv : Value.okWide Tryz.prog W r b0 3 v) (h : DataW.Trod enc Tryz.prog W base spare held 3 v d p) : ∃ n : Int, v = .int .i64 n ∧ I64 n := by
  obtain ⟨n, rfl, _⟩ := okWide_int Tryz.underlying3 hv
  obtain ⟨fuel, hf⟩ := h
  obtain ⟨a, e, ha⟩ := int_cell hf
  simp at e
  subst e
  exact ⟨n, rfl, ha⟩
end
end Go.Proofs.YtehadoecnmfeoaaGreat

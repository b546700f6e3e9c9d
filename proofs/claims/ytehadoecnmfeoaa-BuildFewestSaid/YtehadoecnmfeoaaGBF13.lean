/- Part 13 of this claim's texts: walks and plain laws. -/
import Derived.Test.YtehadoecnmfeoaaRows
import Derived.Test.YtehadoecnmfeoaaGBF12
import Derived.Test.YtehadoecnmfeoaaGBF11
import Derived.Laws.EntriesVeiled
import Derived.Deep.DeepMust
import Derived.Deep.RegionHeld3
import Derived.Deep.DrawnRows
import Derived.Test.YtehadoecnmfeoaaGBF1
import Derived.Test.YtehadoecnmfeoaaGBF2
/- Reels (the program): walk. -/
namespace Go.Proofs.Ytehadoecnmfeoaa
open Go.RowKit
set_option linter.unusedVariables false
set_option linter.unusedSimpArgs false
set_option maxRecDepth 100000 in
theorem bwithin_any (n lo hi : Int) (w : World) (b : Bool) (hb : btw n lo hi = b) : Calls Try.prog 23 #[.int .i64 n, .int .i64 lo, .int .i64 hi] w fun e w' => e = .returned (.bool b) ∧ w = w' := by
  subst hb
  by_cases h1 : lo ≤ n
  · have hr : btw n lo hi = decide (n ≤ hi) := by simp [btw, h1]
    have HR := hide hr
    have h1' : decide (lo ≤ n) = true := decide_eq_true h1
    clear hr
    by_cases h2 : n ≤ hi
    · go_enter Try.func23, Try.ntmps23
      go_wp2
      go_ret
      exact ⟨ret_bool (by rw [HR.out]; simp [h2]), rfl⟩
    · go_enter Try.func23, Try.ntmps23
      go_wp2
      go_ret
      exact ⟨ret_bool (by rw [HR.out]; simp [h2]), rfl⟩
  · have hr : btw n lo hi = false := by simp [btw, h1]
    have HR := hide hr
    clear hr
    go_enter Try.func23, Try.ntmps23
    go_wp2
    go_ret
    exact ⟨ret_bool (by rw [HR.out]), rfl⟩
set_option maxRecDepth 100000 in
theorem piece_any (x len : Int) (b : Nat) (w : World) (h : w.heap[b]? = some (.cells #[.int .i64 len] 3 (0, 0))) :
    Calls Try.prog 25 #[.int .i64 x, .pointer (some ⟨b, 0, none⟩)] w fun e w' => e = .returned (.bool (!btw x 1 len)) ∧ Below w.heap.size w w' := by
  have c0 := cellOf h 0
  have hl := box_lt h
  obtain ⟨z, hz⟩ : ∃ z, btw x 1 len = z := ⟨_, rfl⟩
  rw [hz]
  have HZ := hide hz
  clear h hz
  go_enter Try.func25, Try.ntmps25
  go_wp2_with (go_at_call 23; refine (bwithin_any _ _ _ _ _ HZ.out).mono ?_; rintro e w1 ⟨rfl, rfl⟩)
  go_ret
  exact ⟨rfl, Below.refl _ _⟩
theorem Ints.form7 {w : World} {B : Nat} {v : Value} {l : List Int} (h : Ints w B v l) : ∃ A cap, v = .slice A l.length cap := Sl.form h
set_option maxRecDepth 100000 in
theorem index_piece (p : Int → Bool) (c0 : Value) (v : Value) (gs : List Int) (w : World) (hm : gs.length ≤ maxLen) (h : Ints w w.heap.size v gs)
    (hf : ∀ (i : Nat) (x : Int)  (W : World), i < gs.length → gs.getD i 0 = x → Below w.heap.size w W → Calls Try.prog 25 #[.int .i64 x, c0] W fun e w' => e = .returned (.bool (p x)) ∧ Below W.heap.size W w') :
    Calls Try.prog 58 #[v, .func (.func 25) #[] #[c0]] w fun e w' => e = .returned (.int .i64 (idxI p gs)) ∧ Below w.heap.size w w' := by
  unfold maxLen at hm
  obtain ⟨A, cap, rfl⟩ := Ints.form7 h
  have H := hide h; clear h
  have HF := hide hf; clear hf
  go_enter Try.func58, Try.ntmps58
  go_wp2
  go_loopw [5, 8] (fun _ i wr => ∃ k : Nat, k ≤ gs.length ∧ i = .int .i64 k ∧ Hid (∀ j, j < k → p (gs.getD j 0) = false) ∧ Below w.heap.size w wr) (fun _ i _ => gs.length - (intOf i).toNat)
  case atStart => exact ⟨0, Nat.zero_le _, rfl, fun j hj => by omega, Below.refl _ _⟩
  case round =>
    obtain ⟨k, hk, rfl, hz, hB⟩ := hrel
    by_cases hlt : k < gs.length
    · obtain ⟨b, off, x, HX, rfl, hbb, hq, e0⟩ := Ints.at7 (H.out.below hB) hlt
      have hf := fun W (hW : Below w.heap.size w W) => HF.out k x  W hlt HX.out hW
      have HF2 := hide hf
      have HB := hide hB
      clear hf
      by_cases hp : p x = true
      · have HP := hide hp
        clear hp
        go_wp2_with (go_at_call 25; refine (HF2.out _ hB).mono ?_; rw [HP.out]; rintro e w1 ⟨rfl, hB1⟩)
        go_ret
        exact ⟨ret_int (idxI_at p 0 gs k hz.out hlt (by rw [HX.out]; exact HP.out)).symm, Below.to HB.out hB1 (Nat.le_refl _)⟩
      · have hp' : p x = false := by simpa using hp
        have HP := hide hp'
        clear hp hp'
        go_wp2_with (go_at_call 25; refine (HF2.out _ hB).mono ?_; rw [HP.out]; rintro e w1 ⟨rfl, hB1⟩)
        go_roundw
        case rel => exact ⟨k + 1, by omega, by go_num, fun j hj => by
            rcases Nat.lt_or_ge j k with h | h
            · exact hz.out j h
            · rw [show j = k from by omega, HX.out]; exact HP.out, Below.to HB.out hB1 (Nat.le_refl _)⟩
        case measure => simp [intOf]; omega
    · go_wp2
      go_ret
      exact ⟨ret_int (idxI_none p 0 gs (fun j hj => hz.out j (by omega))).symm, hB⟩
set_option maxRecDepth 100000 in
theorem contains_piece (p : Int → Bool) (c0 : Value) (v : Value) (gs : List Int) (w : World) (hm : gs.length ≤ maxLen) (h : Ints w w.heap.size v gs)
    (hf : ∀ (i : Nat) (x : Int)  (W : World), i < gs.length → gs.getD i 0 = x → Below w.heap.size w W → Calls Try.prog 25 #[.int .i64 x, c0] W fun e w' => e = .returned (.bool (p x)) ∧ Below W.heap.size W w') :
    Calls Try.prog 24 #[v, .func (.func 25) #[] #[c0]] w fun e w' => e = .returned (.bool (gs.any p)) ∧ Below w.heap.size w w' := by
  have hc := index_piece p c0 v gs w hm h hf
  have he := idxI_any p gs
  have hlo := idxI_lo p gs
  have hhi := idxI_hi p gs
  obtain ⟨z, hz⟩ : ∃ z, idxI p gs = z := ⟨_, rfl⟩
  rw [hz] at hc he hlo hhi
  obtain ⟨A, cap, rfl⟩ := Ints.form7 h
  have HC := hide hc
  have HE := hide he
  unfold maxLen at hm
  have hz2 : z ≤ 9223372036854775807 := by omega
  clear hc he hz h hf
  go_enter Try.func24, Try.ntmps24
  go_wp2_with (go_at_call 58; refine HC.out.mono ?_; rintro e w1 ⟨rfl, hB1⟩)
  go_ret
  exact ⟨ret_bool HE.out, hB1⟩

end Go.Proofs.Ytehadoecnmfeoaa
/- Reels (the program): walk of the whole. -/
namespace Go.Proofs.Ytehadoecnmfeoaa
open Go.RowKit
set_option linter.unusedVariables false
set_option linter.unusedSimpArgs false
/-- A list of numbers and an error. -/
def RelP (L : List Nat) (er : Int) (w : World) (e : Ending) (w' : World) : Prop := ∃ v, e = .returned (.tuple #[v, .int .i64 er]) ∧ Nods w' w'.heap.size v L ∧ Below w.heap.size w w'
def relR (ps : List Int) (len : Int) : List Nat := if relB ps len = true then relL ps len else []
theorem LefAt.same12 {w : World} {b t : Nat} {L L' : Nat → Int} (h : LefAt w b t L) (hL : ∀ i, i < 12 → L i = L' i) : LefAt w b t L' := by
  obtain ⟨C, h1, h2, h3⟩ := h
  exact ⟨C, h1, h2, fun i hi => by rw [← hL i hi]; exact h3 i hi⟩
theorem LefAt.zero {w : World} {b t : Nat} (h : w.heap[b]? = some (.cells #[.int .i64 0, .int .i64 0, .int .i64 0, .int .i64 0, .int .i64 0, .int .i64 0, .int .i64 0, .int .i64 0, .int .i64 0, .int .i64 0, .int .i64 0, .int .i64 0] t (0, 0))) : LefAt w b t (fun _ => 0) :=
  ⟨_, h, rfl, fun i hi => by
    match i, hi with
    | 0, _ => rfl
    | 1, _ => rfl
    | 2, _ => rfl
    | 3, _ => rfl
    | 4, _ => rfl
    | 5, _ => rfl
    | 6, _ => rfl
    | 7, _ => rfl
    | 8, _ => rfl
    | 9, _ => rfl
    | 10, _ => rfl
    | 11, _ => rfl⟩
set_option maxRecDepth 100000 in
set_option maxHeartbeats 4000000 in
theorem Reels_any (ps : List Int) (len : Int) (A : Option Addr) (q : Nat) (w : World) (hm : ps.length ≤ maxLen) (h : Ints w w.heap.size (.slice A ps.length q) ps) :
    Calls Try.prog 8 #[.slice A ps.length q, .int .i64 len] w (RelP (relR ps len) (relE ps len) w) := by
  have H := hide h
  have HM := hide hm
  unfold maxLen at hm
  clear h
  by_cases hb : relB ps len = true
  case neg =>
    have h1 : relR ps len = [] := by unfold relR; rw [if_neg hb]
    have h2 : relE ps len = 121 := by unfold relE; rw [if_neg hb]
    rw [h1, h2]
    have hbf : relB ps len = false := by simpa using hb
    unfold relB at hbf
    clear h1 h2 hb
    cases hw : btw len 1 1000000 with
    | false =>
      have HW := hide hw
      clear hw hbf
      go_enter Try.func8, Try.ntmps8
      go_upto_region 1 with (fail)
      generalize hw0 : World.alloc _ _ = w0
      obtain ⟨hb0, hb1, hB0, hs0⟩ := alloc2 hw0
      have c0 := cellOf hb1 0
      have hl := box_lt hb1
      have HB0 := hide hB0
      clear hw0 hb0 hb1 hB0 hs0
      go_wp2_with (go_at_call 23; refine (bwithin_any _ _ _ _ _ HW.out).mono ?_; rintro e w1 ⟨rfl, rfl⟩)
      go_ret2
      exact ⟨_, rfl, Sl.nil _ _ _ _, HB0.out⟩
    | true =>
      rw [hw, Bool.true_and] at hbf
      have HW := hide hw
      clear hw
      by_cases hlen : ps.length ≤ 12
      case neg =>
        have hgt : (12 : Int) < (ps.length : Int) := by omega
        clear hbf
        go_enter Try.func8, Try.ntmps8
        go_upto_region 1 with (fail)
        generalize hw0 : World.alloc _ _ = w0
        obtain ⟨hb0, hb1, hB0, hs0⟩ := alloc2 hw0
        have c0 := cellOf hb1 0
        have hl := box_lt hb1
        have d0 := cellOf hb0 0
        have hl0 := box_lt hb0
        have HB0 := hide hB0
        clear hw0 hb0 hb1 hB0 hs0
        go_wp2_with (go_at_call 23; refine (bwithin_any _ _ _ _ _ HW.out).mono ?_; rintro e w1 ⟨rfl, rfl⟩)
        go_ret2
        exact ⟨_, rfl, Sl.nil _ _ _ _, HB0.out⟩
      case pos =>
        rw [decide_eq_true hlen, Bool.true_and] at hbf
        have hany : ps.any (fun p => !btw p 1 len) = true := by
          rw [List.all_eq_false] at hbf
          obtain ⟨x, hx, hx2⟩ := hbf
          exact List.any_eq_true.2 ⟨x, hx, by simpa using hx2⟩
        have hgt : ¬ (12 : Int) < (ps.length : Int) := by omega
        have HANY := hide hany
        clear hbf hany
        go_enter Try.func8, Try.ntmps8
        go_upto_region 1 with (fail)
        generalize hw0 : World.alloc _ _ = w0
        obtain ⟨hb0, hb1, hB0, hs0⟩ := alloc2 hw0
        have HL1 := hide hb1
        have c0 := cellOf hb1 0
        have hl := box_lt hb1
        have d0 := cellOf hb0 0
        have hl0 := box_lt hb0
        have HB0 := hide hB0
        clear hw0 hb0 hb1 hB0 hs0
        go_wp2_with (first | (go_at_call 23; refine (bwithin_any _ _ _ _ _ HW.out).mono ?_; rintro e w1 ⟨rfl, rfl⟩) | (go_at_call 24; refine (contains_piece (fun p => !btw p 1 len) (.pointer (some ⟨w.heap.size + 1, 0, none⟩)) _ ps w0 HM.out (Ints.up H.out HB0.out) (fun i x W _ _ hW => piece_any x len _ W (box_to HL1.out hW))).mono ?_; rw [HANY.out]; rintro e w2 ⟨rfl, hB2⟩; have HB2 := hide (Below.to HB0.out hB2 (Nat.le_refl _)); clear hB2 c0 hl d0 hl0))
        go_ret2
        exact ⟨_, rfl, Sl.nil _ _ _ _, HB2.out⟩
  case pos =>
  have h1 : relR ps len = relL ps len := by unfold relR; rw [if_pos hb]
  have h2 : relE ps len = 0 := by unfold relE; rw [if_pos hb]
  obtain ⟨Z, hZ⟩ : ∃ Z, relL ps len = Z := ⟨_, rfl⟩
  rw [h1, h2, hZ]
  have HSOME := hide (rel_some hb)
  have HZ := hide hZ
  unfold relB at hb
  simp only [Bool.and_eq_true, decide_eq_true_eq] at hb
  obtain ⟨⟨hw, hlen⟩, hall⟩ := hb
  have hw' := btw_iff.1 hw
  obtain ⟨len1, len2⟩ := hw'
  have HW := hide hw
  have hgt : ¬ (12 : Int) < (ps.length : Int) := by omega
  have hany : ps.any (fun p => !btw p 1 len) = false := by
    rw [List.any_eq_false]
    intro x hx
    have := List.all_eq_true.1 hall x hx
    simp [this]
  have hpr : ∀ p ∈ ps, 1 ≤ p ∧ p ≤ len := fun p hp => btw_iff.1 (List.all_eq_true.1 hall p hp)
  have HPR := hide hpr
  have HANY := hide hany
  clear h1 h2 hZ hw hall hany hpr
  go_enter Try.func8, Try.ntmps8
  go_upto_region 1 with (fail)
  generalize hw0 : World.alloc _ _ = w0
  obtain ⟨hb0, hb1, hB0, hs0⟩ := alloc2 hw0
  have HL0 := hide hb0
  have HL1 := hide hb1
  have c0 := cellOf hb1 0
  have hl := box_lt hb1
  have d0 := cellOf hb0 0
  have hl0 := box_lt hb0
  have HB0 := hide hB0
  have HS0 := hide hs0
  clear hw0 hb0 hb1 hB0 hs0
  go_upto_region 4 with (first | (go_at_call 23; refine (bwithin_any _ _ _ _ _ HW.out).mono ?_; rintro e w1 ⟨rfl, rfl⟩) | (go_at_call 24; refine (contains_piece (fun p => !btw p 1 len) (.pointer (some ⟨w.heap.size + 1, 0, none⟩)) _ ps w0 HM.out (Ints.up H.out HB0.out) (fun i x W _ _ hW => piece_any x len _ W (box_to HL1.out hW))).mono ?_; rw [HANY.out]; rintro e w2 ⟨rfl, hB2⟩; have HL02 := hide (heap_below HL0.out hB2); have HL12 := hide (heap_below HL1.out hB2); have HB02 := hide hB2; have HB2 := hide (Below.to HB0.out hB2 (Nat.le_refl _)); clear hB2 c0 hl d0 hl0))
  generalize hw3 : World.alloc _ _ = w3
  obtain ⟨hb3, hB3, hs3⟩ := alloc1 hw3
  have HLF := hide (LefAt.zero hb3)
  have HS3 := hide hs3
  have HB3 := hide hB3
  clear hw3 hb3 hB3 hs3
  go_wp2_with fail
  go_loopw [7, 24] (fun _ i wr => ∃ k : Nat, i = .int .i64 k ∧ k ≤ 12 ∧ Hid (Below w2.heap.size w2 wr) ∧ Hid (w2.heap.size < wr.heap.size) ∧ Hid (LefAt wr w2.heap.size 77 (fun i => if i < k then len else 0))) (fun _ i _ => 12 - (intOf i).toNat)
  case atStart => exact ⟨0, rfl, by omega, HB3.out, by show _ < _; have := HS3.out; omega, HLF.out.same (fun i => by simp)⟩
  case round =>
    obtain ⟨k, rfl, hk, HB, HSZ, HLFr⟩ := hrel
    by_cases hk12 : k < 12
    · have ik : (k : Int) < 12 := by omega
      have ik0 : (0 : Int) ≤ (k : Int) := by omega
      obtain ⟨z1, z2, z3⟩ := HLFr.out.cell hk12
      have hb1 := (HB.out.block _ (box_lt HL12.out)).trans HL12.out
      have c0 := cellOf hb1 0
      have hl := box_lt hb1
      clear hb1
      go_upto_region 8 with (fail)
      have hset := HLFr.out.set hk12 len
      have hB9 : Below w2.heap.size w2 (wr.setCell ⟨w2.heap.size, k, none⟩ (.int .i64 len)) := Below.setCell HB.out (Nat.le_refl _) _
      have hsz9 : w2.heap.size < (wr.setCell ⟨w2.heap.size, k, none⟩ (.int .i64 len)).heap.size := by simpa [World.setCell] using HSZ.out
      generalize hw9 : World.setCell _ _ _ = w9 at hset hB9 hsz9 ⊢
      have HSET := hide hset
      have HB9 := hide hB9
      have HSZ9 := hide hsz9
      clear hw9 hset hB9 hsz9 z1 z2 z3 c0 hl
      go_wp2_with fail
      go_roundw
      case rel => exact ⟨k + 1, by go_num, by omega, HB9.out, HSZ9.out, HSET.out.same (fun i => by
        unfold updL
        by_cases e : i = k
        · subst e; simp
        · rw [if_neg e]
          show (if i < k then len else 0) = _
          by_cases e2 : i < k
          · rw [if_pos e2, if_pos (by omega)]
          · rw [if_neg e2, if_neg (by omega)])⟩
      case measure => simp [intOf]; omega
    · have ik : ¬ (k : Int) < 12 := by omega
      go_upto_region 12 with (fail)
      generalize hw10 : World.alloc _ _ = w10
      obtain ⟨ho0, ho1, hB10, hs10⟩ := alloc2 hw10
      obtain ⟨op, hop⟩ : ∃ n, wr.heap.size = n := ⟨_, rfl⟩
      obtain ⟨lp, hlp⟩ : ∃ n, w2.heap.size = n := ⟨_, rfl⟩
      obtain ⟨pp, hpp⟩ : ∃ n, w.heap.size = n := ⟨_, rfl⟩
      have q1 : pp + 2 ≤ lp := by have h1 := HS0.out; have h2 := HB02.out.size; omega
      have q2 : lp < op := by have h1 := HSZ.out; omega
      have hRl : RlAt w w10 (op + 2) op pp lp (op + 1) (.slice A ps.length q) (fun _ => len) (.slice none 0 0) [] := by
        refine ⟨?_, ?_, ?_, ?_, ?_, World.ownsRow_nil _ _ _ _, ⟨?_, ?_, ?_⟩, ⟨?_, ?_, ?_, ?_⟩, ⟨?_, ?_, ?_, ?_, ?_⟩, ?_⟩
        · exact Below.to (Below.to HB2.out HB.out (Nat.le_refl _)) hB10 (Nat.le_refl _)
        · have h1 := (HB.out.block _ (box_lt HL02.out)).trans HL02.out
          rw [← hpp]
          exact heap_below h1 hB10
        · rw [← hlp]
          exact (HLFr.out.of (hB10.block _ HSZ.out)).same12 (fun i hi => by show (if i < k then len else 0) = len; rw [if_pos (by omega)])
        · rw [← hop]; exact ho0
        · rw [← hop, ← hlp, ← hpp]; exact ho1
        all_goals omega
      rw [hop, hlp, hpp]
      have HR := hide hRl
      clear hw10 ho0 ho1 hB10 hs10 hRl hop hlp hpp
      go_wp2_with fail
      go_loopw [10] (fun i wr => ∃ (k : Nat) (ov : Value), i = .int .i64 k ∧ k ≤ ps.length ∧ Hid (∀ j, j < k → rlS j ps (fun _ => len) 0 = none) ∧ Hid (RlAt w wr (op + 2) op pp lp (op + 1) (.slice A ps.length q) (fun _ => len) ov [])) (fun i _ => ps.length - (intOf i).toNat)
      case atStart => exact ⟨0, _, rfl, Nat.zero_le _, fun j hj => absurd hj (by omega), HR.out⟩
      case round =>
        obtain ⟨k3, ov, rfl, hk2, HNO, R⟩ := hrel
        have n0 := cellOf R.out.nc 0
        have ln := box_lt R.out.nc
        have hcl := next_any ps len hlen HPR.out len2 A q w H.out (op + 2) op pp lp (op + 1) k3 (by omega) ps.length [] (fun _ => len) 0 ov _ R.out (by simp) (by omega) (fun _ => ⟨by omega, by omega⟩)
        rw [List.length_nil, List.drop_zero] at hcl
        obtain ⟨rc, hrc⟩ : ∃ rc, rlS k3 ps (fun _ => len) 0 = rc := ⟨_, rfl⟩
        rw [hrc] at hcl
        have HRC := hide hrc
        have HCL := hide hcl
        clear hrc hcl
        cases rc with
        | some R' =>
          have hz := rel_at HNO.out HRC.out hk2
          rw [HZ.out] at hz
          subst hz
          go_wp2_with (go_at_call 26; refine HCL.out.mono ?_; rintro e w6 ⟨ov6, L6, rfl, hW6⟩; have x0 := cellOf hW6.oc 0; have lx := box_lt hW6.oc; have HW6 := hide hW6; clear hW6 n0 ln)
          go_ret2
          exact ⟨_, rfl, Nods.of_own HW6.out.own, HW6.out.below⟩
        | none =>
          have hkn : k3 < ps.length := by
            rcases Nat.lt_or_ge k3 ps.length with h1 | h1
            · exact h1
            · exfalso
              have h2 := HSOME.out
              rw [show ps.length = k3 by omega, HRC.out] at h2
              cases h2
          go_wp2_with (go_at_call 26; refine HCL.out.mono ?_; rintro e w6 ⟨ov6, rfl, hW6⟩; have HW6 := hide hW6; clear hW6 n0 ln)
          go_roundw
          case rel => exact ⟨k3 + 1, _, by go_num, by omega, fun j hj => by
              rcases Nat.lt_or_ge j k3 with h1 | h1
              · exact HNO.out j h1
              · rw [show j = k3 by omega]; exact HRC.out, HW6.out⟩
          case measure => simp [intOf]; omega
end Go.Proofs.Ytehadoecnmfeoaa
/- Reels (the elder): walk of the search. -/
namespace Go.Proofs.Ytehadoecnmfeoaa
open Go.RowKit
set_option linter.unusedVariables false
set_option linter.unusedSimpArgs false
theorem ints_own7 {w : World} {base : Nat} {v : Value} {l : List Int} (h : w.ownsRow base 3 1 v l.length (l.map (Value.int .i64))) : Ints w w.heap.size v l :=
  Sl.of_owns h fun i j hi hj => by
    obtain rfl : j = 0 := by omega
    rw [Nat.mul_one, Nat.add_zero, List.getElem?_map]
    simp [hi]
/-- A row of the call's own that is not empty. -/
theorem own_at7 {wr : World} {B e sz n q : Nat} {A : Option Addr} {xs : List Value} (h : wr.ownsRow B e sz (.slice A n q) n xs) (hn : 0 < n) : ∃ g, A = some ⟨g, 0, none⟩ ∧ B ≤ g ∧ n ≤ q ∧ ∃ cur, wr.heap[g]? = some (.cells cur e (0, 0)) := by
  rcases h.2 with ⟨_, h0⟩ | ⟨g, cap, cur, hv, hgb, hgh, hnc, _⟩
  · omega
  · injection hv with e1 e2 e3
    subst e1 e3
    exact ⟨g, rfl, hgb, hnc, cur, hgh⟩
/-- What the search returns. -/
def RrP (S : List Nat) (res : Option (List Nat)) (w : World) (e : Ending) (w' : World) : Prop :=
  match res with
  | some R => ∃ v, e = .returned (.tuple #[v, .bool true]) ∧ Nods w' w'.heap.size v (S ++ R) ∧ Below w.heap.size w w'
  | none => e = .returned (.tuple #[.slice none 0 0, .bool false]) ∧ Below w.heap.size w w'
def lefU (len : Int) (U : List Int) (i : Nat) : Int := len - U.getD i 0
end Go.Proofs.Ytehadoecnmfeoaa
/- The reels that are found: plain laws. -/
namespace Go.Proofs.Ytehadoecnmfeoaa
set_option linter.unusedVariables false
theorem rlT_some {most : Nat} {p : Int} {ps : List Int} {L : Nat → Int} {o r : Nat} {l : List Nat} (h : rlT most p ps L o r = some l) : r ≤ o ∧ p ≤ L r ∧ ∃ t, l = r :: t ∧ rlS most ps (updL L r (L r - p)) (max o (r + 1)) = some t := by
  unfold rlT at h
  by_cases hc : r ≤ o ∧ p ≤ L r
  · rw [if_pos hc] at h
    cases hs : rlS most ps (updL L r (L r - p)) (max o (r + 1)) with
    | none => rw [hs] at h; cases h
    | some t =>
      rw [hs] at h
      injection h with h
      exact ⟨hc.1, hc.2, t, h.symm, rfl⟩
  · rw [if_neg hc] at h; cases h
theorem rlS_len {most : Nat} : ∀ (ps : List Int) {L : Nat → Int} {o : Nat} {l : List Nat}, rlS most ps L o = some l → l.length = ps.length
  | [], _, _, l, h => by injection h with h; subst h; rfl
  | p :: ps, L, o, l, h => by
    rw [rlS_cons] at h
    obtain ⟨r, _, hr⟩ := List.exists_of_findSome?_eq_some h
    obtain ⟨_, _, t, rfl, ht⟩ := rlT_some hr
    simp [rlS_len ps ht]
/-- Where the search for the fewest reels ends. -/
theorem relL_at {ps : List Int} {len : Int} (h : relB ps len = true) : ∃ k, k ≤ ps.length ∧ (∀ r, r < k → rlS r ps (fun _ => len) 0 = none) ∧ rlS k ps (fun _ => len) 0 = some (relL ps len) := by
  have hsome := rel_some h
  have key : ∀ n, n ≤ ps.length → (∀ r, r < n → rlS r ps (fun _ => len) 0 = none) ∨ ∃ k, k < n ∧ (∀ r, r < k → rlS r ps (fun _ => len) 0 = none) ∧ (rlS k ps (fun _ => len) 0).isSome = true := by
    intro n
    induction n with
    | zero => intro _; exact .inl fun r hr => absurd hr (by omega)
    | succ n ih =>
      intro hn
      rcases ih (by omega) with h1 | ⟨k, hk, h1, h2⟩
      · cases hs : rlS n ps (fun _ => len) 0 with
        | none =>
          refine .inl fun r hr => ?_
          rcases Nat.lt_or_ge r n with h3 | h3
          · exact h1 r h3
          · rw [show r = n by omega]; exact hs
        | some l => exact .inr ⟨n, by omega, h1, by rw [hs]; rfl⟩
      · exact .inr ⟨k, by omega, h1, h2⟩
  have hx : ∃ k, k ≤ ps.length ∧ (∀ r, r < k → rlS r ps (fun _ => len) 0 = none) ∧ (rlS k ps (fun _ => len) 0).isSome = true := by
    rcases key ps.length (Nat.le_refl _) with h1 | ⟨k, hk, h1, h2⟩
    · exact ⟨ps.length, Nat.le_refl _, h1, hsome⟩
    · exact ⟨k, by omega, h1, h2⟩
  obtain ⟨k, hk, h1, h2⟩ := hx
  cases hs : rlS k ps (fun _ => len) 0 with
  | none => rw [hs] at h2; cases h2
  | some l => exact ⟨k, hk, h1, by rw [rel_at h1 hs hk]; exact hs⟩
theorem relL_len {ps : List Int} {len : Int} (h : relB ps len = true) : (relL ps len).length = ps.length := by
  obtain ⟨k, _, _, hk⟩ := relL_at h
  exact rlS_len ps hk
/-- A list of reels that has room for all pieces, and how many reels it has. -/
def vldR : List Int → (Nat → Int) → Nat → List Nat → Option Nat
  | [], _, o, [] => some o
  | p :: ps, L, o, r :: l => if r ≤ o ∧ p ≤ L r then vldR ps (updL L r (L r - p)) (max o (r + 1)) l else none
  | _, _, _, _ => none
def sooner : List Nat → List Nat → Bool
  | a :: s, b :: t => decide (a < b) || (decide (a = b) && sooner s t)
  | _, _ => false
theorem vldR_le : ∀ (ps : List Int) {L : Nat → Int} {o n : Nat} {l : List Nat}, vldR ps L o l = some n → o ≤ n ∧ ∀ r ∈ l, r < n
  | [], _, _, _, [], h => by injection h with h; subst h; exact ⟨Nat.le_refl _, fun r hr => by cases hr⟩
  | [], _, _, _, _ :: _, h => by cases h
  | _ :: _, _, _, _, [], h => by cases h
  | p :: ps, L, o, n, r :: l, h => by
    unfold vldR at h
    by_cases hc : r ≤ o ∧ p ≤ L r
    · rw [if_pos hc] at h
      have := vldR_le ps h
      refine ⟨by omega, fun q hq => ?_⟩
      rcases List.mem_cons.1 hq with rfl | hq
      · omega
      · exact this.2 q hq
    · rw [if_neg hc] at h; cases h
theorem vldR_len : ∀ (ps : List Int) {L : Nat → Int} {o n : Nat} {l : List Nat}, vldR ps L o l = some n → l.length = ps.length
  | [], _, _, _, [], h => rfl
  | [], _, _, _, _ :: _, h => by cases h
  | _ :: _, _, _, _, [], h => by cases h
  | p :: ps, L, o, n, r :: l, h => by
    unfold vldR at h
    by_cases hc : r ≤ o ∧ p ≤ L r
    · rw [if_pos hc] at h
      simp [vldR_len ps h]
    · rw [if_neg hc] at h; cases h
/-- What the search finds has room, with reels below most. -/
theorem rlS_vld {most : Nat} : ∀ (ps : List Int) {L : Nat → Int} {o : Nat} {l : List Nat}, rlS most ps L o = some l → ∃ n, vldR ps L o l = some n ∧ n ≤ max o most
  | [], _, o, l, h => by injection h with h; subst h; exact ⟨o, rfl, by omega⟩
  | p :: ps, L, o, l, h => by
    rw [rlS_cons] at h
    obtain ⟨r, hr0, hr⟩ := List.exists_of_findSome?_eq_some h
    have hrm : r < most := by simpa using hr0
    obtain ⟨h1, h2, t, rfl, ht⟩ := rlT_some hr
    obtain ⟨n, hn, hle⟩ := rlS_vld ps ht
    refine ⟨n, ?_, by omega⟩
    unfold vldR
    rw [if_pos ⟨h1, h2⟩]
    exact hn
/-- No list with reels below most that has room comes before the one that is found; and there is one if any has. -/
theorem rlS_best {most : Nat} : ∀ (ps : List Int) {L : Nat → Int} {o n : Nat} {l' : List Nat}, vldR ps L o l' = some n → (∀ r ∈ l', r < most) → ∃ l, rlS most ps L o = some l ∧ sooner l' l = false
  | [], _, _, _, [], h, _ => ⟨[], rfl, rfl⟩
  | [], _, _, _, _ :: _, h, _ => by cases h
  | _ :: _, _, _, _, [], h, _ => by cases h
  | p :: ps, L, o, n, r :: l', h, hm => by
    unfold vldR at h
    by_cases hc : r ≤ o ∧ p ≤ L r
    · rw [if_pos hc] at h
      have hrm := hm r (List.mem_cons_self ..)
      obtain ⟨t, ht, hs⟩ := rlS_best (most := most) ps h fun q hq => hm q (List.mem_cons_of_mem _ hq)
      have hr : rlT most p ps L o r = some (r :: t) := by
        unfold rlT
        rw [if_pos hc, ht]
        rfl
      rw [rlS_cons]
      have key : ∀ k, k ≤ r → (∀ q, q < k → rlT most p ps L o q = none) ∨ ∃ q, q < k ∧ (∀ u, u < q → rlT most p ps L o u = none) ∧ (rlT most p ps L o q).isSome = true := by
        intro k
        induction k with
        | zero => intro _; exact .inl fun q hq => absurd hq (by omega)
        | succ k ih =>
          intro hk
          rcases ih (by omega) with h1 | ⟨q, hq, h1, h2⟩
          · cases hs2 : rlT most p ps L o k with
            | none =>
              refine .inl fun q hq => ?_
              rcases Nat.lt_or_ge q k with h3 | h3
              · exact h1 q h3
              · rw [show q = k by omega]; exact hs2
            | some l => exact .inr ⟨k, by omega, h1, by rw [hs2]; rfl⟩
          · exact .inr ⟨q, by omega, h1, h2⟩
      rcases key r (Nat.le_refl _) with h1 | ⟨q, hq, h1, h2⟩
      · refine ⟨r :: t, findSome_first h1 hr hrm, ?_⟩
        simp [sooner, hs]
      · cases hs2 : rlT most p ps L o q with
        | none => rw [hs2] at h2; cases h2
        | some l =>
          refine ⟨l, findSome_first h1 hs2 (by omega), ?_⟩
          obtain ⟨_, _, t2, rfl, _⟩ := rlT_some hs2
          simp only [sooner, Bool.or_eq_false_iff, Bool.and_eq_false_iff, decide_eq_false_iff_not]
          exact ⟨by omega, .inl (by omega)⟩
    · rw [if_neg hc] at h; cases h
def sumI : List Int → Int
  | [] => 0
  | p :: ps => p + sumI ps
def sumR (L : Nat → Int) : Nat → Int
  | 0 => 0
  | n + 1 => sumR L n + L n
theorem sumR_upd (L : Nat → Int) (r : Nat) (x : Int) : ∀ n, sumR (updL L r x) n = sumR L n + (if r < n then x - L r else 0)
  | 0 => by simp [sumR]
  | n + 1 => by
    unfold sumR
    rw [sumR_upd L r x n]
    unfold updL
    by_cases e : n = r
    · subst e
      rw [if_pos rfl, if_neg (Nat.lt_irrefl _), if_pos (by omega)]
      omega
    · rw [if_neg e]
      by_cases h : r < n
      · rw [if_pos h, if_pos (by omega)]; omega
      · rw [if_neg h, if_neg (by omega)]; omega
theorem sumR_le {L : Nat → Int} {len : Int} : ∀ n, (∀ r, r < n → L r = len) → sumR L n = n * len
  | 0, _ => by simp [sumR]
  | n + 1, h => by
    unfold sumR
    rw [sumR_le n fun r hr => h r (by omega), h n (by omega)]
    push_cast
    rw [Int.add_mul]
    omega
theorem sumR_nonneg {L : Nat → Int} : ∀ n, (∀ r, 0 ≤ L r) → 0 ≤ sumR L n
  | 0, _ => by simp [sumR]
  | n + 1, h => by
    unfold sumR
    have := sumR_nonneg n h
    have := h n
    omega
theorem vldR_sum : ∀ (ps : List Int) {L : Nat → Int} {o n : Nat} {l : List Nat}, vldR ps L o l = some n → (∀ r, 0 ≤ L r) → sumI ps ≤ sumR L n
  | [], L, _, n, [], h, h0 => by simpa [sumI] using sumR_nonneg n h0
  | [], _, _, _, _ :: _, h, _ => by cases h
  | _ :: _, _, _, _, [], h, _ => by cases h
  | p :: ps, L, o, n, r :: l, h, h0 => by
    unfold vldR at h
    by_cases hc : r ≤ o ∧ p ≤ L r
    · rw [if_pos hc] at h
      have h1 := vldR_sum ps h fun q => by
        unfold updL
        by_cases e : q = r
        · rw [if_pos e]; have := hc.2; omega
        · rw [if_neg e]; exact h0 q
      have h2 := (vldR_le ps h).1
      rw [sumR_upd, if_pos (by omega)] at h1
      unfold sumI
      omega
    · rw [if_neg hc] at h; cases h
/-- The fewest reels. -/
theorem fewest {ps : List Int} {len : Int} (h : relB ps len = true) : ∃ n, vldR ps (fun _ => len) 0 (relL ps len) = some n ∧ sumI ps ≤ (n : Int) * len ∧
    ∀ l' m, vldR ps (fun _ => len) 0 l' = some m → n ≤ m ∧ (m = n → sooner l' (relL ps len) = false) := by
  obtain ⟨k, hk, h1, h2⟩ := relL_at h
  have hlen : 0 ≤ len := by
    unfold relB at h
    simp only [Bool.and_eq_true] at h
    have := h.1.1
    rw [btw_iff] at this
    omega
  obtain ⟨n, hn, hle⟩ := rlS_vld ps h2
  have hkn : n = k := by
    have hr := (vldR_le ps hn).2
    obtain ⟨l, hl, _⟩ := rlS_best (most := n) ps hn hr
    rcases Nat.lt_or_ge n k with h3 | h3
    · rw [h1 n h3] at hl; cases hl
    · omega
  refine ⟨n, hn, ?_, fun l' m hm => ?_⟩
  · have := vldR_sum ps hn fun _ => hlen
    rw [sumR_le n fun _ _ => rfl] at this
    exact this
  · have hr := (vldR_le ps hm).2
    obtain ⟨l, hl, hs⟩ := rlS_best (most := m) ps hm hr
    have hmk : k ≤ m := by
      rcases Nat.lt_or_ge m k with h3 | h3
      · rw [h1 m h3] at hl; cases hl
      · exact h3
    refine ⟨by omega, fun e => ?_⟩
    rw [show m = k by omega, h2] at hl
    injection hl with hl
    rw [hl]
    exact hs
end Go.Proofs.Ytehadoecnmfeoaa

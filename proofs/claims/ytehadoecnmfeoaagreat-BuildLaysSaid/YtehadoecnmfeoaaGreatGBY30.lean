/- Part 30 of this claim's texts: walks and plain laws. -/
import Derived.Test.YtehadoecnmfeoaaGreatRows
import Derived.Test.YtehadoecnmfeoaaGreatGBY16
import Derived.Laws.EntriesVeiled
import Derived.Deep.DeepMust
import Derived.Deep.RegionHeld3
import Derived.Deep.DrawnRows
import Derived.Test.YtehadoecnmfeoaaGreatGBY1
import Derived.Test.YtehadoecnmfeoaaGreatGBY2
import Derived.Test.YtehadoecnmfeoaaGreatGBY19
import Derived.Test.YtehadoecnmfeoaaGreatGBY24
/- Reels (the program): walk of the whole. -/
namespace Go.Proofs.YtehadoecnmfeoaaGreat
open Go.RowKit
set_option linter.unusedVariables false
set_option linter.unusedSimpArgs false
/-- A list of numbers and an error. -/
def RelP (L : List Nat) (er : Int) (w : World) (e : Ending) (w' : World) : Prop := ∃ v, e = .returned (.tuple #[v, .int .i64 er]) ∧ Nods w' w'.heap.size v L ∧ Below w.heap.size w w'
def relR (ps : List Int) (len : Int) : List Nat := if relB ps len = true then relL ps len else []
theorem LefAt.same12 {w : World} {b t : Nat} {L L' : Nat → Int} (h : LefAt w b t L) (hL : ∀ i, i < 12 → L i = L' i) : LefAt w b t L' := by
  obtain ⟨C, h1, h2, h3⟩ := h
  exact ⟨C, h1, h2, fun i hi => by rw [← hL i hi]; exact h3 i hi⟩
theorem LefAt.zero {w : World} {b t : Nat} (h : w.heap[b]? = some (.cells #[.int .i64 0, .int .i64 0, .int .i64 0, .int .i64 0, .int .i64 0, .int .i64 0, .int .i64 0, .int .i64 0, .int .i64 0, .int .i64 0, .int .i64 0, .int .i64 0] t (0, 0))) : LefAt w b t (fun _ => 0) :=
  ⟨_, h, rfl, fun i hi => by
    match i, hi with
    | 0, _ => rfl
    | 1, _ => rfl
    | 2, _ => rfl
    | 3, _ => rfl
    | 4, _ => rfl
    | 5, _ => rfl
    | 6, _ => rfl
    | 7, _ => rfl
    | 8, _ => rfl
    | 9, _ => rfl
    | 10, _ => rfl
    | 11, _ => rfl⟩
set_option maxRecDepth 100000 in
set_option maxHeartbeats 4000000 in
theorem Reels_any (ps : List Int) (len : Int) (A : Option Addr) (q : Nat) (w : World) (hm : ps.length ≤ maxLen) (h : Ints w w.heap.size (.slice A ps.length q) ps) :
    Calls Tryz.prog 53 #[.slice A ps.length q, .int .i64 len] w (RelP (relR ps len) (relE ps len) w) := by
  have H := hide h
  have HM := hide hm
  unfold maxLen at hm
  clear h
  by_cases hb : relB ps len = true
  case neg =>
    have h1 : relR ps len = [] := by unfold relR; rw [if_neg hb]
    have h2 : relE ps len = 121 := by unfold relE; rw [if_neg hb]
    rw [h1, h2]
    have hbf : relB ps len = false := by simpa using hb
    unfold relB at hbf
    clear h1 h2 hb
    cases hw : btw len 1 1000000 with
    | false =>
      have HW := hide hw
      clear hw hbf
      go_enter Tryz.func53, Tryz.ntmps53
      go_upto_region 1 with (fail)
      generalize hw0 : World.alloc _ _ = w0
      obtain ⟨hb0, hb1, hB0, hs0⟩ := alloc2 hw0
      have c0 := cellOf hb1 0
      have hl := box_lt hb1
      have HB0 := hide hB0
      clear hw0 hb0 hb1 hB0 hs0
      go_wp2_with (go_at_call 72; refine (bwithin_any _ _ _ _ _ HW.out).mono ?_; rintro e w1 ⟨rfl, rfl⟩)
      go_ret2
      exact ⟨_, rfl, Sl.nil _ _ _ _, HB0.out⟩
    | true =>
      rw [hw, Bool.true_and] at hbf
      have HW := hide hw
      clear hw
      by_cases hlen : ps.length ≤ 12
      case neg =>
        have hgt : (12 : Int) < (ps.length : Int) := by omega
        clear hbf
        go_enter Tryz.func53, Tryz.ntmps53
        go_upto_region 1 with (fail)
        generalize hw0 : World.alloc _ _ = w0
        obtain ⟨hb0, hb1, hB0, hs0⟩ := alloc2 hw0
        have c0 := cellOf hb1 0
        have hl := box_lt hb1
        have d0 := cellOf hb0 0
        have hl0 := box_lt hb0
        have HB0 := hide hB0
        clear hw0 hb0 hb1 hB0 hs0
        go_wp2_with (go_at_call 72; refine (bwithin_any _ _ _ _ _ HW.out).mono ?_; rintro e w1 ⟨rfl, rfl⟩)
        go_ret2
        exact ⟨_, rfl, Sl.nil _ _ _ _, HB0.out⟩
      case pos =>
        rw [decide_eq_true hlen, Bool.true_and] at hbf
        have hany : ps.any (fun p => !btw p 1 len) = true := by
          rw [List.all_eq_false] at hbf
          obtain ⟨x, hx, hx2⟩ := hbf
          exact List.any_eq_true.2 ⟨x, hx, by simpa using hx2⟩
        have hgt : ¬ (12 : Int) < (ps.length : Int) := by omega
        have HANY := hide hany
        clear hbf hany
        go_enter Tryz.func53, Tryz.ntmps53
        go_upto_region 1 with (fail)
        generalize hw0 : World.alloc _ _ = w0
        obtain ⟨hb0, hb1, hB0, hs0⟩ := alloc2 hw0
        have HL1 := hide hb1
        have c0 := cellOf hb1 0
        have hl := box_lt hb1
        have d0 := cellOf hb0 0
        have hl0 := box_lt hb0
        have HB0 := hide hB0
        clear hw0 hb0 hb1 hB0 hs0
        go_wp2_with (first | (go_at_call 72; refine (bwithin_any _ _ _ _ _ HW.out).mono ?_; rintro e w1 ⟨rfl, rfl⟩) | (go_at_call 70; refine (contains_piece (fun p => !btw p 1 len) (.pointer (some ⟨w.heap.size + 1, 0, none⟩)) _ ps w0 HM.out (Ints.up H.out HB0.out) (fun i x W _ _ hW => piece_any x len _ W (box_to HL1.out hW))).mono ?_; rw [HANY.out]; rintro e w2 ⟨rfl, hB2⟩; have HB2 := hide (Below.to HB0.out hB2 (Nat.le_refl _)); clear hB2 c0 hl d0 hl0))
        go_ret2
        exact ⟨_, rfl, Sl.nil _ _ _ _, HB2.out⟩
  case pos =>
  have h1 : relR ps len = relL ps len := by unfold relR; rw [if_pos hb]
  have h2 : relE ps len = 0 := by unfold relE; rw [if_pos hb]
  obtain ⟨Z, hZ⟩ : ∃ Z, relL ps len = Z := ⟨_, rfl⟩
  rw [h1, h2, hZ]
  have HSOME := hide (rel_some hb)
  have HZ := hide hZ
  unfold relB at hb
  simp only [Bool.and_eq_true, decide_eq_true_eq] at hb
  obtain ⟨⟨hw, hlen⟩, hall⟩ := hb
  have hw' := btw_iff.1 hw
  obtain ⟨len1, len2⟩ := hw'
  have HW := hide hw
  have hgt : ¬ (12 : Int) < (ps.length : Int) := by omega
  have hany : ps.any (fun p => !btw p 1 len) = false := by
    rw [List.any_eq_false]
    intro x hx
    have := List.all_eq_true.1 hall x hx
    simp [this]
  have hpr : ∀ p ∈ ps, 1 ≤ p ∧ p ≤ len := fun p hp => btw_iff.1 (List.all_eq_true.1 hall p hp)
  have HPR := hide hpr
  have HANY := hide hany
  clear h1 h2 hZ hw hall hany hpr
  go_enter Tryz.func53, Tryz.ntmps53
  go_upto_region 1 with (fail)
  generalize hw0 : World.alloc _ _ = w0
  obtain ⟨hb0, hb1, hB0, hs0⟩ := alloc2 hw0
  have HL0 := hide hb0
  have HL1 := hide hb1
  have c0 := cellOf hb1 0
  have hl := box_lt hb1
  have d0 := cellOf hb0 0
  have hl0 := box_lt hb0
  have HB0 := hide hB0
  have HS0 := hide hs0
  clear hw0 hb0 hb1 hB0 hs0
  go_upto_region 4 with (first | (go_at_call 72; refine (bwithin_any _ _ _ _ _ HW.out).mono ?_; rintro e w1 ⟨rfl, rfl⟩) | (go_at_call 70; refine (contains_piece (fun p => !btw p 1 len) (.pointer (some ⟨w.heap.size + 1, 0, none⟩)) _ ps w0 HM.out (Ints.up H.out HB0.out) (fun i x W _ _ hW => piece_any x len _ W (box_to HL1.out hW))).mono ?_; rw [HANY.out]; rintro e w2 ⟨rfl, hB2⟩; have HL02 := hide (heap_below HL0.out hB2); have HL12 := hide (heap_below HL1.out hB2); have HB02 := hide hB2; have HB2 := hide (Below.to HB0.out hB2 (Nat.le_refl _)); clear hB2 c0 hl d0 hl0))
  generalize hw3 : World.alloc _ _ = w3
  obtain ⟨hb3, hB3, hs3⟩ := alloc1 hw3
  have HLF := hide (LefAt.zero hb3)
  have HS3 := hide hs3
  have HB3 := hide hB3
  clear hw3 hb3 hB3 hs3
  go_wp2_with fail
  go_loopw [7, 24] (fun _ i wr => ∃ k : Nat, i = .int .i64 k ∧ k ≤ 12 ∧ Hid (Below w2.heap.size w2 wr) ∧ Hid (w2.heap.size < wr.heap.size) ∧ Hid (LefAt wr w2.heap.size 160 (fun i => if i < k then len else 0))) (fun _ i _ => 12 - (intOf i).toNat)
  case atStart => exact ⟨0, rfl, by omega, HB3.out, by show _ < _; have := HS3.out; omega, HLF.out.same (fun i => by simp)⟩
  case round =>
    obtain ⟨k, rfl, hk, HB, HSZ, HLFr⟩ := hrel
    by_cases hk12 : k < 12
    · have ik : (k : Int) < 12 := by omega
      have ik0 : (0 : Int) ≤ (k : Int) := by omega
      obtain ⟨z1, z2, z3⟩ := HLFr.out.cell hk12
      have hb1 := (HB.out.block _ (box_lt HL12.out)).trans HL12.out
      have c0 := cellOf hb1 0
      have hl := box_lt hb1
      clear hb1
      go_upto_region 8 with (fail)
      have hset := HLFr.out.set hk12 len
      have hB9 : Below w2.heap.size w2 (wr.setCell ⟨w2.heap.size, k, none⟩ (.int .i64 len)) := Below.setCell HB.out (Nat.le_refl _) _
      have hsz9 : w2.heap.size < (wr.setCell ⟨w2.heap.size, k, none⟩ (.int .i64 len)).heap.size := by simpa [World.setCell] using HSZ.out
      generalize hw9 : World.setCell _ _ _ = w9 at hset hB9 hsz9 ⊢
      have HSET := hide hset
      have HB9 := hide hB9
      have HSZ9 := hide hsz9
      clear hw9 hset hB9 hsz9 z1 z2 z3 c0 hl
      go_wp2_with fail
      go_roundw
      case rel => exact ⟨k + 1, by go_num, by omega, HB9.out, HSZ9.out, HSET.out.same (fun i => by
        unfold updL
        by_cases e : i = k
        · subst e; simp
        · rw [if_neg e]
          show (if i < k then len else 0) = _
          by_cases e2 : i < k
          · rw [if_pos e2, if_pos (by omega)]
          · rw [if_neg e2, if_neg (by omega)])⟩
      case measure => simp [intOf]; omega
    · have ik : ¬ (k : Int) < 12 := by omega
      go_upto_region 12 with (fail)
      generalize hw10 : World.alloc _ _ = w10
      obtain ⟨ho0, ho1, hB10, hs10⟩ := alloc2 hw10
      obtain ⟨op, hop⟩ : ∃ n, wr.heap.size = n := ⟨_, rfl⟩
      obtain ⟨lp, hlp⟩ : ∃ n, w2.heap.size = n := ⟨_, rfl⟩
      obtain ⟨pp, hpp⟩ : ∃ n, w.heap.size = n := ⟨_, rfl⟩
      have q1 : pp + 2 ≤ lp := by have h1 := HS0.out; have h2 := HB02.out.size; omega
      have q2 : lp < op := by have h1 := HSZ.out; omega
      have hRl : RlAt w w10 (op + 2) op pp lp (op + 1) (.slice A ps.length q) (fun _ => len) (.slice none 0 0) [] := by
        refine ⟨?_, ?_, ?_, ?_, ?_, World.ownsRow_nil _ _ _ _, ⟨?_, ?_, ?_⟩, ⟨?_, ?_, ?_, ?_⟩, ⟨?_, ?_, ?_, ?_, ?_⟩, ?_⟩
        · exact Below.to (Below.to HB2.out HB.out (Nat.le_refl _)) hB10 (Nat.le_refl _)
        · have h1 := (HB.out.block _ (box_lt HL02.out)).trans HL02.out
          rw [← hpp]
          exact heap_below h1 hB10
        · rw [← hlp]
          exact (HLFr.out.of (hB10.block _ HSZ.out)).same12 (fun i hi => by show (if i < k then len else 0) = len; rw [if_pos (by omega)])
        · rw [← hop]; exact ho0
        · rw [← hop, ← hlp, ← hpp]; exact ho1
        all_goals omega
      rw [hop, hlp, hpp]
      have HR := hide hRl
      clear hw10 ho0 ho1 hB10 hs10 hRl hop hlp hpp
      go_wp2_with fail
      go_loopw [10] (fun i wr => ∃ (k : Nat) (ov : Value), i = .int .i64 k ∧ k ≤ ps.length ∧ Hid (∀ j, j < k → rlS j ps (fun _ => len) 0 = none) ∧ Hid (RlAt w wr (op + 2) op pp lp (op + 1) (.slice A ps.length q) (fun _ => len) ov [])) (fun i _ => ps.length - (intOf i).toNat)
      case atStart => exact ⟨0, _, rfl, Nat.zero_le _, fun j hj => absurd hj (by omega), HR.out⟩
      case round =>
        obtain ⟨k3, ov, rfl, hk2, HNO, R⟩ := hrel
        have n0 := cellOf R.out.nc 0
        have ln := box_lt R.out.nc
        have hcl := next_any ps len hlen HPR.out len2 A q w H.out (op + 2) op pp lp (op + 1) k3 (by omega) ps.length [] (fun _ => len) 0 ov _ R.out (by simp) (by omega) (fun _ => ⟨by omega, by omega⟩)
        rw [List.length_nil, List.drop_zero] at hcl
        obtain ⟨rc, hrc⟩ : ∃ rc, rlS k3 ps (fun _ => len) 0 = rc := ⟨_, rfl⟩
        rw [hrc] at hcl
        have HRC := hide hrc
        have HCL := hide hcl
        clear hrc hcl
        cases rc with
        | some R' =>
          have hz := rel_at HNO.out HRC.out hk2
          rw [HZ.out] at hz
          subst hz
          go_wp2_with (go_at_call 118; refine HCL.out.mono ?_; rintro e w6 ⟨ov6, L6, rfl, hW6⟩; have x0 := cellOf hW6.oc 0; have lx := box_lt hW6.oc; have HW6 := hide hW6; clear hW6 n0 ln)
          go_ret2
          exact ⟨_, rfl, Nods.of_own HW6.out.own, HW6.out.below⟩
        | none =>
          have hkn : k3 < ps.length := by
            rcases Nat.lt_or_ge k3 ps.length with h1 | h1
            · exact h1
            · exfalso
              have h2 := HSOME.out
              rw [show ps.length = k3 by omega, HRC.out] at h2
              cases h2
          go_wp2_with (go_at_call 118; refine HCL.out.mono ?_; rintro e w6 ⟨ov6, rfl, hW6⟩; have HW6 := hide hW6; clear hW6 n0 ln)
          go_roundw
          case rel => exact ⟨k3 + 1, _, by go_num, by omega, fun j hj => by
              rcases Nat.lt_or_ge j k3 with h1 | h1
              · exact HNO.out j h1
              · rw [show j = k3 by omega]; exact HRC.out, HW6.out⟩
          case measure => simp [intOf]; omega
end Go.Proofs.YtehadoecnmfeoaaGreat
/- Reels (the elder): walk of the search. -/
namespace Go.Proofs.YtehadoecnmfeoaaGreat
open Go.RowKit
set_option linter.unusedVariables false
set_option linter.unusedSimpArgs false
theorem ints_own7 {w : World} {base : Nat} {v : Value} {l : List Int} (h : w.ownsRow base 3 1 v l.length (l.map (Value.int .i64))) : Ints w w.heap.size v l :=
  Sl.of_owns h fun i j hi hj => by
    obtain rfl : j = 0 := by omega
    rw [Nat.mul_one, Nat.add_zero, List.getElem?_map]
    simp [hi]
/-- A row of the call's own that is not empty. -/
theorem own_at7 {wr : World} {B e sz n q : Nat} {A : Option Addr} {xs : List Value} (h : wr.ownsRow B e sz (.slice A n q) n xs) (hn : 0 < n) : ∃ g, A = some ⟨g, 0, none⟩ ∧ B ≤ g ∧ n ≤ q ∧ ∃ cur, wr.heap[g]? = some (.cells cur e (0, 0)) := by
  rcases h.2 with ⟨_, h0⟩ | ⟨g, cap, cur, hv, hgb, hgh, hnc, _⟩
  · omega
  · injection hv with e1 e2 e3
    subst e1 e3
    exact ⟨g, rfl, hgb, hnc, cur, hgh⟩
/-- What the search returns. -/
def RrP (S : List Nat) (res : Option (List Nat)) (w : World) (e : Ending) (w' : World) : Prop :=
  match res with
  | some R => ∃ v, e = .returned (.tuple #[v, .bool true]) ∧ Nods w' w'.heap.size v (S ++ R) ∧ Below w.heap.size w w'
  | none => e = .returned (.tuple #[.slice none 0 0, .bool false]) ∧ Below w.heap.size w w'
def lefU (len : Int) (U : List Int) (i : Nat) : Int := len - U.getD i 0
end Go.Proofs.YtehadoecnmfeoaaGreat
/- Reels (the elder): walk of the whole. -/
namespace Go.Proofs.YtehadoecnmfeoaaGreat
open Go.RowKit
set_option linter.unusedVariables false
set_option linter.unusedSimpArgs false
set_option maxRecDepth 100000 in
theorem rwithin12_any (n lo hi : Int) (w : World) (b : Bool) (hb : btw n lo hi = b) : Calls Tryz.prog 75 #[.int .i64 n, .int .i64 lo, .int .i64 hi] w fun e w' => e = .returned (.bool b) ∧ w = w' := by
  subst hb
  by_cases h1 : lo ≤ n
  · have hr : btw n lo hi = decide (n ≤ hi) := by simp [btw, h1]
    have HR := hide hr
    have h1' : decide (lo ≤ n) = true := decide_eq_true h1
    clear hr
    by_cases h2 : n ≤ hi
    · go_enter Tryz.func75, Tryz.ntmps75
      go_wp2
      go_ret
      exact ⟨ret_bool (by rw [HR.out]; simp [h2]), rfl⟩
    · go_enter Tryz.func75, Tryz.ntmps75
      go_wp2
      go_ret
      exact ⟨ret_bool (by rw [HR.out]; simp [h2]), rfl⟩
  · have hr : btw n lo hi = false := by simp [btw, h1]
    have HR := hide hr
    clear hr
    go_enter Tryz.func75, Tryz.ntmps75
    go_wp2
    go_ret
    exact ⟨ret_bool (by rw [HR.out]), rfl⟩
theorem made_ints (N : Nat) : madeCells #[.int .i64 0] N = (((List.replicate N (0 : Int)).map (Value.int .i64)).toArray) := by
  apply Array.ext
  · simp [madeCells]
  · intro i h1 h2
    simp [madeCells, Nat.mod_one]
end Go.Proofs.YtehadoecnmfeoaaGreat
/- Whether a loom is larger than a statement looks at: walk. -/
namespace Go.Proofs.YtehadoecnmfeoaaGreat
open Go.RowKit
set_option linter.unusedVariables false
set_option linter.unusedSimpArgs false
theorem any_yes {α : Type} {z : α} {p : α → Bool} {l : List α} {k : Nat} (hk : k < l.length) (h : p (l.getD k z) = true) : l.any p = true :=
  List.any_eq_true.2 ⟨_, by rw [List.getD_eq_getElem?_getD, List.getElem?_eq_getElem hk]; exact List.getElem_mem hk, h⟩
theorem any_no {α : Type} {z : α} {p : α → Bool} {l : List α} (h : ∀ j, j < l.length → p (l.getD j z) = false) : l.any p = false := by
  rw [← Bool.not_eq_true, List.any_eq_true]
  rintro ⟨x, hx, hp⟩
  obtain ⟨i, hi, rfl⟩ := List.mem_iff_getElem.1 hx
  have := h i hi
  rw [List.getD_eq_getElem?_getD, List.getElem?_eq_getElem hi, Option.getD_some, hp] at this
  cases this
theorem getD_mem3f {α : Type} {l : List α} {z : α} {k : Nat} (h : k < l.length) : l.getD k z ∈ l := by
  rw [List.getD_eq_getElem?_getD, List.getElem?_eq_getElem h]
  exact List.getElem_mem h
def farN (l : Lo) : Bool := decide (10 < l.m.opts.length) || decide (10 < l.m.rules.length) || decide (12 < l.ss.length) || decide (12 < l.us.length) || decide (10 < l.ps.length) || decide (12 < l.ws.length)
def farW (x : Wi) : Bool := decide (100 < x.name.size) || decide (40 < x.form.length)
/-- Whether a loom is larger than a statement looks at. -/
def farB (l : Lo) : Bool := farN l || (l.m.rules.any fun f => decide (40 < f.length)) || (l.m.opts.any fun s => decide (100 < s.size)) || (l.ps.any fun p => decide (100 < p.name.size)) || l.ws.any farW
end Go.Proofs.YtehadoecnmfeoaaGreat

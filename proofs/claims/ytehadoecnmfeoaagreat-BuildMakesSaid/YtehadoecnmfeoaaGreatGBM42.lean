/- Part 42 of this claim's texts: walks and plain laws. -/
import Derived.Test.YtehadoecnmfeoaaGreatRows
import Derived.Test.YtehadoecnmfeoaaGreatGBM41
import Derived.Test.YtehadoecnmfeoaaGreatGBM30
import Derived.Test.YtehadoecnmfeoaaGreatGBM13
import Derived.Test.YtehadoecnmfeoaaGreatGBM3
import Derived.Test.YtehadoecnmfeoaaGreatGBM38
import Derived.Deep.DeepMust
import Derived.Deep.RegionHeld3
import Derived.Deep.DrawnRows
import Derived.Test.YtehadoecnmfeoaaGreatGBM18
/- The look at the example; equal lists of numbers are told equal: walks. -/
namespace Go.Proofs.YtehadoecnmfeoaaGreat
open Go.RowKit
set_option linter.unusedVariables false
set_option linter.unusedSimpArgs false
theorem Nods.ints7 {w : World} {B : Nat} {v : Value} {l : List Nat} (h : Nods w B v l) : Ints w B v (l.map fun (n : Nat) => (n : Int)) := by
  obtain ⟨A, b, off, cap, h1, h2, h3, h4⟩ := h
  have hl : (l.map fun (n : Nat) => (n : Int)).length = l.length := by simp
  refine ⟨A, b, off, cap, ?_, by rw [hl]; exact h2, ?_, fun i j hi hj => ?_⟩
  · rw [hl]; exact h1
  · rw [hl]; exact h3
  · rw [hl] at hi
    have := h4 i j hi hj
    rw [this]
    simp [hi]
set_option maxRecDepth 100000 in
set_option maxHeartbeats 2000000 in
theorem sameInts12_any (f : List Int) (u v : Value) (w : World) (hl : f.length ≤ maxLen) (h : Ints w w.heap.size u f) (h2 : Ints w w.heap.size v f) :
    Calls Tryz.prog 21 #[u, v] w fun e w' => e = .returned (.bool true) ∧ Below w.heap.size w w' := by
  obtain ⟨A, q, rfl⟩ := Sl.form h
  obtain ⟨C, r, rfl⟩ := Sl.form h2
  unfold maxLen at hl
  have H := hide h
  have H2 := hide h2
  clear h h2
  go_enter Tryz.func21, Tryz.ntmps21
  go_wp2_with fail
  go_loopw [5] (fun i wr => ∃ k : Nat, k ≤ f.length ∧ i = .int .i64 k ∧ Hid (Below w.heap.size w wr)) (fun i _ => f.length - (intOf i).toNat)
  case atStart => exact ⟨0, Nat.zero_le _, rfl, Below.refl _ _⟩
  case round =>
    obtain ⟨k, hk, rfl, hB⟩ := hrel
    by_cases hlt : k < f.length
    · obtain ⟨_, hq, b, off, rfl, hb, g0⟩ := sl_at (Sl.below H.out hB.out) hlt
      obtain ⟨_, hq2, b2, off2, rfl, hb2, g1⟩ := sl_at (Sl.below H2.out hB.out) hlt
      have c0 := g0 0 (by omega)
      have d0 := g1 0 (by omega)
      rw [Nat.mul_one, Nat.add_zero] at c0 d0
      have l0 : b < wr.heap.size := Nat.lt_of_lt_of_le hb hB.out.size
      have l1 : b2 < wr.heap.size := Nat.lt_of_lt_of_le hb2 hB.out.size
      have ik0 : (0 : Int) ≤ (k : Int) := by omega
      have ik : (k : Int) < (f.length : Int) := by omega
      have iq : (f.length : Int) ≤ (q : Int) := by omega
      have iq2 : (f.length : Int) ≤ (r : Int) := by omega
      obtain ⟨x, hx⟩ : ∃ x, f.getD k 0 = x := ⟨_, rfl⟩
      rw [hx] at c0 d0
      have n1 : (x != x) = false := by simp
      clear hx g0 g1
      go_wp2_with fail
      refine wp_region_held_drew (S := (fun w' => Below wr.heap.size wr w')) (by kernel_rfl) ?_ (fun hHeld => ?_)
      · try dsimp only
        exact (by repeat (first | exact Below.refl _ _ | assumption | refine Below.drew ?_ | refine Below.drewN ?_ _ | refine Below.allocT ?_ (Nat.le_refl _) _ | refine Below.setCell ?_ (by simp <;> omega) _ | refine Below.to ?_ (by assumption) (Nat.le_refl _)))
      refine zT 0 rfl ?_
      try simp only [zX]
      refine zT 1 rfl ?_
      try simp only [zX]
      refine zT 2 rfl ?_
      try simp only [zX]
      refine zT 3 rfl ?_
      try simp only [zX]
      refine zT 4 rfl ?_
      try simp only [zX]
      refine zT 5 rfl ?_
      try simp only [zX]
      refine zT 6 rfl ?_
      try simp only [zX]
      refine zT 7 rfl ?_
      try simp only [zX]
      refine zT 8 rfl ?_
      try simp only [zX]
      refine wpAnyH_done (by kernel_rfl) ?_ _
      go_wp2_with fail
      go_roundw
      case rel => exact ⟨k + 1, by omega, by go_num, Below.to hB.out hHeld (Nat.le_refl _)⟩
      case measure => simp [intOf]; omega
    · go_wp2_with fail
      go_ret
      exact ⟨rfl, hB.out⟩
def exMd : List Md := [⟨[1], [1, 2]⟩]
theorem exB_aud : audA exB exMd = some (0, 1, [true, false]) := by kernel_rfl
theorem exB_err : bldE exB exMd = 0 := by kernel_rfl
theorem exB_rel : relR [6, 5, 4, 5] 10 = [0, 1, 0, 1] := by kernel_rfl
theorem exB_rele : relE [6, 5, 4, 5] 10 = 0 := by kernel_rfl
theorem exB_sized : SizedL exB := by
  have hm : ∀ n : Nat, n ≤ 100 → n ≤ maxLen := fun n hn => by unfold maxLen; omega
  refine ⟨⟨hm _ (by decide), fun x hx => hm _ ?_, hm _ (by decide), fun f hf => ?_⟩, hm _ (by decide), hm _ (by decide), hm _ (by decide), hm _ (by decide), fun x hx => hm _ ?_, fun x hx => ⟨hm _ ?_, hm _ ?_⟩⟩
  · have : x = ⟨#[116, 111, 119]⟩ ∨ x = ⟨#[104, 101, 97, 116]⟩ := by simpa [exB] using hx
    rcases this with rfl | rfl <;> decide
  · simp [exB] at hf
  · simp [exB] at hx
    rcases hx with rfl | rfl | rfl <;> decide
  · simp [exB] at hx
    rcases hx with rfl | rfl | rfl <;> decide
  · simp [exB] at hx
    rcases hx with rfl | rfl | rfl <;> decide
theorem exMd_sized : SizedD exMd := ⟨by unfold maxLen; decide, fun x hx => by
  simp [exMd] at hx
  subst hx
  unfold maxLen
  decide⟩
theorem mods_ex {w w0 : World} {o p q : Obj} (h : ((w.alloc o).alloc p).alloc q = w0) {t u s : Nat} (ho : o = .cells #[.int .i64 1] t (0, 0)) (hp : p = .cells #[.int .i64 1, .int .i64 2] u (0, 0)) (hq : q = .cells #[.slice (some ⟨w.heap.size, 0, none⟩) 1 1, .slice (some ⟨w.heap.size + 1, 0, none⟩) 2 2] s (0, 0)) :
    Mods w0 w0.heap.size (.slice (some ⟨w.heap.size + 2, 0, none⟩) 1 1) exMd ∧ Below w.heap.size w w0 := by
  obtain ⟨h0, h1, h2, hB, hs⟩ := alloc3 h
  subst ho hp hq
  refine ⟨⟨fun _ => .slice (some ⟨w.heap.size, 0, none⟩) 1 1, fun _ => .slice (some ⟨w.heap.size + 1, 0, none⟩) 2 2, sl_boxes7 h2 (by omega) (fun i hi j hj => ?_), fun i hi => ?_⟩, hB⟩
  · have hi1 : i < 1 := hi
    obtain rfl : i = 0 := by omega
    rcases (by omega : j = 0 ∨ j = 1) with rfl | rfl <;> rfl
  · have hi1 : i < 1 := hi
    obtain rfl : i = 0 := by omega
    exact ⟨ints_box (l := [1]) h0 (by omega), ints_box (l := [1, 2]) h1 (by omega)⟩
set_option maxRecDepth 100000 in
set_option maxHeartbeats 2000000 in
theorem works_build (w : World) :
    Calls Tryz.prog 15 #[] w fun e w' => e = .returned (.bool true) ∧ Below w.heap.size w w' := by
  go_enter Tryz.func15, Tryz.ntmps15
  go_upto_region 2 with (first
    | (go_at_call 52; refine (exb_any w).mono ?_; rintro e w1 ⟨A0, A1, A2, A3, A4, A5, q0, q1, q2, q3, q4, q5, rfl, hl1, hB1⟩; have HL1 := hide hl1; have HB1 := hide hB1; clear hl1 hB1)
    | (go_at_call 16; generalize hw0 : World.alloc _ _ = w0; obtain ⟨hms, hBm⟩ := mods_ex hw0 rfl rfl rfl; refine (Audit_any exMd _ _ A0 A1 A2 A3 A4 A5 q0 q1 q2 q3 q4 q5 exB w0 exB_sized exMd_sized (HL1.out.up hBm) hms (fun _ => by decide)).mono ?_; rw [exB_aud, exB_err]; rintro e w2 ⟨v2, he2, hop2, hB2⟩; have he3 : e = .returned (.tuple #[.agg #[.int .i64 0, .int .i64 1, v2], .bool true, .int .i64 0]) := he2; subst he3; obtain ⟨ad2, p2, e2⟩ := hop2.1; subst e2; have HV2 := hide hop2.2; have HB2 := hide (Below.to HB1.out (Below.to hBm hB2 (Nat.le_refl _)) (Nat.le_refl _)); clear hw0 hms hBm hB2 hop2 he2))
  generalize hw3 : World.alloc _ _ = w3
  obtain ⟨hb3, hB3, hs3⟩ := alloc1 hw3
  have HV3 := hide (Sl.up HV2.out hB3)
  have HB3 := hide (Below.to HB2.out hB3 (Nat.le_refl _))
  have HZ3 := hide hb3
  clear hw3 hb3 hB3 hs3
  go_upto_region 3 with (go_at_call 53; generalize hw4 : World.alloc _ _ = w4; obtain ⟨hb4, hB4, hs4⟩ := alloc1 hw4; refine (Reels_any [6, 5, 4, 5] 10 _ _ w4 (by unfold maxLen; decide) (ints_box (l := [6, 5, 4, 5]) hb4 (by omega))).mono ?_; rw [exB_rel, exB_rele]; rintro e w5 ⟨v5, rfl, hv5, hB5⟩; have HV5 := hide (Sl.up (Sl.up HV3.out hB4) hB5); have HZ5 := hide (box_to (box_to HZ3.out hB4) hB5); have HN5 := hide hv5; have HB5 := hide (Below.to HB3.out (Below.to hB4 hB5 (Nat.le_refl _)) (Nat.le_refl _)); clear hw4 hb4 hB4 hs4 hv5 hB5)
  have y0 := cellOf HZ5.out 0
  have y1 := cellOf HZ5.out 1
  have y2 := cellOf HZ5.out 2
  have l5 := box_lt HZ5.out
  go_wp2_with (first
    | (go_at_call 41; refine (SameVariant_any [true, false] [true, false] _ _ _ (Sl.up HV5.out (Below.allocT (Below.refl _ _) (Nat.le_refl _) _)) (bols_box (l := [true, false]) (heap_new _ _ _ rfl) (by simp)) (by decide) (by unfold maxLen; decide)).mono ?_; rintro e w6 ⟨rfl, hB6⟩; have HN6 := hide (Sl.up HN5.out (Below.to (Below.allocT (Below.refl _ _) (Nat.le_refl _) _) hB6 (Nat.le_refl _))); have HB6 := hide (Below.to (Below.allocT HB5.out (Nat.le_refl _) _) hB6 (Nat.le_refl _)); clear hB6)
    | (go_at_call 21; refine (sameInts12_any [0, 1, 0, 1] _ _ _ (by unfold maxLen; decide) (Nods.ints7 (Sl.up HN6.out (Below.allocT (Below.refl _ _) (Nat.le_refl _) _))) (ints_box (l := [0, 1, 0, 1]) (heap_new _ _ _ rfl) (by simp))).mono ?_; rintro e w7 ⟨rfl, hB7⟩))
  go_ret
  exact ⟨rfl, Below.to (Below.allocT HB6.out (Nat.le_refl _) _) hB7 (Nat.le_refl _)⟩
end Go.Proofs.YtehadoecnmfeoaaGreat
/- Check, Pick and Made on both sides, compared: walk of BuildMakes. -/
namespace Go.Proofs.YtehadoecnmfeoaaGreat
open Go.Joins Go.ChangeShapes Go.WideShapes Go.ChangeAt Go.RowKit Go.Deep
set_option linter.unusedVariables false
set_option linter.unusedSimpArgs false
theorem pikL_len (l : Lo) (ms : List Md) (x : List Bool) : (pikL l ms x).length ≤ ms.length := by
  unfold pikL
  split
  · exact pckK_le ms x _
  · simp
set_option maxRecDepth 100000 in
set_option maxHeartbeats 8000000 in
theorem buildMakes_walk (ms : List Md) (x : List Bool) (Am : Option Addr) (qm : Nat) (Ax : Option Addr) (qx : Nat) (A0 A1 A2 A3 A4 A5 : Option Addr) (q0 q1 q2 q3 q4 q5 : Nat) (l : Lo) (w : World) (hs : SizedL l) (hd : SizedD ms) (h : LoA w w.heap.size A0 A1 A2 A3 A4 A5 q0 q1 q2 q3 q4 q5 l) (hm : Mods w w.heap.size (.slice Am ms.length qm) ms) (hx : Bols w w.heap.size (.slice Ax x.length qx) x) :
    Calls Tryz.prog 7 #[.agg #[.slice A0 l.m.opts.length q0, .slice A1 l.m.rules.length q1, .slice A2 l.ss.length q2, .slice A3 l.us.length q3, .slice A4 l.ps.length q4, .slice A5 l.ws.length q5], .slice Am ms.length qm, .slice Ax x.length qx] w fun e w' => e = .returned (.bool true) ∧ Below w.heap.size w w' := by
  have hml := hd.n
  have H := hide h
  have HS := hide hs
  have HM := hide hm
  have HD := hide hd
  have HX := hide hx
  clear h hs hm hd hx
  obtain ⟨lg, hlg⟩ : ∃ z, lrgB l ms = z := ⟨_, rfl⟩
  have HLG := hide hlg
  cases lg with
  | true =>
    clear hlg
    go_enter Tryz.func7, Tryz.ntmps7
    go_upto_region 1 with (fail)
    generalize hw0 : World.alloc _ _ = w0
    obtain ⟨hb0, hB0, hs0⟩ := alloc1 hw0
    have HB0 := hide hB0
    have c0 := cellOf hb0 0; have c1 := cellOf hb0 1; have c2 := cellOf hb0 2; have c3 := cellOf hb0 3; have c4 := cellOf hb0 4; have c5 := cellOf hb0 5
    have hlb := box_lt hb0
    clear hw0 hb0 hB0 hs0
    go_wp2_with (first
      | (go_at_call 14; refine (large12_any ms Am qm A0 A1 A2 A3 A4 A5 q0 q1 q2 q3 q4 q5 l _ (H.out.up HB0.out)).mono ?_; rw [HLG.out]; rintro e w1 ⟨rfl, hB1⟩; have HB1 := hide (Below.to HB0.out hB1 (Nat.le_refl _)); clear hB1 c0 c1 c2 c3 c4 c5 hlb)
      | (go_at_call 15; refine (works_build _).mono ?_; rintro e w2 ⟨rfl, hB2⟩))
    go_ret
    exact ⟨rfl, Below.to HB1.out hB2 (Nat.le_refl _)⟩
  | false =>
  clear hlg
  obtain ⟨er, her⟩ : ∃ z, bldE l ms = z := ⟨_, rfl⟩
  obtain ⟨pe, hpe⟩ : ∃ z, pikE l ms x = z := ⟨_, rfl⟩
  obtain ⟨P, hP⟩ : ∃ z, pikL l ms x = z := ⟨_, rfl⟩
  obtain ⟨D, hD⟩ : ∃ z, madL l ms x = z := ⟨_, rfl⟩
  have HPL : Hid ((P.map fun (n : Nat) => (n : Int)).length ≤ maxLen) := by
    show _ ≤ _
    rw [List.length_map, ← hP]
    exact Nat.le_trans (pikL_len l ms x) hml
  have HDL : Hid ((D.map fun (n : Nat) => (n : Int)).length ≤ maxLen) := by
    show _ ≤ _
    rw [List.length_map, ← hD]
    have := madL_len l ms x
    unfold maxLen
    omega
  have HER := hide her
  have HPE := hide hpe
  have HP := hide hP
  have HDD := hide hD
  have g1 : (er != er) = false := by simp
  have g2 : (pe != pe) = false := by simp
  have g3 : (pe == pe) = true := by simp
  clear her hpe hP hD hml
  go_enter Tryz.func7, Tryz.ntmps7
  go_upto_region 1 with (fail)
  generalize hw0 : World.alloc _ _ = w0
  obtain ⟨hb0, hB0, hs0⟩ := alloc1 hw0
  have HB0 := hide hB0
  have HL0 : Hid (LoBox w0 w.heap.size A0 A1 A2 A3 A4 A5 q0 q1 q2 q3 q4 q5 l) := hb0
  have c0 := cellOf hb0 0; have c1 := cellOf hb0 1; have c2 := cellOf hb0 2; have c3 := cellOf hb0 3; have c4 := cellOf hb0 4; have c5 := cellOf hb0 5
  have hlb := box_lt hb0
  clear hw0 hb0 hB0 hs0
  go_upto_region 3 with (go_at_call 14; refine (large12_any ms Am qm A0 A1 A2 A3 A4 A5 q0 q1 q2 q3 q4 q5 l _ (H.out.up HB0.out)).mono ?_; rw [HLG.out]; rintro e w1 ⟨rfl, hB1⟩; have HL1 := hide (HL0.out.to hB1); have HB1 := hide (Below.to HB0.out hB1 (Nat.le_refl _)); clear hB1 c0 c1 c2 c3 c4 c5 hlb; have d0 := cellOf HL1.out 0; have d1 := cellOf HL1.out 1; have d2 := cellOf HL1.out 2; have d3 := cellOf HL1.out 3; have d4 := cellOf HL1.out 4; have d5 := cellOf HL1.out 5; have hld := box_lt HL1.out)
  have H1 := hide (H.out.up HB1.out)
  have HM1 := hide (HM.out.up HB1.out)
  refine wp_region_held_drew (S := (fun w' => Below w1.heap.size w1 w')) (by kernel_rfl) ?_ (fun hHeld => ?_)
  · try dsimp only
    exact (by repeat (first | exact Below.refl _ _ | assumption | refine Below.drew ?_ | refine Below.drewN ?_ _ | refine Below.allocT ?_ (Nat.le_refl _) _ | refine Below.setCell ?_ (by simp <;> omega) _ | refine Below.to ?_ (by assumption) (Nat.le_refl _)))
  refine zT 0 rfl ?_
  try simp only [zX]
  refine zT 1 rfl ?_
  try simp only [zX]
  refine zT 3 rfl ?_
  try simp only [zX]
  refine zT 4 rfl ?_
  try simp only [zX]
  refine wpAnyH_ready (rs := [2]) (by kernel_rfl) (by simp) ?_
  refine AllReadyH.cons rfl (fun K hK => ?_) AllReadyH.nil
  go_simp
  (first | (go_at_call 26; refine (bCheck_any ms Am qm A0 A1 A2 A3 A4 A5 q0 q1 q2 q3 q4 q5 l _ HS.out HD.out (H1.out.up (by repeat (first | exact Below.refl _ _ | assumption | refine Below.drew ?_ | refine Below.drewN ?_ _ | refine Below.allocT ?_ (Nat.le_refl _) _ | refine Below.setCell ?_ (by simp <;> omega) _ | refine Below.to ?_ (by assumption) (Nat.le_refl _)))) (HM1.out.up (by repeat (first | exact Below.refl _ _ | assumption | refine Below.drew ?_ | refine Below.drewN ?_ _ | refine Below.allocT ?_ (Nat.le_refl _) _ | refine Below.setCell ?_ (by simp <;> omega) _ | refine Below.to ?_ (by assumption) (Nat.le_refl _))))).mono ?_; rw [HER.out]; rintro e w5 ⟨rfl, hB5⟩) | (go_at_call 27; refine (rbCheck_any ms Am qm A0 A1 A2 A3 A4 A5 q0 q1 q2 q3 q4 q5 l _ HS.out HD.out (H1.out.up (by repeat (first | exact Below.refl _ _ | assumption | refine Below.drew ?_ | refine Below.drewN ?_ _ | refine Below.allocT ?_ (Nat.le_refl _) _ | refine Below.setCell ?_ (by simp <;> omega) _ | refine Below.to ?_ (by assumption) (Nat.le_refl _)))) (HM1.out.up (by repeat (first | exact Below.refl _ _ | assumption | refine Below.drew ?_ | refine Below.drewN ?_ _ | refine Below.allocT ?_ (Nat.le_refl _) _ | refine Below.setCell ?_ (by simp <;> omega) _ | refine Below.to ?_ (by assumption) (Nat.le_refl _))))).mono ?_; rw [HER.out]; rintro e w6 ⟨rfl, hB6⟩))
  (try dsimp only)
  refine hK.out _ _ ?_ (fun hNext => ?_)
  · try dsimp only
    exact (by repeat (first | exact Below.refl _ _ | assumption | refine Below.drew ?_ | refine Below.drewN ?_ _ | refine Below.allocT ?_ (Nat.le_refl _) _ | refine Below.setCell ?_ (by simp <;> omega) _ | refine Below.to ?_ (by assumption) (Nat.le_refl _)))
  clear hK K hHeld
  have hHeld := hNext
  clear hNext
  (try dsimp only at hHeld)
  try simp only [zX]
  refine wpAnyH_ready (rs := [5]) (by kernel_rfl) (by simp) ?_
  refine AllReadyH.cons rfl (fun K hK => ?_) AllReadyH.nil
  go_simp
  (first | (go_at_call 26; refine (bCheck_any ms Am qm A0 A1 A2 A3 A4 A5 q0 q1 q2 q3 q4 q5 l _ HS.out HD.out (H1.out.up (by repeat (first | exact Below.refl _ _ | assumption | refine Below.drew ?_ | refine Below.drewN ?_ _ | refine Below.allocT ?_ (Nat.le_refl _) _ | refine Below.setCell ?_ (by simp <;> omega) _ | refine Below.to ?_ (by assumption) (Nat.le_refl _)))) (HM1.out.up (by repeat (first | exact Below.refl _ _ | assumption | refine Below.drew ?_ | refine Below.drewN ?_ _ | refine Below.allocT ?_ (Nat.le_refl _) _ | refine Below.setCell ?_ (by simp <;> omega) _ | refine Below.to ?_ (by assumption) (Nat.le_refl _))))).mono ?_; rw [HER.out]; rintro e w5 ⟨rfl, hB5⟩) | (go_at_call 27; refine (rbCheck_any ms Am qm A0 A1 A2 A3 A4 A5 q0 q1 q2 q3 q4 q5 l _ HS.out HD.out (H1.out.up (by repeat (first | exact Below.refl _ _ | assumption | refine Below.drew ?_ | refine Below.drewN ?_ _ | refine Below.allocT ?_ (Nat.le_refl _) _ | refine Below.setCell ?_ (by simp <;> omega) _ | refine Below.to ?_ (by assumption) (Nat.le_refl _)))) (HM1.out.up (by repeat (first | exact Below.refl _ _ | assumption | refine Below.drew ?_ | refine Below.drewN ?_ _ | refine Below.allocT ?_ (Nat.le_refl _) _ | refine Below.setCell ?_ (by simp <;> omega) _ | refine Below.to ?_ (by assumption) (Nat.le_refl _))))).mono ?_; rw [HER.out]; rintro e w6 ⟨rfl, hB6⟩))
  (try dsimp only)
  refine hK.out _ _ ?_ (fun hNext => ?_)
  · try dsimp only
    exact (by repeat (first | exact Below.refl _ _ | assumption | refine Below.drew ?_ | refine Below.drewN ?_ _ | refine Below.allocT ?_ (Nat.le_refl _) _ | refine Below.setCell ?_ (by simp <;> omega) _ | refine Below.to ?_ (by assumption) (Nat.le_refl _)))
  clear hK K hHeld
  have hHeld := hNext
  clear hNext
  (try dsimp only at hHeld)
  try simp only [zX]
  refine zT 6 rfl ?_
  try simp only [zX]
  refine wpAnyH_done (by kernel_rfl) ?_ _
  clear d0 d1 d2 d3 d4 d5 hld
  have HB6 := hide (Below.to HB1.out hHeld (Nat.le_refl _))
  have HL6 := hide (HL1.out.to hHeld)
  clear hHeld H1 HM1
  have d0 := cellOf HL6.out 0; have d1 := cellOf HL6.out 1; have d2 := cellOf HL6.out 2; have d3 := cellOf HL6.out 3; have d4 := cellOf HL6.out 4; have d5 := cellOf HL6.out 5
  have hld := box_lt HL6.out
  go_upto_region 6 with (go_at_call 28; refine (Pick_any ms x Am qm Ax qx A0 A1 A2 A3 A4 A5 q0 q1 q2 q3 q4 q5 l w6 HS.out HD.out (H.out.up HB6.out) (HM.out.up HB6.out) (Sl.up HX.out HB6.out)).mono ?_; rw [HPE.out, HP.out]; rintro e w7 ⟨v7, rfl, hv7, hB7⟩; have HV7 := hide hv7; have HL7 := hide (HL6.out.to hB7); have HB7 := hide (Below.to HB6.out hB7 (Nat.le_refl _)); clear hv7 hB7 d0 d1 d2 d3 d4 d5 hld; have c0 := cellOf HL7.out 0; have c1 := cellOf HL7.out 1; have c2 := cellOf HL7.out 2; have c3 := cellOf HL7.out 3; have c4 := cellOf HL7.out 4; have c5 := cellOf HL7.out 5; have hlb := box_lt HL7.out)
  go_upto_region 9 with (first
    | (go_at_call 29; refine (rPick_any ms x Am qm Ax qx A0 A1 A2 A3 A4 A5 q0 q1 q2 q3 q4 q5 l w7 HS.out HD.out (H.out.up HB7.out) (HM.out.up HB7.out) (Sl.up HX.out HB7.out)).mono ?_; rw [HPE.out, HP.out]; rintro e w8 ⟨v8, rfl, hv8, hB8⟩; have HV8 := hide hv8; have HV78 := hide (Sl.up HV7.out hB8); have HL8 := hide (HL7.out.to hB8); have HB8 := hide (Below.to HB7.out hB8 (Nat.le_refl _)); clear hv8 hB8 c0 c1 c2 c3 c4 c5 hlb)
    | (go_at_call 21; refine (sameInts12_any (P.map fun (n : Nat) => (n : Int)) _ _ w8 HPL.out (Nods.ints7 HV78.out) (Nods.ints7 HV8.out)).mono ?_; rintro e w9 ⟨rfl, hB9⟩; have HL9 := hide (HL8.out.to hB9); have HB9 := hide (Below.to HB8.out hB9 (Nat.le_refl _)); clear hB9; have d0 := cellOf HL9.out 0; have d1 := cellOf HL9.out 1; have d2 := cellOf HL9.out 2; have d3 := cellOf HL9.out 3; have d4 := cellOf HL9.out 4; have d5 := cellOf HL9.out 5; have hld := box_lt HL9.out))
  go_upto_region 10 with (go_at_call 30; refine (Made_any ms x Am qm Ax qx A0 A1 A2 A3 A4 A5 q0 q1 q2 q3 q4 q5 l w9 HS.out HD.out (H.out.up HB9.out) (HM.out.up HB9.out) (Sl.up HX.out HB9.out)).mono ?_; rw [HPE.out, HDD.out]; rintro e w10 ⟨v10, rfl, hv10, hB10⟩; have HV10 := hide hv10; have HL10 := hide (HL9.out.to hB10); have HB10 := hide (Below.to HB9.out hB10 (Nat.le_refl _)); clear hv10 hB10 d0 d1 d2 d3 d4 d5 hld; have c0 := cellOf HL10.out 0; have c1 := cellOf HL10.out 1; have c2 := cellOf HL10.out 2; have c3 := cellOf HL10.out 3; have c4 := cellOf HL10.out 4; have c5 := cellOf HL10.out 5; have hlb := box_lt HL10.out)
  go_upto_region 11 with (go_at_call 31; refine (rMade_any ms x Am qm Ax qx A0 A1 A2 A3 A4 A5 q0 q1 q2 q3 q4 q5 l w10 HS.out HD.out (H.out.up HB10.out) (HM.out.up HB10.out) (Sl.up HX.out HB10.out)).mono ?_; rw [HPE.out, HDD.out]; rintro e w11 ⟨v11, rfl, hv11, hB11⟩; have HV11 := hide hv11; have HV101 := hide (Sl.up HV10.out hB11); have HB11 := hide (Below.to HB10.out hB11 (Nat.le_refl _)); clear hv11 hB11 c0 c1 c2 c3 c4 c5 hlb)
  go_wp2_with (first
    | (go_at_call 21; refine (sameInts12_any (D.map fun (n : Nat) => (n : Int)) _ _ w11 HDL.out (Nods.ints7 HV101.out) (Nods.ints7 HV11.out)).mono ?_; rintro e w12 ⟨rfl, hB12⟩; have HB12 := hide (Below.to HB11.out hB12 (Nat.le_refl _)); clear hB12)
    | (go_at_call 15; refine (works_build _).mono ?_; rintro e w13 ⟨rfl, hB13⟩))
  go_ret
  exact ⟨rfl, Below.to HB12.out hB13 (Nat.le_refl _)⟩
end Go.Proofs.YtehadoecnmfeoaaGreat
/- The laws' looms, opened: no condition. -/
namespace Go.Proofs.YtehadoecnmfeoaaGreat
open Go.Joins Go.ChangeShapes Go.WideShapes Go.ChangeAt Go.RowKit Go.Deep
set_option maxRecDepth 100000
set_option linter.unusedVariables false
set_option linter.unusedSimpArgs false
section
variable {H : Type} {enc : TypeId × Value → H} {W : World} {base b0 : Nat} {r : Reach} {spare : Nat → Bool} {held : Bool} {v : Value} {d : DataW H} {p : List MemPlace}
theorem open_lo (hv : Value.okWide Tryz.prog W r b0 31 v) (h : DataW.Trod enc Tryz.prog W base spare held 31 v d p) :
    ∃ (A0 A1 A2 A3 A4 A5 : Option Addr) (q0 q1 q2 q3 q4 q5 : Nat), ∃ l : Lo, v = .agg #[.slice A0 l.m.opts.length q0, .slice A1 l.m.rules.length q1, .slice A2 l.ss.length q2, .slice A3 l.us.length q3, .slice A4 l.ps.length q4, .slice A5 l.ws.length q5] ∧ LoA W W.heap.size A0 A1 A2 A3 A4 A5 q0 q1 q2 q3 q4 q5 l ∧ SizedL l := by
  obtain ⟨ov, rv, sv, uv, pv, wv, l, rfl, hl, hs, _⟩ := open_loom hv h
  obtain ⟨A0, A1, A2, A3, A4, A5, q0, q1, q2, q3, q4, q5, rfl, rfl, rfl, rfl, rfl, rfl, hla⟩ := hl.form
  exact ⟨A0, A1, A2, A3, A4, A5, q0, q1, q2, q3, q4, q5, l, rfl, hla, hs⟩
end
end Go.Proofs.YtehadoecnmfeoaaGreat

/- Part 34 of this claim's texts: walks and plain laws. -/
import Derived.Test.YtehadoecnmfeoaaGreatRows
import Derived.Test.YtehadoecnmfeoaaGreatGBE33
import Derived.Test.YtehadoecnmfeoaaGreatGBE28
import Derived.Test.YtehadoecnmfeoaaGreatGBE12
import Derived.Test.YtehadoecnmfeoaaGreatGBE3
import Derived.Test.YtehadoecnmfeoaaGreatGBE30
import Derived.Test.YtehadoecnmfeoaaGreatGBE32
import Derived.Test.YtehadoecnmfeoaaGreatGBE11
import Derived.Deep.DeepMust
import Derived.Deep.RegionHeld3
import Derived.Deep.DrawnRows
import Derived.Test.YtehadoecnmfeoaaGreatGBE17
/- The look at the example; equal lists of numbers are told equal: walks. -/
namespace Go.Proofs.YtehadoecnmfeoaaGreat
open Go.RowKit
set_option linter.unusedVariables false
set_option linter.unusedSimpArgs false
theorem Nods.ints7 {w : World} {B : Nat} {v : Value} {l : List Nat} (h : Nods w B v l) : Ints w B v (l.map fun (n : Nat) => (n : Int)) := by
  obtain ⟨A, b, off, cap, h1, h2, h3, h4⟩ := h
  have hl : (l.map fun (n : Nat) => (n : Int)).length = l.length := by simp
  refine ⟨A, b, off, cap, ?_, by rw [hl]; exact h2, ?_, fun i j hi hj => ?_⟩
  · rw [hl]; exact h1
  · rw [hl]; exact h3
  · rw [hl] at hi
    have := h4 i j hi hj
    rw [this]
    simp [hi]
set_option maxRecDepth 100000 in
set_option maxHeartbeats 2000000 in
theorem sameInts12_any (f : List Int) (u v : Value) (w : World) (hl : f.length ≤ maxLen) (h : Ints w w.heap.size u f) (h2 : Ints w w.heap.size v f) :
    Calls Tryz.prog 21 #[u, v] w fun e w' => e = .returned (.bool true) ∧ Below w.heap.size w w' := by
  obtain ⟨A, q, rfl⟩ := Sl.form h
  obtain ⟨C, r, rfl⟩ := Sl.form h2
  unfold maxLen at hl
  have H := hide h
  have H2 := hide h2
  clear h h2
  go_enter Tryz.func21, Tryz.ntmps21
  go_wp2_with fail
  go_loopw [5] (fun i wr => ∃ k : Nat, k ≤ f.length ∧ i = .int .i64 k ∧ Hid (Below w.heap.size w wr)) (fun i _ => f.length - (intOf i).toNat)
  case atStart => exact ⟨0, Nat.zero_le _, rfl, Below.refl _ _⟩
  case round =>
    obtain ⟨k, hk, rfl, hB⟩ := hrel
    by_cases hlt : k < f.length
    · obtain ⟨_, hq, b, off, rfl, hb, g0⟩ := sl_at (Sl.below H.out hB.out) hlt
      obtain ⟨_, hq2, b2, off2, rfl, hb2, g1⟩ := sl_at (Sl.below H2.out hB.out) hlt
      have c0 := g0 0 (by omega)
      have d0 := g1 0 (by omega)
      rw [Nat.mul_one, Nat.add_zero] at c0 d0
      have l0 : b < wr.heap.size := Nat.lt_of_lt_of_le hb hB.out.size
      have l1 : b2 < wr.heap.size := Nat.lt_of_lt_of_le hb2 hB.out.size
      have ik0 : (0 : Int) ≤ (k : Int) := by omega
      have ik : (k : Int) < (f.length : Int) := by omega
      have iq : (f.length : Int) ≤ (q : Int) := by omega
      have iq2 : (f.length : Int) ≤ (r : Int) := by omega
      obtain ⟨x, hx⟩ : ∃ x, f.getD k 0 = x := ⟨_, rfl⟩
      rw [hx] at c0 d0
      have n1 : (x != x) = false := by simp
      clear hx g0 g1
      go_wp2_with fail
      refine wp_region_held_drew (S := (fun w' => Below wr.heap.size wr w')) (by kernel_rfl) ?_ (fun hHeld => ?_)
      · try dsimp only
        exact (by repeat (first | exact Below.refl _ _ | assumption | refine Below.drew ?_ | refine Below.drewN ?_ _ | refine Below.allocT ?_ (Nat.le_refl _) _ | refine Below.setCell ?_ (by simp <;> omega) _ | refine Below.to ?_ (by assumption) (Nat.le_refl _)))
      refine zT 0 rfl ?_
      try simp only [zX]
      refine zT 1 rfl ?_
      try simp only [zX]
      refine zT 2 rfl ?_
      try simp only [zX]
      refine zT 3 rfl ?_
      try simp only [zX]
      refine zT 4 rfl ?_
      try simp only [zX]
      refine zT 5 rfl ?_
      try simp only [zX]
      refine zT 6 rfl ?_
      try simp only [zX]
      refine zT 7 rfl ?_
      try simp only [zX]
      refine zT 8 rfl ?_
      try simp only [zX]
      refine wpAnyH_done (by kernel_rfl) ?_ _
      go_wp2_with fail
      go_roundw
      case rel => exact ⟨k + 1, by omega, by go_num, Below.to hB.out hHeld (Nat.le_refl _)⟩
      case measure => simp [intOf]; omega
    · go_wp2_with fail
      go_ret
      exact ⟨rfl, hB.out⟩
def exMd : List Md := [⟨[1], [1, 2]⟩]
theorem exB_aud : audA exB exMd = some (0, 1, [true, false]) := by kernel_rfl
theorem exB_err : bldE exB exMd = 0 := by kernel_rfl
theorem exB_rel : relR [6, 5, 4, 5] 10 = [0, 1, 0, 1] := by kernel_rfl
theorem exB_rele : relE [6, 5, 4, 5] 10 = 0 := by kernel_rfl
theorem exB_sized : SizedL exB := by
  have hm : ∀ n : Nat, n ≤ 100 → n ≤ maxLen := fun n hn => by unfold maxLen; omega
  refine ⟨⟨hm _ (by decide), fun x hx => hm _ ?_, hm _ (by decide), fun f hf => ?_⟩, hm _ (by decide), hm _ (by decide), hm _ (by decide), hm _ (by decide), fun x hx => hm _ ?_, fun x hx => ⟨hm _ ?_, hm _ ?_⟩⟩
  · have : x = ⟨#[116, 111, 119]⟩ ∨ x = ⟨#[104, 101, 97, 116]⟩ := by simpa [exB] using hx
    rcases this with rfl | rfl <;> decide
  · simp [exB] at hf
  · simp [exB] at hx
    rcases hx with rfl | rfl | rfl <;> decide
  · simp [exB] at hx
    rcases hx with rfl | rfl | rfl <;> decide
  · simp [exB] at hx
    rcases hx with rfl | rfl | rfl <;> decide
theorem exMd_sized : SizedD exMd := ⟨by unfold maxLen; decide, fun x hx => by
  simp [exMd] at hx
  subst hx
  unfold maxLen
  decide⟩
theorem mods_ex {w w0 : World} {o p q : Obj} (h : ((w.alloc o).alloc p).alloc q = w0) {t u s : Nat} (ho : o = .cells #[.int .i64 1] t (0, 0)) (hp : p = .cells #[.int .i64 1, .int .i64 2] u (0, 0)) (hq : q = .cells #[.slice (some ⟨w.heap.size, 0, none⟩) 1 1, .slice (some ⟨w.heap.size + 1, 0, none⟩) 2 2] s (0, 0)) :
    Mods w0 w0.heap.size (.slice (some ⟨w.heap.size + 2, 0, none⟩) 1 1) exMd ∧ Below w.heap.size w w0 := by
  obtain ⟨h0, h1, h2, hB, hs⟩ := alloc3 h
  subst ho hp hq
  refine ⟨⟨fun _ => .slice (some ⟨w.heap.size, 0, none⟩) 1 1, fun _ => .slice (some ⟨w.heap.size + 1, 0, none⟩) 2 2, sl_boxes7 h2 (by omega) (fun i hi j hj => ?_), fun i hi => ?_⟩, hB⟩
  · have hi1 : i < 1 := hi
    obtain rfl : i = 0 := by omega
    rcases (by omega : j = 0 ∨ j = 1) with rfl | rfl <;> rfl
  · have hi1 : i < 1 := hi
    obtain rfl : i = 0 := by omega
    exact ⟨ints_box (l := [1]) h0 (by omega), ints_box (l := [1, 2]) h1 (by omega)⟩
set_option maxRecDepth 100000 in
set_option maxHeartbeats 2000000 in
theorem works_build (w : World) :
    Calls Tryz.prog 15 #[] w fun e w' => e = .returned (.bool true) ∧ Below w.heap.size w w' := by
  go_enter Tryz.func15, Tryz.ntmps15
  go_upto_region 2 with (first
    | (go_at_call 52; refine (exb_any w).mono ?_; rintro e w1 ⟨A0, A1, A2, A3, A4, A5, q0, q1, q2, q3, q4, q5, rfl, hl1, hB1⟩; have HL1 := hide hl1; have HB1 := hide hB1; clear hl1 hB1)
    | (go_at_call 16; generalize hw0 : World.alloc _ _ = w0; obtain ⟨hms, hBm⟩ := mods_ex hw0 rfl rfl rfl; refine (Audit_any exMd _ _ A0 A1 A2 A3 A4 A5 q0 q1 q2 q3 q4 q5 exB w0 exB_sized exMd_sized (HL1.out.up hBm) hms (fun _ => by decide)).mono ?_; rw [exB_aud, exB_err]; rintro e w2 ⟨v2, he2, hop2, hB2⟩; have he3 : e = .returned (.tuple #[.agg #[.int .i64 0, .int .i64 1, v2], .bool true, .int .i64 0]) := he2; subst he3; obtain ⟨ad2, p2, e2⟩ := hop2.1; subst e2; have HV2 := hide hop2.2; have HB2 := hide (Below.to HB1.out (Below.to hBm hB2 (Nat.le_refl _)) (Nat.le_refl _)); clear hw0 hms hBm hB2 hop2 he2))
  generalize hw3 : World.alloc _ _ = w3
  obtain ⟨hb3, hB3, hs3⟩ := alloc1 hw3
  have HV3 := hide (Sl.up HV2.out hB3)
  have HB3 := hide (Below.to HB2.out hB3 (Nat.le_refl _))
  have HZ3 := hide hb3
  clear hw3 hb3 hB3 hs3
  go_upto_region 3 with (go_at_call 53; generalize hw4 : World.alloc _ _ = w4; obtain ⟨hb4, hB4, hs4⟩ := alloc1 hw4; refine (Reels_any [6, 5, 4, 5] 10 _ _ w4 (by unfold maxLen; decide) (ints_box (l := [6, 5, 4, 5]) hb4 (by omega))).mono ?_; rw [exB_rel, exB_rele]; rintro e w5 ⟨v5, rfl, hv5, hB5⟩; have HV5 := hide (Sl.up (Sl.up HV3.out hB4) hB5); have HZ5 := hide (box_to (box_to HZ3.out hB4) hB5); have HN5 := hide hv5; have HB5 := hide (Below.to HB3.out (Below.to hB4 hB5 (Nat.le_refl _)) (Nat.le_refl _)); clear hw4 hb4 hB4 hs4 hv5 hB5)
  have y0 := cellOf HZ5.out 0
  have y1 := cellOf HZ5.out 1
  have y2 := cellOf HZ5.out 2
  have l5 := box_lt HZ5.out
  go_wp2_with (first
    | (go_at_call 41; refine (SameVariant_any [true, false] [true, false] _ _ _ (Sl.up HV5.out (Below.allocT (Below.refl _ _) (Nat.le_refl _) _)) (bols_box (l := [true, false]) (heap_new _ _ _ rfl) (by simp)) (by decide) (by unfold maxLen; decide)).mono ?_; rintro e w6 ⟨rfl, hB6⟩; have HN6 := hide (Sl.up HN5.out (Below.to (Below.allocT (Below.refl _ _) (Nat.le_refl _) _) hB6 (Nat.le_refl _))); have HB6 := hide (Below.to (Below.allocT HB5.out (Nat.le_refl _) _) hB6 (Nat.le_refl _)); clear hB6)
    | (go_at_call 21; refine (sameInts12_any [0, 1, 0, 1] _ _ _ (by unfold maxLen; decide) (Nods.ints7 (Sl.up HN6.out (Below.allocT (Below.refl _ _) (Nat.le_refl _) _))) (ints_box (l := [0, 1, 0, 1]) (heap_new _ _ _ rfl) (by simp))).mono ?_; rintro e w7 ⟨rfl, hB7⟩))
  go_ret
  exact ⟨rfl, Below.to (Below.allocT HB6.out (Nat.le_refl _) _) hB7 (Nat.le_refl _)⟩
end Go.Proofs.YtehadoecnmfeoaaGreat
/- A defect that is found is one, and none comes before it: walk of BuildExact. -/
namespace Go.Proofs.YtehadoecnmfeoaaGreat
open Go.Joins Go.ChangeShapes Go.WideShapes Go.ChangeAt Go.RowKit Go.Deep
set_option linter.unusedVariables false
set_option linter.unusedSimpArgs false
theorem bui9_yes {m : Mo} {vs : List Bool} (h : m.err = 0) (h2 : vs.length = m.opts.length) (h3 : allF (vf vs) m.rules = true) : buiB m vs = true ∧ buiE m vs = 0 := by
  obtain ⟨h4, h5, h6⟩ := bui_ok h h2
  rw [fst_neg h3] at h6
  exact ⟨h6.trans (by simp), h4⟩
theorem bui9_inv {m : Mo} {vs : List Bool} (he : buiE m vs = 0) (hb : buiB m vs = true) : vs ∈ allM m := by
  have h0 := he
  unfold buiE at h0
  split at h0
  · rename_i h1; exact absurd h0 h1
  · rename_i h1
    split at h0
    · omega
    · rename_i h2
      have h5 : m.err = 0 := by omega
      have h6 : vs.length = m.opts.length := by omega
      unfold allM
      rw [List.mem_filter]
      refine ⟨exts_all _ _ h6, ?_⟩
      cases h7 : allF (vf vs) m.rules with
      | true => rfl
      | false =>
        have h8 := fst_pos h7
        obtain ⟨_, _, h9⟩ := bui_ok h5 h6
        rw [hb] at h9
        have h10 := of_decide_eq_true h9.symm
        omega
theorem allM_bui {m : Mo} {vs : List Bool} (h : m.err = 0) (hv : vs ∈ allM m) : buiB m vs = true ∧ buiE m vs = 0 := by
  refine bui9_yes h (allM_len hv) ?_
  unfold allM at hv
  exact (List.mem_filter.1 hv).2
set_option maxRecDepth 100000 in
set_option maxHeartbeats 8000000 in
theorem buildExact_walk (ms : List Md) (x : List Bool) (Am : Option Addr) (qm : Nat) (Ax : Option Addr) (qx : Nat) (A0 A1 A2 A3 A4 A5 : Option Addr) (q0 q1 q2 q3 q4 q5 : Nat) (l : Lo) (w : World) (hs : SizedL l) (hd : SizedD ms) (h : LoA w w.heap.size A0 A1 A2 A3 A4 A5 q0 q1 q2 q3 q4 q5 l) (hm : Mods w w.heap.size (.slice Am ms.length qm) ms) (hx : Bols w w.heap.size (.slice Ax x.length qx) x) :
    Calls Tryz.prog 8 #[.agg #[.slice A0 l.m.opts.length q0, .slice A1 l.m.rules.length q1, .slice A2 l.ss.length q2, .slice A3 l.us.length q3, .slice A4 l.ps.length q4, .slice A5 l.ws.length q5], .slice Am ms.length qm, .slice Ax x.length qx] w fun e w' => e = .returned (.bool true) ∧ Below w.heap.size w w' := by
  have H := hide h
  have HS := hide hs
  have HM := hide hm
  have HD := hide hd
  have HX := hide hx
  clear h hs hm hd hx
  obtain ⟨lg, hlg⟩ : ∃ z, lrgB l ms = z := ⟨_, rfl⟩
  have HLG := hide hlg
  cases lg with
  | true =>
    clear hlg
    go_enter Tryz.func8, Tryz.ntmps8
    go_upto_region 1 with (fail)
    generalize hw0 : World.alloc _ _ = w0
    obtain ⟨hb0, hB0, hs0⟩ := alloc1 hw0
    have HB0 := hide hB0
    have c0 := cellOf hb0 0; have c1 := cellOf hb0 1; have c2 := cellOf hb0 2; have c3 := cellOf hb0 3; have c4 := cellOf hb0 4; have c5 := cellOf hb0 5
    have hlb := box_lt hb0
    clear hw0 hb0 hB0 hs0
    go_wp2_with (first
      | (go_at_call 14; refine (large12_any ms Am qm A0 A1 A2 A3 A4 A5 q0 q1 q2 q3 q4 q5 l _ (H.out.up HB0.out)).mono ?_; rw [HLG.out]; rintro e w1 ⟨rfl, hB1⟩; have HB1 := hide (Below.to HB0.out hB1 (Nat.le_refl _)); clear hB1 c0 c1 c2 c3 c4 c5 hlb)
      | (go_at_call 15; refine (works_build _).mono ?_; rintro e w2 ⟨rfl, hB2⟩))
    go_ret
    exact ⟨rfl, Below.to HB1.out hB2 (Nat.le_refl _)⟩
  | false =>
  have HNN : Hid (l.m.err = 0 → l.m.opts.length ≤ 12) := fun he => by have := lrg_small hlg he; omega
  clear hlg
  obtain ⟨er, her⟩ : ∃ z, bldE l ms = z := ⟨_, rfl⟩
  have HER := hide her
  by_cases he0 : er = 0
  case neg =>
    have hr : audA l ms = none := by unfold audA; rw [her, if_neg he0]
    have HRES := hide hr
    have g1 : (er != 0) = true := by simpa using he0
    clear her he0 hr
    go_enter Tryz.func8, Tryz.ntmps8
    go_upto_region 1 with (fail)
    generalize hw0 : World.alloc _ _ = w0
    obtain ⟨hb0, hB0, hs0⟩ := alloc1 hw0
    have HB0 := hide hB0
    have HL0 : Hid (LoBox w0 w.heap.size A0 A1 A2 A3 A4 A5 q0 q1 q2 q3 q4 q5 l) := hb0
    have c0 := cellOf hb0 0; have c1 := cellOf hb0 1; have c2 := cellOf hb0 2; have c3 := cellOf hb0 3; have c4 := cellOf hb0 4; have c5 := cellOf hb0 5
    have hlb := box_lt hb0
    clear hw0 hb0 hB0 hs0
    go_upto_region 4 with (first
      | (go_at_call 14; refine (large12_any ms Am qm A0 A1 A2 A3 A4 A5 q0 q1 q2 q3 q4 q5 l _ (H.out.up HB0.out)).mono ?_; rw [HLG.out]; rintro e w1 ⟨rfl, hB1⟩; have HL1 := hide (HL0.out.to hB1); have HB1 := hide (Below.to HB0.out hB1 (Nat.le_refl _)); clear hB1 c0 c1 c2 c3 c4 c5 hlb; have d0 := cellOf HL1.out 0; have d1 := cellOf HL1.out 1; have d2 := cellOf HL1.out 2; have d3 := cellOf HL1.out 3; have d4 := cellOf HL1.out 4; have d5 := cellOf HL1.out 5; have hld := box_lt HL1.out)
      | (go_at_call 16; refine (Audit_any ms _ _ A0 A1 A2 A3 A4 A5 q0 q1 q2 q3 q4 q5 l w1 HS.out HD.out (H.out.up HB1.out) (HM.out.up HB1.out) HNN.out).mono ?_; rw [HRES.out, HER.out]; rintro e w2 ⟨he2, hB2⟩; have he3 : e = .returned (.tuple #[.agg #[.int .i64 0, .int .i64 0, .slice none 0 0], .bool false, .int .i64 er]) := he2; subst he3; have HB2 := hide (Below.to HB1.out hB2 (Nat.le_refl _)); clear he2 hB2 d0 d1 d2 d3 d4 d5 hld))
    generalize hw3 : World.alloc _ _ = w3
    obtain ⟨hb3, hB3, hs3⟩ := alloc1 hw3
    have HB3 := hide (Below.to HB2.out hB3 (Nat.le_refl _))
    clear hw3 hb3 hB3 hs3
    go_wp2_with (go_at_call 15; refine (works_build _).mono ?_; rintro e w4 ⟨rfl, hB4⟩)
    go_ret
    exact ⟨rfl, Below.to HB3.out hB4 (Nat.le_refl _)⟩
  case pos =>
  subst he0
  have okm := bldE_ok her
  have HMO := hide okm.lo.m
  have hws60 := okm.lo.w60
  obtain ⟨br, hbr⟩ : ∃ z, buiR l.m x = z := ⟨_, rfl⟩
  obtain ⟨bb, hbb⟩ : ∃ z, buiB l.m x = z := ⟨_, rfl⟩
  obtain ⟨be, hbe⟩ : ∃ z, buiE l.m x = z := ⟨_, rfl⟩
  have HBR := hide hbr
  have HBB := hide hbb
  have HBE := hide hbe
  have n0 : ((0 : Int) != 0) = false := by decide
  have HIN : Hid (be = 0 → bb = true → x ∈ allM l.m) := fun h1 h2 => bui9_inv (hbe.trans h1) (hbb.trans h2)
  clear okm hbr hbb hbe her
  obtain ⟨res, hres⟩ : ∃ z, audA l ms = z := ⟨_, rfl⟩
  cases res with
  | none =>
    have HRES := hide hres
    clear hres
    go_enter Tryz.func8, Tryz.ntmps8
    go_upto_region 1 with (fail)
    generalize hw0 : World.alloc _ _ = w0
    obtain ⟨hb0, hB0, hs0⟩ := alloc1 hw0
    have HB0 := hide hB0
    have HL0 : Hid (LoBox w0 w.heap.size A0 A1 A2 A3 A4 A5 q0 q1 q2 q3 q4 q5 l) := hb0
    have c0 := cellOf hb0 0; have c1 := cellOf hb0 1; have c2 := cellOf hb0 2; have c3 := cellOf hb0 3; have c4 := cellOf hb0 4; have c5 := cellOf hb0 5
    have hlb := box_lt hb0
    clear hw0 hb0 hB0 hs0
    go_upto_region 4 with (first
      | (go_at_call 14; refine (large12_any ms Am qm A0 A1 A2 A3 A4 A5 q0 q1 q2 q3 q4 q5 l _ (H.out.up HB0.out)).mono ?_; rw [HLG.out]; rintro e w1 ⟨rfl, hB1⟩; have HL1 := hide (HL0.out.to hB1); have HB1 := hide (Below.to HB0.out hB1 (Nat.le_refl _)); clear hB1 c0 c1 c2 c3 c4 c5 hlb; have d0 := cellOf HL1.out 0; have d1 := cellOf HL1.out 1; have d2 := cellOf HL1.out 2; have d3 := cellOf HL1.out 3; have d4 := cellOf HL1.out 4; have d5 := cellOf HL1.out 5; have hld := box_lt HL1.out)
      | (go_at_call 16; refine (Audit_any ms _ _ A0 A1 A2 A3 A4 A5 q0 q1 q2 q3 q4 q5 l w1 HS.out HD.out (H.out.up HB1.out) (HM.out.up HB1.out) HNN.out).mono ?_; rw [HRES.out, HER.out]; rintro e w2 ⟨he2, hB2⟩; have he3 : e = .returned (.tuple #[.agg #[.int .i64 0, .int .i64 0, .slice none 0 0], .bool false, .int .i64 0]) := he2; subst he3; clear he2; have HL2 := hide (HL1.out.to hB2); have HB2 := hide (Below.to HB1.out hB2 (Nat.le_refl _)); clear hB2 d0 d1 d2 d3 d4 d5 hld))
    generalize hw3 : World.alloc _ _ = w3
    obtain ⟨hb3, hB3, hs3⟩ := alloc1 hw3
    have HL3 := hide (HL2.out.to hB3)
    have HB3 := hide (Below.to HB2.out hB3 (Nat.le_refl _))
    have c0 := cellOf HL3.out 0; have c1 := cellOf HL3.out 1; have c2 := cellOf HL3.out 2; have c3 := cellOf HL3.out 3; have c4 := cellOf HL3.out 4; have c5 := cellOf HL3.out 5
    have hlb := box_lt HL3.out
    clear hw3 hb3 hB3 hs3
    go_upto_region 11 with (fail)
    obtain ⟨W5, hW5⟩ : ∃ wo : World, wo = w3 := ⟨_, rfl⟩
    subst hW5
    have HBq := HB3
    have HLq := HL3
    by_cases hbe0 : be = 0
    case neg =>
      have g1 : (be != 0) = true := by simpa using hbe0
      clear hbe0
      go_wp2_with (first | (go_at_call 32; refine (Buildable_any l.m x _ _ _ W5 HS.out.m (H.out.up HBq.out).m (Sl.up HX.out HBq.out)).mono ?_; rw [HBR.out, HBB.out, HBE.out]; rintro e w6 ⟨rfl, hB6⟩; have HL6 := hide (HLq.out.to hB6); have HB6 := hide (Below.to HBq.out hB6 (Nat.le_refl _)); clear hB6 c0 c1 c2 c3 c4 c5 hlb) | (go_at_call 15; refine (works_build _).mono ?_; rintro e w9 ⟨rfl, hB9⟩))
      go_ret
      exact ⟨rfl, Below.to HB6.out hB9 (Nat.le_refl _)⟩
    case pos =>
    subst hbe0
    cases bb with
    | false =>
      go_wp2_with (first | (go_at_call 32; refine (Buildable_any l.m x _ _ _ W5 HS.out.m (H.out.up HBq.out).m (Sl.up HX.out HBq.out)).mono ?_; rw [HBR.out, HBB.out, HBE.out]; rintro e w6 ⟨rfl, hB6⟩; have HL6 := hide (HLq.out.to hB6); have HB6 := hide (Below.to HBq.out hB6 (Nat.le_refl _)); clear hB6 c0 c1 c2 c3 c4 c5 hlb) | (go_at_call 15; refine (works_build _).mono ?_; rintro e w9 ⟨rfl, hB9⟩))
      go_ret
      exact ⟨rfl, Below.to HB6.out hB9 (Nat.le_refl _)⟩
    | true =>
    have hxin := HIN.out rfl rfl
    have HXI := hide hxin
    have HXL := hide (allM_len hxin)
    clear hxin
    go_upto_region 14 with (go_at_call 32; refine (Buildable_any l.m x _ _ _ W5 HS.out.m (H.out.up HBq.out).m (Sl.up HX.out HBq.out)).mono ?_; rw [HBR.out, HBB.out, HBE.out]; rintro e w6 ⟨rfl, hB6⟩; have HL6 := hide (HLq.out.to hB6); have HB6 := hide (Below.to HBq.out hB6 (Nat.le_refl _)); clear hB6 c0 c1 c2 c3 c4 c5 hlb)
    obtain ⟨W6, hW6⟩ : ∃ wo : World, wo = w6 := ⟨_, rfl⟩
    subst hW6
    go_wp2_with fail
    go_loopw [17, 18, 19] (fun i _ _ wr => ∃ k9 : Nat, i = .int .i64 k9 ∧ k9 ≤ l.ws.length ∧ Hid (Below W6.heap.size W6 wr)) (fun i _ _ _ => l.ws.length - (intOf i).toNat)
    case atStart => exact ⟨0, rfl, Nat.zero_le _, Below.refl _ _⟩
    case round =>
      obtain ⟨k9, rfl, hk9, HW⟩ := hrel
      have HBr := hide (Below.to HB6.out HW.out (Nat.le_refl _))
      have HLr := hide (HL6.out.to HW.out)
      have d0 := cellOf HLr.out 0; have d1 := cellOf HLr.out 1; have d2 := cellOf HLr.out 2; have d3 := cellOf HLr.out 3; have d4 := cellOf HLr.out 4; have d5 := cellOf HLr.out 5
      have hld := box_lt HLr.out
      by_cases hkl : k9 < l.ws.length
      case neg =>
        have hkl1 : ¬ (k9 : Int) < (l.ws.length : Int) := by omega
        clear hkl
        go_wp2_with (go_at_call 15; refine (works_build _).mono ?_; rintro e w9 ⟨rfl, hB9⟩)
        go_ret
        exact ⟨rfl, Below.to HBr.out hB9 (Nat.le_refl _)⟩
      case pos =>
      have hkl1 : (k9 : Int) < (l.ws.length : Int) := by omega
      have ik0 : (0 : Int) ≤ (k9 : Int) := by omega
      obtain ⟨kk, hkk⟩ : ∃ z, kndN l ms x k9 = z := ⟨_, rfl⟩
      have HKK := hide hkk
      have hkk3 : kk ≤ 3 := by rw [← hkk]; exact kndB_le _ _
      have hk0 : kk = 0 := by
        by_cases hc : kk = 0
        · exact hc
        · obtain ⟨r, hr, _⟩ := audA_least HER.out HXI.out hkl (by rw [hkk]; exact hc)
          rw [HRES.out] at hr
          cases hr
      have f1 : decide ((0 : Int) < (kk : Int)) = false := by simp; omega
      have f1b : decide (0 < kk) = false := by simp; omega
      have HK0 := hide hk0
      clear hk0 hkk
      go_wp2_with (go_at_call 33; refine (defect_any k9 ms x Am qm Ax qx A0 A1 A2 A3 A4 A5 q0 q1 q2 q3 q4 q5 l wr HS.out HD.out (H.out.up HBr.out) (HM.out.up HBr.out) (Sl.up HX.out HBr.out) HER.out HXL.out hkl).mono ?_; rw [HKK.out]; rintro e w7 ⟨rfl, hB7⟩; have HW7 := hide (Below.to HW.out hB7 (Nat.le_refl _)); clear hB7 d0 d1 d2 d3 d4 d5 hld)
      go_roundw
      case rel => exact ⟨k9 + 1, by go_num, by omega, HW7⟩
      case measure => simp [intOf]; omega
  | some r =>
    obtain ⟨k, kd, u⟩ := r
    obtain ⟨hkw, hui, huk, hkd1, hkd3⟩ := audA_is HER.out hres
    have hkw : k < l.ws.length := hkw
    have hub := allM_bui HMO.out hui
    have HUB : Hid (buiB l.m u = true) := hub.1
    have HUE : Hid (buiE l.m u = 0) := hub.2
    have HUK : Hid (kndN l ms u k = kd) := huk
    have HUL : Hid (u.length = l.m.opts.length) := allM_len hui
    have hkd3 : kd ≤ 3 := hkd3
    have HRES := hide hres
    clear hres hui huk hub hkd1
    go_enter Tryz.func8, Tryz.ntmps8
    go_upto_region 1 with (fail)
    generalize hw0 : World.alloc _ _ = w0
    obtain ⟨hb0, hB0, hs0⟩ := alloc1 hw0
    have HB0 := hide hB0
    have HL0 : Hid (LoBox w0 w.heap.size A0 A1 A2 A3 A4 A5 q0 q1 q2 q3 q4 q5 l) := hb0
    have c0 := cellOf hb0 0; have c1 := cellOf hb0 1; have c2 := cellOf hb0 2; have c3 := cellOf hb0 3; have c4 := cellOf hb0 4; have c5 := cellOf hb0 5
    have hlb := box_lt hb0
    clear hw0 hb0 hB0 hs0
    go_upto_region 4 with (first
      | (go_at_call 14; refine (large12_any ms Am qm A0 A1 A2 A3 A4 A5 q0 q1 q2 q3 q4 q5 l _ (H.out.up HB0.out)).mono ?_; rw [HLG.out]; rintro e w1 ⟨rfl, hB1⟩; have HL1 := hide (HL0.out.to hB1); have HB1 := hide (Below.to HB0.out hB1 (Nat.le_refl _)); clear hB1 c0 c1 c2 c3 c4 c5 hlb; have d0 := cellOf HL1.out 0; have d1 := cellOf HL1.out 1; have d2 := cellOf HL1.out 2; have d3 := cellOf HL1.out 3; have d4 := cellOf HL1.out 4; have d5 := cellOf HL1.out 5; have hld := box_lt HL1.out)
      | (go_at_call 16; refine (Audit_any ms _ _ A0 A1 A2 A3 A4 A5 q0 q1 q2 q3 q4 q5 l w1 HS.out HD.out (H.out.up HB1.out) (HM.out.up HB1.out) HNN.out).mono ?_; rw [HRES.out, HER.out]; rintro e w2 ⟨v2, he2, hop2, hB2⟩; have he3 : e = .returned (.tuple #[.agg #[.int .i64 (k : Nat), .int .i64 (kd : Nat), v2], .bool true, .int .i64 0]) := he2; subst he3; obtain ⟨Au, qu, e2⟩ := Sl.form hop2.2; subst e2; have HV2 := hide hop2.2; clear hop2 he2; have HL2 := hide (HL1.out.to hB2); have HB2 := hide (Below.to HB1.out hB2 (Nat.le_refl _)); clear hB2 d0 d1 d2 d3 d4 d5 hld))
    generalize hw3 : World.alloc _ _ = w3
    obtain ⟨hb3, hB3, hs3⟩ := alloc1 hw3
    have HV3 := hide (Sl.up HV2.out hB3)
    obtain ⟨z, hz⟩ : ∃ z, w2.heap.size = z := ⟨_, rfl⟩
    rw [hz] at hb3 ⊢
    have HZ3 := hide hb3
    have HL3 := hide (HL2.out.to hB3)
    have HB3 := hide (Below.to HB2.out hB3 (Nat.le_refl _))
    have c0 := cellOf HL3.out 0; have c1 := cellOf HL3.out 1; have c2 := cellOf HL3.out 2; have c3 := cellOf HL3.out 3; have c4 := cellOf HL3.out 4; have c5 := cellOf HL3.out 5
    have hlb := box_lt HL3.out
    have y0 := cellOf hb3 0
    have y1 := cellOf hb3 1
    have y2 := cellOf hb3 2
    have ly := box_lt hb3
    clear hw3 hb3 hB3 hs3 hz
    have gk : ((kd : Int) != (kd : Int)) = false := by simp
    go_upto_region 11 with (first
      | (go_at_call 32; refine (Buildable_any l.m u _ _ _ w3 HS.out.m (H.out.up HB3.out).m HV3.out).mono ?_; rw [HUB.out, HUE.out]; rintro e w4 ⟨rfl, hB4⟩; have HV4 := hide (Sl.up HV3.out hB4); have HZ4 := hide (box_to HZ3.out hB4); have HL4 := hide (HL3.out.to hB4); have HB4 := hide (Below.to HB3.out hB4 (Nat.le_refl _)); clear hB4 c0 c1 c2 c3 c4 c5 hlb y0 y1 y2 ly; have d0 := cellOf HL4.out 0; have d1 := cellOf HL4.out 1; have d2 := cellOf HL4.out 2; have d3 := cellOf HL4.out 3; have d4 := cellOf HL4.out 4; have d5 := cellOf HL4.out 5; have hld := box_lt HL4.out; have y0 := cellOf HZ4.out 0; have y1 := cellOf HZ4.out 1; have y2 := cellOf HZ4.out 2; have ly := box_lt HZ4.out)
      | (go_at_call 33; refine (defect_any k ms u Am qm Au qu A0 A1 A2 A3 A4 A5 q0 q1 q2 q3 q4 q5 l w4 HS.out HD.out (H.out.up HB4.out) (HM.out.up HB4.out) HV4.out HER.out HUL.out hkw).mono ?_; rw [HUK.out]; rintro e w5 ⟨rfl, hB5⟩; have HZ5 := hide (box_to HZ4.out hB5); have HL5 := hide (HL4.out.to hB5); have HB5 := hide (Below.to HB4.out hB5 (Nat.le_refl _)); clear hB5 d0 d1 d2 d3 d4 d5 hld y0 y1 y2 ly; have c0 := cellOf HL5.out 0; have c1 := cellOf HL5.out 1; have c2 := cellOf HL5.out 2; have c3 := cellOf HL5.out 3; have c4 := cellOf HL5.out 4; have c5 := cellOf HL5.out 5; have hlb := box_lt HL5.out; have y0 := cellOf HZ5.out 0; have y1 := cellOf HZ5.out 1; have y2 := cellOf HZ5.out 2; have ly := box_lt HZ5.out))
    clear y0 y1 y2 ly
    obtain ⟨W5, hW5⟩ : ∃ wo : World, wo = w5 := ⟨_, rfl⟩
    subst hW5
    have HBq := HB5
    have HLq := HL5
    have HZq := HZ5
    by_cases hbe0 : be = 0
    case neg =>
      have g1 : (be != 0) = true := by simpa using hbe0
      clear hbe0
      go_wp2_with (first | (go_at_call 32; refine (Buildable_any l.m x _ _ _ W5 HS.out.m (H.out.up HBq.out).m (Sl.up HX.out HBq.out)).mono ?_; rw [HBR.out, HBB.out, HBE.out]; rintro e w6 ⟨rfl, hB6⟩; have HZ6 := hide (box_to HZq.out hB6); have HL6 := hide (HLq.out.to hB6); have HB6 := hide (Below.to HBq.out hB6 (Nat.le_refl _)); clear hB6 c0 c1 c2 c3 c4 c5 hlb) | (go_at_call 15; refine (works_build _).mono ?_; rintro e w9 ⟨rfl, hB9⟩))
      go_ret
      exact ⟨rfl, Below.to HB6.out hB9 (Nat.le_refl _)⟩
    case pos =>
    subst hbe0
    cases bb with
    | false =>
      go_wp2_with (first | (go_at_call 32; refine (Buildable_any l.m x _ _ _ W5 HS.out.m (H.out.up HBq.out).m (Sl.up HX.out HBq.out)).mono ?_; rw [HBR.out, HBB.out, HBE.out]; rintro e w6 ⟨rfl, hB6⟩; have HZ6 := hide (box_to HZq.out hB6); have HL6 := hide (HLq.out.to hB6); have HB6 := hide (Below.to HBq.out hB6 (Nat.le_refl _)); clear hB6 c0 c1 c2 c3 c4 c5 hlb) | (go_at_call 15; refine (works_build _).mono ?_; rintro e w9 ⟨rfl, hB9⟩))
      go_ret
      exact ⟨rfl, Below.to HB6.out hB9 (Nat.le_refl _)⟩
    | true =>
    have hxin := HIN.out rfl rfl
    have HXI := hide hxin
    have HXL := hide (allM_len hxin)
    clear hxin
    go_upto_region 14 with (go_at_call 32; refine (Buildable_any l.m x _ _ _ W5 HS.out.m (H.out.up HBq.out).m (Sl.up HX.out HBq.out)).mono ?_; rw [HBR.out, HBB.out, HBE.out]; rintro e w6 ⟨rfl, hB6⟩; have HZ6 := hide (box_to HZq.out hB6); have HL6 := hide (HLq.out.to hB6); have HB6 := hide (Below.to HBq.out hB6 (Nat.le_refl _)); clear hB6 c0 c1 c2 c3 c4 c5 hlb)
    obtain ⟨W6, hW6⟩ : ∃ wo : World, wo = w6 := ⟨_, rfl⟩
    subst hW6
    go_wp2_with fail
    go_loopw [17, 18, 19] (fun i _ _ wr => ∃ k9 : Nat, i = .int .i64 k9 ∧ k9 ≤ l.ws.length ∧ Hid (Below W6.heap.size W6 wr)) (fun i _ _ _ => l.ws.length - (intOf i).toNat)
    case atStart => exact ⟨0, rfl, Nat.zero_le _, Below.refl _ _⟩
    case round =>
      obtain ⟨k9, rfl, hk9, HW⟩ := hrel
      have HBr := hide (Below.to HB6.out HW.out (Nat.le_refl _))
      have HLr := hide (HL6.out.to HW.out)
      have d0 := cellOf HLr.out 0; have d1 := cellOf HLr.out 1; have d2 := cellOf HLr.out 2; have d3 := cellOf HLr.out 3; have d4 := cellOf HLr.out 4; have d5 := cellOf HLr.out 5
      have hld := box_lt HLr.out
      by_cases hkl : k9 < l.ws.length
      case neg =>
        have hkl1 : ¬ (k9 : Int) < (l.ws.length : Int) := by omega
        clear hkl
        go_wp2_with (go_at_call 15; refine (works_build _).mono ?_; rintro e w9 ⟨rfl, hB9⟩)
        go_ret
        exact ⟨rfl, Below.to HBr.out hB9 (Nat.le_refl _)⟩
      case pos =>
      have hkl1 : (k9 : Int) < (l.ws.length : Int) := by omega
      have ik0 : (0 : Int) ≤ (k9 : Int) := by omega
      obtain ⟨kk, hkk⟩ : ∃ z, kndN l ms x k9 = z := ⟨_, rfl⟩
      have HKK := hide hkk
      have hkk3 : kk ≤ 3 := by rw [← hkk]; exact kndB_le _ _
      have HZr := hide (box_to HZ6.out HW.out)
      by_cases hk0 : kk = 0
      · have f1 : decide ((0 : Int) < (kk : Int)) = false := by simp; omega
        have f1b : decide (0 < kk) = false := by simp; omega
        have HK0 := hide hk0
        clear hk0 hkk
        go_wp2_with (go_at_call 33; refine (defect_any k9 ms x Am qm Ax qx A0 A1 A2 A3 A4 A5 q0 q1 q2 q3 q4 q5 l wr HS.out HD.out (H.out.up HBr.out) (HM.out.up HBr.out) (Sl.up HX.out HBr.out) HER.out HXL.out hkl).mono ?_; rw [HKK.out]; rintro e w7 ⟨rfl, hB7⟩; have HW7 := hide (Below.to HW.out hB7 (Nat.le_refl _)); clear hB7 d0 d1 d2 d3 d4 d5 hld)
        go_roundw
        case rel => exact ⟨k9 + 1, by go_num, by omega, HW7⟩
        case measure => simp [intOf]; omega
      · have f1 : decide ((0 : Int) < (kk : Int)) = true := by simp; omega
        have f1b : decide (0 < kk) = true := by simp; omega
        have hor : k < k9 ∨ (k = k9 ∧ kd ≤ kk) := by
          obtain ⟨r, hr, h2⟩ := audA_least HER.out HXI.out hkl (by rw [hkk]; exact hk0)
          rw [HRES.out] at hr
          injection hr with hr
          subst hr
          rw [hkk] at h2
          exact h2
        have f2 : decide ((k9 : Int) < (k : Int)) = false := by simp; omega
        have f2b : decide (k9 < k) = false := by simp; omega
        clear hk0 hkk
        rcases hor with hor | ⟨hor, hle⟩
        · have f3 : ((k9 : Int) == (k : Int)) = false := by simp; omega
          clear hor
          go_wp2_with (go_at_call 33; refine (defect_any k9 ms x Am qm Ax qx A0 A1 A2 A3 A4 A5 q0 q1 q2 q3 q4 q5 l wr HS.out HD.out (H.out.up HBr.out) (HM.out.up HBr.out) (Sl.up HX.out HBr.out) HER.out HXL.out hkl).mono ?_; rw [HKK.out]; rintro e w7 ⟨rfl, hB7⟩; have HZ7 := hide (box_to HZr.out hB7); have y0 := cellOf HZ7.out 0; have y1 := cellOf HZ7.out 1; have y2 := cellOf HZ7.out 2; have ly := box_lt HZ7.out; have HW7 := hide (Below.to HW.out hB7 (Nat.le_refl _)); clear hB7 d0 d1 d2 d3 d4 d5 hld)
          go_roundw
          case rel => exact ⟨k9 + 1, by go_num, by omega, HW7⟩
          case measure => simp [intOf]; omega
        · have f3 : ((k9 : Int) == (k : Int)) = true := by simp; omega
          have f4 : decide ((kk : Int) < (kd : Int)) = false := by simp; omega
          have f4b : decide (kk < kd) = false := by simp; omega
          clear hor hle
          go_wp2_with (go_at_call 33; refine (defect_any k9 ms x Am qm Ax qx A0 A1 A2 A3 A4 A5 q0 q1 q2 q3 q4 q5 l wr HS.out HD.out (H.out.up HBr.out) (HM.out.up HBr.out) (Sl.up HX.out HBr.out) HER.out HXL.out hkl).mono ?_; rw [HKK.out]; rintro e w7 ⟨rfl, hB7⟩; have HZ7 := hide (box_to HZr.out hB7); have y0 := cellOf HZ7.out 0; have y1 := cellOf HZ7.out 1; have y2 := cellOf HZ7.out 2; have ly := box_lt HZ7.out; have HW7 := hide (Below.to HW.out hB7 (Nat.le_refl _)); clear hB7 d0 d1 d2 d3 d4 d5 hld)
          go_roundw
          case rel => exact ⟨k9 + 1, by go_num, by omega, HW7⟩
          case measure => simp [intOf]; omega
end Go.Proofs.YtehadoecnmfeoaaGreat
/- The laws' looms, opened: no condition. -/
namespace Go.Proofs.YtehadoecnmfeoaaGreat
open Go.Joins Go.ChangeShapes Go.WideShapes Go.ChangeAt Go.RowKit Go.Deep
set_option maxRecDepth 100000
set_option linter.unusedVariables false
set_option linter.unusedSimpArgs false
section
variable {H : Type} {enc : TypeId × Value → H} {W : World} {base b0 : Nat} {r : Reach} {spare : Nat → Bool} {held : Bool} {v : Value} {d : DataW H} {p : List MemPlace}
theorem open_lo (hv : Value.okWide Tryz.prog W r b0 31 v) (h : DataW.Trod enc Tryz.prog W base spare held 31 v d p) :
    ∃ (A0 A1 A2 A3 A4 A5 : Option Addr) (q0 q1 q2 q3 q4 q5 : Nat), ∃ l : Lo, v = .agg #[.slice A0 l.m.opts.length q0, .slice A1 l.m.rules.length q1, .slice A2 l.ss.length q2, .slice A3 l.us.length q3, .slice A4 l.ps.length q4, .slice A5 l.ws.length q5] ∧ LoA W W.heap.size A0 A1 A2 A3 A4 A5 q0 q1 q2 q3 q4 q5 l ∧ SizedL l := by
  obtain ⟨ov, rv, sv, uv, pv, wv, l, rfl, hl, hs, _⟩ := open_loom hv h
  obtain ⟨A0, A1, A2, A3, A4, A5, q0, q1, q2, q3, q4, q5, rfl, rfl, rfl, rfl, rfl, rfl, hla⟩ := hl.form
  exact ⟨A0, A1, A2, A3, A4, A5, q0, q1, q2, q3, q4, q5, l, rfl, hla, hs⟩
end
end Go.Proofs.YtehadoecnmfeoaaGreat

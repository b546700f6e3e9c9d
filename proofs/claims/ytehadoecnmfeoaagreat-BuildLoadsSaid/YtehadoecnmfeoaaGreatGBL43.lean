/- Part 43 of this claim's texts: walks and plain laws. -/
import Derived.Test.YtehadoecnmfeoaaGreatRows
import Derived.Test.YtehadoecnmfeoaaGreatGBL42
import Derived.Test.YtehadoecnmfeoaaGreatGBL30
import Derived.Test.YtehadoecnmfeoaaGreatGBL16
import Derived.Test.YtehadoecnmfeoaaGreatGBL3
import Derived.Test.YtehadoecnmfeoaaGreatGBL39
import Derived.Test.YtehadoecnmfeoaaGreatGBL40
import Derived.Test.YtehadoecnmfeoaaGreatGBL41
import Derived.Deep.DeepMust
import Derived.Deep.RegionHeld3
import Derived.Deep.DrawnRows
import Derived.Test.YtehadoecnmfeoaaGreatGBL19
/- The look at the example; equal lists of numbers are told equal: walks. -/
namespace Go.Proofs.YtehadoecnmfeoaaGreat
open Go.RowKit
set_option linter.unusedVariables false
set_option linter.unusedSimpArgs false
theorem Nods.ints7 {w : World} {B : Nat} {v : Value} {l : List Nat} (h : Nods w B v l) : Ints w B v (l.map fun (n : Nat) => (n : Int)) := by
  obtain ⟨A, b, off, cap, h1, h2, h3, h4⟩ := h
  have hl : (l.map fun (n : Nat) => (n : Int)).length = l.length := by simp
  refine ⟨A, b, off, cap, ?_, by rw [hl]; exact h2, ?_, fun i j hi hj => ?_⟩
  · rw [hl]; exact h1
  · rw [hl]; exact h3
  · rw [hl] at hi
    have := h4 i j hi hj
    rw [this]
    simp [hi]
set_option maxRecDepth 100000 in
set_option maxHeartbeats 2000000 in
theorem sameInts12_any (f : List Int) (u v : Value) (w : World) (hl : f.length ≤ maxLen) (h : Ints w w.heap.size u f) (h2 : Ints w w.heap.size v f) :
    Calls Tryz.prog 21 #[u, v] w fun e w' => e = .returned (.bool true) ∧ Below w.heap.size w w' := by
  obtain ⟨A, q, rfl⟩ := Sl.form h
  obtain ⟨C, r, rfl⟩ := Sl.form h2
  unfold maxLen at hl
  have H := hide h
  have H2 := hide h2
  clear h h2
  go_enter Tryz.func21, Tryz.ntmps21
  go_wp2_with fail
  go_loopw [5] (fun i wr => ∃ k : Nat, k ≤ f.length ∧ i = .int .i64 k ∧ Hid (Below w.heap.size w wr)) (fun i _ => f.length - (intOf i).toNat)
  case atStart => exact ⟨0, Nat.zero_le _, rfl, Below.refl _ _⟩
  case round =>
    obtain ⟨k, hk, rfl, hB⟩ := hrel
    by_cases hlt : k < f.length
    · obtain ⟨_, hq, b, off, rfl, hb, g0⟩ := sl_at (Sl.below H.out hB.out) hlt
      obtain ⟨_, hq2, b2, off2, rfl, hb2, g1⟩ := sl_at (Sl.below H2.out hB.out) hlt
      have c0 := g0 0 (by omega)
      have d0 := g1 0 (by omega)
      rw [Nat.mul_one, Nat.add_zero] at c0 d0
      have l0 : b < wr.heap.size := Nat.lt_of_lt_of_le hb hB.out.size
      have l1 : b2 < wr.heap.size := Nat.lt_of_lt_of_le hb2 hB.out.size
      have ik0 : (0 : Int) ≤ (k : Int) := by omega
      have ik : (k : Int) < (f.length : Int) := by omega
      have iq : (f.length : Int) ≤ (q : Int) := by omega
      have iq2 : (f.length : Int) ≤ (r : Int) := by omega
      obtain ⟨x, hx⟩ : ∃ x, f.getD k 0 = x := ⟨_, rfl⟩
      rw [hx] at c0 d0
      have n1 : (x != x) = false := by simp
      clear hx g0 g1
      go_wp2_with fail
      refine wp_region_held_drew (S := (fun w' => Below wr.heap.size wr w')) (by kernel_rfl) ?_ (fun hHeld => ?_)
      · try dsimp only
        exact (by repeat (first | exact Below.refl _ _ | assumption | refine Below.drew ?_ | refine Below.drewN ?_ _ | refine Below.allocT ?_ (Nat.le_refl _) _ | refine Below.setCell ?_ (by simp <;> omega) _ | refine Below.to ?_ (by assumption) (Nat.le_refl _)))
      refine zT 0 rfl ?_
      try simp only [zX]
      refine zT 1 rfl ?_
      try simp only [zX]
      refine zT 2 rfl ?_
      try simp only [zX]
      refine zT 3 rfl ?_
      try simp only [zX]
      refine zT 4 rfl ?_
      try simp only [zX]
      refine zT 5 rfl ?_
      try simp only [zX]
      refine zT 6 rfl ?_
      try simp only [zX]
      refine zT 7 rfl ?_
      try simp only [zX]
      refine zT 8 rfl ?_
      try simp only [zX]
      refine wpAnyH_done (by kernel_rfl) ?_ _
      go_wp2_with fail
      go_roundw
      case rel => exact ⟨k + 1, by omega, by go_num, Below.to hB.out hHeld (Nat.le_refl _)⟩
      case measure => simp [intOf]; omega
    · go_wp2_with fail
      go_ret
      exact ⟨rfl, hB.out⟩
def exMd : List Md := [⟨[1], [1, 2]⟩]
theorem exB_aud : audA exB exMd = some (0, 1, [true, false]) := by kernel_rfl
theorem exB_err : bldE exB exMd = 0 := by kernel_rfl
theorem exB_rel : relR [6, 5, 4, 5] 10 = [0, 1, 0, 1] := by kernel_rfl
theorem exB_rele : relE [6, 5, 4, 5] 10 = 0 := by kernel_rfl
theorem exB_sized : SizedL exB := by
  have hm : ∀ n : Nat, n ≤ 100 → n ≤ maxLen := fun n hn => by unfold maxLen; omega
  refine ⟨⟨hm _ (by decide), fun x hx => hm _ ?_, hm _ (by decide), fun f hf => ?_⟩, hm _ (by decide), hm _ (by decide), hm _ (by decide), hm _ (by decide), fun x hx => hm _ ?_, fun x hx => ⟨hm _ ?_, hm _ ?_⟩⟩
  · have : x = ⟨#[116, 111, 119]⟩ ∨ x = ⟨#[104, 101, 97, 116]⟩ := by simpa [exB] using hx
    rcases this with rfl | rfl <;> decide
  · simp [exB] at hf
  · simp [exB] at hx
    rcases hx with rfl | rfl | rfl <;> decide
  · simp [exB] at hx
    rcases hx with rfl | rfl | rfl <;> decide
  · simp [exB] at hx
    rcases hx with rfl | rfl | rfl <;> decide
theorem exMd_sized : SizedD exMd := ⟨by unfold maxLen; decide, fun x hx => by
  simp [exMd] at hx
  subst hx
  unfold maxLen
  decide⟩
theorem mods_ex {w w0 : World} {o p q : Obj} (h : ((w.alloc o).alloc p).alloc q = w0) {t u s : Nat} (ho : o = .cells #[.int .i64 1] t (0, 0)) (hp : p = .cells #[.int .i64 1, .int .i64 2] u (0, 0)) (hq : q = .cells #[.slice (some ⟨w.heap.size, 0, none⟩) 1 1, .slice (some ⟨w.heap.size + 1, 0, none⟩) 2 2] s (0, 0)) :
    Mods w0 w0.heap.size (.slice (some ⟨w.heap.size + 2, 0, none⟩) 1 1) exMd ∧ Below w.heap.size w w0 := by
  obtain ⟨h0, h1, h2, hB, hs⟩ := alloc3 h
  subst ho hp hq
  refine ⟨⟨fun _ => .slice (some ⟨w.heap.size, 0, none⟩) 1 1, fun _ => .slice (some ⟨w.heap.size + 1, 0, none⟩) 2 2, sl_boxes7 h2 (by omega) (fun i hi j hj => ?_), fun i hi => ?_⟩, hB⟩
  · have hi1 : i < 1 := hi
    obtain rfl : i = 0 := by omega
    rcases (by omega : j = 0 ∨ j = 1) with rfl | rfl <;> rfl
  · have hi1 : i < 1 := hi
    obtain rfl : i = 0 := by omega
    exact ⟨ints_box (l := [1]) h0 (by omega), ints_box (l := [1, 2]) h1 (by omega)⟩
set_option maxRecDepth 100000 in
set_option maxHeartbeats 2000000 in
theorem works_build (w : World) :
    Calls Tryz.prog 15 #[] w fun e w' => e = .returned (.bool true) ∧ Below w.heap.size w w' := by
  go_enter Tryz.func15, Tryz.ntmps15
  go_upto_region 2 with (first
    | (go_at_call 52; refine (exb_any w).mono ?_; rintro e w1 ⟨A0, A1, A2, A3, A4, A5, q0, q1, q2, q3, q4, q5, rfl, hl1, hB1⟩; have HL1 := hide hl1; have HB1 := hide hB1; clear hl1 hB1)
    | (go_at_call 16; generalize hw0 : World.alloc _ _ = w0; obtain ⟨hms, hBm⟩ := mods_ex hw0 rfl rfl rfl; refine (Audit_any exMd _ _ A0 A1 A2 A3 A4 A5 q0 q1 q2 q3 q4 q5 exB w0 exB_sized exMd_sized (HL1.out.up hBm) hms (fun _ => by decide)).mono ?_; rw [exB_aud, exB_err]; rintro e w2 ⟨v2, he2, hop2, hB2⟩; have he3 : e = .returned (.tuple #[.agg #[.int .i64 0, .int .i64 1, v2], .bool true, .int .i64 0]) := he2; subst he3; obtain ⟨ad2, p2, e2⟩ := hop2.1; subst e2; have HV2 := hide hop2.2; have HB2 := hide (Below.to HB1.out (Below.to hBm hB2 (Nat.le_refl _)) (Nat.le_refl _)); clear hw0 hms hBm hB2 hop2 he2))
  generalize hw3 : World.alloc _ _ = w3
  obtain ⟨hb3, hB3, hs3⟩ := alloc1 hw3
  have HV3 := hide (Sl.up HV2.out hB3)
  have HB3 := hide (Below.to HB2.out hB3 (Nat.le_refl _))
  have HZ3 := hide hb3
  clear hw3 hb3 hB3 hs3
  go_upto_region 3 with (go_at_call 53; generalize hw4 : World.alloc _ _ = w4; obtain ⟨hb4, hB4, hs4⟩ := alloc1 hw4; refine (Reels_any [6, 5, 4, 5] 10 _ _ w4 (by unfold maxLen; decide) (ints_box (l := [6, 5, 4, 5]) hb4 (by omega))).mono ?_; rw [exB_rel, exB_rele]; rintro e w5 ⟨v5, rfl, hv5, hB5⟩; have HV5 := hide (Sl.up (Sl.up HV3.out hB4) hB5); have HZ5 := hide (box_to (box_to HZ3.out hB4) hB5); have HN5 := hide hv5; have HB5 := hide (Below.to HB3.out (Below.to hB4 hB5 (Nat.le_refl _)) (Nat.le_refl _)); clear hw4 hb4 hB4 hs4 hv5 hB5)
  have y0 := cellOf HZ5.out 0
  have y1 := cellOf HZ5.out 1
  have y2 := cellOf HZ5.out 2
  have l5 := box_lt HZ5.out
  go_wp2_with (first
    | (go_at_call 41; refine (SameVariant_any [true, false] [true, false] _ _ _ (Sl.up HV5.out (Below.allocT (Below.refl _ _) (Nat.le_refl _) _)) (bols_box (l := [true, false]) (heap_new _ _ _ rfl) (by simp)) (by decide) (by unfold maxLen; decide)).mono ?_; rintro e w6 ⟨rfl, hB6⟩; have HN6 := hide (Sl.up HN5.out (Below.to (Below.allocT (Below.refl _ _) (Nat.le_refl _) _) hB6 (Nat.le_refl _))); have HB6 := hide (Below.to (Below.allocT HB5.out (Nat.le_refl _) _) hB6 (Nat.le_refl _)); clear hB6)
    | (go_at_call 21; refine (sameInts12_any [0, 1, 0, 1] _ _ _ (by unfold maxLen; decide) (Nods.ints7 (Sl.up HN6.out (Below.allocT (Below.refl _ _) (Nat.le_refl _) _))) (ints_box (l := [0, 1, 0, 1]) (heap_new _ _ _ rfl) (by simp))).mono ?_; rintro e w7 ⟨rfl, hB7⟩))
  go_ret
  exact ⟨rfl, Below.to (Below.allocT HB6.out (Nat.le_refl _) _) hB7 (Nat.le_refl _)⟩
end Go.Proofs.YtehadoecnmfeoaaGreat
/- Loads (the elder): walk. -/
namespace Go.Proofs.YtehadoecnmfeoaaGreat
open Go.RowKit
set_option linter.unusedVariables false
set_option linter.unusedSimpArgs false
theorem brd_no {bs : List Int} {k : Nat} (hk : k < bs.length) (h : btw (bs.getD k 0) 0 3 = false) : brdOk bs = false := by
  unfold brdOk
  rw [List.all_eq_false]
  exact ⟨bs.getD k 0, getD_mem7 hk, by rw [h]; simp⟩
theorem brd_yes {bs : List Int} (h : ∀ k, k < bs.length → btw (bs.getD k 0) 0 3 = true) : brdOk bs = true := by
  unfold brdOk
  rw [List.all_eq_true]
  intro y hy
  obtain ⟨k, hk, he⟩ := List.mem_iff_getElem.1 hy
  have := h k hk
  rwa [List.getD_eq_getElem?_getD, List.getElem?_eq_getElem hk, Option.getD_some, he] at this
set_option maxRecDepth 100000 in
set_option maxHeartbeats 8000000 in
theorem rLoads_any (bs : List Int) (Ab : Option Addr) (qb : Nat) (ms : List Md) (Am : Option Addr) (qm : Nat) (A0 A1 A2 A3 A4 A5 : Option Addr) (q0 q1 q2 q3 q4 q5 : Nat) (l : Lo) (w : World) (hs : SizedL l) (hd : SizedD ms) (hbl : bs.length ≤ maxLen) (h : LoA w w.heap.size A0 A1 A2 A3 A4 A5 q0 q1 q2 q3 q4 q5 l) (hm : Mods w w.heap.size (.slice Am ms.length qm) ms) (hb : Ints w w.heap.size (.slice Ab bs.length qb) bs) (hN : l.m.err = 0 → l.m.opts.length ≤ 12) :
    Calls Tryz.prog 23 #[.agg #[.slice A0 l.m.opts.length q0, .slice A1 l.m.rules.length q1, .slice A2 l.ss.length q2, .slice A3 l.us.length q3, .slice A4 l.ps.length q4, .slice A5 l.ws.length q5], .slice Am ms.length qm, .slice Ab bs.length qb] w (PicP (lodL l ms bs) (lodE l ms bs) w) := by
  have H := hide h
  have HS := hide hs
  have HM := hide hm
  have HD := hide hd
  have HBS := hide hb
  have HNN := hide hN
  unfold maxLen at hbl
  obtain ⟨er, her⟩ : ∃ z, bldE l ms = z := ⟨_, rfl⟩
  have HER := hide her
  clear h hs hm hd hb hN
  by_cases h0 : er = 0
  case neg =>
    have hp := lodE_err (l := l) (ms := ms) (bs := bs) (by rw [her]; exact h0)
    rw [hp.1, hp.2, her]
    have hz1 : (er != 0) = true := by simpa using h0
    clear her h0 hp
    go_enter Tryz.func23, Tryz.ntmps23
    go_upto_region 1 with (fail)
    generalize hw0 : World.alloc _ _ = w0
    obtain ⟨hb0, hB0, hs0⟩ := alloc1 hw0
    have HB0 := hide hB0
    have c0 := cellOf hb0 0; have c1 := cellOf hb0 1; have c2 := cellOf hb0 2; have c3 := cellOf hb0 3; have c4 := cellOf hb0 4; have c5 := cellOf hb0 5
    have hlb := box_lt hb0
    clear hw0 hb0 hB0 hs0
    go_wp2_with (go_at_call 27; refine (rbCheck_any ms Am qm A0 A1 A2 A3 A4 A5 q0 q1 q2 q3 q4 q5 l _ HS.out HD.out (H.out.up HB0.out) (HM.out.up HB0.out)).mono ?_; rw [HER.out]; rintro e w1 ⟨rfl, hB1⟩; have HB1 := hide (Below.to HB0.out hB1 (Nat.le_refl _)); clear hB1 c0 c1 c2 c3 c4 c5 hlb)
    go_ret2
    exact ⟨_, rfl, Sl.nil _ _ _ _, HB1.out⟩
  case pos =>
  subst h0
  have okm := bldE_ok her
  have hms60 := okm.n
  have hws60 := okm.lo.w60
  have HMO := hide okm.lo.m
  have hN := HNN.out okm.lo.m
  have n0 : ((0 : Int) != 0) = false := by decide
  clear okm
  by_cases hlen : bs.length = ms.length
  case neg =>
    have hp := lodE_brd (l := l) (ms := ms) (bs := bs) her (.inl hlen)
    rw [hp.1, hp.2]
    have n1 : ((bs.length : Int) != (ms.length : Int)) = true := by simp; omega
    clear her hlen hp
    go_enter Tryz.func23, Tryz.ntmps23
    go_upto_region 1 with (fail)
    generalize hw0 : World.alloc _ _ = w0
    obtain ⟨hb0, hB0, hs0⟩ := alloc1 hw0
    have HB0 := hide hB0
    have c0 := cellOf hb0 0; have c1 := cellOf hb0 1; have c2 := cellOf hb0 2; have c3 := cellOf hb0 3; have c4 := cellOf hb0 4; have c5 := cellOf hb0 5
    have hlb := box_lt hb0
    clear hw0 hb0 hB0 hs0
    go_wp2_with (go_at_call 27; refine (rbCheck_any ms Am qm A0 A1 A2 A3 A4 A5 q0 q1 q2 q3 q4 q5 l _ HS.out HD.out (H.out.up HB0.out) (HM.out.up HB0.out)).mono ?_; rw [HER.out]; rintro e w1 ⟨rfl, hB1⟩; have HB1 := hide (Below.to HB0.out hB1 (Nat.le_refl _)); clear hB1 c0 c1 c2 c3 c4 c5 hlb)
    go_ret2
    exact ⟨_, rfl, Sl.nil _ _ _ _, HB1.out⟩
  case pos =>
  have n1 : ((bs.length : Int) != (ms.length : Int)) = false := by simp; omega
  obtain ⟨RS, hRS⟩ : ∃ z, lodL l ms bs = z := ⟨_, rfl⟩
  obtain ⟨re, hre⟩ : ∃ z, lodE l ms bs = z := ⟨_, rfl⟩
  rw [hRS, hre]
  have HBAD : Hid (brdOk bs = false → RS = [] ∧ re = 122) := fun h => by
    have hp := lodE_brd (l := l) (ms := ms) (bs := bs) her (.inr h)
    exact ⟨hRS.symm.trans hp.2, hre.symm.trans hp.1⟩
  have HNOM : Hid (brdOk bs = true → allM l.m = [] → RS = [] ∧ re = 12) := fun h h2 => by
    have hp := lodE_none (l := l) (ms := ms) (bs := bs) her hlen h h2
    exact ⟨hRS.symm.trans hp.2, hre.symm.trans hp.1⟩
  have HYES : Hid (brdOk bs = true → allM l.m ≠ [] → RS = rngL (nbK bs) (lodN l.m ms bs) ∧ re = 0) := fun h h2 => by
    have hp := lodE_ok (l := l) (ms := ms) (bs := bs) her hlen h h2
    exact ⟨hRS.symm.trans hp.2, hre.symm.trans hp.1⟩
  have HVAL := hide (ms_valid her)
  have HSZ : Hid (∀ i, sz9 ms i ≤ 60) := fun i => by
    unfold sz9
    rcases Nat.lt_or_ge i ms.length with h1 | h1
    · have := wires_len (ms_wires her _ (getD_mem7 (z := Md.o) h1))
      omega
    · rw [List.getD_eq_getElem?_getD, List.getElem?_eq_none h1]
      exact Nat.zero_le _
  have HLEN := hide hlen
  have hb60 : bs.length ≤ 60 := by omega
  clear her hlen hRS hre
  go_enter Tryz.func23, Tryz.ntmps23
  go_upto_region 1 with (fail)
  generalize hw0 : World.alloc _ _ = w0
  obtain ⟨hb0, hB0, hs0⟩ := alloc1 hw0
  have HB0 := hide hB0
  have HL0 : Hid (LoBox w0 w.heap.size A0 A1 A2 A3 A4 A5 q0 q1 q2 q3 q4 q5 l) := hb0
  have c0 := cellOf hb0 0; have c1 := cellOf hb0 1; have c2 := cellOf hb0 2; have c3 := cellOf hb0 3; have c4 := cellOf hb0 4; have c5 := cellOf hb0 5
  have hlb := box_lt hb0
  clear hw0 hb0 hB0 hs0
  go_upto_region 6 with (go_at_call 27; refine (rbCheck_any ms Am qm A0 A1 A2 A3 A4 A5 q0 q1 q2 q3 q4 q5 l _ HS.out HD.out (H.out.up HB0.out) (HM.out.up HB0.out)).mono ?_; rw [HER.out]; rintro e w1 ⟨rfl, hB1⟩; have HL1 := hide (HL0.out.to hB1); have HB1 := hide (Below.to HB0.out hB1 (Nat.le_refl _)); clear hB1 c0 c1 c2 c3 c4 c5 hlb)
  obtain ⟨W1, hW1⟩ : ∃ wo : World, wo = w1 := ⟨_, rfl⟩
  subst hW1
  go_wp2_with fail
  go_loopw [9, 10] (fun nv i wr => ∃ (k n : Nat), nv = .int .i64 n ∧ i = .int .i64 k ∧ k ≤ bs.length ∧ n ≤ 4 ∧ Hid (nbK (bs.take k) = n) ∧ Hid (∀ j, j < k → btw (bs.getD j 0) 0 3 = true) ∧ Hid (Below W1.heap.size W1 wr)) (fun _ i _ => bs.length - (intOf i).toNat)
  case atStart => exact ⟨0, 0, rfl, rfl, Nat.zero_le _, Nat.zero_le _, rfl, fun j hj => absurd hj (by omega), Below.refl _ _⟩
  case round =>
    obtain ⟨k, n, rfl, rfl, hk, hn4, HNK, HNO, HW⟩ := hrel
    have HBr := hide (Below.to HB1.out HW.out (Nat.le_refl _))
    by_cases hkl : k < bs.length
    case pos =>
      have hkl1 : (k : Int) < (bs.length : Int) := by omega
      have ik0 : (0 : Int) ≤ (k : Int) := by omega
      obtain ⟨b1, o1, y, HY, hA, hb1, hq1, ey0⟩ := HBS.out.at7 hkl
      subst hA
      have ey := (HBr.out.cell (p := ⟨b1, o1 + k, none⟩) hb1).trans ey0
      have lb1 : b1 < wr.heap.size := Nat.lt_of_lt_of_le hb1 HBr.out.size
      have iq : (bs.length : Int) ≤ (qb : Int) := by omega
      obtain ⟨z, hz⟩ : ∃ z, btw y 0 3 = z := ⟨_, rfl⟩
      have HZ := hide hz
      clear ey0 hq1
      cases z with
      | false =>
        obtain ⟨hr1, hr2⟩ := HBAD.out (brd_no hkl (by rw [HY.out]; exact hz))
        subst hr1 hr2
        clear hz
        go_wp2_with (go_at_call 75; refine (rwithin12_any _ _ _ _ _ HZ.out).mono ?_; rintro e w2 ⟨rfl, rfl⟩)
        go_ret2
        exact ⟨_, rfl, Sl.nil _ _ _ _, HBr.out⟩
      | true =>
        have hy3 := btw_iff.1 hz
        have hst := nbK_step hkl
        rw [HY.out, HNK.out] at hst
        have HNO2 : Hid (∀ j, j < k + 1 → btw (bs.getD j 0) 0 3 = true) := fun j hj => by
          rcases Nat.lt_or_ge j k with h1 | h1
          · exact HNO.out j h1
          · rw [show j = k by omega, HY.out]; exact HZ.out
        obtain ⟨c, hc⟩ : ∃ c : Nat, y = (c : Int) := ⟨y.toNat, by omega⟩
        subst hc
        rw [Int.toNat_natCast] at hst
        have HST := hide hst
        have hc3 : c ≤ 3 := by omega
        clear hz hst hy3
        go_wp2_with (go_at_call 75; refine (rwithin12_any _ _ _ _ _ HZ.out).mono ?_; rintro e w2 ⟨rfl, rfl⟩)
        go_roundw
        case rel => exact ⟨k + 1, max n (c + 1), by congr 1; omega, by go_num, by omega, by omega, HST, HNO2, HW⟩
        case measure => simp [intOf]; omega
    case neg =>
      have hkl1 : ¬ (k : Int) < (bs.length : Int) := by omega
      have hok : brdOk bs = true := brd_yes fun j hj => HNO.out j (by omega)
      have hnk := HNK.out
      rw [List.take_of_length_le (by omega)] at hnk
      have HOK := hide hok
      have HNB := hide hnk
      obtain ⟨V, hV⟩ : ∃ V, allM l.m = V := ⟨_, rfl⟩
      have HVV := hide hV
      have HVL : Hid (∀ x ∈ V, x.length = l.m.opts.length) := fun x hx => allM_len (by rw [hV]; exact hx)
      have hVn : V.length ≤ 4096 := by
        have h1 := varsN_le l.m (2 ^ l.m.opts.length)
        rw [varsN_all, hV] at h1
        have : 2 ^ l.m.opts.length ≤ 2 ^ 12 := Nat.pow_le_pow_right (by omega) hN
        omega
      have HLr := hide (HL1.out.to HW.out)
      have d0 := cellOf HLr.out 0; have d1 := cellOf HLr.out 1; have d2 := cellOf HLr.out 2; have d3 := cellOf HLr.out 3; have d4 := cellOf HLr.out 4; have d5 := cellOf HLr.out 5
      have hld := box_lt HLr.out
      clear hkl hok hnk hV HNO HNK
      go_upto_region 14 with (go_at_call 59; refine (Variants_any l.m _ _ wr (H.out.up HBr.out).m HMO.out hN).mono ?_; rw [HVV.out]; rintro e w3 ⟨v3, rfl, hv3, hB3⟩; obtain ⟨A9, q9, e9⟩ := GRows.form (GStk.rows hv3); subst e9; have HVS := hide (GStk.rows hv3); have HB3 := hide (Below.to HBr.out hB3 (Nat.le_refl _)); clear hv3 hB3 d0 d1 d2 d3 d4 d5 hld)
      by_cases hne : V = []
      · obtain ⟨hr1, hr2⟩ := HNOM.out HOK.out (HVV.out.trans hne)
        subst hr1 hr2
        have e0 : ((V.length : Int) == 0) = true := by rw [hne]; rfl
        clear hne
        go_wp2_with fail
        go_ret2
        exact ⟨_, rfl, Sl.nil _ _ _ _, HB3.out⟩
      · obtain ⟨hr1, hr2⟩ := HYES.out HOK.out (by rw [HVV.out]; exact hne)
        have e0 : ((V.length : Int) == 0) = false := by
          have : V.length ≠ 0 := fun h => hne (List.length_eq_zero_iff.1 h)
          simp; omega
        have hRR : RS = rngL n fun b => maxF (fun x => ldN ms bs x b) V := by
          rw [hr1, HNB.out]
          refine rngL_congr fun b _ => ?_
          unfold lodN
          rw [HVV.out]
        subst hr2
        have HRR := hide hRR
        have hbn : ∀ i, i < bs.length → 0 ≤ bs.getD i 0 ∧ bs.getD i 0 < (n : Int) := fun i hi => by
          have h1 := brd_at HOK.out (getD_mem7 (z := (0 : Int)) hi)
          have h2 := nbK_lt (getD_mem7 (l := bs) (z := (0 : Int)) hi)
          rw [HNB.out] at h2
          omega
        have hlo := rloads_any V l.m.opts.length n bs ms A9 q9 Am qm Ab qb w3 HVS.out (by omega) HVL.out HD.out hms60 (HM.out.up HB3.out) HVAL.out HSZ.out HLEN.out (Ints.up HBS.out HB3.out) hbn (by omega)
        have HLO := hide hlo
        clear hne hr1 hRR hbn hlo
        go_wp2_with (go_at_call 76; refine HLO.out.mono ?_; rw [← HRR.out]; rintro e w4 ⟨v4, rfl, hv4, hB4⟩; have HV4 := hide hv4; have HB4 := hide (Below.to HB3.out hB4 (Nat.le_refl _)); clear hv4 hB4)
        go_ret2
        exact ⟨_, rfl, HV4.out, HB4.out⟩
theorem lodL_len (l : Lo) (ms : List Md) (bs : List Int) : (lodL l ms bs).length ≤ 4 := by
  unfold lodL
  split
  · rename_i h
    rw [List.length_map, List.length_range]
    refine nbK_le fun y hy => ?_
    have hok : brdOk bs = true := by
      cases hc : brdOk bs with
      | true => rfl
      | false =>
        unfold lodE at h
        by_cases h1 : bldE l ms = 0
        · rw [if_neg (by simp [h1]), if_pos (.inr hc)] at h
          omega
        · rw [if_pos h1] at h
          exact absurd h h1
    have := brd_at hok hy
    omega
  · simp
set_option maxRecDepth 100000 in
set_option maxHeartbeats 8000000 in
theorem buildLoads_walk (bs : List Int) (Ab : Option Addr) (qb : Nat) (ms : List Md) (Am : Option Addr) (qm : Nat) (A0 A1 A2 A3 A4 A5 : Option Addr) (q0 q1 q2 q3 q4 q5 : Nat) (l : Lo) (w : World) (hs : SizedL l) (hd : SizedD ms) (hbl : bs.length ≤ maxLen) (h : LoA w w.heap.size A0 A1 A2 A3 A4 A5 q0 q1 q2 q3 q4 q5 l) (hm : Mods w w.heap.size (.slice Am ms.length qm) ms) (hb : Ints w w.heap.size (.slice Ab bs.length qb) bs) :
    Calls Tryz.prog 5 #[.agg #[.slice A0 l.m.opts.length q0, .slice A1 l.m.rules.length q1, .slice A2 l.ss.length q2, .slice A3 l.us.length q3, .slice A4 l.ps.length q4, .slice A5 l.ws.length q5], .slice Am ms.length qm, .slice Ab bs.length qb] w fun e w' => e = .returned (.bool true) ∧ Below w.heap.size w w' := by
  have H := hide h
  have HS := hide hs
  have HM := hide hm
  have HD := hide hd
  have HBS := hide hb
  have HBL := hide hbl
  clear h hs hm hd hb hbl
  obtain ⟨lg, hlg⟩ : ∃ z, lrgB l ms = z := ⟨_, rfl⟩
  have HLG := hide hlg
  cases lg with
  | true =>
    clear hlg
    go_enter Tryz.func5, Tryz.ntmps5
    go_upto_region 1 with (fail)
    generalize hw0 : World.alloc _ _ = w0
    obtain ⟨hb0, hB0, hs0⟩ := alloc1 hw0
    have HB0 := hide hB0
    have c0 := cellOf hb0 0; have c1 := cellOf hb0 1; have c2 := cellOf hb0 2; have c3 := cellOf hb0 3; have c4 := cellOf hb0 4; have c5 := cellOf hb0 5
    have hlb := box_lt hb0
    clear hw0 hb0 hB0 hs0
    go_wp2_with (first
      | (go_at_call 14; refine (large12_any ms Am qm A0 A1 A2 A3 A4 A5 q0 q1 q2 q3 q4 q5 l _ (H.out.up HB0.out)).mono ?_; rw [HLG.out]; rintro e w1 ⟨rfl, hB1⟩; have HB1 := hide (Below.to HB0.out hB1 (Nat.le_refl _)); clear hB1 c0 c1 c2 c3 c4 c5 hlb)
      | (go_at_call 15; refine (works_build _).mono ?_; rintro e w2 ⟨rfl, hB2⟩))
    go_ret
    exact ⟨rfl, Below.to HB1.out hB2 (Nat.le_refl _)⟩
  | false =>
  have HNN : Hid (l.m.err = 0 → l.m.opts.length ≤ 12) := fun he => by have := lrg_small hlg he; omega
  clear hlg
  obtain ⟨er, her⟩ : ∃ z, lodE l ms bs = z := ⟨_, rfl⟩
  obtain ⟨R, hR⟩ : ∃ z, lodL l ms bs = z := ⟨_, rfl⟩
  have HRL : Hid ((R.map fun (n : Nat) => (n : Int)).length ≤ maxLen) := by
    show _ ≤ _
    rw [List.length_map, ← hR]
    have := lodL_len l ms bs
    unfold maxLen
    omega
  have HER := hide her
  have HRR := hide hR
  have g1 : (er == er) = true := by simp
  clear her hR
  go_enter Tryz.func5, Tryz.ntmps5
  go_upto_region 1 with (fail)
  generalize hw0 : World.alloc _ _ = w0
  obtain ⟨hb0, hB0, hs0⟩ := alloc1 hw0
  have HB0 := hide hB0
  have HL0 : Hid (LoBox w0 w.heap.size A0 A1 A2 A3 A4 A5 q0 q1 q2 q3 q4 q5 l) := hb0
  have c0 := cellOf hb0 0; have c1 := cellOf hb0 1; have c2 := cellOf hb0 2; have c3 := cellOf hb0 3; have c4 := cellOf hb0 4; have c5 := cellOf hb0 5
  have hlb := box_lt hb0
  clear hw0 hb0 hB0 hs0
  go_upto_region 4 with (first
    | (go_at_call 14; refine (large12_any ms Am qm A0 A1 A2 A3 A4 A5 q0 q1 q2 q3 q4 q5 l _ (H.out.up HB0.out)).mono ?_; rw [HLG.out]; rintro e w1 ⟨rfl, hB1⟩; have HL1 := hide (HL0.out.to hB1); have HB1 := hide (Below.to HB0.out hB1 (Nat.le_refl _)); clear hB1 c0 c1 c2 c3 c4 c5 hlb; have d0 := cellOf HL1.out 0; have d1 := cellOf HL1.out 1; have d2 := cellOf HL1.out 2; have d3 := cellOf HL1.out 3; have d4 := cellOf HL1.out 4; have d5 := cellOf HL1.out 5; have hld := box_lt HL1.out)
    | (go_at_call 22; refine (Loads_any bs Ab qb ms Am qm A0 A1 A2 A3 A4 A5 q0 q1 q2 q3 q4 q5 l w1 HS.out HD.out HBL.out (H.out.up HB1.out) (HM.out.up HB1.out) (Ints.up HBS.out HB1.out) HNN.out).mono ?_; rw [HER.out, HRR.out]; rintro e w2 ⟨v2, rfl, hv2, hB2⟩; have HV2 := hide hv2; have HL2 := hide (HL1.out.to hB2); have HB2 := hide (Below.to HB1.out hB2 (Nat.le_refl _)); clear hv2 hB2 d0 d1 d2 d3 d4 d5 hld; have c0 := cellOf HL2.out 0; have c1 := cellOf HL2.out 1; have c2 := cellOf HL2.out 2; have c3 := cellOf HL2.out 3; have c4 := cellOf HL2.out 4; have c5 := cellOf HL2.out 5; have hlb := box_lt HL2.out))
  go_upto_region 5 with (go_at_call 23; refine (rLoads_any bs Ab qb ms Am qm A0 A1 A2 A3 A4 A5 q0 q1 q2 q3 q4 q5 l w2 HS.out HD.out HBL.out (H.out.up HB2.out) (HM.out.up HB2.out) (Ints.up HBS.out HB2.out) HNN.out).mono ?_; rw [HER.out, HRR.out]; rintro e w3 ⟨v3, rfl, hv3, hB3⟩; have HV3 := hide hv3; have HV23 := hide (Sl.up HV2.out hB3); have HB3 := hide (Below.to HB2.out hB3 (Nat.le_refl _)); clear hv3 hB3 c0 c1 c2 c3 c4 c5 hlb)
  go_wp2_with (first
    | (go_at_call 21; refine (sameInts12_any (R.map fun (n : Nat) => (n : Int)) _ _ w3 HRL.out (Nods.ints7 HV23.out) (Nods.ints7 HV3.out)).mono ?_; rintro e w4 ⟨rfl, hB4⟩; have HB4 := hide (Below.to HB3.out hB4 (Nat.le_refl _)); clear hB4)
    | (go_at_call 15; refine (works_build _).mono ?_; rintro e w5 ⟨rfl, hB5⟩))
  go_ret
  exact ⟨rfl, Below.to HB4.out hB5 (Nat.le_refl _)⟩
end Go.Proofs.YtehadoecnmfeoaaGreat
/- The laws' looms, opened: no condition. -/
namespace Go.Proofs.YtehadoecnmfeoaaGreat
open Go.Joins Go.ChangeShapes Go.WideShapes Go.ChangeAt Go.RowKit Go.Deep
set_option maxRecDepth 100000
set_option linter.unusedVariables false
set_option linter.unusedSimpArgs false
section
variable {H : Type} {enc : TypeId × Value → H} {W : World} {base b0 : Nat} {r : Reach} {spare : Nat → Bool} {held : Bool} {v : Value} {d : DataW H} {p : List MemPlace}
theorem open_lo (hv : Value.okWide Tryz.prog W r b0 31 v) (h : DataW.Trod enc Tryz.prog W base spare held 31 v d p) :
    ∃ (A0 A1 A2 A3 A4 A5 : Option Addr) (q0 q1 q2 q3 q4 q5 : Nat), ∃ l : Lo, v = .agg #[.slice A0 l.m.opts.length q0, .slice A1 l.m.rules.length q1, .slice A2 l.ss.length q2, .slice A3 l.us.length q3, .slice A4 l.ps.length q4, .slice A5 l.ws.length q5] ∧ LoA W W.heap.size A0 A1 A2 A3 A4 A5 q0 q1 q2 q3 q4 q5 l ∧ SizedL l := by
  obtain ⟨ov, rv, sv, uv, pv, wv, l, rfl, hl, hs, _⟩ := open_loom hv h
  obtain ⟨A0, A1, A2, A3, A4, A5, q0, q1, q2, q3, q4, q5, rfl, rfl, rfl, rfl, rfl, rfl, hla⟩ := hl.form
  exact ⟨A0, A1, A2, A3, A4, A5, q0, q1, q2, q3, q4, q5, l, rfl, hla, hs⟩
end
end Go.Proofs.YtehadoecnmfeoaaGreat

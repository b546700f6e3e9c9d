/- Part 39 of this claim's texts: walks and plain laws. -/
import Derived.Test.YtehadoecnmfeoaaRows
import Derived.Test.YtehadoecnmfeoaaGBB34
import Derived.Test.YtehadoecnmfeoaaGBB37
import Derived.Test.YtehadoecnmfeoaaGBB19
import Derived.Test.YtehadoecnmfeoaaGBB15
import Derived.Test.YtehadoecnmfeoaaGBB27
import Derived.Deep.DeepMust
import Derived.Deep.RegionHeld3
import Derived.Deep.DrawnRows
/- Boards: what is laid is best. Plain laws. -/
namespace Go.Proofs.Ytehadoecnmfeoaa
set_option linter.unusedVariables false
set_option linter.unusedSimpArgs false
theorem stL_fold (f : List Nat → Nat) (g : Nat → List Nat) : ∀ (n : Nat), 0 < n → ∃ i, i < n ∧ (List.range n).foldl (fun s i => stL f s (g i)) ([], -1) = (g i, (f (g i) : Int)) ∧ ∀ j, j < n → f (g i) ≤ f (g j)
  | 0, h => absurd h (by omega)
  | n + 1, _ => by
    rw [List.range_succ, List.foldl_append]
    show ∃ i, i < n + 1 ∧ stL f ((List.range n).foldl (fun s i => stL f s (g i)) ([], -1)) (g n) = (g i, (f (g i) : Int)) ∧ ∀ j, j < n + 1 → f (g i) ≤ f (g j)
    rcases Nat.eq_zero_or_pos n with h | h
    · subst h
      refine ⟨0, by omega, ?_, fun j hj => by rw [show j = 0 by omega]; exact Nat.le_refl _⟩
      show stL f ([], -1) (g 0) = _
      unfold stL
      rw [if_pos (.inl (by decide))]
    · obtain ⟨i, hi, h1, h2⟩ := stL_fold f g n h
      rw [h1]
      unfold stL
      by_cases hc : f (g n) < f (g i)
      · rw [if_pos (.inr (by show ((f (g n) : Nat) : Int) < ((f (g i) : Nat) : Int); omega))]
        refine ⟨n, by omega, rfl, fun j hj => ?_⟩
        rcases Nat.lt_or_ge j n with h3 | h3
        · have := h2 j h3; omega
        · rw [show j = n by omega]; exact Nat.le_refl _
      · rw [if_neg (by show ¬ (((f (g i) : Nat) : Int) < 0 ∨ ((f (g n) : Nat) : Int) < ((f (g i) : Nat) : Int)); omega)]
        refine ⟨i, by omega, rfl, fun j hj => ?_⟩
        rcases Nat.lt_or_ge j n with h3 | h3
        · exact h2 j h3
        · rw [show j = n by omega]; omega
/-- Each list is one of all lists. -/
theorem digL_all (n : Nat) : ∀ (L : List Nat), (∀ x ∈ L, x < n) → ∃ i, i < n ^ L.length ∧ digL n L.length i = L
  | [], _ => ⟨0, by simp, rfl⟩
  | b :: L, h => by
    obtain ⟨i, hi, h1⟩ := digL_all n L fun x hx => h x (by simp [hx])
    have hb := h b (by simp)
    refine ⟨b * n ^ L.length + i, ?_, ?_⟩
    · rw [List.length_cons, Nat.pow_succ]
      have h2 : (b + 1) * n ^ L.length ≤ n * n ^ L.length := Nat.mul_le_mul_right _ (by omega)
      rw [Nat.succ_mul] at h2
      rw [Nat.mul_comm (n ^ L.length)]
      omega
    · rw [List.length_cons, digL_cons hb hi, h1]
/-- What the search finds. -/
theorem layR_best (f : List Nat → Nat) {n len : Nat} (hn : 0 < n) : ∃ L, layR f n len [] ([], -1) = (L, (f L : Int)) ∧ L.length = len ∧ (∀ i, i < L.length → L.getD i 0 < n) ∧ ∀ L' : List Nat, L'.length = len → (∀ x ∈ L', x < n) → f L ≤ f L' := by
  rw [layR_all]
  obtain ⟨i, hi, h1, h2⟩ := stL_fold f (fun i => [] ++ digL n len i) (n ^ len) (Nat.pow_pos hn)
  refine ⟨digL n len i, h1, digL_len _ _ _, fun j hj => digL_lt hn (by rw [digL_len] at hj; exact hj), fun L' hl hx => ?_⟩
  subst hl
  obtain ⟨k, hk, h3⟩ := digL_all n L' hx
  have h4 := h2 k hk
  simp only [List.nil_append] at h4
  rw [h3] at h4
  exact h4
/-- Boards as numbers. -/
def natL (bs : List Int) : List Nat := bs.map Int.toNat
theorem natL_len (bs : List Int) : (natL bs).length = bs.length := by simp [natL]
theorem natL_int {bs : List Int} (h : ∀ y ∈ bs, 0 ≤ y) : intL (natL bs) = bs := by
  unfold intL natL
  rw [List.map_map]
  refine (List.map_congr_left fun y hy => ?_).trans (List.map_id bs)
  have := h y hy
  show ((y.toNat : Nat) : Int) = y
  omega
theorem nbK_nat {bs : List Int} (h : ∀ y ∈ bs, 0 ≤ y) {x : Nat} (hx : x ∈ natL bs) : x < nbK bs := by
  unfold natL at hx
  obtain ⟨y, hy, rfl⟩ := List.mem_map.1 hx
  exact nbK_lt hy
theorem intL_brd {L : List Nat} (h : ∀ i, i < L.length → L.getD i 0 < 4) : brdOk (intL L) = true := by
  unfold brdOk
  rw [List.all_eq_true]
  intro y hy
  unfold intL at hy
  obtain ⟨x, hx, rfl⟩ := List.mem_map.1 hy
  obtain ⟨i, hi, e⟩ := List.mem_iff_getElem.1 hx
  have h1 := h i hi
  rw [List.getD_eq_getElem?_getD, List.getElem?_eq_getElem hi] at h1
  have h2 : x < 4 := by rw [← e]; exact h1
  rw [btw_iff]
  omega
theorem nbK_intL {L : List Nat} {n : Nat} (h : ∀ i, i < L.length → L.getD i 0 < n) : nbK (intL L) ≤ n := by
  refine nbK_le fun y hy => ?_
  unfold intL at hy
  obtain ⟨x, hx, rfl⟩ := List.mem_map.1 hy
  obtain ⟨i, hi, e⟩ := List.mem_iff_getElem.1 hx
  have h1 := h i hi
  rw [List.getD_eq_getElem?_getD, List.getElem?_eq_getElem hi] at h1
  have h2 : x < n := by rw [← e]; exact h1
  omega
/-- The greatest load of some boards, from what Loads says. -/
theorem grL_lod {m : Mo} {ms : List Md} {L : List Nat} (hl : L.length = ms.length) (h4 : ∀ i, i < L.length → L.getD i 0 < 4) : grL ((List.range (nbK (intL L))).map (lodN m ms (intL L))) = lstN m ms L := by
  have h0 : nbK (intL L) ≤ 4 := nbK_intL h4
  have h1 := lstN_upto (m := m) (n := nbK (intL L)) hl h0 fun i hi => by
    have h2 : ((L.getD i 0 : Nat) : Int) ∈ intL L := by
      unfold intL
      refine List.mem_map.2 ⟨L.getD i 0, ?_, rfl⟩
      rw [List.getD_eq_getElem?_getD, List.getElem?_eq_getElem hi]
      exact List.getElem_mem hi
    exact nbK_lt h2
  exact h1.symm
/-- The law of BuildBoards: what Lay lays for as many boards. -/
theorem lay_law {l : Lo} {ms : List Md} {bs : List Int} (hE : lodE l ms bs = 0) (h8 : ms.length ≤ 8) {n : Nat} (hn : n = max 1 (nbK bs)) : ∃ L, layE l ms n = 0 ∧ layS l ms n = (L, ((lstN l.m ms L : Nat) : Int)) ∧ L.length = ms.length ∧ lodE l ms (intL L) = 0 ∧
    lodL l ms (intL L) = (List.range (nbK (intL L))).map (lodN l.m ms (intL L)) ∧ nbK (intL L) ≤ n ∧ grL (lodL l ms (intL L)) = lstN l.m ms L ∧ lstN l.m ms L ≤ grL (lodL l ms bs) := by
  have hb : bldE l ms = 0 := by
    by_cases h : bldE l ms = 0
    · exact h
    · rw [(lodE_err (bs := bs) h).1] at hE
      exact absurd hE h
  have hbrd : ¬ (bs.length ≠ ms.length ∨ brdOk bs = false) := fun h => by
    rw [(lodE_brd hb h).1] at hE
    cases hE
  have hlen : bs.length = ms.length := Decidable.not_not.1 fun h => hbrd (.inl h)
  have hok : brdOk bs = true := by
    cases h : brdOk bs with
    | true => rfl
    | false => exact absurd (.inr h) hbrd
  have hne : allM l.m ≠ [] := fun h => by
    rw [(lodE_none hb hlen hok h).1] at hE
    cases hE
  have hnb : nbK bs ≤ 4 := nbK_le fun y hy => by have := brd_at hok hy; omega
  have hn1 : 1 ≤ n := by omega
  have hn4 : n ≤ 4 := by omega
  have hz : layE l ms n = 0 := by
    unfold layE
    rw [if_neg (by simp [hb]), if_neg (by rw [show btw (n : Int) 1 4 = true from btw_iff.2 ⟨by omega, by omega⟩]; simp; omega), if_neg hne]
  have hS : layS l ms n = layR (lstN l.m ms) n ms.length [] ([], -1) := by
    unfold layS
    rw [if_pos hz]
    rfl
  obtain ⟨L, h1, h2, h3, h4⟩ := layR_best (lstN l.m ms) (n := n) (len := ms.length) hn1
  have hL4 : ∀ i, i < L.length → L.getD i 0 < 4 := fun i hi => by have := h3 i hi; omega
  have hok2 := lodE_ok (bs := intL L) hb (by rw [intL_len]; exact h2) (intL_brd hL4) hne
  have hge : ∀ y ∈ bs, (0 : Int) ≤ y := fun y hy => (brd_at hok hy).1
  refine ⟨L, hz, hS.trans h1, h2, hok2.1, hok2.2, nbK_intL h3, ?_, ?_⟩
  · rw [hok2.2]
    exact grL_lod h2 hL4
  · have h5 := h4 (natL bs) (by rw [natL_len]; exact hlen) fun x hx => by have := nbK_nat hge hx; omega
    refine Nat.le_trans h5 ?_
    rw [(lodE_ok hb hlen hok hne).2]
    have h6 := grL_lod (m := l.m) (ms := ms) (L := natL bs) (by rw [natL_len]; exact hlen) fun i hi => by
      have h7 : (natL bs).getD i 0 ∈ natL bs := by
        rw [List.getD_eq_getElem?_getD, List.getElem?_eq_getElem hi]
        exact List.getElem_mem hi
      have := nbK_nat hge h7
      omega
    rw [natL_int hge] at h6
    rw [h6]
    exact Nat.le_refl _
theorem Nods.asInts {w : World} {B : Nat} {v : Value} {L : List Nat} (h : Nods w B v L) : Ints w B v (intL L) := by
  have e : (intL L).length = L.length := intL_len L
  unfold Ints
  rw [e]
  obtain ⟨A, b, off, cap, rfl, hn, hA, hc⟩ := h
  refine ⟨A, b, off, cap, rfl, hn, hA, fun i j hi hj => ?_⟩
  show w.cell? ⟨b, off + (i * 1 + j), none⟩ = some (Value.int .i64 ((intL L).getD i 0))
  rw [intL_at hi]
  exact hc i j hi hj
end Go.Proofs.Ytehadoecnmfeoaa
/- How large a loom and modules are: walk. -/
namespace Go.Proofs.Ytehadoecnmfeoaa
open Go.RowKit
set_option linter.unusedVariables false
set_option linter.unusedSimpArgs false
def lrgB (l : Lo) (ms : List Md) : Bool := largeB l.m || (decide (12 < l.ws.length) && decide (l.ws.length ≤ 60)) || (decide (8 < ms.length) && decide (ms.length ≤ 60))
theorem lrg_small {l : Lo} {ms : List Md} (h : lrgB l ms = false) (he : l.m.err = 0) : l.m.opts.length ≤ 9 ∧ l.m.rules.length ≤ 12 := by
  unfold lrgB at h
  simp only [Bool.or_eq_false_iff] at h
  exact large_small h.1.1 he
set_option maxRecDepth 100000 in
set_option maxHeartbeats 4000000 in
theorem large12_any (ms : List Md) (Am : Option Addr) (qm : Nat) (A0 A1 A2 A3 A4 A5 : Option Addr) (q0 q1 q2 q3 q4 q5 : Nat) (l : Lo) (w : World) (h : LoA w w.heap.size A0 A1 A2 A3 A4 A5 q0 q1 q2 q3 q4 q5 l) :
    Calls Try.prog 12 #[.agg #[.slice A0 l.m.opts.length q0, .slice A1 l.m.rules.length q1, .slice A2 l.ss.length q2, .slice A3 l.us.length q3, .slice A4 l.ps.length q4, .slice A5 l.ws.length q5], .slice Am ms.length qm] w fun e w' => e = .returned (.bool (lrgB l ms)) ∧ Below w.heap.size w w' := by
  have H := hide h
  clear h
  cases hlg : largeB l.m with
  | true =>
    have HLG := hide hlg
    have HLB := hide hlg
    clear hlg
    have hr : lrgB l ms = true := by unfold lrgB; rw [HLG.out]; rfl
    have HR := hide hr
    clear hr HLB
    go_enter Try.func12, Try.ntmps12
    go_upto_region 1 with (fail)
    generalize hw0 : World.alloc _ _ = w0
    obtain ⟨hb0, hB0, hs0⟩ := alloc1 hw0
    have HB0 := hide hB0
    have HL0 : Hid (LoBox w0 w.heap.size A0 A1 A2 A3 A4 A5 q0 q1 q2 q3 q4 q5 l) := hb0
    have c0 := cellOf hb0 0; have c1 := cellOf hb0 1; have c2 := cellOf hb0 2; have c3 := cellOf hb0 3; have c4 := cellOf hb0 4; have c5 := cellOf hb0 5
    have hlb := box_lt hb0
    clear hw0 hb0 hB0 hs0
    go_wp2_with (go_at_call 29; refine (Large_any l.m _ _ _ (H.out.up HB0.out).m).mono ?_; rw [HLG.out]; rintro e w1 ⟨rfl, hB1⟩; have HL1 := hide (HL0.out.to hB1); have HB1 := hide (Below.to HB0.out hB1 (Nat.le_refl _)); clear hB1 c0 c1 c2 c3 c4 c5 hlb; have c0 := cellOf HL1.out 0; have c1 := cellOf HL1.out 1; have c2 := cellOf HL1.out 2; have c3 := cellOf HL1.out 3; have c4 := cellOf HL1.out 4; have c5 := cellOf HL1.out 5; have hlb := box_lt HL1.out)
    go_ret
    exact ⟨ret_bool HR.out.symm, HB1.out⟩
  | false =>
    have HLG := hide hlg
    have HLB := hide hlg
    clear hlg
    by_cases c1 : (12 : Int) < (l.ws.length : Int)
    · by_cases c2 : (l.ws.length : Int) ≤ 60
      · skip
        have hr : lrgB l ms = true := by unfold lrgB; rw [HLG.out, decide_eq_true (show 12 < l.ws.length by omega), decide_eq_true (show l.ws.length ≤ 60 by omega)]; rfl
        have d1 : decide ((12 : Int) < (l.ws.length : Int)) = true := decide_eq_true c1
        have d2 : decide ((l.ws.length : Int) ≤ 60) = true := decide_eq_true c2
        have HR := hide hr
        clear hr HLB
        go_enter Try.func12, Try.ntmps12
        go_upto_region 1 with (fail)
        generalize hw0 : World.alloc _ _ = w0
        obtain ⟨hb0, hB0, hs0⟩ := alloc1 hw0
        have HB0 := hide hB0
        have HL0 : Hid (LoBox w0 w.heap.size A0 A1 A2 A3 A4 A5 q0 q1 q2 q3 q4 q5 l) := hb0
        have c0 := cellOf hb0 0; have c1 := cellOf hb0 1; have c2 := cellOf hb0 2; have c3 := cellOf hb0 3; have c4 := cellOf hb0 4; have c5 := cellOf hb0 5
        have hlb := box_lt hb0
        clear hw0 hb0 hB0 hs0
        go_wp2_with (go_at_call 29; refine (Large_any l.m _ _ _ (H.out.up HB0.out).m).mono ?_; rw [HLG.out]; rintro e w1 ⟨rfl, hB1⟩; have HL1 := hide (HL0.out.to hB1); have HB1 := hide (Below.to HB0.out hB1 (Nat.le_refl _)); clear hB1 c0 c1 c2 c3 c4 c5 hlb; have c0 := cellOf HL1.out 0; have c1 := cellOf HL1.out 1; have c2 := cellOf HL1.out 2; have c3 := cellOf HL1.out 3; have c4 := cellOf HL1.out 4; have c5 := cellOf HL1.out 5; have hlb := box_lt HL1.out)
        go_ret
        exact ⟨ret_bool HR.out.symm, HB1.out⟩
      · skip
        by_cases c3 : (8 : Int) < (ms.length : Int)
        · skip
          have hr : lrgB l ms = decide ((ms.length : Int) ≤ 60) := by unfold lrgB; rw [HLG.out, decide_eq_false (show ¬ l.ws.length ≤ 60 by omega), Bool.and_false, decide_eq_true (show 8 < ms.length by omega), Bool.false_or, Bool.true_and]; exact decide_eq_decide.2 (by omega)
          have d1 : decide ((12 : Int) < (l.ws.length : Int)) = true := decide_eq_true c1
          have d2 : decide ((l.ws.length : Int) ≤ 60) = false := decide_eq_false c2
          have d3 : decide ((8 : Int) < (ms.length : Int)) = true := decide_eq_true c3
          have HR := hide hr
          clear hr HLB
          go_enter Try.func12, Try.ntmps12
          go_upto_region 1 with (fail)
          generalize hw0 : World.alloc _ _ = w0
          obtain ⟨hb0, hB0, hs0⟩ := alloc1 hw0
          have HB0 := hide hB0
          have HL0 : Hid (LoBox w0 w.heap.size A0 A1 A2 A3 A4 A5 q0 q1 q2 q3 q4 q5 l) := hb0
          have c0 := cellOf hb0 0; have c1 := cellOf hb0 1; have c2 := cellOf hb0 2; have c3 := cellOf hb0 3; have c4 := cellOf hb0 4; have c5 := cellOf hb0 5
          have hlb := box_lt hb0
          clear hw0 hb0 hB0 hs0
          go_wp2_with (go_at_call 29; refine (Large_any l.m _ _ _ (H.out.up HB0.out).m).mono ?_; rw [HLG.out]; rintro e w1 ⟨rfl, hB1⟩; have HL1 := hide (HL0.out.to hB1); have HB1 := hide (Below.to HB0.out hB1 (Nat.le_refl _)); clear hB1 c0 c1 c2 c3 c4 c5 hlb; have c0 := cellOf HL1.out 0; have c1 := cellOf HL1.out 1; have c2 := cellOf HL1.out 2; have c3 := cellOf HL1.out 3; have c4 := cellOf HL1.out 4; have c5 := cellOf HL1.out 5; have hlb := box_lt HL1.out)
          go_ret
          exact ⟨ret_bool HR.out.symm, HB1.out⟩
        · skip
          have hr : lrgB l ms = false := by unfold lrgB; rw [HLG.out, decide_eq_false (show ¬ l.ws.length ≤ 60 by omega), Bool.and_false, decide_eq_false (show ¬ 8 < ms.length by omega)]; simp
          have d1 : decide ((12 : Int) < (l.ws.length : Int)) = true := decide_eq_true c1
          have d2 : decide ((l.ws.length : Int) ≤ 60) = false := decide_eq_false c2
          have d3 : decide ((8 : Int) < (ms.length : Int)) = false := decide_eq_false c3
          have HR := hide hr
          clear hr HLB
          go_enter Try.func12, Try.ntmps12
          go_upto_region 1 with (fail)
          generalize hw0 : World.alloc _ _ = w0
          obtain ⟨hb0, hB0, hs0⟩ := alloc1 hw0
          have HB0 := hide hB0
          have HL0 : Hid (LoBox w0 w.heap.size A0 A1 A2 A3 A4 A5 q0 q1 q2 q3 q4 q5 l) := hb0
          have c0 := cellOf hb0 0; have c1 := cellOf hb0 1; have c2 := cellOf hb0 2; have c3 := cellOf hb0 3; have c4 := cellOf hb0 4; have c5 := cellOf hb0 5
          have hlb := box_lt hb0
          clear hw0 hb0 hB0 hs0
          go_wp2_with (go_at_call 29; refine (Large_any l.m _ _ _ (H.out.up HB0.out).m).mono ?_; rw [HLG.out]; rintro e w1 ⟨rfl, hB1⟩; have HL1 := hide (HL0.out.to hB1); have HB1 := hide (Below.to HB0.out hB1 (Nat.le_refl _)); clear hB1 c0 c1 c2 c3 c4 c5 hlb; have c0 := cellOf HL1.out 0; have c1 := cellOf HL1.out 1; have c2 := cellOf HL1.out 2; have c3 := cellOf HL1.out 3; have c4 := cellOf HL1.out 4; have c5 := cellOf HL1.out 5; have hlb := box_lt HL1.out)
          go_ret
          exact ⟨ret_bool HR.out.symm, HB1.out⟩
    · skip
      by_cases c3 : (8 : Int) < (ms.length : Int)
      · skip
        have hr : lrgB l ms = decide ((ms.length : Int) ≤ 60) := by unfold lrgB; rw [HLG.out, decide_eq_false (show ¬ 12 < l.ws.length by omega), Bool.false_and, decide_eq_true (show 8 < ms.length by omega), Bool.false_or, Bool.true_and]; exact decide_eq_decide.2 (by omega)
        have d1 : decide ((12 : Int) < (l.ws.length : Int)) = false := decide_eq_false c1
        have d3 : decide ((8 : Int) < (ms.length : Int)) = true := decide_eq_true c3
        have HR := hide hr
        clear hr HLB
        go_enter Try.func12, Try.ntmps12
        go_upto_region 1 with (fail)
        generalize hw0 : World.alloc _ _ = w0
        obtain ⟨hb0, hB0, hs0⟩ := alloc1 hw0
        have HB0 := hide hB0
        have HL0 : Hid (LoBox w0 w.heap.size A0 A1 A2 A3 A4 A5 q0 q1 q2 q3 q4 q5 l) := hb0
        have c0 := cellOf hb0 0; have c1 := cellOf hb0 1; have c2 := cellOf hb0 2; have c3 := cellOf hb0 3; have c4 := cellOf hb0 4; have c5 := cellOf hb0 5
        have hlb := box_lt hb0
        clear hw0 hb0 hB0 hs0
        go_wp2_with (go_at_call 29; refine (Large_any l.m _ _ _ (H.out.up HB0.out).m).mono ?_; rw [HLG.out]; rintro e w1 ⟨rfl, hB1⟩; have HL1 := hide (HL0.out.to hB1); have HB1 := hide (Below.to HB0.out hB1 (Nat.le_refl _)); clear hB1 c0 c1 c2 c3 c4 c5 hlb; have c0 := cellOf HL1.out 0; have c1 := cellOf HL1.out 1; have c2 := cellOf HL1.out 2; have c3 := cellOf HL1.out 3; have c4 := cellOf HL1.out 4; have c5 := cellOf HL1.out 5; have hlb := box_lt HL1.out)
        go_ret
        exact ⟨ret_bool HR.out.symm, HB1.out⟩
      · skip
        have hr : lrgB l ms = false := by unfold lrgB; rw [HLG.out, decide_eq_false (show ¬ 12 < l.ws.length by omega), Bool.false_and, decide_eq_false (show ¬ 8 < ms.length by omega)]; simp
        have d1 : decide ((12 : Int) < (l.ws.length : Int)) = false := decide_eq_false c1
        have d3 : decide ((8 : Int) < (ms.length : Int)) = false := decide_eq_false c3
        have HR := hide hr
        clear hr HLB
        go_enter Try.func12, Try.ntmps12
        go_upto_region 1 with (fail)
        generalize hw0 : World.alloc _ _ = w0
        obtain ⟨hb0, hB0, hs0⟩ := alloc1 hw0
        have HB0 := hide hB0
        have HL0 : Hid (LoBox w0 w.heap.size A0 A1 A2 A3 A4 A5 q0 q1 q2 q3 q4 q5 l) := hb0
        have c0 := cellOf hb0 0; have c1 := cellOf hb0 1; have c2 := cellOf hb0 2; have c3 := cellOf hb0 3; have c4 := cellOf hb0 4; have c5 := cellOf hb0 5
        have hlb := box_lt hb0
        clear hw0 hb0 hB0 hs0
        go_wp2_with (go_at_call 29; refine (Large_any l.m _ _ _ (H.out.up HB0.out).m).mono ?_; rw [HLG.out]; rintro e w1 ⟨rfl, hB1⟩; have HL1 := hide (HL0.out.to hB1); have HB1 := hide (Below.to HB0.out hB1 (Nat.le_refl _)); clear hB1 c0 c1 c2 c3 c4 c5 hlb; have c0 := cellOf HL1.out 0; have c1 := cellOf HL1.out 1; have c2 := cellOf HL1.out 2; have c3 := cellOf HL1.out 3; have c4 := cellOf HL1.out 4; have c5 := cellOf HL1.out 5; have hlb := box_lt HL1.out)
        go_ret
        exact ⟨ret_bool HR.out.symm, HB1.out⟩
end Go.Proofs.Ytehadoecnmfeoaa

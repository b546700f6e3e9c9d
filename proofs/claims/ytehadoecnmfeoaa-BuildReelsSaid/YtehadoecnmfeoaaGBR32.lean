/- Part 32 of this claim's texts: walks and plain laws. -/
import Derived.Test.YtehadoecnmfeoaaRows
import Derived.Test.YtehadoecnmfeoaaGBR31
import Derived.Test.YtehadoecnmfeoaaGBR27
import Derived.Test.YtehadoecnmfeoaaGBR11
import Derived.Test.YtehadoecnmfeoaaGBR3
import Derived.Test.YtehadoecnmfeoaaGBR16
import Derived.Test.YtehadoecnmfeoaaGBR15
/- The look at the example; equal lists of numbers are told equal: walks. -/
namespace Go.Proofs.Ytehadoecnmfeoaa
open Go.RowKit
set_option linter.unusedVariables false
set_option linter.unusedSimpArgs false
theorem Nods.ints7 {w : World} {B : Nat} {v : Value} {l : List Nat} (h : Nods w B v l) : Ints w B v (l.map fun (n : Nat) => (n : Int)) := by
  obtain ⟨A, b, off, cap, h1, h2, h3, h4⟩ := h
  have hl : (l.map fun (n : Nat) => (n : Int)).length = l.length := by simp
  refine ⟨A, b, off, cap, ?_, by rw [hl]; exact h2, ?_, fun i j hi hj => ?_⟩
  · rw [hl]; exact h1
  · rw [hl]; exact h3
  · rw [hl] at hi
    have := h4 i j hi hj
    rw [this]
    simp [hi]
set_option maxRecDepth 100000 in
set_option maxHeartbeats 2000000 in
theorem sameInts12_any (f : List Int) (u v : Value) (w : World) (hl : f.length ≤ maxLen) (h : Ints w w.heap.size u f) (h2 : Ints w w.heap.size v f) :
    Calls Try.prog 10 #[u, v] w fun e w' => e = .returned (.bool true) ∧ Below w.heap.size w w' := by
  obtain ⟨A, q, rfl⟩ := Sl.form h
  obtain ⟨C, r, rfl⟩ := Sl.form h2
  unfold maxLen at hl
  have H := hide h
  have H2 := hide h2
  clear h h2
  go_enter Try.func10, Try.ntmps10
  go_wp2_with fail
  go_loopw [5] (fun i wr => ∃ k : Nat, k ≤ f.length ∧ i = .int .i64 k ∧ Hid (Below w.heap.size w wr)) (fun i _ => f.length - (intOf i).toNat)
  case atStart => exact ⟨0, Nat.zero_le _, rfl, Below.refl _ _⟩
  case round =>
    obtain ⟨k, hk, rfl, hB⟩ := hrel
    by_cases hlt : k < f.length
    · obtain ⟨_, hq, b, off, rfl, hb, g0⟩ := sl_at (Sl.below H.out hB.out) hlt
      obtain ⟨_, hq2, b2, off2, rfl, hb2, g1⟩ := sl_at (Sl.below H2.out hB.out) hlt
      have c0 := g0 0 (by omega)
      have d0 := g1 0 (by omega)
      rw [Nat.mul_one, Nat.add_zero] at c0 d0
      have l0 : b < wr.heap.size := Nat.lt_of_lt_of_le hb hB.out.size
      have l1 : b2 < wr.heap.size := Nat.lt_of_lt_of_le hb2 hB.out.size
      have ik0 : (0 : Int) ≤ (k : Int) := by omega
      have ik : (k : Int) < (f.length : Int) := by omega
      have iq : (f.length : Int) ≤ (q : Int) := by omega
      have iq2 : (f.length : Int) ≤ (r : Int) := by omega
      obtain ⟨x, hx⟩ : ∃ x, f.getD k 0 = x := ⟨_, rfl⟩
      rw [hx] at c0 d0
      have n1 : (x != x) = false := by simp
      clear hx g0 g1
      go_wp2_with fail
      refine wp_region_held_drew (S := (fun w' => Below wr.heap.size wr w')) (by kernel_rfl) ?_ (fun hHeld => ?_)
      · try dsimp only
        exact (by repeat (first | exact Below.refl _ _ | assumption | refine Below.drew ?_ | refine Below.drewN ?_ _ | refine Below.allocT ?_ (Nat.le_refl _) _ | refine Below.setCell ?_ (by simp <;> omega) _ | refine Below.to ?_ (by assumption) (Nat.le_refl _)))
      refine zT 0 rfl ?_
      try simp only [zX]
      refine zT 1 rfl ?_
      try simp only [zX]
      refine zT 2 rfl ?_
      try simp only [zX]
      refine zT 3 rfl ?_
      try simp only [zX]
      refine zT 4 rfl ?_
      try simp only [zX]
      refine zT 5 rfl ?_
      try simp only [zX]
      refine zT 6 rfl ?_
      try simp only [zX]
      refine zT 7 rfl ?_
      try simp only [zX]
      refine zT 8 rfl ?_
      try simp only [zX]
      refine wpAnyH_done (by kernel_rfl) ?_ _
      go_wp2_with fail
      go_roundw
      case rel => exact ⟨k + 1, by omega, by go_num, Below.to hB.out hHeld (Nat.le_refl _)⟩
      case measure => simp [intOf]; omega
    · go_wp2_with fail
      go_ret
      exact ⟨rfl, hB.out⟩
def exMd : List Md := [⟨[1], [1, 2]⟩]
theorem exB_aud : audA exB exMd = some (0, 1, [true, false]) := by kernel_rfl
theorem exB_err : bldE exB exMd = 0 := by kernel_rfl
theorem exB_rel : relR [6, 5, 4, 5] 10 = [0, 1, 0, 1] := by kernel_rfl
theorem exB_rele : relE [6, 5, 4, 5] 10 = 0 := by kernel_rfl
theorem exB_sized : SizedL exB := by
  have hm : ∀ n : Nat, n ≤ 100 → n ≤ maxLen := fun n hn => by unfold maxLen; omega
  refine ⟨⟨hm _ (by decide), fun x hx => hm _ ?_, hm _ (by decide), fun f hf => ?_⟩, hm _ (by decide), hm _ (by decide), hm _ (by decide), hm _ (by decide), fun x hx => hm _ ?_, fun x hx => ⟨hm _ ?_, hm _ ?_⟩⟩
  · have : x = ⟨#[116, 111, 119]⟩ ∨ x = ⟨#[104, 101, 97, 116]⟩ := by simpa [exB] using hx
    rcases this with rfl | rfl <;> decide
  · simp [exB] at hf
  · simp [exB] at hx
    rcases hx with rfl | rfl | rfl <;> decide
  · simp [exB] at hx
    rcases hx with rfl | rfl | rfl <;> decide
  · simp [exB] at hx
    rcases hx with rfl | rfl | rfl <;> decide
theorem exMd_sized : SizedD exMd := ⟨by unfold maxLen; decide, fun x hx => by
  simp [exMd] at hx
  subst hx
  unfold maxLen
  decide⟩
theorem mods_ex {w w0 : World} {o p q : Obj} (h : ((w.alloc o).alloc p).alloc q = w0) {t u s : Nat} (ho : o = .cells #[.int .i64 1] t (0, 0)) (hp : p = .cells #[.int .i64 1, .int .i64 2] u (0, 0)) (hq : q = .cells #[.slice (some ⟨w.heap.size, 0, none⟩) 1 1, .slice (some ⟨w.heap.size + 1, 0, none⟩) 2 2] s (0, 0)) :
    Mods w0 w0.heap.size (.slice (some ⟨w.heap.size + 2, 0, none⟩) 1 1) exMd ∧ Below w.heap.size w w0 := by
  obtain ⟨h0, h1, h2, hB, hs⟩ := alloc3 h
  subst ho hp hq
  refine ⟨⟨fun _ => .slice (some ⟨w.heap.size, 0, none⟩) 1 1, fun _ => .slice (some ⟨w.heap.size + 1, 0, none⟩) 2 2, sl_boxes7 h2 (by omega) (fun i hi j hj => ?_), fun i hi => ?_⟩, hB⟩
  · have hi1 : i < 1 := hi
    obtain rfl : i = 0 := by omega
    rcases (by omega : j = 0 ∨ j = 1) with rfl | rfl <;> rfl
  · have hi1 : i < 1 := hi
    obtain rfl : i = 0 := by omega
    exact ⟨ints_box (l := [1]) h0 (by omega), ints_box (l := [1, 2]) h1 (by omega)⟩
set_option maxRecDepth 100000 in
set_option maxHeartbeats 2000000 in
theorem works_build (w : World) :
    Calls Try.prog 7 #[] w fun e w' => e = .returned (.bool true) ∧ Below w.heap.size w w' := by
  go_enter Try.func7, Try.ntmps7
  go_upto_region 2 with (first
    | (go_at_call 21; refine (exb_any w).mono ?_; rintro e w1 ⟨A0, A1, A2, A3, A4, A5, q0, q1, q2, q3, q4, q5, rfl, hl1, hB1⟩; have HL1 := hide hl1; have HB1 := hide hB1; clear hl1 hB1)
    | (go_at_call 14; generalize hw0 : World.alloc _ _ = w0; obtain ⟨hms, hBm⟩ := mods_ex hw0 rfl rfl rfl; refine (Audit_any exMd _ _ A0 A1 A2 A3 A4 A5 q0 q1 q2 q3 q4 q5 exB w0 exB_sized exMd_sized (HL1.out.up hBm) hms (fun _ => by decide)).mono ?_; rw [exB_aud, exB_err]; rintro e w2 ⟨v2, he2, hop2, hB2⟩; have he3 : e = .returned (.tuple #[.agg #[.int .i64 0, .int .i64 1, v2], .bool true, .int .i64 0]) := he2; subst he3; obtain ⟨ad2, p2, e2⟩ := hop2.1; subst e2; have HV2 := hide hop2.2; have HB2 := hide (Below.to HB1.out (Below.to hBm hB2 (Nat.le_refl _)) (Nat.le_refl _)); clear hw0 hms hBm hB2 hop2 he2))
  generalize hw3 : World.alloc _ _ = w3
  obtain ⟨hb3, hB3, hs3⟩ := alloc1 hw3
  have HV3 := hide (Sl.up HV2.out hB3)
  have HB3 := hide (Below.to HB2.out hB3 (Nat.le_refl _))
  have HZ3 := hide hb3
  clear hw3 hb3 hB3 hs3
  go_upto_region 3 with (go_at_call 8; generalize hw4 : World.alloc _ _ = w4; obtain ⟨hb4, hB4, hs4⟩ := alloc1 hw4; refine (Reels_any [6, 5, 4, 5] 10 _ _ w4 (by unfold maxLen; decide) (ints_box (l := [6, 5, 4, 5]) hb4 (by omega))).mono ?_; rw [exB_rel, exB_rele]; rintro e w5 ⟨v5, rfl, hv5, hB5⟩; have HV5 := hide (Sl.up (Sl.up HV3.out hB4) hB5); have HZ5 := hide (box_to (box_to HZ3.out hB4) hB5); have HN5 := hide hv5; have HB5 := hide (Below.to HB3.out (Below.to hB4 hB5 (Nat.le_refl _)) (Nat.le_refl _)); clear hw4 hb4 hB4 hs4 hv5 hB5)
  have y0 := cellOf HZ5.out 0
  have y1 := cellOf HZ5.out 1
  have y2 := cellOf HZ5.out 2
  have l5 := box_lt HZ5.out
  go_wp2_with (first
    | (go_at_call 22; refine (SameVariant_any [true, false] [true, false] _ _ _ (Sl.up HV5.out (Below.allocT (Below.refl _ _) (Nat.le_refl _) _)) (bols_box (l := [true, false]) (heap_new _ _ _ rfl) (by simp)) (by decide) (by unfold maxLen; decide)).mono ?_; rintro e w6 ⟨rfl, hB6⟩; have HN6 := hide (Sl.up HN5.out (Below.to (Below.allocT (Below.refl _ _) (Nat.le_refl _) _) hB6 (Nat.le_refl _))); have HB6 := hide (Below.to (Below.allocT HB5.out (Nat.le_refl _) _) hB6 (Nat.le_refl _)); clear hB6)
    | (go_at_call 10; refine (sameInts12_any [0, 1, 0, 1] _ _ _ (by unfold maxLen; decide) (Nods.ints7 (Sl.up HN6.out (Below.allocT (Below.refl _ _) (Nat.le_refl _) _))) (ints_box (l := [0, 1, 0, 1]) (heap_new _ _ _ rfl) (by simp))).mono ?_; rintro e w7 ⟨rfl, hB7⟩))
  go_ret
  exact ⟨rfl, Below.to (Below.allocT HB6.out (Nat.le_refl _) _) hB7 (Nat.le_refl _)⟩
end Go.Proofs.Ytehadoecnmfeoaa
/- The reels that are found: plain laws. -/
namespace Go.Proofs.Ytehadoecnmfeoaa
set_option linter.unusedVariables false
theorem rlT_some {most : Nat} {p : Int} {ps : List Int} {L : Nat → Int} {o r : Nat} {l : List Nat} (h : rlT most p ps L o r = some l) : r ≤ o ∧ p ≤ L r ∧ ∃ t, l = r :: t ∧ rlS most ps (updL L r (L r - p)) (max o (r + 1)) = some t := by
  unfold rlT at h
  by_cases hc : r ≤ o ∧ p ≤ L r
  · rw [if_pos hc] at h
    cases hs : rlS most ps (updL L r (L r - p)) (max o (r + 1)) with
    | none => rw [hs] at h; cases h
    | some t =>
      rw [hs] at h
      injection h with h
      exact ⟨hc.1, hc.2, t, h.symm, rfl⟩
  · rw [if_neg hc] at h; cases h
theorem rlS_len {most : Nat} : ∀ (ps : List Int) {L : Nat → Int} {o : Nat} {l : List Nat}, rlS most ps L o = some l → l.length = ps.length
  | [], _, _, l, h => by injection h with h; subst h; rfl
  | p :: ps, L, o, l, h => by
    rw [rlS_cons] at h
    obtain ⟨r, _, hr⟩ := List.exists_of_findSome?_eq_some h
    obtain ⟨_, _, t, rfl, ht⟩ := rlT_some hr
    simp [rlS_len ps ht]
/-- Where the search for the fewest reels ends. -/
theorem relL_at {ps : List Int} {len : Int} (h : relB ps len = true) : ∃ k, k ≤ ps.length ∧ (∀ r, r < k → rlS r ps (fun _ => len) 0 = none) ∧ rlS k ps (fun _ => len) 0 = some (relL ps len) := by
  have hsome := rel_some h
  have key : ∀ n, n ≤ ps.length → (∀ r, r < n → rlS r ps (fun _ => len) 0 = none) ∨ ∃ k, k < n ∧ (∀ r, r < k → rlS r ps (fun _ => len) 0 = none) ∧ (rlS k ps (fun _ => len) 0).isSome = true := by
    intro n
    induction n with
    | zero => intro _; exact .inl fun r hr => absurd hr (by omega)
    | succ n ih =>
      intro hn
      rcases ih (by omega) with h1 | ⟨k, hk, h1, h2⟩
      · cases hs : rlS n ps (fun _ => len) 0 with
        | none =>
          refine .inl fun r hr => ?_
          rcases Nat.lt_or_ge r n with h3 | h3
          · exact h1 r h3
          · rw [show r = n by omega]; exact hs
        | some l => exact .inr ⟨n, by omega, h1, by rw [hs]; rfl⟩
      · exact .inr ⟨k, by omega, h1, h2⟩
  have hx : ∃ k, k ≤ ps.length ∧ (∀ r, r < k → rlS r ps (fun _ => len) 0 = none) ∧ (rlS k ps (fun _ => len) 0).isSome = true := by
    rcases key ps.length (Nat.le_refl _) with h1 | ⟨k, hk, h1, h2⟩
    · exact ⟨ps.length, Nat.le_refl _, h1, hsome⟩
    · exact ⟨k, by omega, h1, h2⟩
  obtain ⟨k, hk, h1, h2⟩ := hx
  cases hs : rlS k ps (fun _ => len) 0 with
  | none => rw [hs] at h2; cases h2
  | some l => exact ⟨k, hk, h1, by rw [rel_at h1 hs hk]; exact hs⟩
theorem relL_len {ps : List Int} {len : Int} (h : relB ps len = true) : (relL ps len).length = ps.length := by
  obtain ⟨k, _, _, hk⟩ := relL_at h
  exact rlS_len ps hk
theorem relB_len {ps : List Int} {len : Int} (h : relB ps len = true) : ps.length ≤ 12 := by
  unfold relB at h
  simp only [Bool.and_eq_true] at h
  simpa using h.1.2
/-- A list of reels that has room for all pieces, and how many reels it has. -/
def vldR : List Int → (Nat → Int) → Nat → List Nat → Option Nat
  | [], _, o, [] => some o
  | p :: ps, L, o, r :: l => if r ≤ o ∧ p ≤ L r then vldR ps (updL L r (L r - p)) (max o (r + 1)) l else none
  | _, _, _, _ => none
def sooner : List Nat → List Nat → Bool
  | a :: s, b :: t => decide (a < b) || (decide (a = b) && sooner s t)
  | _, _ => false
theorem vldR_le : ∀ (ps : List Int) {L : Nat → Int} {o n : Nat} {l : List Nat}, vldR ps L o l = some n → o ≤ n ∧ ∀ r ∈ l, r < n
  | [], _, _, _, [], h => by injection h with h; subst h; exact ⟨Nat.le_refl _, fun r hr => by cases hr⟩
  | [], _, _, _, _ :: _, h => by cases h
  | _ :: _, _, _, _, [], h => by cases h
  | p :: ps, L, o, n, r :: l, h => by
    unfold vldR at h
    by_cases hc : r ≤ o ∧ p ≤ L r
    · rw [if_pos hc] at h
      have := vldR_le ps h
      refine ⟨by omega, fun q hq => ?_⟩
      rcases List.mem_cons.1 hq with rfl | hq
      · omega
      · exact this.2 q hq
    · rw [if_neg hc] at h; cases h
/-- What the search finds has room, with reels below most. -/
theorem rlS_vld {most : Nat} : ∀ (ps : List Int) {L : Nat → Int} {o : Nat} {l : List Nat}, rlS most ps L o = some l → ∃ n, vldR ps L o l = some n ∧ n ≤ max o most
  | [], _, o, l, h => by injection h with h; subst h; exact ⟨o, rfl, by omega⟩
  | p :: ps, L, o, l, h => by
    rw [rlS_cons] at h
    obtain ⟨r, hr0, hr⟩ := List.exists_of_findSome?_eq_some h
    have hrm : r < most := by simpa using hr0
    obtain ⟨h1, h2, t, rfl, ht⟩ := rlT_some hr
    obtain ⟨n, hn, hle⟩ := rlS_vld ps ht
    refine ⟨n, ?_, by omega⟩
    unfold vldR
    rw [if_pos ⟨h1, h2⟩]
    exact hn
/-- No list with reels below most that has room comes before the one that is found; and there is one if any has. -/
theorem rlS_best {most : Nat} : ∀ (ps : List Int) {L : Nat → Int} {o n : Nat} {l' : List Nat}, vldR ps L o l' = some n → (∀ r ∈ l', r < most) → ∃ l, rlS most ps L o = some l ∧ sooner l' l = false
  | [], _, _, _, [], h, _ => ⟨[], rfl, rfl⟩
  | [], _, _, _, _ :: _, h, _ => by cases h
  | _ :: _, _, _, _, [], h, _ => by cases h
  | p :: ps, L, o, n, r :: l', h, hm => by
    unfold vldR at h
    by_cases hc : r ≤ o ∧ p ≤ L r
    · rw [if_pos hc] at h
      have hrm := hm r (List.mem_cons_self ..)
      obtain ⟨t, ht, hs⟩ := rlS_best (most := most) ps h fun q hq => hm q (List.mem_cons_of_mem _ hq)
      have hr : rlT most p ps L o r = some (r :: t) := by
        unfold rlT
        rw [if_pos hc, ht]
        rfl
      rw [rlS_cons]
      have key : ∀ k, k ≤ r → (∀ q, q < k → rlT most p ps L o q = none) ∨ ∃ q, q < k ∧ (∀ u, u < q → rlT most p ps L o u = none) ∧ (rlT most p ps L o q).isSome = true := by
        intro k
        induction k with
        | zero => intro _; exact .inl fun q hq => absurd hq (by omega)
        | succ k ih =>
          intro hk
          rcases ih (by omega) with h1 | ⟨q, hq, h1, h2⟩
          · cases hs2 : rlT most p ps L o k with
            | none =>
              refine .inl fun q hq => ?_
              rcases Nat.lt_or_ge q k with h3 | h3
              · exact h1 q h3
              · rw [show q = k by omega]; exact hs2
            | some l => exact .inr ⟨k, by omega, h1, by rw [hs2]; rfl⟩
          · exact .inr ⟨q, by omega, h1, h2⟩
      rcases key r (Nat.le_refl _) with h1 | ⟨q, hq, h1, h2⟩
      · refine ⟨r :: t, findSome_first h1 hr hrm, ?_⟩
        simp [sooner, hs]
      · cases hs2 : rlT most p ps L o q with
        | none => rw [hs2] at h2; cases h2
        | some l =>
          refine ⟨l, findSome_first h1 hs2 (by omega), ?_⟩
          obtain ⟨_, _, t2, rfl, _⟩ := rlT_some hs2
          simp only [sooner, Bool.or_eq_false_iff, Bool.and_eq_false_iff, decide_eq_false_iff_not]
          exact ⟨by omega, .inl (by omega)⟩
    · rw [if_neg hc] at h; cases h
def sumI : List Int → Int
  | [] => 0
  | p :: ps => p + sumI ps
def sumR (L : Nat → Int) : Nat → Int
  | 0 => 0
  | n + 1 => sumR L n + L n
theorem sumR_upd (L : Nat → Int) (r : Nat) (x : Int) : ∀ n, sumR (updL L r x) n = sumR L n + (if r < n then x - L r else 0)
  | 0 => by simp [sumR]
  | n + 1 => by
    unfold sumR
    rw [sumR_upd L r x n]
    unfold updL
    by_cases e : n = r
    · subst e
      rw [if_pos rfl, if_neg (Nat.lt_irrefl _), if_pos (by omega)]
      omega
    · rw [if_neg e]
      by_cases h : r < n
      · rw [if_pos h, if_pos (by omega)]; omega
      · rw [if_neg h, if_neg (by omega)]; omega
theorem sumR_le {L : Nat → Int} {len : Int} : ∀ n, (∀ r, r < n → L r = len) → sumR L n = n * len
  | 0, _ => by simp [sumR]
  | n + 1, h => by
    unfold sumR
    rw [sumR_le n fun r hr => h r (by omega), h n (by omega)]
    push_cast
    rw [Int.add_mul]
    omega
theorem sumR_nonneg {L : Nat → Int} : ∀ n, (∀ r, 0 ≤ L r) → 0 ≤ sumR L n
  | 0, _ => by simp [sumR]
  | n + 1, h => by
    unfold sumR
    have := sumR_nonneg n h
    have := h n
    omega
theorem vldR_sum : ∀ (ps : List Int) {L : Nat → Int} {o n : Nat} {l : List Nat}, vldR ps L o l = some n → (∀ r, 0 ≤ L r) → sumI ps ≤ sumR L n
  | [], L, _, n, [], h, h0 => by simpa [sumI] using sumR_nonneg n h0
  | [], _, _, _, _ :: _, h, _ => by cases h
  | _ :: _, _, _, _, [], h, _ => by cases h
  | p :: ps, L, o, n, r :: l, h, h0 => by
    unfold vldR at h
    by_cases hc : r ≤ o ∧ p ≤ L r
    · rw [if_pos hc] at h
      have h1 := vldR_sum ps h fun q => by
        unfold updL
        by_cases e : q = r
        · rw [if_pos e]; have := hc.2; omega
        · rw [if_neg e]; exact h0 q
      have h2 := (vldR_le ps h).1
      rw [sumR_upd, if_pos (by omega)] at h1
      unfold sumI
      omega
    · rw [if_neg hc] at h; cases h
/-- The fewest reels. -/
theorem fewest {ps : List Int} {len : Int} (h : relB ps len = true) : ∃ n, vldR ps (fun _ => len) 0 (relL ps len) = some n ∧ sumI ps ≤ (n : Int) * len ∧
    ∀ l' m, vldR ps (fun _ => len) 0 l' = some m → n ≤ m ∧ (m = n → sooner l' (relL ps len) = false) := by
  obtain ⟨k, hk, h1, h2⟩ := relL_at h
  have hlen : 0 ≤ len := by
    unfold relB at h
    simp only [Bool.and_eq_true] at h
    have := h.1.1
    rw [btw_iff] at this
    omega
  obtain ⟨n, hn, hle⟩ := rlS_vld ps h2
  have hkn : n = k := by
    have hr := (vldR_le ps hn).2
    obtain ⟨l, hl, _⟩ := rlS_best (most := n) ps hn hr
    rcases Nat.lt_or_ge n k with h3 | h3
    · rw [h1 n h3] at hl; cases hl
    · omega
  refine ⟨n, hn, ?_, fun l' m hm => ?_⟩
  · have := vldR_sum ps hn fun _ => hlen
    rw [sumR_le n fun _ _ => rfl] at this
    exact this
  · have hr := (vldR_le ps hm).2
    obtain ⟨l, hl, hs⟩ := rlS_best (most := m) ps hm hr
    have hmk : k ≤ m := by
      rcases Nat.lt_or_ge m k with h3 | h3
      · rw [h1 m h3] at hl; cases hl
      · exact h3
    refine ⟨by omega, fun e => ?_⟩
    rw [show m = k by omega, h2] at hl
    injection hl with hl
    rw [hl]
    exact hs
end Go.Proofs.Ytehadoecnmfeoaa
/- The laws' looms, opened: no condition. -/
namespace Go.Proofs.Ytehadoecnmfeoaa
open Go.Joins Go.ChangeShapes Go.WideShapes Go.ChangeAt Go.RowKit Go.Deep
set_option maxRecDepth 100000
set_option linter.unusedVariables false
set_option linter.unusedSimpArgs false
section
variable {H : Type} {enc : TypeId × Value → H} {W : World} {base b0 : Nat} {r : Reach} {spare : Nat → Bool} {held : Bool} {v : Value} {d : DataW H} {p : List MemPlace}
theorem open_int (hv : Value.okWide Try.prog W r b0 3 v) (h : DataW.Trod enc Try.prog W base spare held 3 v d p) : ∃ n : Int, v = .int .i64 n ∧ I64 n := by
  obtain ⟨n, rfl, _⟩ := okWide_int Try.underlying3 hv
  obtain ⟨fuel, hf⟩ := h
  obtain ⟨a, e, ha⟩ := int_cell hf
  simp at e
  subst e
  exact ⟨n, rfl, ha⟩
end
end Go.Proofs.Ytehadoecnmfeoaa

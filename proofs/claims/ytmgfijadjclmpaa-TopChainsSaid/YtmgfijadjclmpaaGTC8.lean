/- Part 8 of this claim's texts: walks and plain laws. -/
import Derived.Test.YtmgfijadjclmpaaRows
import Derived.Test.YtmgfijadjclmpaaGTC7
import Derived.WalkLawsBesides
import Derived.WalkSpells
import Derived.Deep.QuietTactic
import Derived.Deep.DeepMust
import Derived.Deep.RegionHeld3
import Derived.Deep.DrawnRows
/- within, up, before; lists that are searched by a closure: walks. -/
namespace Go.Proofs.Ytmgfijadjclmpaa
open Go.RowKit
set_option linter.unusedVariables false
set_option linter.unusedSimpArgs false
def inR (n lo hi : Int) : Bool := decide (lo ≤ n) && decide (n ≤ hi)
theorem inR_iff {n lo hi : Int} : inR n lo hi = true ↔ lo ≤ n ∧ n ≤ hi := by simp [inR]
set_option maxRecDepth 100000 in
theorem withinB_any (n lo hi : Int) (b : Bool) (hb : inR n lo hi = b) (w : World) : Calls Try.prog 23 #[.int .i64 n, .int .i64 lo, .int .i64 hi] w fun e w' => e = .returned (.bool b) ∧ w = w' := by
  subst hb
  by_cases h1 : lo ≤ n
  · have hr : inR n lo hi = decide (n ≤ hi) := by simp [inR, h1]
    have HR := hide hr
    clear hr
    go_enter Try.func23, Try.ntmps23
    go_wp2_with fail
    go_ret
    exact ⟨ret_bool HR.out.symm, rfl⟩
  · have hr : inR n lo hi = false := by simp [inR, h1]
    have HR := hide hr
    clear hr
    go_enter Try.func23, Try.ntmps23
    go_wp2_with fail
    go_ret
    exact ⟨ret_bool HR.out.symm, rfl⟩
set_option maxRecDepth 100000 in
theorem withinC_any (n lo hi : Int) (b : Bool) (hb : inR n lo hi = b) (w : World) : Calls Try.prog 15 #[.int .i64 n, .int .i64 lo, .int .i64 hi] w fun e w' => e = .returned (.bool b) ∧ w = w' := by
  subst hb
  by_cases h1 : lo ≤ n
  · have hr : inR n lo hi = decide (n ≤ hi) := by simp [inR, h1]
    have HR := hide hr
    clear hr
    go_enter Try.func15, Try.ntmps15
    go_wp2_with fail
    go_ret
    exact ⟨ret_bool HR.out.symm, rfl⟩
  · have hr : inR n lo hi = false := by simp [inR, h1]
    have HR := hide hr
    clear hr
    go_enter Try.func15, Try.ntmps15
    go_wp2_with fail
    go_ret
    exact ⟨ret_bool HR.out.symm, rfl⟩
set_option maxRecDepth 100000 in
theorem withinE_any (n lo hi : Int) (b : Bool) (hb : inR n lo hi = b) (w : World) : Calls Try.prog 28 #[.int .i64 n, .int .i64 lo, .int .i64 hi] w fun e w' => e = .returned (.bool b) ∧ w = w' := by
  subst hb
  by_cases h1 : lo ≤ n
  · have hr : inR n lo hi = decide (n ≤ hi) := by simp [inR, h1]
    have HR := hide hr
    clear hr
    go_enter Try.func28, Try.ntmps28
    go_wp2_with fail
    go_ret
    exact ⟨ret_bool HR.out.symm, rfl⟩
  · have hr : inR n lo hi = false := by simp [inR, h1]
    have HR := hide hr
    clear hr
    go_enter Try.func28, Try.ntmps28
    go_wp2_with fail
    go_ret
    exact ⟨ret_bool HR.out.symm, rfl⟩
/-- Boxes of a frame, a release, a step. -/
def FrBox (w : World) (b : Nat) (x : Fr) : Prop := w.heap[b]? = some (.cells #[.int .i64 x.s, .int .i64 x.e, .int .i64 x.j, .int .i64 x.d, .int .i64 x.r] 40 (0, 0))
def RlBox (w : World) (b : Nat) (x : Rl) : Prop := w.heap[b]? = some (.cells #[.int .i64 x.f, .int .i64 x.t] 38 (0, 0))
def StBox (w : World) (b : Nat) (x : Stp) : Prop := w.heap[b]? = some (.cells #[.int .i64 x.e, .int .i64 x.r, .int .i64 x.g, .bool x.t] 42 (0, 0))
theorem FrBox.to {w w' : World} {b : Nat} {x : Fr} (h : FrBox w b x) (hb : Below w.heap.size w w') : FrBox w' b x := box_to h hb
theorem RlBox.to {w w' : World} {b : Nat} {x : Rl} (h : RlBox w b x) (hb : Below w.heap.size w w') : RlBox w' b x := box_to h hb
theorem StBox.to {w w' : World} {b : Nat} {x : Stp} (h : StBox w b x) (hb : Below w.heap.size w w') : StBox w' b x := box_to h hb
set_option maxRecDepth 100000 in
theorem rank_any (y x : Fr) (pb : Nat) (w : World) (h : FrBox w pb x) :
    Calls Try.prog 34 #[.agg #[.int .i64 y.s, .int .i64 y.e, .int .i64 y.j, .int .i64 y.d, .int .i64 y.r], .pointer (some ⟨pb, 0, none⟩)] w fun e w' => e = .returned (.bool (y.r == x.r)) ∧ Below w.heap.size w w' := by
  have c0 := cellOf h 4
  have hlb := box_lt h
  clear h
  go_enter Try.func34, Try.ntmps34
  go_wp2_with fail
  go_ret
  exact ⟨rfl, (by repeat (first | exact Below.refl _ _ | assumption | refine Below.drew ?_ | refine Below.drewN ?_ _ | refine Below.allocT ?_ (Nat.le_refl _) _ | refine Below.setCell ?_ (by simp <;> omega) _ | refine Below.to ?_ (by assumption) (Nat.le_refl _)))⟩
set_option maxRecDepth 100000 in
theorem index_rank (p : Fr → Bool) (c0 : Value) (v : Value) (gs : List Fr) (w : World) (hm : gs.length ≤ maxLen) (h : Frs w w.heap.size v gs)
    (hf : ∀ (i : Nat) (x : Fr)  (W : World), i < gs.length → gs.getD i Fr.o = x → Below w.heap.size w W → Calls Try.prog 34 #[.agg #[.int .i64 x.s, .int .i64 x.e, .int .i64 x.j, .int .i64 x.d, .int .i64 x.r], c0] W fun e w' => e = .returned (.bool (p x)) ∧ Below W.heap.size W w') :
    Calls Try.prog 50 #[v, .func (.func 34) #[] #[c0]] w fun e w' => e = .returned (.int .i64 (idxI p gs)) ∧ Below w.heap.size w w' := by
  unfold maxLen at hm
  obtain ⟨A, cap, rfl⟩ := Frs.form h
  have H := hide h; clear h
  have HF := hide hf; clear hf
  go_enter Try.func50, Try.ntmps50
  go_wp2
  go_loopw [5, 8] (fun _ i wr => ∃ k : Nat, k ≤ gs.length ∧ i = .int .i64 k ∧ Hid (∀ j, j < k → p (gs.getD j Fr.o) = false) ∧ Below w.heap.size w wr) (fun _ i _ => gs.length - (intOf i).toNat)
  case atStart => exact ⟨0, Nat.zero_le _, rfl, fun j hj => by omega, Below.refl _ _⟩
  case round =>
    obtain ⟨k, hk, rfl, hz, hB⟩ := hrel
    by_cases hlt : k < gs.length
    · obtain ⟨b, off, x, HX, rfl, hbb, hq, e0, e1, e2, e3, e4⟩ := Frs.at (H.out.below hB) hlt
      have hf := fun W (hW : Below w.heap.size w W) => HF.out k x  W hlt HX.out hW
      have HF2 := hide hf
      have HB := hide hB
      clear hf
      by_cases hp : p x = true
      · have HP := hide hp
        clear hp
        go_wp2_with (go_at_call 34; refine (HF2.out _ hB).mono ?_; rw [HP.out]; rintro e w1 ⟨rfl, hB1⟩)
        go_ret
        exact ⟨ret_int (idxI_at p Fr.o gs k hz.out hlt (by rw [HX.out]; exact HP.out)).symm, Below.to HB.out hB1 (Nat.le_refl _)⟩
      · have hp' : p x = false := by simpa using hp
        have HP := hide hp'
        clear hp hp'
        go_wp2_with (go_at_call 34; refine (HF2.out _ hB).mono ?_; rw [HP.out]; rintro e w1 ⟨rfl, hB1⟩)
        go_roundw
        case rel => exact ⟨k + 1, by omega, by go_num, fun j hj => by
            rcases Nat.lt_or_ge j k with h | h
            · exact hz.out j h
            · rw [show j = k from by omega, HX.out]; exact HP.out, Below.to HB.out hB1 (Nat.le_refl _)⟩
        case measure => simp [intOf]; omega
    · go_wp2
      go_ret
      exact ⟨ret_int (idxI_none p Fr.o gs (fun j hj => hz.out j (by omega))).symm, hB⟩
set_option maxRecDepth 100000 in
theorem contains_rank (p : Fr → Bool) (c0 : Value) (v : Value) (gs : List Fr) (w : World) (hm : gs.length ≤ maxLen) (h : Frs w w.heap.size v gs)
    (hf : ∀ (i : Nat) (x : Fr)  (W : World), i < gs.length → gs.getD i Fr.o = x → Below w.heap.size w W → Calls Try.prog 34 #[.agg #[.int .i64 x.s, .int .i64 x.e, .int .i64 x.j, .int .i64 x.d, .int .i64 x.r], c0] W fun e w' => e = .returned (.bool (p x)) ∧ Below W.heap.size W w') :
    Calls Try.prog 33 #[v, .func (.func 34) #[] #[c0]] w fun e w' => e = .returned (.bool (gs.any p)) ∧ Below w.heap.size w w' := by
  have hc := index_rank p c0 v gs w hm h hf
  have he := idxI_any p gs
  have hlo := idxI_lo p gs
  have hhi := idxI_hi p gs
  obtain ⟨z, hz⟩ : ∃ z, idxI p gs = z := ⟨_, rfl⟩
  rw [hz] at hc he hlo hhi
  obtain ⟨A, cap, rfl⟩ := Frs.form h
  have HC := hide hc
  have HE := hide he
  unfold maxLen at hm
  have hz2 : z ≤ 9223372036854775807 := by omega
  clear hc he hz h hf
  go_enter Try.func33, Try.ntmps33
  go_wp2_with (go_at_call 50; refine HC.out.mono ?_; rintro e w1 ⟨rfl, hB1⟩)
  go_ret
  exact ⟨ret_bool HE.out, hB1⟩

end Go.Proofs.Ytmgfijadjclmpaa
/- Check and checkReleases of the bus: walks. -/
namespace Go.Proofs.Ytmgfijadjclmpaa
open Go.RowKit
set_option linter.unusedVariables false
set_option linter.unusedSimpArgs false
/-- Whether a frame is wrong. -/
def frBad (l : List Fr) (i : Nat) : Bool :=
  !inR (l.getD i Fr.o).s 1 1000 || !inR (l.getD i Fr.o).e 1 100000 || !inR (l.getD i Fr.o).d 1 100000 || !inR (l.getD i Fr.o).j 0 100000 || !inR (l.getD i Fr.o).r 0 1000 || (l.take i).any fun q => q.r == (l.getD i Fr.o).r
def chkF (l : List Fr) : Int := if decide (l.length ≤ 40) && (List.range l.length).all (fun i => !frBad l i) then 0 else 40
theorem chkF_long {l : List Fr} (h : 40 < l.length) : chkF l = 40 := by
  unfold chkF
  rw [decide_eq_false (by omega)]
  rfl
theorem chkF_bad {l : List Fr} {k : Nat} (hk : k < l.length) (h : frBad l k = true) : chkF l = 40 := by
  unfold chkF
  rw [if_neg]
  intro hc
  rw [Bool.and_eq_true] at hc
  have h1 := List.all_eq_true.1 hc.2 k (List.mem_range.2 hk)
  rw [h] at h1
  cases h1
theorem chkF_ok {l : List Fr} (h1 : l.length ≤ 40) (h : ∀ j, j < l.length → frBad l j = false) : chkF l = 0 := by
  unfold chkF
  rw [if_pos]
  rw [Bool.and_eq_true]
  exact ⟨decide_eq_true h1, List.all_eq_true.2 fun j hj => by rw [h j (List.mem_range.1 hj)]; rfl⟩
/-- What valid frames keep to. -/
structure FrsOk (l : List Fr) : Prop where
  len : l.length ≤ 40
  s : ∀ i, i < l.length → 1 ≤ (l.getD i Fr.o).s ∧ (l.getD i Fr.o).s ≤ 1000
  e : ∀ i, i < l.length → 1 ≤ (l.getD i Fr.o).e ∧ (l.getD i Fr.o).e ≤ 100000
  j : ∀ i, i < l.length → 0 ≤ (l.getD i Fr.o).j ∧ (l.getD i Fr.o).j ≤ 100000
  r : ∀ i, i < l.length → 0 ≤ (l.getD i Fr.o).r ∧ (l.getD i Fr.o).r ≤ 1000
  apart : ∀ i k, i < l.length → k < l.length → (l.getD i Fr.o).r = (l.getD k Fr.o).r → i = k
theorem frBad_no {l : List Fr} {i : Nat} (h : frBad l i = false) : inR (l.getD i Fr.o).s 1 1000 = true ∧ inR (l.getD i Fr.o).e 1 100000 = true ∧ inR (l.getD i Fr.o).j 0 100000 = true ∧ inR (l.getD i Fr.o).r 0 1000 = true ∧ (l.take i).any (fun q => q.r == (l.getD i Fr.o).r) = false := by
  unfold frBad at h
  simp only [Bool.or_eq_false_iff, Bool.not_eq_false'] at h
  exact ⟨h.1.1.1.1.1, h.1.1.1.1.2, h.1.1.2, h.1.2, h.2⟩
theorem frs_ok {l : List Fr} (h : chkF l = 0) : FrsOk l := by
  have hl : l.length ≤ 40 := by
    rcases Nat.lt_or_ge 40 l.length with h1 | h1
    · rw [chkF_long h1] at h; cases h
    · exact h1
  have hb : ∀ i, i < l.length → frBad l i = false := fun i hi => by
    cases hc : frBad l i with
    | false => rfl
    | true => rw [chkF_bad hi hc] at h; cases h
  have apart : ∀ i k, i < k → k < l.length → (l.getD i Fr.o).r ≠ (l.getD k Fr.o).r := fun i k hik hk e => by
    have h1 := (frBad_no (hb k hk)).2.2.2.2
    rw [List.any_eq_false] at h1
    refine h1 (l.getD i Fr.o) ?_ (by simpa using e)
    have h2 : i < (l.take k).length := by simp; omega
    have h3 : (l.take k).getD i Fr.o = l.getD i Fr.o := take_getDT hik
    rw [← h3]
    exact getD_memT h2
  exact ⟨hl, fun i hi => inR_iff.1 (frBad_no (hb i hi)).1, fun i hi => inR_iff.1 (frBad_no (hb i hi)).2.1, fun i hi => inR_iff.1 (frBad_no (hb i hi)).2.2.1, fun i hi => inR_iff.1 (frBad_no (hb i hi)).2.2.2.1, fun i k hi hk e => by
    rcases Nat.lt_trichotomy i k with h1 | h1 | h1
    · exact absurd e (apart i k h1 hk)
    · exact h1
    · exact absurd e.symm (apart k i h1 hi)⟩
set_option maxRecDepth 100000 in
set_option maxHeartbeats 4000000 in
theorem Check_any (v : Value) (l : List Fr) (w : World) (hm : l.length ≤ maxLen) (h : Frs w w.heap.size v l) :
    Calls Try.prog 14 #[v] w fun e w' => e = .returned (.int .i64 (chkF l)) ∧ Below w.heap.size w w' := by
  unfold maxLen at hm
  obtain ⟨A, cap, rfl⟩ := h.form
  have hcap := h.cap
  have H := hide h
  obtain ⟨z, hz⟩ : ∃ z, chkF l = z := ⟨_, rfl⟩
  rw [hz]
  have HZ := hide hz
  clear h hz
  by_cases hl : 40 < l.length
  · have hl1 : (40 : Int) < (l.length : Int) := by omega
    have hz0 : z = 40 := HZ.out.symm.trans (chkF_long hl)
    subst hz0
    go_enter Try.func14, Try.ntmps14
    go_wp2
    go_ret
    exact ⟨rfl, Below.refl _ _⟩
  have hl1 : ¬ (40 : Int) < (l.length : Int) := by omega
  go_enter Try.func14, Try.ntmps14
  go_wp2
  go_loopw [3, 4, 10] (fun _ _ i wr => ∃ k : Nat, i = .int .i64 k ∧ k ≤ l.length ∧ Hid (∀ j, j < k → frBad l j = false) ∧ Hid (Below w.heap.size w wr)) (fun _ _ i _ => l.length - (intOf i).toNat)
  case atStart => exact ⟨0, rfl, Nat.zero_le _, fun j hj => by omega, Below.refl _ _⟩
  case round =>
    obtain ⟨k, rfl, hk, hall, HB⟩ := hrel
    by_cases hlt : k < l.length
    case neg =>
      have hlt1 : ¬ (k : Int) < (l.length : Int) := by omega
      have hz0 : z = 0 := HZ.out.symm.trans (chkF_ok (by omega) fun j hj => hall.out j (by omega))
      subst hz0
      go_wp2
      go_ret
      exact ⟨rfl, HB.out⟩
    case pos =>
      have hlt1 : (k : Int) < (l.length : Int) := by omega
      have ik0 : (0 : Int) ≤ (k : Int) := by omega
      have HR := hide ((H.out.below HB.out).more HB.out.size)
      obtain ⟨b, off, x, HX, rfl, hbb, hq, e0, e1, e2, e3, e4⟩ := HR.out.at hlt
      have ikq : (k : Int) ≤ (cap : Int) := by omega
      have ill : (l.length : Int) ≤ (cap : Int) := by omega
      clear hq hcap
      go_upto_region 6 with (fail)
      generalize hw0 : World.alloc _ _ = w0
      obtain ⟨hb0, hB0, hs0⟩ := alloc1 hw0
      have HXB : Hid (FrBox w0 wr.heap.size x) := hb0
      have c0 := cellOf hb0 0; have c1 := cellOf hb0 1; have c2 := cellOf hb0 2; have c3 := cellOf hb0 3; have c4 := cellOf hb0 4
      have hlb := box_lt hb0
      have hct := contains_rank (fun q => q.r == x.r) (.pointer (some ⟨wr.heap.size, 0, none⟩)) (.slice (some ⟨b, off, none⟩) k cap) (l.take k) w0 (by unfold maxLen; simp; omega) ((HR.out.up hB0).take (by omega)) (fun j y W _ _ hW => rank_any y x _ W (HXB.out.to hW))
      obtain ⟨b1, h1⟩ : ∃ z, inR x.s 1 1000 = z := ⟨_, rfl⟩
      obtain ⟨b2, h2⟩ : ∃ z, inR x.e 1 100000 = z := ⟨_, rfl⟩
      obtain ⟨b3, h3⟩ : ∃ z, inR x.d 1 100000 = z := ⟨_, rfl⟩
      obtain ⟨b4, h4⟩ : ∃ z, inR x.j 0 100000 = z := ⟨_, rfl⟩
      obtain ⟨b5, h5⟩ : ∃ z, inR x.r 0 1000 = z := ⟨_, rfl⟩
      obtain ⟨b6, h6⟩ : ∃ z, (l.take k).any (fun q => q.r == x.r) = z := ⟨_, rfl⟩
      rw [h6] at hct
      have HBAD : Hid (frBad l k = (!b1 || !b2 || !b3 || !b4 || !b5 || b6)) := by show _ = _; unfold frBad; rw [HX.out, h1, h2, h3, h4, h5, h6]
      have H1 := hide h1
      have H2 := hide h2
      have H3 := hide h3
      have H4 := hide h4
      have H5 := hide h5
      have HCT := hide hct
      have HB0 := hide (Below.to HB.out hB0 (Nat.le_refl _))
      clear hw0 hb0 hB0 hs0 hct h1 h2 h3 h4 h5 h6 e0 e1 e2 e3 e4
      cases b1 with
      | false =>
        have hz0 : z = 40 := HZ.out.symm.trans (chkF_bad hlt (by rw [HBAD.out]; rfl))
        subst hz0
        go_wp2_with (first | (go_at_call 23; refine (withinB_any _ _ _ _ (by first | exact H1.out | exact H2.out | exact H3.out | exact H4.out | exact H5.out) _).mono ?_; rintro e w5 ⟨rfl, rfl⟩) | (go_at_call 33; refine HCT.out.mono ?_; rintro e w6 ⟨rfl, hB6⟩; have HB6 := hide (Below.to HB0.out hB6 (Nat.le_refl _)); clear hB6 c0 c1 c2 c3 c4 hlb))
        go_ret
        exact ⟨rfl, HB0.out⟩
      | true =>
      cases b2 with
      | false =>
        have hz0 : z = 40 := HZ.out.symm.trans (chkF_bad hlt (by rw [HBAD.out]; rfl))
        subst hz0
        go_wp2_with (first | (go_at_call 23; refine (withinB_any _ _ _ _ (by first | exact H1.out | exact H2.out | exact H3.out | exact H4.out | exact H5.out) _).mono ?_; rintro e w5 ⟨rfl, rfl⟩) | (go_at_call 33; refine HCT.out.mono ?_; rintro e w6 ⟨rfl, hB6⟩; have HB6 := hide (Below.to HB0.out hB6 (Nat.le_refl _)); clear hB6 c0 c1 c2 c3 c4 hlb))
        go_ret
        exact ⟨rfl, HB0.out⟩
      | true =>
      cases b3 with
      | false =>
        have hz0 : z = 40 := HZ.out.symm.trans (chkF_bad hlt (by rw [HBAD.out]; rfl))
        subst hz0
        go_wp2_with (first | (go_at_call 23; refine (withinB_any _ _ _ _ (by first | exact H1.out | exact H2.out | exact H3.out | exact H4.out | exact H5.out) _).mono ?_; rintro e w5 ⟨rfl, rfl⟩) | (go_at_call 33; refine HCT.out.mono ?_; rintro e w6 ⟨rfl, hB6⟩; have HB6 := hide (Below.to HB0.out hB6 (Nat.le_refl _)); clear hB6 c0 c1 c2 c3 c4 hlb))
        go_ret
        exact ⟨rfl, HB0.out⟩
      | true =>
      cases b4 with
      | false =>
        have hz0 : z = 40 := HZ.out.symm.trans (chkF_bad hlt (by rw [HBAD.out]; rfl))
        subst hz0
        go_wp2_with (first | (go_at_call 23; refine (withinB_any _ _ _ _ (by first | exact H1.out | exact H2.out | exact H3.out | exact H4.out | exact H5.out) _).mono ?_; rintro e w5 ⟨rfl, rfl⟩) | (go_at_call 33; refine HCT.out.mono ?_; rintro e w6 ⟨rfl, hB6⟩; have HB6 := hide (Below.to HB0.out hB6 (Nat.le_refl _)); clear hB6 c0 c1 c2 c3 c4 hlb))
        go_ret
        exact ⟨rfl, HB0.out⟩
      | true =>
      cases b5 with
      | false =>
        have hz0 : z = 40 := HZ.out.symm.trans (chkF_bad hlt (by rw [HBAD.out]; rfl))
        subst hz0
        go_wp2_with (first | (go_at_call 23; refine (withinB_any _ _ _ _ (by first | exact H1.out | exact H2.out | exact H3.out | exact H4.out | exact H5.out) _).mono ?_; rintro e w5 ⟨rfl, rfl⟩) | (go_at_call 33; refine HCT.out.mono ?_; rintro e w6 ⟨rfl, hB6⟩; have HB6 := hide (Below.to HB0.out hB6 (Nat.le_refl _)); clear hB6 c0 c1 c2 c3 c4 hlb))
        go_ret
        exact ⟨rfl, HB0.out⟩
      | true =>
      cases b6 with
      | true =>
        have hz0 : z = 40 := HZ.out.symm.trans (chkF_bad hlt (by rw [HBAD.out]; rfl))
        subst hz0
        go_wp2_with (first | (go_at_call 23; refine (withinB_any _ _ _ _ (by first | exact H1.out | exact H2.out | exact H3.out | exact H4.out | exact H5.out) _).mono ?_; rintro e w5 ⟨rfl, rfl⟩) | (go_at_call 33; refine HCT.out.mono ?_; rintro e w6 ⟨rfl, hB6⟩; have HB6 := hide (Below.to HB0.out hB6 (Nat.le_refl _)); clear hB6 c0 c1 c2 c3 c4 hlb))
        go_ret
        exact ⟨rfl, HB6.out⟩
      | false =>
      have hno : frBad l k = false := by rw [HBAD.out]; rfl
      have HNO := hide hno
      clear hno
      go_wp2_with (first | (go_at_call 23; refine (withinB_any _ _ _ _ (by first | exact H1.out | exact H2.out | exact H3.out | exact H4.out | exact H5.out) _).mono ?_; rintro e w5 ⟨rfl, rfl⟩) | (go_at_call 33; refine HCT.out.mono ?_; rintro e w6 ⟨rfl, hB6⟩; have HB6 := hide (Below.to HB0.out hB6 (Nat.le_refl _)); clear hB6 c0 c1 c2 c3 c4 hlb))
      go_roundw
      case rel => exact ⟨k + 1, by go_num, by omega, fun j hj => by
          rcases Nat.lt_or_ge j k with h | h
          · exact hall.out j h
          · rw [show j = k by omega]; exact HNO.out, HB6.out⟩
      case measure => simp [intOf]; omega
/-- Whether a release is wrong. -/
def rlBad (n : Nat) (x : Rl) : Bool := !inR x.f 0 ((n : Int) - 1) || !inR x.t 0 1000000
def chkR (l : List Fr) (rs : List Rl) : Int := if chkF l = 0 then (if 500 < rs.length then 2 else if rs.any (rlBad l.length) then 1 else 0) else chkF l
theorem chkR_ok {l : List Fr} {rs : List Rl} (h : chkR l rs = 0) : FrsOk l ∧ rs.length ≤ 500 ∧ ∀ i, i < rs.length → (0 ≤ (rs.getD i Rl.o).f ∧ (rs.getD i Rl.o).f < l.length) ∧ 0 ≤ (rs.getD i Rl.o).t ∧ (rs.getD i Rl.o).t ≤ 1000000 := by
  unfold chkR at h
  by_cases h1 : chkF l = 0
  · rw [if_pos h1] at h
    by_cases h2 : 500 < rs.length
    · rw [if_pos h2] at h; cases h
    · rw [if_neg h2] at h
      cases h3 : rs.any (rlBad l.length) with
      | true => rw [h3] at h; cases h
      | false =>
        refine ⟨frs_ok h1, by omega, fun i hi => ?_⟩
        rw [List.any_eq_false] at h3
        have h4 := h3 _ (getD_memT (z := Rl.o) hi)
        have h5 : rlBad l.length (rs.getD i Rl.o) = false := by simpa using h4
        unfold rlBad at h5
        simp only [Bool.or_eq_false_iff, Bool.not_eq_false'] at h5
        have h6 := inR_iff.1 h5.1
        exact ⟨⟨h6.1, by omega⟩, inR_iff.1 h5.2⟩
  · rw [if_neg h1] at h
    exact absurd h h1
set_option maxRecDepth 100000 in
set_option maxHeartbeats 4000000 in
theorem checkReleases_any (v u : Value) (l : List Fr) (rs : List Rl) (w : World) (hm : l.length ≤ maxLen) (hn : rs.length ≤ maxLen) (h : Frs w w.heap.size v l) (hr : Rls w w.heap.size u rs) :
    Calls Try.prog 19 #[v, u] w fun e w' => e = .returned (.int .i64 (chkR l rs)) ∧ Below w.heap.size w w' := by
  have hck := Check_any v l w hm h
  unfold maxLen at hn hm
  obtain ⟨A, cap, rfl⟩ := h.form
  obtain ⟨A2, cap2, rfl⟩ := hr.form
  have hcap := hr.cap
  obtain ⟨z, hz⟩ : ∃ z, chkF l = z := ⟨_, rfl⟩
  rw [hz] at hck
  obtain ⟨y, hy⟩ : ∃ y, chkR l rs = y := ⟨_, rfl⟩
  rw [hy]
  have HR := hide hr
  have HY := hide hy
  have HZ := hide hz
  have HCK := hide hck
  clear h hr hck hz hy
  by_cases hz0 : z = 0
  case neg =>
    have hy0 : y = z := by rw [← HY.out]; unfold chkR; rw [HZ.out, if_neg hz0]
    subst hy0
    have hz1 : (y != 0) = true := by simpa using hz0
    clear hz0
    go_enter Try.func19, Try.ntmps19
    go_wp2_with (go_at_call 14; refine HCK.out.mono ?_; rintro e w1 ⟨rfl, hB1⟩)
    go_ret
    exact ⟨rfl, hB1⟩
  subst hz0
  by_cases hl : 500 < rs.length
  · have hl1 : (500 : Int) < (rs.length : Int) := by omega
    have hy0 : y = 2 := by rw [← HY.out]; unfold chkR; rw [HZ.out, if_pos rfl, if_pos hl]
    subst hy0
    go_enter Try.func19, Try.ntmps19
    go_wp2_with (go_at_call 14; refine HCK.out.mono ?_; rintro e w1 ⟨rfl, hB1⟩)
    go_ret
    exact ⟨rfl, hB1⟩
  have hl1 : ¬ (500 : Int) < (rs.length : Int) := by omega
  go_enter Try.func19, Try.ntmps19
  go_wp2_with (go_at_call 14; refine HCK.out.mono ?_; rintro e w1 ⟨rfl, hB1⟩; have HB1 := hide hB1; clear hB1)
  go_loopw [7, 18] (fun _ i wr => ∃ k : Nat, i = .int .i64 k ∧ k ≤ rs.length ∧ Hid (∀ j, j < k → rlBad l.length (rs.getD j Rl.o) = false) ∧ Hid (Below w.heap.size w wr)) (fun _ i _ => rs.length - (intOf i).toNat)
  case atStart => exact ⟨0, rfl, Nat.zero_le _, fun j hj => by omega, HB1.out⟩
  case round =>
    obtain ⟨k, rfl, hk, hall, HB⟩ := hrel
    by_cases hlt : k < rs.length
    case neg =>
      have hlt1 : ¬ (k : Int) < (rs.length : Int) := by omega
      have hy0 : y = 0 := by
        rw [← HY.out]
        unfold chkR
        rw [HZ.out, if_pos rfl, if_neg hl, if_neg]
        intro hc
        obtain ⟨x, hx, hb⟩ := List.any_eq_true.1 hc
        obtain ⟨i, hi, rfl⟩ := List.mem_iff_getElem.1 hx
        have h1 := hall.out i (by omega)
        rw [List.getD_eq_getElem?_getD, List.getElem?_eq_getElem hi, Option.getD_some] at h1
        rw [h1] at hb
        cases hb
      subst hy0
      go_wp2
      go_ret
      exact ⟨rfl, HB.out⟩
    case pos =>
      have hlt1 : (k : Int) < (rs.length : Int) := by omega
      have ik0 : (0 : Int) ≤ (k : Int) := by omega
      obtain ⟨b, off, x, HX, rfl, hbb, hq, e0, e1⟩ := (HR.out.below HB.out).at hlt
      have ill : (rs.length : Int) ≤ (cap2 : Int) := by omega
      clear hq hcap
      go_upto_region 9 with (fail)
      generalize hw0 : World.alloc _ _ = w0
      obtain ⟨hb0, hB0, hs0⟩ := alloc1 hw0
      have c0 := cellOf hb0 0; have c1 := cellOf hb0 1
      have hlb := box_lt hb0
      obtain ⟨b1, h1⟩ : ∃ z, inR x.f 0 ((l.length : Int) - 1) = z := ⟨_, rfl⟩
      obtain ⟨b2, h2⟩ : ∃ z, inR x.t 0 1000000 = z := ⟨_, rfl⟩
      have HBAD : Hid (rlBad l.length (rs.getD k Rl.o) = (!b1 || !b2)) := by show _ = _; unfold rlBad; rw [HX.out, h1, h2]
      have hbad : (!b1 || !b2) = true → y = 1 := fun hc => by
        rw [← HY.out]
        unfold chkR
        rw [HZ.out, if_pos rfl, if_neg hl, if_pos]
        exact List.any_eq_true.2 ⟨_, getD_memT (z := Rl.o) hlt, HBAD.out.trans hc⟩
      have HY1 := hide hbad
      have H1 := hide h1
      have H2 := hide h2
      have HB0 := hide (Below.to HB.out hB0 (Nat.le_refl _))
      clear hw0 hb0 hB0 hs0 h1 h2 e0 e1 hbad
      cases b1 with
      | false =>
        have hy0 := HY1.out rfl
        subst hy0
        go_wp2_with (go_at_call 23; refine (withinB_any _ _ _ _ (by first | exact H1.out | exact H2.out) _).mono ?_; rintro e w5 ⟨rfl, rfl⟩)
        go_ret
        exact ⟨rfl, HB0.out⟩
      | true =>
      cases b2 with
      | false =>
        have hy0 := HY1.out rfl
        subst hy0
        go_wp2_with (go_at_call 23; refine (withinB_any _ _ _ _ (by first | exact H1.out | exact H2.out) _).mono ?_; rintro e w5 ⟨rfl, rfl⟩)
        go_ret
        exact ⟨rfl, HB0.out⟩
      | true =>
      go_wp2_with (go_at_call 23; refine (withinB_any _ _ _ _ (by first | exact H1.out | exact H2.out) _).mono ?_; rintro e w5 ⟨rfl, rfl⟩)
      go_roundw
      case rel => exact ⟨k + 1, by go_num, by omega, fun j hj => by
          rcases Nat.lt_or_ge j k with h | h
          · exact hall.out j h
          · rw [show j = k by omega]; exact HBAD.out, HB0.out⟩
      case measure => simp [intOf]; omega
end Go.Proofs.Ytmgfijadjclmpaa

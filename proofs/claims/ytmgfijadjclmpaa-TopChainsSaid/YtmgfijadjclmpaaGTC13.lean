/- Part 13 of this claim's texts: walks and plain laws. -/
import Derived.Test.YtmgfijadjclmpaaRows
import Derived.Test.YtmgfijadjclmpaaGTC12
import Derived.Deep.DeepMust
import Derived.Deep.RegionHeld3
import Derived.Deep.DrawnRows
import Derived.OwnWalk
/- FromFrames: walk. -/
namespace Go.Proofs.Ytmgfijadjclmpaa
open Go.RowKit
set_option linter.unusedVariables false
set_option linter.unusedSimpArgs false
/-- A step that a frame makes. -/
structure StepOk (l : List Fr) (i : Nat) (s : Stp) : Prop where
  e : s.e = (l.getD i Fr.o).e
  g : s.g = 0
  t : s.t = false
  r0 : 1 ≤ s.r
  r1 : s.r ≤ 100000
  p : ∃ bl busy, RespP l (hiL l i) i s.r bl busy
/-- What FromFrames answers. -/
def FfP (l : List Fr) (ks : List Int) (w : World) (e : Ending) (w' : World) : Prop :=
  ∃ (v : Value) (z : Int), e = .returned (.tuple #[v, .int .i64 z]) ∧ Below w.heap.size w w' ∧ (z ≠ 0 ∧ v = .slice none 0 0 ∨
    z = 0 ∧ chkF l = 0 ∧ 1 ≤ ks.length ∧ ks.length ≤ 10 ∧ (∀ i, i < ks.length → 0 ≤ ks.getD i 0 ∧ ks.getD i 0 < l.length) ∧ ∃ ss : List Stp, ss.length = ks.length ∧ (∀ i, i < ks.length → StepOk l (ks.getD i 0).toNat (ss.getD i Stp.o)) ∧ Sts w' w'.heap.size v ss)
theorem owns_formT {w : World} {base e size n : Nat} {v : Value} {xs : List Value} (h : w.ownsRow base e size v n xs) : ∃ A cap, v = .slice A n cap := by
  rcases h.2 with ⟨h1, h2⟩ | ⟨g, cap, cur, h1, _⟩
  · exact ⟨none, 0, by rw [h1, h2]⟩
  · exact ⟨_, _, h1⟩
theorem wf_getD {ks : List Int} {n : Nat} (h : ks.any (fun i => !inR i 0 ((n : Int) - 1)) = false) : ∀ i, i < ks.length → 0 ≤ ks.getD i 0 ∧ ks.getD i 0 < n := fun i hi => by
  rw [List.any_eq_false] at h
  have h1 := h _ (getD_memT (z := 0) hi)
  have h2 : inR (ks.getD i 0) 0 ((n : Int) - 1) = true := by simpa using h1
  have h3 := inR_iff.1 h2
  exact ⟨h3.1, by omega⟩
theorem getD_pushT {β : Type} {l : List β} {x d : β} {i : Nat} (h : i < l.length) : (l ++ [x]).getD i d = l.getD i d := by
  rw [List.getD_eq_getElem?_getD, List.getElem?_append_left h, ← List.getD_eq_getElem?_getD]
theorem getD_lastT {β : Type} {l : List β} {x d : β} {i : Nat} (h : i = l.length) : (l ++ [x]).getD i d = x := by
  subst h
  simp
set_option maxRecDepth 100000 in
set_option maxHeartbeats 8000000 in
theorem FromFrames_any (v u : Value) (l : List Fr) (ks : List Int) (w : World) (hm : l.length ≤ 1000) (hn : ks.length ≤ 1000) (h : Frs w w.heap.size v l) (hk : Ints w w.heap.size u ks) :
    Calls Try.prog 6 #[v, u] w (FfP l ks w) := by
  have hck := fun W (hW : Frs W W.heap.size v l) => Check_any v l W (by unfold maxLen; omega) hW
  obtain ⟨A, q, rfl⟩ := h.form
  obtain ⟨A2, q2, rfl⟩ := ints_formT hk
  obtain ⟨i0, hi0, iz0, iz1, iz2⟩ := info_parts infoStep
  obtain ⟨z, hz⟩ : ∃ z, chkF l = z := ⟨_, rfl⟩
  rw [hz] at hck
  have HZ := hide hz
  have HCK := hide hck
  have H := hide h
  have HK := hide hk
  clear h hk hck hz
  by_cases hz0 : z = 0
  case neg =>
    have hz1 : (z != 0) = true := by simpa using hz0
    have HZ0 := hide hz0
    clear hz0
    go_enter Try.func6, Try.ntmps6
    go_upto_region 1 with (fail)
    generalize hw0 : World.alloc _ _ = w0
    obtain ⟨hb0, hB0, hs0⟩ := alloc1 hw0
    have c0 := cellOf hb0 0
    have hlb := box_lt hb0
    have HB0 := hide hB0
    clear hw0 hb0 hB0 hs0
    go_wp2_with (go_at_call 14; refine (HCK.out _ (H.out.up HB0.out)).mono ?_; rintro e w1 ⟨rfl, hB1⟩)
    go_ret2
    exact ⟨_, z, rfl, Below.to HB0.out hB1 (Nat.le_refl _), .inl ⟨HZ0.out, rfl⟩⟩
  subst hz0
  obtain ⟨b1, h1⟩ : ∃ b, inR (ks.length : Int) 1 10 = b := ⟨_, rfl⟩
  obtain ⟨b2, h2⟩ : ∃ b, ks.any (fun i => !inR i 0 ((l.length : Int) - 1)) = b := ⟨_, rfl⟩
  have H1 := hide h1
  have H2 := hide h2
  clear h1 h2
  go_enter Try.func6, Try.ntmps6
  go_upto_region 1 with (fail)
  generalize hw0 : World.alloc _ _ = w0
  obtain ⟨hb0, hB0, hs0⟩ := alloc1 hw0
  obtain ⟨fb, hfb⟩ : ∃ z, w.heap.size = z := ⟨_, rfl⟩
  rw [hfb] at hb0 ⊢
  have HX0 := hide hb0
  have c0 := cellOf hb0 0
  have hlb := box_lt hb0
  have HB0 := hide hB0
  clear hw0 hb0 hB0 hs0 hfb
  cases b1 with
  | false =>
    go_wp2_with (first
      | (go_at_call 14; refine (HCK.out _ (H.out.up HB0.out)).mono ?_; rintro e w1 ⟨rfl, hB1⟩; have HB1 := hide (Below.to HB0.out hB1 (Nat.le_refl _)); clear hB1 c0 hlb)
      | (go_at_call 15; refine (withinC_any _ _ _ _ H1.out _).mono ?_; rintro e w5 ⟨rfl, rfl⟩))
    go_ret2
    exact ⟨_, 1, rfl, HB1.out, .inl ⟨by omega, rfl⟩⟩
  | true =>
  have hr10 := inR_iff.1 H1.out
  have hk1 : 1 ≤ ks.length := by omega
  have hk10 : ks.length ≤ 10 := by omega
  have hcw := fun W (hW : Below w.heap.size w W) (hX : W.heap[fb]? = some (.cells #[.slice A l.length q] 22 (0, 0))) => contains_which (fun i => !inR i 0 ((l.length : Int) - 1)) (.pointer (some ⟨fb, 0, none⟩)) (.slice A2 ks.length q2) ks W (by unfold maxLen; omega) (ints_upT HK.out hW) (fun i x W' _ _ hW' => whichBad_any x A q l fb W' hm (box_to hX hW'))
  rw [H2.out] at hcw
  have HCW := hide hcw
  clear hcw hr10
  cases b2 with
  | true =>
    go_wp2_with (first
      | (go_at_call 14; refine (HCK.out _ (H.out.up HB0.out)).mono ?_; rintro e w1 ⟨rfl, hB1⟩; have HX1 := hide (box_to HX0.out hB1); have HB1 := hide (Below.to HB0.out hB1 (Nat.le_refl _)); clear hB1 c0 hlb)
      | (go_at_call 15; refine (withinC_any _ _ _ _ H1.out _).mono ?_; rintro e w5 ⟨rfl, rfl⟩)
      | (go_at_call 16; refine (HCW.out _ HB1.out HX1.out).mono ?_; rintro e w6 ⟨rfl, hB6⟩; have HB6 := hide (Below.to HB1.out hB6 (Nat.le_refl _)); clear hB6))
    go_ret2
    exact ⟨_, 1, rfl, HB6.out, .inl ⟨by omega, rfl⟩⟩
  | false =>
  have HIN : Hid (∀ i, i < ks.length → 0 ≤ ks.getD i 0 ∧ ks.getD i 0 < l.length) := wf_getD H2.out
  go_upto_region 6 with (first
      | (go_at_call 14; refine (HCK.out _ (H.out.up HB0.out)).mono ?_; rintro e w1 ⟨rfl, hB1⟩; have HX1 := hide (box_to HX0.out hB1); have HB1 := hide (Below.to HB0.out hB1 (Nat.le_refl _)); clear hB1 c0 hlb)
      | (go_at_call 15; refine (withinC_any _ _ _ _ H1.out _).mono ?_; rintro e w5 ⟨rfl, rfl⟩)
      | (go_at_call 16; refine (HCW.out _ HB1.out HX1.out).mono ?_; rintro e w6 ⟨rfl, hB6⟩; have HX6 := hide (box_to HX1.out hB6); have HB6 := hide (Below.to HB1.out hB6 (Nat.le_refl _)); clear hB6))
  obtain ⟨W6, hW6⟩ : ∃ wo : World, wo = w6 := ⟨_, rfl⟩
  subst hW6
  clear HCW HCK HX0 HB0 HX1 HB1
  go_wp2_with fail
  go_loopw [4, 8, 9, 10, 27] (fun ov _ _ _ iv wr => ∃ (k : Nat) (ss : List Stp) (A3 : Option Addr) (q3 : Nat), iv = .int .i64 k ∧ ov = .slice A3 ss.length q3 ∧ k ≤ ks.length ∧ ss.length = k ∧ Hid (∀ j, j < k → StepOk l (ks.getD j 0).toNat (ss.getD j Stp.o)) ∧ Hid (wr.ownsRow W6.heap.size 42 4 (.slice A3 ss.length q3) ss.length (cellL stCL ss)) ∧ Hid (Below W6.heap.size W6 wr)) (fun _ _ _ _ iv _ => ks.length - (intOf iv).toNat)
  case atStart => exact ⟨0, [], none, 0, rfl, rfl, Nat.zero_le _, rfl, fun j hj => by omega, World.ownsRow_nil _ _ _ _, Below.refl _ _⟩
  case round =>
    obtain ⟨k, ss, A3, q3, rfl, rfl, hkl, hsl, HALL, HO, HB⟩ := hrel
    have hsk : ss.length ≤ 10 := by omega
    have HSL := hide hsl
    clear hsl
    by_cases hlt : k < ks.length
    case neg =>
      have hlt1 : ¬ (k : Int) < (ks.length : Int) := by omega
      have HKK : Hid (k = ks.length) := by show _ = _; omega
      clear hlt
      go_wp2
      go_ret2
      refine ⟨_, 0, rfl, Below.to HB6.out HB.out (Nat.le_refl _), .inr ⟨rfl, HZ.out, hk1, hk10, HIN.out, ss, by rw [HSL.out, HKK.out], fun i hi => HALL.out i (by have := HKK.out; omega), Sts.of_own HO.out⟩⟩
    case pos =>
      have hlt1 : (k : Int) < (ks.length : Int) := by omega
      have ik0 : (0 : Int) ≤ (k : Int) := by omega
      obtain ⟨bk, ok, n, HN, rfl, hbk, hqk, ek⟩ := ints_atT (ints_upT HK.out (Below.to HB6.out HB.out (Nat.le_refl _))) hlt
      have hn1 := HIN.out k hlt
      rw [HN.out] at hn1
      obtain ⟨f, rfl⟩ := Int.eq_ofNat_of_zero_le hn1.1
      have hfl : f < l.length := by have := hn1.2; omega
      have iqk : (ks.length : Int) ≤ (q2 : Int) := by omega
      have HFR := hide (H.out.up (Below.to HB6.out HB.out (Nat.le_refl _)))
      have HXR := hide (box_to HX6.out HB.out)
      have c0 := cellOf HXR.out 0
      have hlb := box_lt HXR.out
      clear hqk hn1
      go_upto_region 10 with (go_at_call 18; refine (Response_any f _ l _ HZ.out hfl HFR.out).mono ?_; rintro e w7 ⟨r, z, rfl, hr, hB7⟩; have HR := hide hr; have HX7 := hide (box_to HXR.out hB7); have HO7 := hide (owns_below HO.out hB7); have HB7 := hide (Below.to HB.out hB7 (Nat.le_refl _)); have HF7 := hide (HFR.out.up hB7); clear hr hB7 c0 hlb)
      clear ek
      by_cases hz0 : z = 0
      case neg =>
        have hz1 : (z != 0) = true := by simpa using hz0
        clear hz0
        go_wp2
        go_ret2
        exact ⟨_, 41, rfl, Below.to HB6.out HB7.out (Nat.le_refl _), .inl ⟨by omega, rfl⟩⟩
      subst hz0
      by_cases hrl : (100000 : Int) < r
      · go_wp2
        go_ret2
        exact ⟨_, 41, rfl, Below.to HB6.out HB7.out (Nat.le_refl _), .inl ⟨by omega, rfl⟩⟩
      obtain ⟨_, hrp⟩ := HR.out rfl
      have HRP := hide hrp
      have hr0 : 1 ≤ r := by obtain ⟨_, _, h⟩ := hrp; exact h.r0
      obtain ⟨b, off, x, HX, rfl, hbb, hq, e0, e1, e2, e3, e4⟩ := HF7.out.at hfl
      have iff0 : (0 : Int) ≤ (f : Int) := by omega
      have iff1 : (f : Int) < (l.length : Int) := by omega
      have ifq : (l.length : Int) ≤ (q : Int) := by omega
      have c0 := cellOf HX7.out 0
      have hlb := box_lt HX7.out
      clear hq hrp
      go_wp2_with (at_builtin; go_must (refine wpList_append_own_at _ rfl (.tmp 43) (.tmp 51) _ rfl (W6.heap.size) 42 i0 _ 4 32 Try.underlying27 hi0 iz0 iz1 iz2 rfl (by omega) _ _ _ rfl ((HO7.out).alloc _) ⟨w7.heap.size, 0, none⟩ 1 1 [.int .i64 x.e, .int .i64 r, .int .i64 0, .bool false] rfl rfl (World.news_of_block (heap_alloc_new w7 _)) (by simp [Value.oneCell']) (by have h1 := hsk; unfold maxLen; omega) (by have h1 := hsk; omega) (by have h1 := HB7.out.size; simp; omega) ?_); intro v1 w3 hown1 hg1 _ hat1; obtain ⟨A9, q9, e9⟩ := owns_formT hown1; subst e9; have HO9 := hide hown1; have HB9 := hide (Below.grown (Below.allocT HB7.out (Nat.le_refl _) _) hg1 (by have := HB7.out.size; simp; omega) (fun j hj => (HO7.out.lt j hj).1)); clear hown1 hg1 hat1)
      go_roundw
      case rel =>
        refine ⟨k + 1, ss ++ [⟨x.e, r, 0, false⟩], A9, q9, by go_num, by simp, by omega, by simp; exact HSL.out, fun j hj => ?_, ?_, HB9.out⟩
        · rcases Nat.lt_or_ge j k with h1 | h1
          · rw [getD_pushT (by rw [HSL.out]; exact h1)]
            exact HALL.out j h1
          · obtain rfl : j = k := by omega
            rw [getD_lastT HSL.out.symm, HN.out]
            exact ⟨by show x.e = _; rw [← HX.out]; rfl, rfl, rfl, hr0, by show r ≤ 100000; omega, HRP.out⟩
        · show World.ownsRow _ _ _ _ _ _ _
          rw [cellL_snoc]
          simpa [stCL] using HO9.out
      case measure => simp [intOf]; omega
end Go.Proofs.Ytmgfijadjclmpaa
/- Check and Bound of a chain of valid loose steps: walks. -/
namespace Go.Proofs.Ytmgfijadjclmpaa
open Go.RowKit
set_option linter.unusedVariables false
set_option linter.unusedSimpArgs false
/-- A valid loose step. -/
structure StOk (s : Stp) : Prop where
  e0 : 1 ≤ s.e
  e1 : s.e ≤ 100000
  r0 : 1 ≤ s.r
  r1 : s.r ≤ 100000
  g : s.g = 0
  t : s.t = false
set_option maxRecDepth 100000 in
theorem right_any (s : Stp) (w : World) (h : StOk s) :
    Calls Try.prog 42 #[.agg #[.int .i64 s.e, .int .i64 s.r, .int .i64 s.g, .bool s.t]] w fun e w' => e = .returned (.bool true) ∧ Below w.heap.size w w' := by
  obtain ⟨e, r, g, t⟩ := s
  obtain ⟨h1, h2, h3, h4, h5, h6⟩ := h
  have H1 : Hid (inR e 1 100000 = true) := inR_iff.2 ⟨h1, h2⟩
  have H2 : Hid (inR r 1 100000 = true) := inR_iff.2 ⟨h3, h4⟩
  dsimp only at h5 h6
  subst h5 h6
  clear h1 h2 h3 h4
  go_enter Try.func42, Try.ntmps42
  go_upto_region 1 with (fail)
  generalize hw0 : World.alloc _ _ = w0
  obtain ⟨hb0, hB0, hs0⟩ := alloc1 hw0
  have c0 := cellOf hb0 0; have c1 := cellOf hb0 1; have c2 := cellOf hb0 2; have c3 := cellOf hb0 3
  have hl0 := box_lt hb0
  have HB0 := hide hB0
  clear hw0 hb0 hB0 hs0
  go_wp2_with (go_at_call 15; refine (withinC_any _ _ _ _ (by first | exact H1.out | exact H2.out) _).mono ?_; rintro e w5 ⟨rfl, rfl⟩)
  go_ret
  exact ⟨rfl, HB0.out⟩
set_option maxRecDepth 100000 in
theorem wrong_any (s : Stp) (w : World) (h : StOk s) :
    Calls Try.prog 41 #[.agg #[.int .i64 s.e, .int .i64 s.r, .int .i64 s.g, .bool s.t]] w fun e w' => e = .returned (.bool false) ∧ Below w.heap.size w w' := by
  have H := hide h
  clear h
  go_enter Try.func41, Try.ntmps41
  go_upto_region 1 with (fail)
  generalize hw0 : World.alloc _ _ = w0
  obtain ⟨hb0, hB0, hs0⟩ := alloc1 hw0
  have c0 := cellOf hb0 0; have c1 := cellOf hb0 1; have c2 := cellOf hb0 2; have c3 := cellOf hb0 3
  have hl0 := box_lt hb0
  have HB0 := hide hB0
  clear hw0 hb0 hB0 hs0
  go_wp2_with (go_at_call 42; refine (right_any s _ H.out).mono ?_; rintro e w5 ⟨rfl, hB5⟩)
  go_ret
  exact ⟨rfl, Below.to HB0.out hB5 (Nat.le_refl _)⟩
set_option maxRecDepth 100000 in
theorem index_wrong (p : Stp → Bool)  (v : Value) (gs : List Stp) (w : World) (hm : gs.length ≤ maxLen) (h : Sts w w.heap.size v gs)
    (hf : ∀ (i : Nat) (x : Stp)  (W : World), i < gs.length → gs.getD i Stp.o = x → Below w.heap.size w W → Calls Try.prog 41 #[.agg #[.int .i64 x.e, .int .i64 x.r, .int .i64 x.g, .bool x.t]] W fun e w' => e = .returned (.bool (p x)) ∧ Below W.heap.size W w') :
    Calls Try.prog 60 #[v, .func (.func 41) #[] #[]] w fun e w' => e = .returned (.int .i64 (idxI p gs)) ∧ Below w.heap.size w w' := by
  unfold maxLen at hm
  obtain ⟨A, cap, rfl⟩ := Sts.form h
  have H := hide h; clear h
  have HF := hide hf; clear hf
  go_enter Try.func60, Try.ntmps60
  go_wp2
  go_loopw [5, 8] (fun _ i wr => ∃ k : Nat, k ≤ gs.length ∧ i = .int .i64 k ∧ Hid (∀ j, j < k → p (gs.getD j Stp.o) = false) ∧ Below w.heap.size w wr) (fun _ i _ => gs.length - (intOf i).toNat)
  case atStart => exact ⟨0, Nat.zero_le _, rfl, fun j hj => by omega, Below.refl _ _⟩
  case round =>
    obtain ⟨k, hk, rfl, hz, hB⟩ := hrel
    by_cases hlt : k < gs.length
    · obtain ⟨b, off, x, HX, rfl, hbb, hq, e0, e1, e2, e3⟩ := Sts.at (H.out.below hB) hlt
      have hf := fun W (hW : Below w.heap.size w W) => HF.out k x  W hlt HX.out hW
      have HF2 := hide hf
      have HB := hide hB
      clear hf
      by_cases hp : p x = true
      · have HP := hide hp
        clear hp
        go_wp2_with (go_at_call 41; refine (HF2.out _ hB).mono ?_; rw [HP.out]; rintro e w1 ⟨rfl, hB1⟩)
        go_ret
        exact ⟨ret_int (idxI_at p Stp.o gs k hz.out hlt (by rw [HX.out]; exact HP.out)).symm, Below.to HB.out hB1 (Nat.le_refl _)⟩
      · have hp' : p x = false := by simpa using hp
        have HP := hide hp'
        clear hp hp'
        go_wp2_with (go_at_call 41; refine (HF2.out _ hB).mono ?_; rw [HP.out]; rintro e w1 ⟨rfl, hB1⟩)
        go_roundw
        case rel => exact ⟨k + 1, by omega, by go_num, fun j hj => by
            rcases Nat.lt_or_ge j k with h | h
            · exact hz.out j h
            · rw [show j = k from by omega, HX.out]; exact HP.out, Below.to HB.out hB1 (Nat.le_refl _)⟩
        case measure => simp [intOf]; omega
    · go_wp2
      go_ret
      exact ⟨ret_int (idxI_none p Stp.o gs (fun j hj => hz.out j (by omega))).symm, hB⟩
set_option maxRecDepth 100000 in
theorem contains_wrong (p : Stp → Bool)  (v : Value) (gs : List Stp) (w : World) (hm : gs.length ≤ maxLen) (h : Sts w w.heap.size v gs)
    (hf : ∀ (i : Nat) (x : Stp)  (W : World), i < gs.length → gs.getD i Stp.o = x → Below w.heap.size w W → Calls Try.prog 41 #[.agg #[.int .i64 x.e, .int .i64 x.r, .int .i64 x.g, .bool x.t]] W fun e w' => e = .returned (.bool (p x)) ∧ Below W.heap.size W w') :
    Calls Try.prog 39 #[v, .func (.func 41) #[] #[]] w fun e w' => e = .returned (.bool (gs.any p)) ∧ Below w.heap.size w w' := by
  have hc := index_wrong p  v gs w hm h hf
  have he := idxI_any p gs
  have hlo := idxI_lo p gs
  have hhi := idxI_hi p gs
  obtain ⟨z, hz⟩ : ∃ z, idxI p gs = z := ⟨_, rfl⟩
  rw [hz] at hc he hlo hhi
  obtain ⟨A, cap, rfl⟩ := Sts.form h
  have HC := hide hc
  have HE := hide he
  unfold maxLen at hm
  have hz2 : z ≤ 9223372036854775807 := by omega
  clear hc he hz h hf
  go_enter Try.func39, Try.ntmps39
  go_wp2_with (go_at_call 60; refine HC.out.mono ?_; rintro e w1 ⟨rfl, hB1⟩)
  go_ret
  exact ⟨ret_bool HE.out, hB1⟩

set_option maxRecDepth 100000 in
theorem timed_any (s : Stp) (w : World) :
    Calls Try.prog 40 #[.agg #[.int .i64 s.e, .int .i64 s.r, .int .i64 s.g, .bool s.t]] w fun e w' => e = .returned (.bool s.t) ∧ Below w.heap.size w w' := by
  go_enter Try.func40, Try.ntmps40
  go_upto_region 1 with (fail)
  generalize hw0 : World.alloc _ _ = w0
  obtain ⟨hb0, hB0, hs0⟩ := alloc1 hw0
  have c0 := cellOf hb0 0; have c1 := cellOf hb0 1; have c2 := cellOf hb0 2; have c3 := cellOf hb0 3
  have hl0 := box_lt hb0
  have HB0 := hide hB0
  clear hw0 hb0 hB0 hs0
  go_wp2
  go_ret
  exact ⟨rfl, HB0.out⟩
set_option maxRecDepth 100000 in
theorem index_timed (p : Stp → Bool)  (v : Value) (gs : List Stp) (w : World) (hm : gs.length ≤ maxLen) (h : Sts w w.heap.size v gs)
    (hf : ∀ (i : Nat) (x : Stp)  (W : World), i < gs.length → gs.getD i Stp.o = x → Below w.heap.size w W → Calls Try.prog 40 #[.agg #[.int .i64 x.e, .int .i64 x.r, .int .i64 x.g, .bool x.t]] W fun e w' => e = .returned (.bool (p x)) ∧ Below W.heap.size W w') :
    Calls Try.prog 60 #[v, .func (.func 40) #[] #[]] w fun e w' => e = .returned (.int .i64 (idxI p gs)) ∧ Below w.heap.size w w' := by
  unfold maxLen at hm
  obtain ⟨A, cap, rfl⟩ := Sts.form h
  have H := hide h; clear h
  have HF := hide hf; clear hf
  go_enter Try.func60, Try.ntmps60
  go_wp2
  go_loopw [5, 8] (fun _ i wr => ∃ k : Nat, k ≤ gs.length ∧ i = .int .i64 k ∧ Hid (∀ j, j < k → p (gs.getD j Stp.o) = false) ∧ Below w.heap.size w wr) (fun _ i _ => gs.length - (intOf i).toNat)
  case atStart => exact ⟨0, Nat.zero_le _, rfl, fun j hj => by omega, Below.refl _ _⟩
  case round =>
    obtain ⟨k, hk, rfl, hz, hB⟩ := hrel
    by_cases hlt : k < gs.length
    · obtain ⟨b, off, x, HX, rfl, hbb, hq, e0, e1, e2, e3⟩ := Sts.at (H.out.below hB) hlt
      have hf := fun W (hW : Below w.heap.size w W) => HF.out k x  W hlt HX.out hW
      have HF2 := hide hf
      have HB := hide hB
      clear hf
      by_cases hp : p x = true
      · have HP := hide hp
        clear hp
        go_wp2_with (go_at_call 40; refine (HF2.out _ hB).mono ?_; rw [HP.out]; rintro e w1 ⟨rfl, hB1⟩)
        go_ret
        exact ⟨ret_int (idxI_at p Stp.o gs k hz.out hlt (by rw [HX.out]; exact HP.out)).symm, Below.to HB.out hB1 (Nat.le_refl _)⟩
      · have hp' : p x = false := by simpa using hp
        have HP := hide hp'
        clear hp hp'
        go_wp2_with (go_at_call 40; refine (HF2.out _ hB).mono ?_; rw [HP.out]; rintro e w1 ⟨rfl, hB1⟩)
        go_roundw
        case rel => exact ⟨k + 1, by omega, by go_num, fun j hj => by
            rcases Nat.lt_or_ge j k with h | h
            · exact hz.out j h
            · rw [show j = k from by omega, HX.out]; exact HP.out, Below.to HB.out hB1 (Nat.le_refl _)⟩
        case measure => simp [intOf]; omega
    · go_wp2
      go_ret
      exact ⟨ret_int (idxI_none p Stp.o gs (fun j hj => hz.out j (by omega))).symm, hB⟩
set_option maxRecDepth 100000 in
theorem contains_timed (p : Stp → Bool)  (v : Value) (gs : List Stp) (w : World) (hm : gs.length ≤ maxLen) (h : Sts w w.heap.size v gs)
    (hf : ∀ (i : Nat) (x : Stp)  (W : World), i < gs.length → gs.getD i Stp.o = x → Below w.heap.size w W → Calls Try.prog 40 #[.agg #[.int .i64 x.e, .int .i64 x.r, .int .i64 x.g, .bool x.t]] W fun e w' => e = .returned (.bool (p x)) ∧ Below W.heap.size W w') :
    Calls Try.prog 39 #[v, .func (.func 40) #[] #[]] w fun e w' => e = .returned (.bool (gs.any p)) ∧ Below w.heap.size w w' := by
  have hc := index_timed p  v gs w hm h hf
  have he := idxI_any p gs
  have hlo := idxI_lo p gs
  have hhi := idxI_hi p gs
  obtain ⟨z, hz⟩ : ∃ z, idxI p gs = z := ⟨_, rfl⟩
  rw [hz] at hc he hlo hhi
  obtain ⟨A, cap, rfl⟩ := Sts.form h
  have HC := hide hc
  have HE := hide he
  unfold maxLen at hm
  have hz2 : z ≤ 9223372036854775807 := by omega
  clear hc he hz h hf
  go_enter Try.func39, Try.ntmps39
  go_wp2_with (go_at_call 60; refine HC.out.mono ?_; rintro e w1 ⟨rfl, hB1⟩)
  go_ret
  exact ⟨ret_bool HE.out, hB1⟩

theorem any_none {α : Type} (l : List α) : l.any (fun _ => false) = false := by
  rw [List.any_eq_false]
  intro x _
  simp
/-- Valid loose steps. -/
structure StsOk (ss : List Stp) : Prop where
  l1 : 1 ≤ ss.length
  l10 : ss.length ≤ 10
  ok : ∀ i, i < ss.length → StOk (ss.getD i Stp.o)
set_option maxRecDepth 100000 in
theorem CheckS_any (v : Value) (ss : List Stp) (w : World) (h : Sts w w.heap.size v ss) (hk : StsOk ss) :
    Calls Try.prog 26 #[v] w fun e w' => e = .returned (.int .i64 0) ∧ Below w.heap.size w w' := by
  obtain ⟨A, q, rfl⟩ := h.form
  have hl := hk.l10
  have hl1 := hk.l1
  have hct := contains_wrong (fun _ => false) (.slice A ss.length q) ss w (by unfold maxLen; omega) h (fun i x W hi hx hW => wrong_any x W (by rw [← hx]; exact hk.ok i hi))
  rw [any_none] at hct
  have HCT := hide hct
  have HIN : Hid (inR (ss.length : Int) 1 10 = true) := inR_iff.2 ⟨by omega, by omega⟩
  clear h hk hct
  go_enter Try.func26, Try.ntmps26
  go_wp2_with (first
    | (go_at_call 15; refine (withinC_any _ _ _ _ HIN.out _).mono ?_; rintro e w5 ⟨rfl, rfl⟩)
    | (go_at_call 39; refine HCT.out.mono ?_; rintro e w6 ⟨rfl, hB6⟩))
  go_ret
  exact ⟨rfl, hB6⟩
/-- What the steps react within. -/
def reaS (ss : List Stp) : Nat → Int := sumI fun i => (ss.getD i Stp.o).r + (ss.getD i Stp.o).e - 1
theorem reaS_bd {ss : List Stp} (hk : StsOk ss) : ∀ {k : Nat}, k ≤ ss.length → 0 ≤ reaS ss k ∧ reaS ss k ≤ 200000 * (k : Int)
  | 0, _ => ⟨Int.le_refl _, Int.le_refl _⟩
  | k + 1, h => by
    have ih := reaS_bd hk (k := k) (by omega)
    have h1 := hk.ok k (by omega)
    have h2 := h1.e0
    have h3 := h1.e1
    have h4 := h1.r0
    have h5 := h1.r1
    have h6 : reaS ss (k + 1) = reaS ss k + ((ss.getD k Stp.o).r + (ss.getD k Stp.o).e - 1) := rfl
    rw [h6]
    omega
set_option maxRecDepth 100000 in
set_option maxHeartbeats 2000000 in
theorem bound_any (v : Value) (ss : List Stp) (w : World) (h : Sts w w.heap.size v ss) (hk : StsOk ss) :
    Calls Try.prog 27 #[v] w fun e w' => e = .returned (.tuple #[.int .i64 (reaS ss ss.length - (ss.getD (ss.length - 1) Stp.o).e + 1), .int .i64 (reaS ss ss.length)]) ∧ Below w.heap.size w w' := by
  obtain ⟨A, q, rfl⟩ := h.form
  have hl := hk.l10
  have hl1 := hk.l1
  have H := hide h
  have HK := hide hk
  obtain ⟨p, hp⟩ : ∃ p, ss.length - 1 = p := ⟨_, rfl⟩
  have hpl : p < ss.length := by omega
  have iq : (ss.length : Int) ≤ (q : Int) := by have := h.cap; omega
  obtain ⟨rs, hrs⟩ : ∃ z, reaS ss ss.length = z := ⟨_, rfl⟩
  have hrb := reaS_bd hk (Nat.le_refl _)
  rw [hrs] at hrb
  obtain ⟨b, off, x, HX, rfl, hbb, hq, e0, e1, e2, e3⟩ := h.at hpl
  have hx := hk.ok p hpl
  rw [HX.out] at hx
  rw [hrs, hp, HX.out]
  have HRS := hide hrs
  have HP := hide hp
  have hx0 := hx.e0
  have hx1 := hx.e1
  have hr0 := hrb.1
  have hr1 : rs ≤ 2000000 := by have := hrb.2; omega
  have wp1 : IntKind.i64.wrap ((ss.length : Int) - 1) = (p : Int) := by
    rw [IntWalk.i64_in _ (by omega)]
    omega
  have wp2 : IntKind.i64.wrap (p : Int) = (p : Int) := IntWalk.i64_in _ (by omega)
  have ip0 : (0 : Int) ≤ (p : Int) := by omega
  have ip1 : (p : Int) < (ss.length : Int) := by omega
  have wr1 : IntKind.i64.wrap (rs - x.e) = rs - x.e := IntWalk.i64_in _ (by omega)
  have wr2 : IntKind.i64.wrap (rs - x.e + 1) = rs - x.e + 1 := IntWalk.i64_in _ (by omega)
  clear h hk hrs hp hx hrb hq e1 e2 e3
  go_enter Try.func27, Try.ntmps27
  go_wp2_with fail
  go_loopw [3, 5, 8] (fun sv _ iv wr => ∃ (k : Nat) (s : Int), iv = .int .i64 k ∧ sv = .int .i64 s ∧ k ≤ ss.length ∧ Hid (reaS ss k = s) ∧ Hid (Below w.heap.size w wr)) (fun _ _ iv _ => ss.length - (intOf iv).toNat)
  case atStart => exact ⟨0, 0, rfl, rfl, Nat.zero_le _, rfl, Below.refl _ _⟩
  case round =>
    obtain ⟨k, s, rfl, rfl, hkl, HS, HB⟩ := hrel
    by_cases hlt : k < ss.length
    case neg =>
      have hlt1 : ¬ (k : Int) < (ss.length : Int) := by omega
      have hsr : s = rs := by rw [← HS.out, ← HRS.out, show k = ss.length by omega]
      subst hsr
      have ez : wr.cell? ⟨b, off + p * 4, none⟩ = some (.int .i64 x.e) := (HB.out.cell (p := ⟨b, off + p * 4, none⟩) hbb).trans e0
      have lb : b < wr.heap.size := Nat.lt_of_lt_of_le hbb HB.out.size
      clear e0 hbb hlt
      go_wp2_with fail
      go_ret2
      exact ⟨rfl, HB.out⟩
    case pos =>
      have hlt1 : (k : Int) < (ss.length : Int) := by omega
      have ik0 : (0 : Int) ≤ (k : Int) := by omega
      obtain ⟨b', off', y, HY, hA', hbb', hq', f0, f1, f2, f3⟩ := (H.out.up HB.out).at hlt
      injection hA' with hA'
      injection hA' with hA1 hA2 _
      subst hA1 hA2
      have hy := HK.out.ok k hlt
      rw [HY.out] at hy
      have hy1 := hy.e0
      have hy2 := hy.e1
      have hy3 := hy.r0
      have hy4 := hy.r1
      have hsb := reaS_bd HK.out (k := k) (by omega)
      rw [HS.out] at hsb
      have hsb1 := hsb.1
      have hsb2 : s ≤ 2000000 := by have := hsb.2; omega
      have w1 : IntKind.i64.wrap (y.r + y.e) = y.r + y.e := IntWalk.i64_in _ (by omega)
      have w2 : IntKind.i64.wrap (y.r + y.e - 1) = y.r + y.e - 1 := IntWalk.i64_in _ (by omega)
      have w3 : IntKind.i64.wrap (s + (y.r + y.e - 1)) = s + (y.r + y.e - 1) := IntWalk.i64_in _ (by omega)
      have HS2 : Hid (reaS ss (k + 1) = s + (y.r + y.e - 1)) := by
        show reaS ss k + ((ss.getD k Stp.o).r + (ss.getD k Stp.o).e - 1) = _
        rw [HS.out, HY.out]
      clear hy hsb hq'
      go_upto_region 4 with (fail)
      generalize hw0 : World.alloc _ _ = w0
      obtain ⟨hb0, hB0, hs0⟩ := alloc1 hw0
      have c0 := cellOf hb0 0; have c1 := cellOf hb0 1; have c2 := cellOf hb0 2; have c3 := cellOf hb0 3
      have hlc := box_lt hb0
      have HB0 := hide (Below.to HB.out hB0 (Nat.le_refl _))
      clear hw0 hb0 hB0 hs0 f0 f1 f2 f3
      go_wp2_with fail
      go_roundw
      case rel => exact ⟨k + 1, s + (y.r + y.e - 1), by go_num, by first | rfl | go_num, by omega, HS2, HB0⟩
      case measure => simp [intOf]; omega
set_option maxRecDepth 100000 in
theorem Bound_any (v : Value) (ss : List Stp) (w : World) (h : Sts w w.heap.size v ss) (hk : StsOk ss) :
    Calls Try.prog 11 #[v] w fun e w' => e = .returned (.tuple #[.int .i64 (reaS ss ss.length - (ss.getD (ss.length - 1) Stp.o).e + 1), .int .i64 (reaS ss ss.length), .int .i64 0]) ∧ Below w.heap.size w w' := by
  have hck := CheckS_any v ss w h hk
  have hbd := fun W (hW : Below w.heap.size w W) => bound_any v ss W (h.up hW) hk
  obtain ⟨x, hx⟩ : ∃ z, reaS ss ss.length - (ss.getD (ss.length - 1) Stp.o).e + 1 = z := ⟨_, rfl⟩
  obtain ⟨y, hy⟩ : ∃ z, reaS ss ss.length = z := ⟨_, rfl⟩
  rw [hx, hy] at hbd ⊢
  have HCK := hide hck
  have HBD := hide hbd
  clear hck hbd hx hy h hk
  go_enter Try.func11, Try.ntmps11
  go_wp2_with (first
    | (go_at_call 26; refine HCK.out.mono ?_; rintro e w1 ⟨rfl, hB1⟩; have HB1 := hide hB1; clear hB1)
    | (go_at_call 27; refine (HBD.out _ HB1.out).mono ?_; rintro e w2 ⟨rfl, hB2⟩; have HB2 := hide (Below.to HB1.out hB2 (Nat.le_refl _)); clear hB2))
  go_ret3
  exact ⟨rfl, HB2.out⟩
end Go.Proofs.Ytmgfijadjclmpaa

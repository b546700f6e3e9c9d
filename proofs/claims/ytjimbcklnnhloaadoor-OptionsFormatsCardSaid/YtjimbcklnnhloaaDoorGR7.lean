/- Part 7 of this claim's texts: walks and plain laws. -/
import Derived.Test.YtjimbcklnnhloaaDoorRows
import Derived.Test.YtjimbcklnnhloaaDoorGR6
import Derived.Test.YtjimbcklnnhloaaDoorGR4
import Derived.Test.YtjimbcklnnhloaaDoorGR5
import Derived.Recover
import Derived.Defers
import Derived.Laws.Pointers
import Derived.Test.YtjimbcklnnhloaaDoorGR2
import Derived.Deep.RegionHeld3
import Derived.Deep.DrawnRows
import Derived.Deep.CutBlock
import Derived.Deep.DeepMust
/- The elder program's reader: a term: the small cases: walk. -/
namespace Go.Proofs.YtjimbcklnnhloaaDoor
open Go.RowKit
set_option linter.unusedVariables false
set_option linter.unusedSimpArgs false
/-- What a term leaves, if the terms in it leave T. -/
def stepR (ns : List (List UInt8)) (T : TmR) (l : List UInt8) : Option (List UInt8 × List Int × Bool) :=
  match needR 33 l with
  | some r => (T r).map fun x => (x.1, -3 :: x.2.1, x.2.2)
  | none => match needR 40 l with
    | some r => openR T r
    | none => nameR ns l
theorem termR_step (ns : List (List UInt8)) (n : Nat) (l : List UInt8) : termR ns (n + 1) l = stepR ns (termR ns n) l := by
  match l with
  | [] => rfl
  | c :: r =>
    have e1 : needR 33 (c :: r) = if c = 33 then some r else none := rfl
    have e2 : needR 40 (c :: r) = if c = 40 then some r else none := rfl
    rw [termR]
    unfold stepR
    rw [e1, e2]
    by_cases h1 : c = 33
    · rw [if_pos h1, if_pos h1]
    · rw [if_neg h1, if_neg h1]
      by_cases h2 : c = 40
      · rw [if_pos h2, if_pos h2]
        rfl
      · rw [if_neg h2, if_neg h2]
set_option maxRecDepth 100000 in
set_option maxHeartbeats 8000000 in
theorem rterm_bang (b B : Nat) (hbB : b < B) (ov rv fv : Value) (s : ByteArray) (a : Nat) (st : Bool) (xs : List Int) (w : World) (hs : s.size ≤ 1000000) (ha : a ≤ s.size) (hb : RxB w b ov rv s a fv st) (hBw : B ≤ w.heap.size) (ho : NumS w B fv xs) (hl : xs.length ≤ 1000000) (r : List UInt8) (hq : needR 33 (s.data.toList.drop a) = some r) (o : Option (List UInt8 × List Int × Bool))
    (hr : ∀ (w1 : World) (fv1 : Value), a + 1 ≤ s.size → s.data.toList.drop (a + 1) = r → RxB w1 b ov rv s (a + 1) fv1 st → B ≤ w1.heap.size → NumS w1 B fv1 (xs ++ [-3]) → Bx b B w w1 → Calls Tryd.prog 18 #[.pointer (some ⟨b, 0, none⟩)] w1 (RxP b B ov rv s st (xs ++ [-3]) w1 o)) :
    Calls Tryd.prog 18 #[.pointer (some ⟨b, 0, none⟩)] w (RxP b B ov rv s st xs w (o.map fun x => (x.1, -3 :: x.2.1, x.2.2))) := by
  obtain ⟨i0, hi0, hz0, hz1, hz2⟩ := info_parts infoInt
  obtain ⟨A, cap, hfv⟩ := owns_shape ho
  subst hfv
  have hn1 := takes_any b ov rv (.slice A xs.length cap) s ⟨#[33]⟩ a 33 st w hs hb ha rfl
  rw [hq] at hn1
  have HN1 := hide hn1
  have HO := hide ho
  have HL := hide hl
  have HR := hide hr
  clear hb ho hl hr hn1 hq
  go_enter Tryd.func18, Tryd.ntmps18
  go_upto_region 2 with (go_at_call 40; refine HN1.out.mono ?_; rintro e w1 ⟨hB, rfl, g1, g2, g3⟩; have HB1 : Hid (Bx b B w w1) := hide (hB.mono hBw); have HO1 : Hid (NumS w1 B (.slice A xs.length cap) xs) := hide (numS_bx HO.out hbB hB); have HX1 := hide g1; have HG := hide (And.intro g2 g3); clear hB g1 g2 g3)
  have d9 := HB1.out.big hBw
  have c0 := cellOf HX1.out 4
  have c2 := unfrozenOf HX1.out 4
  have c3 := box_lt HX1.out
  go_upto_region 3 with (at_builtin; go_must (refine wpList_append_own_at _ rfl (.tmp 12) (.tmp 13) _ rfl (B) 3 i0 _ 1 8 Tryd.underlying27 hi0 hz0 hz1 hz2 rfl (by omega) _ _ _ rfl ((HO1.out).alloc _) ⟨w1.heap.size, 0, none⟩ 1 1 [.int .i64 (-3)] rfl rfl (World.news_of_block (heap_alloc_new w1 _)) (by simp [Value.oneCell']) (by have h1 := HL.out; unfold maxLen; omega) (by have h1 := HL.out; omega) (by have h1 := d9; simp; omega) ?_); intro v1 w3 hown1 hg1 _ hat1; obtain ⟨A1, cap1, hv1⟩ := owns_shape hown1; subst hv1; have HB3 : Hid (Below B w1 w3) := Below.grown ((Below.refl _ _).alloc d9 _) hg1 (by simp; omega) (fun j hj => (HO1.out.lt j hj).1); have HX3 : Hid (RxB w3 b ov rv s (a + 1) (.slice A xs.length cap) st) := (HB3.out.block b hbB).trans HX1.out; have HO3 := hide hown1; have d0 := cellOf HX3.out 4; have d2 := unfrozenOf HX3.out 4; have d3 := box_lt HX3.out; clear hown1 hg1 hat1)
  have HX4 : Hid (RxB (w3.setCell ⟨b, 4, none⟩ (.slice A1 (xs.length + 1) cap1)) b ov rv s (a + 1) (.slice A1 (xs.length + 1) cap1) st) := setCellOf (i := 4) HX3.out _
  have HO4 : Hid (NumS (w3.setCell ⟨b, 4, none⟩ (.slice A1 (xs.length + 1) cap1)) B (.slice A1 (xs.length + 1) cap1) (xs ++ [-3])) := num_app (ownsRow_setCell_below HO3.out (a := ⟨b, 4, none⟩) hbB _)
  have HB4 := hide (show Bx b B w (w3.setCell ⟨b, 4, none⟩ (.slice A1 (xs.length + 1) cap1)) from Bx.setCell hbB (Bx.trans HB1.out (Bx.of HB3.out hbB)) _)
  generalize (w3.setCell ⟨b, 4, none⟩ (.slice A1 (xs.length + 1) cap1)) = w4 at HX4 HO4 HB4 ⊢
  clear c0 c2 c3 d0 d2 d3
  have hcc := HR.out w4 _ (by have := HG.out.1; omega) HG.out.2 HX4.out (HB4.out.big hBw) HO4.out HB4.out
  have HC := hide hcc
  clear hcc HR
  cases o with
  | none =>
    go_wp2_with (go_at_call 18; refine HC.out.mono ?_; rintro e w5 ⟨hB, rfl⟩; have HB := hide hB; clear hB)
    go_ret
    exact ⟨Bx.trans HB4.out HB.out, rfl⟩
  | some x =>
    go_wp2_with (go_at_call 18; refine HC.out.mono ?_; rintro e w5 ⟨hB, rfl, hx⟩; have HB := hide hB; have HXX := hide hx; clear hB hx)
    go_ret
    obtain ⟨a', fv', g0, g1, g2, g3⟩ := HXX.out
    refine ⟨Bx.trans HB4.out HB.out, rfl, a', fv', g0, g1, g2, ?_⟩
    rw [List.append_assoc] at g3
    exact g3
set_option maxRecDepth 100000 in
set_option maxHeartbeats 8000000 in
theorem rterm_word (b B : Nat) (hbB : b < B) (ov rv fv : Value) (s : ByteArray) (a : Nat) (st : Bool) (xs : List Int) (ns : List ByteArray) (w : World) (hs : s.size ≤ 1000000) (ha : a ≤ s.size) (hb : RxB w b ov rv s a fv st) (hBw : B ≤ w.heap.size) (ho : NumS w B fv xs) (hl : xs.length ≤ 1000000) (hns : Names w b ov ns) (hnl : ns.length ≤ maxLen) (hnn : namesB [] (ns.map fun x => x.data.toList) = true) (hq : needR 33 (s.data.toList.drop a) = none) (hq2 : needR 40 (s.data.toList.drop a) = none) :
    Calls Tryd.prog 18 #[.pointer (some ⟨b, 0, none⟩)] w (RxP b B ov rv s st xs w (nameR (ns.map fun x => x.data.toList) (s.data.toList.drop a))) := by
  have hn1 := takes_any b ov rv fv s ⟨#[33]⟩ a 33 st w hs hb ha rfl
  rw [hq] at hn1
  have HN1 := hide hn1
  have hn2 : ∀ w1, RxB w1 b ov rv s a fv st → Calls Tryd.prog 40 #[.pointer (some ⟨b, 0, none⟩), .string ⟨#[40]⟩] w1 fun e w' => Bx b w1.heap.size w1 w' ∧ e = .returned (.bool false) ∧ RxB w' b ov rv s a fv st := fun w1 h1 => by
    have h2 := takes_any b ov rv fv s ⟨#[40]⟩ a 40 st w1 hs h1 ha rfl
    rw [hq2] at h2
    exact h2
  have HN2 := hide hn2
  obtain ⟨o, hoo⟩ : ∃ z, nameR (ns.map fun x => x.data.toList) (s.data.toList.drop a) = z := ⟨_, rfl⟩
  have hn3 : ∀ w1, Bx b B w w1 → RxB w1 b ov rv s a fv st → NumS w1 B fv xs → Calls Tryd.prog 41 #[.pointer (some ⟨b, 0, none⟩)] w1 (RxP b B ov rv s st xs w1 o) := fun w1 h1 h2 h3 => by
    have h4 := rword_any b B hbB ov rv fv s a st xs ns w1 hs ha h2 (h1.big hBw) h3 hl (hns.below h1.low) hnl hnn
    rw [hoo] at h4
    exact h4
  have HN3 := hide hn3
  have HO := hide ho
  rw [hoo]
  clear hb ho hl hn1 hn2 hn3 hq hq2 hns hnl hnn hoo
  go_enter Tryd.func18, Tryd.ntmps18
  go_upto_region 4 with (go_at_call 40; refine HN1.out.mono ?_; rintro e w1 ⟨hB, rfl, g1⟩; have HB1 : Hid (Bx b B w w1) := hide (hB.mono hBw); have HO1 : Hid (NumS w1 B fv xs) := hide (numS_bx HO.out hbB hB); have HX1 := hide g1; clear hB g1)
  have d1 := HB1.out.big hBw
  go_upto_region 5 with (go_at_call 40; refine (HN2.out _ HX1.out).mono ?_; rintro e w2 ⟨hB, rfl, g1⟩; have HB2 : Hid (Bx b B w w2) := hide (HB1.out.trans (hB.mono d1)); have HO2 : Hid (NumS w2 B fv xs) := hide (numS_bx HO1.out hbB hB); have HX2 := hide g1; clear hB g1)
  have HC := hide (HN3.out w2 HB2.out HX2.out HO2.out)
  clear HN3
  cases o with
  | none =>
    go_wp2_with (go_at_call 41; refine HC.out.mono ?_; rintro e w5 ⟨hB, rfl⟩; have HB := hide hB; clear hB)
    go_ret
    exact ⟨Bx.trans HB2.out HB.out, rfl⟩
  | some x =>
    go_wp2_with (go_at_call 41; refine HC.out.mono ?_; rintro e w5 ⟨hB, rfl, hx⟩; have HB := hide hB; have HXX := hide hx; clear hB hx)
    go_ret
    exact ⟨Bx.trans HB2.out HB.out, rfl, HXX.out⟩
end Go.Proofs.YtjimbcklnnhloaaDoor
/- The elder program's reader: a term with brackets: walk. -/
namespace Go.Proofs.YtjimbcklnnhloaaDoor
open Go.RowKit
set_option linter.unusedVariables false
set_option linter.unusedSimpArgs false
/-- What the search for the sign has done, at its k-th place. -/
def SgnP (b B : Nat) (ov rv : Value) (s : ByteArray) (st : Bool) (p : Nat) (l : List UInt8) (xs ys : List Int) (fv : Value) (w : World) (k : Nat) (f : Bool) (wr : World) : Prop :=
  Bx b B w wr ∧ (f = false → (∀ j, j < k → needR (sgnT j) l = none) ∧ RxB wr b ov rv s p fv st ∧ NumS wr B fv (xs ++ [-4] ++ ys)) ∧
    (f = true → ∃ kk r, signR l = some (r, kk) ∧ p + 1 ≤ s.size ∧ s.data.toList.drop (p + 1) = r ∧ RxB wr b ov rv s (p + 1) fv st ∧ NumS wr B fv (xs ++ [-4 - (kk : Int)] ++ ys))
theorem sign_none {l : List UInt8} (h : ∀ j, j < 3 → needR (sgnT j) l = none) : signR l = none := by
  match l with
  | [] => rfl
  | d :: r =>
    have h2 : ∀ j, j < 3 → d ≠ sgnT j := fun j hj e => by
      have := h j hj
      rw [needR, if_pos e] at this
      simp at this
    rw [signR, sigI_none (by rw [sigI_no h2]; decide)]
    rfl
theorem sign_some {l r : List UInt8} {k : Nat} (hk : k < 3) (h : needR (sgnT k) l = some r) : signR l = some (r, k) := by
  match l with
  | [] => simp [needR] at h
  | d :: q =>
    rw [needR] at h
    split at h
    · rename_i e
      simp at h
      subst h e
      rw [signR, sig_sgn hk]
      rfl
    · simp at h
def opsB : ByteArray := ⟨#[38, 124, 61]⟩
theorem ops_at {k : Nat} (hk : k < 3) : (opsB.extract k (k + 1)).data.toList = [sgnT k] := by
  obtain rfl | rfl | rfl : k = 0 ∨ k = 1 ∨ k = 2 := by omega
  all_goals decide
set_option maxRecDepth 100000 in
set_option maxHeartbeats 8000000 in
theorem rterm_open (b B : Nat) (hbB : b < B) (ov rv fv : Value) (s : ByteArray) (a : Nat) (st : Bool) (xs : List Int) (w : World) (T : TmR) (hT : ∀ l x, T l = some x → x.1.length + x.2.1.length ≤ l.length) (hs : s.size ≤ 1000000) (ha : a ≤ s.size) (hb : RxB w b ov rv s a fv st) (hBw : B ≤ w.heap.size) (ho : NumS w B fv xs) (hl : xs.length + (s.size - a) ≤ 1000000) (hq1 : needR 33 (s.data.toList.drop a) = none) (r0 : List UInt8) (hq2 : needR 40 (s.data.toList.drop a) = some r0)
    (hr : ∀ (w1 : World) (fv1 : Value) (a1 : Nat) (st1 : Bool) (xs1 : List Int), a < a1 → a1 ≤ s.size → RxB w1 b ov rv s a1 fv1 st1 → B ≤ w1.heap.size → NumS w1 B fv1 xs1 → xs1.length + (s.size - a1) ≤ 1000000 → Bx b B w w1 → Calls Tryd.prog 18 #[.pointer (some ⟨b, 0, none⟩)] w1 (RxP b B ov rv s st1 xs1 w1 (T (s.data.toList.drop a1)))) (o : Option (List UInt8 × List Int × Bool)) (hoo : o = openR T r0) :
    Calls Tryd.prog 18 #[.pointer (some ⟨b, 0, none⟩)] w (RxP b B ov rv s st xs w o) := by
  obtain ⟨i0, hi0, hz0, hz1, hz2⟩ := info_parts infoInt
  obtain ⟨A, cap, hfv⟩ := owns_shape ho
  subst hfv
  have hn1 := takes_any b ov rv (.slice A xs.length cap) s ⟨#[33]⟩ a 33 st w hs hb ha rfl
  rw [hq1] at hn1
  have HN1 := hide hn1
  have hn2 : ∀ w1, RxB w1 b ov rv s a (.slice A xs.length cap) st → Calls Tryd.prog 40 #[.pointer (some ⟨b, 0, none⟩), .string ⟨#[40]⟩] w1 fun e w' => Bx b w1.heap.size w1 w' ∧ e = .returned (.bool true) ∧ RxB w' b ov rv s (a + 1) (.slice A xs.length cap) st ∧ a < s.size ∧ s.data.toList.drop (a + 1) = r0 := fun w1 h1 => by
    have h2 := takes_any b ov rv (.slice A xs.length cap) s ⟨#[40]⟩ a 40 st w1 hs h1 ha rfl
    rw [hq2] at h2
    exact h2
  have HN2 := hide hn2
  have HO := hide ho
  have HL0 := hide (show xs.length ≤ 1000000 by omega)
  have HL := hide hl
  have HR := hide hr
  have HOO := hide hoo
  have HT := hide hT
  clear hb ho hl hn1 hn2 hq1 hq2 hr hoo hT
  go_enter Tryd.func18, Tryd.ntmps18
  go_upto_region 4 with (go_at_call 40; refine HN1.out.mono ?_; rintro e w1 ⟨hB, rfl, g1⟩; have HB1 : Hid (Bx b B w w1) := hide (hB.mono hBw); have HO1 : Hid (NumS w1 B (.slice A xs.length cap) xs) := hide (numS_bx HO.out hbB hB); have HX1 := hide g1; clear hB g1)
  have d1 := HB1.out.big hBw
  go_upto_region 6 with (go_at_call 40; refine (HN2.out _ HX1.out).mono ?_; rintro e w2 ⟨hB, rfl, g1, g2, g3⟩; have HB2 : Hid (Bx b B w w2) := hide (HB1.out.trans (hB.mono d1)); have HO2 : Hid (NumS w2 B (.slice A xs.length cap) xs) := hide (numS_bx HO1.out hbB hB); have HX2 := hide g1; have HG := hide (And.intro g2 g3); clear hB g1 g2 g3)
  clear d1
  have d9 := HB2.out.big hBw
  have c0 := cellOf HX2.out 4
  have c2 := unfrozenOf HX2.out 4
  have c3 := box_lt HX2.out
  go_upto_region 8 with (at_builtin; go_must (refine wpList_append_own_at _ rfl (.tmp 33) (.tmp 34) _ rfl (B) 3 i0 _ 1 8 Tryd.underlying27 hi0 hz0 hz1 hz2 rfl (by omega) _ _ _ rfl ((HO2.out).alloc _) ⟨w2.heap.size, 0, none⟩ 1 1 [.int .i64 (-4)] rfl rfl (World.news_of_block (heap_alloc_new w2 _)) (by simp [Value.oneCell']) (by have h1 := HL0.out; unfold maxLen; omega) (by have h1 := HL0.out; omega) (by have h1 := d9; simp; omega) ?_); intro v1 w3 hown1 hg1 _ hat1; obtain ⟨A1, cap1, hv1⟩ := owns_shape hown1; subst hv1; have HB3 : Hid (Below B w2 w3) := Below.grown ((Below.refl _ _).alloc d9 _) hg1 (by simp; omega) (fun j hj => (HO2.out.lt j hj).1); have HX3 : Hid (RxB w3 b ov rv s (a + 1) (.slice A xs.length cap) st) := (HB3.out.block b hbB).trans HX2.out; have HO3 := hide hown1; have d0 := cellOf HX3.out 4; have d2 := unfrozenOf HX3.out 4; have d3 := box_lt HX3.out; clear hown1 hg1 hat1)
  have HX4 : Hid (RxB (w3.setCell ⟨b, 4, none⟩ (.slice A1 (xs.length + 1) cap1)) b ov rv s (a + 1) (.slice A1 (xs.length + 1) cap1) st) := setCellOf (i := 4) HX3.out _
  have HO4 : Hid (NumS (w3.setCell ⟨b, 4, none⟩ (.slice A1 (xs.length + 1) cap1)) B (.slice A1 (xs.length + 1) cap1) (xs ++ [-4])) := num_app (ownsRow_setCell_below HO3.out (a := ⟨b, 4, none⟩) hbB _)
  have HB4 := hide (show Bx b B w (w3.setCell ⟨b, 4, none⟩ (.slice A1 (xs.length + 1) cap1)) from Bx.setCell hbB (Bx.trans HB2.out (Bx.of HB3.out hbB)) _)
  generalize (w3.setCell ⟨b, 4, none⟩ (.slice A1 (xs.length + 1) cap1)) = w4 at HX4 HO4 HB4 ⊢
  clear c0 c2 c3 d0 d2 d3
  have hcc := HR.out w4 _ (a + 1) _ _ (by omega) (by have := HG.out.1; omega) HX4.out (HB4.out.big hBw) HO4.out (by have := HL.out; have := HG.out.1; simp; omega) HB4.out
  rw [HG.out.2] at hcc
  cases ht1 : T r0 with
  | none =>
    rw [ht1] at hcc
    have HC := hide hcc
    have hon : o = none := by rw [HOO.out]; unfold openR; rw [ht1]; rfl
    have HON := hide hon
    clear hcc ht1 hon
    go_wp2_with (go_at_call 18; refine HC.out.mono ?_; rintro e w5 ⟨hB, rfl⟩; have HB := hide hB; clear hB)
    go_ret
    exact rx_none HON.out (Bx.trans HB4.out HB.out)
  | some x =>
    rw [ht1] at hcc
    have HC := hide hcc
    have hx1 := HT.out r0 x ht1
    have hr0 : r0.length = s.size - (a + 1) := by rw [← HG.out.2, List.length_drop, size_dl]
    have HT1 := hide ht1
    have HF1 := hide (And.intro hx1 hr0)
    clear hcc ht1 hx1 hr0
    cases hq : needR 32 x.1 with
    | none =>
      have hon : o = none := by rw [HOO.out]; unfold openR; rw [HT1.out, Option.bind_some, hq]; rfl
      have HON := hide hon
      have HQ := hide hq
      clear hon hq
      go_wp2_with (first | (go_at_call 18; refine HC.out.mono ?_; rintro e w5 ⟨hB, rfl, a5, fv5, g0, g1, g2, g3⟩; have HB5 := hide hB; have HD5 := hide g1; have HX5 := hide g2; have h5 := takes_any b ov rv fv5 s ⟨#[32]⟩ a5 32 (st || x.2.2) w5 hs g2 g0 rfl; rw [g1, HQ.out] at h5; have HN5 := hide h5; have d5 := hB.big (HB4.out.big hBw); clear hB g0 g1 g2 g3 h5) | (go_at_call 40; refine HN5.out.mono ?_; rintro e w6 ⟨hB, rfl, g1⟩; have HB6 := hide (hB.mono d5); clear hB g1))
      go_ret
      exact rx_none HON.out (Bx.trans HB4.out (Bx.trans HB5.out HB6.out))
    | some q =>
      have hql := needR_len hq
      have HQ := hide hq
      clear hq
      go_upto_region 10 with (first | (go_at_call 18; refine HC.out.mono ?_; rintro e w5 ⟨hB, rfl, a5, fv5, g0, g1, g2, g3⟩; have HB5 := hide hB; have HD5 := hide g1; have HX5 := hide g2; have HO5 := hide g3; have h5 := takes_any b ov rv fv5 s ⟨#[32]⟩ a5 32 (st || x.2.2) w5 hs g2 g0 rfl; rw [g1, HQ.out] at h5; have HN5 := hide h5; have d5 := hB.big (HB4.out.big hBw); clear hB g0 g1 g2 g3 h5) | (go_at_call 40; refine HN5.out.mono ?_; rintro e w6 ⟨hB, rfl, g1, g2, g3⟩; have HB6 : Hid (Bx b B w w6) := hide (Bx.trans HB4.out (Bx.trans HB5.out (hB.mono d5))); have HX6 := hide g1; have HO6 : Hid (NumS w6 B fv5 ((xs ++ [-4]) ++ x.2.1)) := hide (numS_bx HO5.out hbB hB); have HG6 := hide (And.intro g2 g3); clear hB g1 g2 g3))
      obtain ⟨p, hp⟩ : ∃ p, a5 + 1 = p := ⟨_, rfl⟩
      have hp2 : p ≤ s.size := by have := HG6.out.1; omega
      have hgq := HG6.out.2
      rw [hp] at HX6 hgq
      have HGQ := hide hgq
      have hpl : q.length = s.size - p := by rw [← hgq, List.length_drop, size_dl]
      have HPL := hide hpl
      have HLEN := hide (show a < p + 1 + 1 ∧ xs.length + 1 + x.2.1.length + (s.size - (p + 1 + 1)) ≤ 1000000 by have := HF1.out.1; have := HF1.out.2; have := HG.out.1; have := HL.out; omega)
      clear hp HG6 hgq hpl hql
      obtain ⟨n7, hn7⟩ : ∃ z, ((xs ++ [-4]) ++ x.2.1).length = z := ⟨_, rfl⟩
      have hlt7 : xs.length < n7 := by rw [← hn7]; simp
      have hrow := HO6.out
      unfold NumS at hrow
      rw [hn7] at hrow
      obtain ⟨g, cap7, hv7, _, hl7⟩ := hrow.form (by omega)
      subst hv7
      have hbg : B ≤ g := (hrow.lt g rfl).1
      have HN7 := hide hn7
      have hi1 : (xs.length : Int) < (n7 : Int) := by omega
      have hi2 : (0 : Int) ≤ (xs.length : Int) := by omega
      clear hrow hn7 d9 d5
      go_upto_region 11 with (fail)
      go_wp2
      go_loopw [4, 5] (fun fo i wr => ∃ (k : Nat) (f : Bool), k ≤ 3 ∧ i = .int .i64 k ∧ fo = .bool f ∧ Hid (SgnP b B ov rv s (st || x.2.2) p q xs x.2.1 (.slice (some ⟨g, 0, none⟩) n7 cap7) w k f wr)) (fun _ i _ => 3 - (intOf i).toNat)
      case atStart => exact ⟨0, false, by omega, rfl, rfl, HB6.out, fun _ => ⟨fun j hj => by omega, HX6.out, HO6.out⟩, fun h => by simp at h⟩
      case round =>
        obtain ⟨k, f, hk, rfl, rfl, hsg⟩ := hrel
        obtain ⟨hsB, hs0, hs1⟩ := hsg.out
        have HSB := hide hsB
        have HS0 := hide hs0
        have HS1 := hide hs1
        clear hsg hsB hs0 hs1
        obtain ⟨fl, hfl⟩ : ∃ fl, (decide (k < 3) && !f) = fl := ⟨_, rfl⟩
        have HFL := hide hfl
        clear hfl
        go_upto_region 12 with (fail)
        go_cut [51] from 46 to 51 (fun x wc => x = .bool fl ∧ Hid (wc = wr))
        case first =>
          by_cases h3 : k < 3
          · have g1 : decide ((k : Int) < 3) = true := by simp; omega
            have g2 : (k : Int) < 3 := by omega
            cases f with
            | true =>
              have hfe : fl = false := by rw [← HFL.out]; simp
              subst hfe
              go_wp2_with fail
              go_meet
              exact ⟨rfl, rfl⟩
            | false =>
              have hfe : fl = true := by rw [← HFL.out]; simpa using h3
              subst hfe
              go_wp2_with fail
              go_meet
              exact ⟨rfl, rfl⟩
          · have g1 : decide ((k : Int) < 3) = false := by simp; omega
            have g2 : ¬ (k : Int) < 3 := by omega
            have hfe : fl = false := by rw [← HFL.out, decide_eq_false h3]; rfl
            subst hfe
            go_wp2_with fail
            go_meet
            exact ⟨rfl, rfl⟩
        case rest =>
          obtain ⟨rfl, hcc⟩ := hcut
          obtain rfl : wc = wr := hcc.out
          clear hcc
          cases fl with
          | true =>
            have hff : k < 3 ∧ f = false := by have h := HFL.out; simpa using h
            obtain ⟨hk3, rfl⟩ := hff
            obtain ⟨hno, hX, hO⟩ := HS0.out rfl
            have HNO := hide hno
            have HXr := hide hX
            have HOr := hide hO
            have hops : (opsB.extract k (k + 1)).data.toList = [sgnT k] := ops_at hk3
            have htk := takes_any b ov rv _ s (opsB.extract k (k + 1)) p (sgnT k) (st || x.2.2) wc hs hX hp2 hops
            rw [HGQ.out] at htk
            have g2 : (k : Int) < 3 := by omega
            have g3 : (0 : Int) ≤ (k : Int) := by omega
            have g4 : (k : Int) ≤ (k : Int) + 1 := by omega
            have g5 : (k : Int) + 1 ≤ 3 := by omega
            clear hno hX hO hops HFL HS1 HS0
            cases hnk : needR (sgnT k) q with
            | none =>
              rw [hnk] at htk
              have HTK := hide htk
              have HNK := hide hnk
              clear htk hnk
              have d5 := HSB.out.big hBw
              go_wp2_with (go_at_call 40; refine HTK.out.mono ?_; rintro e w8 ⟨hB, rfl, g1⟩; have HB8 : Hid (Bx b B w w8) := hide (HSB.out.trans (hB.mono d5)); have HX8 := hide g1; have HO8 : Hid (NumS w8 B _ _) := hide (numS_bx HOr.out hbB hB); clear hB g1)
              go_roundw
              case rel => exact ⟨k + 1, false, by omega, by go_num, rfl, HB8.out, fun _ => ⟨fun j hj => by
                  rcases Nat.lt_or_ge j k with h | h
                  · exact HNO.out j h
                  · rw [show j = k from by omega]; exact HNK.out, HX8.out, HO8.out⟩, fun h => by simp at h⟩
              case measure => simp [intOf]; omega
            | some r =>
              rw [hnk] at htk
              have HTK := hide htk
              have HNK := hide hnk
              clear htk hnk
              have d5 := HSB.out.big hBw
              go_upto_region 15 with (go_at_call 40; refine HTK.out.mono ?_; rintro e w8 ⟨hB, rfl, g1, g2, g3⟩; have HB8 : Hid (Bx b B w w8) := hide (HSB.out.trans (hB.mono d5)); have HX8 := hide g1; have HO8 : Hid (NumS w8 B (.slice (some ⟨g, 0, none⟩) n7 cap7) ((xs ++ [-4]) ++ x.2.1)) := hide (numS_bx HOr.out hbB hB); have HG8 := hide (And.intro g2 g3); clear hB g1 g2 g3)
              have hrow := HO8.out
              unfold NumS at hrow
              rw [HN7.out] at hrow
              have HROW := hide hrow
              have f0 := cellOf HX8.out 4
              have f3 := box_lt HX8.out
              have f4 := hrow.frozenAt xs.length
              have f5 : w8.cell? ⟨g, xs.length, none⟩ = some (.int .i64 (-4)) := by
                have h1 := hrow.cells (g := g) rfl xs.length (.int .i64 (-4)) (by simp)
                rwa [addr_at] at h1
              have f6 : g < w8.heap.size := (hrow.lt g rfl).2
              clear hrow
              go_upto_region 16 with (fail)
              have hst := HROW.out.stored xs.length (.int .i64 (-4 - (k : Int)))
              rw [set_at _ _ _ _ rfl] at hst
              have HO9 : Hid (NumS (w8.setCell ⟨g, xs.length, none⟩ (.int .i64 (-4 - (k : Int)))) B (.slice (some ⟨g, 0, none⟩) n7 cap7) (xs ++ [-4 - (k : Int)] ++ x.2.1)) := by
                show NumS _ _ _ _
                unfold NumS
                have h2 : (xs ++ [-4 - (k : Int)] ++ x.2.1).length = n7 := by rw [← HN7.out]; simp
                rw [h2]
                exact hst.1
              have HB9a : Hid (Below B w8 (w8.setCell ⟨g, xs.length, none⟩ (.int .i64 (-4 - (k : Int))))) := Below.setCell (Below.refl _ _) hbg _
              have HX9 : Hid (RxB (w8.setCell ⟨g, xs.length, none⟩ (.int .i64 (-4 - (k : Int)))) b ov rv s (p + 1) (.slice (some ⟨g, 0, none⟩) n7 cap7) (st || x.2.2)) := (HB9a.out.block b hbB).trans HX8.out
              have HB9 : Hid (Bx b B w (w8.setCell ⟨g, xs.length, none⟩ (.int .i64 (-4 - (k : Int))))) := Bx.trans HB8.out (Bx.of HB9a.out hbB)
              generalize (w8.setCell ⟨g, xs.length, none⟩ (.int .i64 (-4 - (k : Int)))) = w9 at HO9 HX9 HB9 HB9a ⊢
              clear hst f0 f3 f4 f5 f6
              go_wp2_with fail
              go_roundw
              case rel => exact ⟨k + 1, true, by omega, by go_num, rfl, HB9.out, fun h => by simp at h, fun _ => ⟨k, r, sign_some hk3 HNK.out, by have := HG8.out.1; omega, HG8.out.2, HX9.out, HO9.out⟩⟩
              case measure => simp [intOf]; omega
          | false =>
            cases f with
            | false =>
              have hk3 : k = 3 := by have h := HFL.out; simp at h; omega
              subst hk3
              have hsn := sign_none (HS0.out rfl).1
              have hon : o = none := by rw [HOO.out]; unfold openR; rw [HT1.out, Option.bind_some, HQ.out, Option.bind_some, hsn]; rfl
              have HON := hide hon
              clear hon hsn HFL HS0 HS1
              go_wp2_with fail
              go_ret
              exact rx_none HON.out HSB.out
            | true =>
              obtain ⟨kk, r, h1, h2, h3, h4, h5⟩ := HS1.out rfl
              have HSR := hide h1
              have HDR := hide h3
              have HXr := hide h4
              have HOr := hide h5
              have htk := takes_any b ov rv _ s ⟨#[32]⟩ (p + 1) 32 (st || x.2.2) wc hs h4 h2 rfl
              rw [h3] at htk
              have d5 := HSB.out.big hBw
              have hrl := signR_len h1
              clear h1 h3 h4 h5 HS0 HS1 HFL
              cases hq3 : needR 32 r with
              | none =>
                rw [hq3] at htk
                have HTK := hide htk
                have hon : o = none := by rw [HOO.out]; unfold openR; rw [HT1.out, Option.bind_some, HQ.out, Option.bind_some, HSR.out, Option.bind_some, hq3]; rfl
                have HON := hide hon
                clear htk hq3 hon hrl
                go_wp2_with (go_at_call 40; refine HTK.out.mono ?_; rintro e w8 ⟨hB, rfl, g1⟩; have HB8 : Hid (Bx b B w w8) := hide (HSB.out.trans (hB.mono d5)); clear hB g1)
                go_ret
                exact rx_none HON.out HB8.out
              | some r2 =>
                rw [hq3] at htk
                have HTK := hide htk
                have hrl2 := needR_len hq3
                have HQ3 := hide hq3
                have hr2 : ∀ w1 : World, Bx b B w w1 → RxB w1 b ov rv s (p + 1 + 1) (.slice (some ⟨g, 0, none⟩) n7 cap7) (st || x.2.2) → NumS w1 B (.slice (some ⟨g, 0, none⟩) n7 cap7) (xs ++ [-4 - (kk : Int)] ++ x.2.1) → p + 1 < s.size → s.data.toList.drop (p + 1 + 1) = r2 → Calls Tryd.prog 18 #[.pointer (some ⟨b, 0, none⟩)] w1 (RxP b B ov rv s (st || x.2.2) (xs ++ [-4 - (kk : Int)] ++ x.2.1) w1 (T r2)) := fun w1 k1 k2 k3 k4 k5 => by
                  have h8 : (xs ++ [-4 - (kk : Int)] ++ x.2.1).length = xs.length + 1 + x.2.1.length := by simp; omega
                  have h := HR.out w1 _ (p + 1 + 1) _ _ HLEN.out.1 (by omega) k2 (k1.big hBw) k3 (by rw [h8]; exact HLEN.out.2) k1
                  rw [k5] at h
                  exact h
                have HR2 := hide hr2
                clear htk hq3 hr2 hrl hrl2
                cases ht2 : T r2 with
                | none =>
                  rw [ht2] at HR2
                  have hon : o = none := by rw [HOO.out]; unfold openR; rw [HT1.out, Option.bind_some, HQ.out, Option.bind_some, HSR.out, Option.bind_some, HQ3.out, Option.bind_some, ht2]; rfl
                  have HON := hide hon
                  clear ht2 hon
                  go_wp2_with (first | (go_at_call 40; refine HTK.out.mono ?_; rintro e w8 ⟨hB, rfl, g1, g2, g3⟩; have HB8 : Hid (Bx b B w w8) := hide (HSB.out.trans (hB.mono d5)); have HC8 := hide (HR2.out w8 HB8.out g1 (numS_bx HOr.out hbB hB) g2 g3); clear hB g1 g2 g3) | (go_at_call 18; refine HC8.out.mono ?_; rintro e w9 ⟨hB, rfl⟩; have HB9 := hide hB; clear hB))
                  go_ret
                  exact rx_none HON.out (Bx.trans HB8.out HB9.out)
                | some z =>
                  rw [ht2] at HR2
                  have HT2 := hide ht2
                  clear ht2
                  cases hq4 : needR 41 z.1 with
                  | none =>
                    have hon : o = none := by rw [HOO.out]; unfold openR; rw [HT1.out, Option.bind_some, HQ.out, Option.bind_some, HSR.out, Option.bind_some, HQ3.out, Option.bind_some, HT2.out, Option.bind_some, hq4]; rfl
                    have HON := hide hon
                    have HQ4 := hide hq4
                    clear hon hq4
                    go_upto_region 0 with (first | (go_at_call 40; refine HTK.out.mono ?_; rintro e w8 ⟨hB, rfl, g1, g2, g3⟩; have HB8 : Hid (Bx b B w w8) := hide (HSB.out.trans (hB.mono d5)); have HC8 := hide (HR2.out w8 HB8.out g1 (numS_bx HOr.out hbB hB) g2 g3); clear hB g1 g2 g3 HTK) | (go_at_call 18; refine HC8.out.mono ?_; rintro e w9 ⟨hB, rfl, a9, fv9, g0, g1, g2, g3⟩; have HB9 : Hid (Bx b B w w9) := hide (HB8.out.trans hB); have h9 := takes_any b ov rv fv9 s ⟨#[41]⟩ a9 41 (st || x.2.2 || z.2.2) w9 hs g2 g0 rfl; rw [g1, HQ4.out] at h9; have HN9 := hide h9; have d6 := HB9.out.big hBw; clear hB g0 g1 g2 g3 h9 HC8) | (go_at_call 40; refine HN9.out.mono ?_; rintro e w10 ⟨hB, rfl, g1⟩; have HB10 : Hid (Bx b B w w10) := hide (HB9.out.trans (hB.mono d6)); clear hB g1))
                    go_ret
                    exact rx_none HON.out HB10.out
                  | some q4 =>
                    have hon : o = some (q4, (-4 - (kk : Int)) :: (x.2.1 ++ z.2.1), x.2.2 || z.2.2) := by rw [HOO.out]; unfold openR; rw [HT1.out, Option.bind_some, HQ.out, Option.bind_some, HSR.out, Option.bind_some, HQ3.out, Option.bind_some, HT2.out, Option.bind_some, hq4]; rfl
                    have HON := hide hon
                    have HQ4 := hide hq4
                    clear hon hq4
                    go_upto_region 0 with (first | (go_at_call 40; refine HTK.out.mono ?_; rintro e w8 ⟨hB, rfl, g1, g2, g3⟩; have HB8 : Hid (Bx b B w w8) := hide (HSB.out.trans (hB.mono d5)); have HC8 := hide (HR2.out w8 HB8.out g1 (numS_bx HOr.out hbB hB) g2 g3); clear hB g1 g2 g3 HTK) | (go_at_call 18; refine HC8.out.mono ?_; rintro e w9 ⟨hB, rfl, a9, fv9, g0, g1, g2, g3⟩; have HB9 : Hid (Bx b B w w9) := hide (HB8.out.trans hB); have h9 := takes_any b ov rv fv9 s ⟨#[41]⟩ a9 41 (st || x.2.2 || z.2.2) w9 hs g2 g0 rfl; rw [g1, HQ4.out] at h9; have HN9 := hide h9; have HO9 := hide g3; have d6 := HB9.out.big hBw; clear hB g0 g1 g2 g3 h9 HC8) | (go_at_call 40; refine HN9.out.mono ?_; rintro e w10 ⟨hB, rfl, g1, g2, g3⟩; have HB10 : Hid (Bx b B w w10) := hide (HB9.out.trans (hB.mono d6)); have HX10 := hide g1; have HO10 : Hid (NumS w10 B fv9 (xs ++ [-4 - (kk : Int)] ++ x.2.1 ++ z.2.1)) := hide (numS_bx HO9.out hbB hB); have HG10 := hide (And.intro g2 g3); clear hB g1 g2 g3))
                    go_ret
                    rw [← HG10.out.2] at HON
                    have hfin : NumS w10 B fv9 (xs ++ ((-4 - (kk : Int)) :: (x.2.1 ++ z.2.1))) := by
                      have h2 : xs ++ (-4 - (kk : Int)) :: (x.2.1 ++ z.2.1) = xs ++ [-4 - (kk : Int)] ++ x.2.1 ++ z.2.1 := by simp
                      rw [h2]
                      exact HO10.out
                    exact rx_some HON.out HB10.out (Bool.or_assoc _ _ _) (by have := HG10.out.1; omega) HX10.out hfin
end Go.Proofs.YtjimbcklnnhloaaDoor
/- The reader of a formula: the deferred closure that recovers. -/
namespace Go.Proofs.YtjimbcklnnhloaaDoor
open Go.RowKit
set_option linter.unusedVariables false
set_option linter.unusedSimpArgs false
theorem read_idle (p : Addr) (w : World) :
    CallsD Tryd.prog 36 #[.pointer (some p)] .returning w fun e u' w' => e = .returned (.tuple #[]) ∧ u' = .returning ∧ w' = w := by
  refine callsD_of_wpS Tryd.func36 rfl fun c₀ cs hu => ?_
  apply wpS_seq
  apply wpS_region
  simp [wpOpsS, go_sem, recoverD, hu, Tryd.ntmps36, Exit.thenS]
  refine wpS_of_wp ?_
  go_wp2
  exact ⟨rfl, _, (by rw [← hu]), _, results_none rfl _ _ _, rfl, rfl, rfl⟩
set_option maxRecDepth 100000 in
set_option maxHeartbeats 2000000 in
theorem read_caught (p : Addr) (x : Value) (w : World) (hc : w.cell? p = some x) (hz : w.frozen? p = false) (hp : p.block < w.heap.size) :
    CallsD Tryd.prog 36 #[.pointer (some p)] (.panicking badP) w fun e u' w' =>
      e = .returned (.tuple #[]) ∧ (∃ pe, u' = .panicking [pe] ∧ pe.recovered = true) ∧ w' = (w.alloc (.cells #[] 88)).setCell p (.bool false) := by
  have hta : ∀ w : World, (Instr.typeAssert (.iface 88 (.agg #[])) 20 88 true).run Tryd.prog w = .ok (.tuple #[.agg #[], .bool true]) w := fun w => by kernel_rfl
  have hB : Below w.heap.size w (w.alloc (.cells #[] 88)) := (Below.refl _ _).alloc (Nat.le_refl _) _
  have hc1 : (w.alloc (.cells #[] 88)).cell? p = some x := (hB.cell hp).trans hc
  have hz1 : (w.alloc (.cells #[] 88)).frozen? p = false := (hB.frozen hp).trans hz
  clear hB
  refine callsD_of_wpS Tryd.func36 rfl fun c₀ cs hu => ?_
  apply wpS_seq
  apply wpS_region
  simp [wpOpsS, go_sem, recoverD, hu, badP, Tryd.ntmps36, Exit.thenS]
  refine wpS_of_wp ?_
  go_upto_region 5 with (fail)
  go_wp2
  exact ⟨rfl, _, rfl, _, results_none rfl _ _ _, rfl, ⟨_, rfl, rfl⟩, rfl⟩
end Go.Proofs.YtjimbcklnnhloaaDoor
/- The reader of a formula: a whole text. -/
namespace Go.Proofs.YtjimbcklnnhloaaDoor
open Go.RowKit
set_option linter.unusedVariables false
set_option linter.unusedSimpArgs false
/-- What reading a whole text leaves. -/
def ReadP (b B : Nat) (nv : Value) (st : Bool) (w : World) (o : Option (List UInt8 × List Int × Bool)) (e : Ending) (w' : World) : Prop :=
  Below b w w' ∧ match o with
    | none => e = .returned (.bool false)
    | some x => e = .returned (.bool (decide (x.1 = []))) ∧ ∃ s' fv', RdB w' b nv s' fv' (st || x.2.2) ∧ NumS w' B fv' x.2.1
/-- The variable of the result. -/
def RtB (w : World) (g : Nat) (r : Bool) : Prop := w.heap[g]? = some (.cells #[.bool r] 4 (0, 0))
set_option maxRecDepth 100000 in
set_option maxHeartbeats 4000000 in
theorem read_none (b : Nat) (nv : Value) (s : ByteArray) (st : Bool) (fv : Value) (w : World) (hb : RdB w b nv s fv st)
    (hc : ∀ (w1 : World), Below w.heap.size w w1 → w1.heap.size = w.heap.size + 1 → Calls Tryd.prog 37 #[.pointer (some ⟨b, 0, none⟩)] w1 fun e w2 => e = .panicked badP ∧ Bx b (w.heap.size + 1) w1 w2) :
    Calls Tryd.prog 16 #[.pointer (some ⟨b, 0, none⟩)] w fun e w' => e = .returned (.bool false) ∧ Below b w w' := by
  have hmf : ∀ (fn : Fn) (first cap : Array Value) (w : World), (Instr.makeFunc fn first cap).run Tryd.prog w = .ok (.func fn first cap) w := fun _ _ _ _ => rfl
  have c3 := box_lt hb
  have HC := hide hc
  clear hc hb
  go_enter_defers Tryd.func16, Tryd.ntmps16
  go_wp2_with (go_at_call 37; refine (HC.out _ ((Below.refl _ _).alloc (Nat.le_refl _) _) (by simp)).mono ?_; rintro e w2 ⟨rfl, hB⟩; have HB := hide hB; clear hB)
  have hblk : RtB w2 w.heap.size false := (HB.out.mid w.heap.size c3 (Nat.lt_succ_self _)).trans (heap_alloc_new w _)
  have k0 : w2.cell? ⟨w.heap.size, 0, none⟩ = some (.bool false) := cellOf hblk 0
  have k1 := unfrozenOf hblk 0
  have k2 := box_lt hblk
  refine leaves_cons (f := 36) (args := #[.pointer (some ⟨w.heap.size, 0, none⟩)]) (by simp) (by simp [go_sem]) ?_
  refine (read_caught ⟨w.heap.size, 0, none⟩ _ _ k0 k1 k2).mono ?_
  rintro e u' w3 ⟨rfl, ⟨⟨pv, pr, pg⟩, rfl, hpe⟩, hw3⟩
  obtain rfl : pr = true := hpe
  have hB4 : Below w.heap.size w2 w3 := by
    rw [hw3]
    exact Below.setCell ((Below.refl _ _).alloc (Nat.le_of_lt k2) _) (Nat.le_refl _) _
  have k3 : RtB w3 w.heap.size false := by
    rw [hw3]
    have h1 : RtB (w2.alloc (.cells #[] 88)) w.heap.size false := (((Below.refl w2.heap.size w2).alloc (Nat.le_refl _) _).block _ k2).trans hblk
    exact setCellOf (i := 0) h1 (.bool false)
  have k4 : w3.cell? ⟨w.heap.size, 0, none⟩ = some (.bool false) := cellOf k3 0
  have HB4 := hide hB4
  have HW := hide hw3
  clear hB4 hw3
  simp [Leaves, settle, results, Tryd.results16, go_sem, k4]
  exact Below.trans ((Below.refl b w).alloc (Nat.le_of_lt c3) _) (Below.trans HB.out.low (HB4.out.mono (Nat.le_of_lt c3)))
set_option maxRecDepth 100000 in
set_option maxHeartbeats 4000000 in
theorem read_some (b : Nat) (nv : Value) (s : ByteArray) (st : Bool) (fv : Value) (w : World) (hb : RdB w b nv s fv st) (x : List UInt8 × List Int × Bool) (hx : x.1.length ≤ maxLen)
    (hc : ∀ (w1 : World), Below w.heap.size w w1 → w1.heap.size = w.heap.size + 1 → Calls Tryd.prog 37 #[.pointer (some ⟨b, 0, none⟩)] w1 fun e w2 => e = .returned (.tuple #[]) ∧ Bx b (w.heap.size + 1) w1 w2 ∧ ∃ s' fv', s'.data.toList = x.1 ∧ RdB w2 b nv s' fv' (st || x.2.2) ∧ NumS w2 (w.heap.size + 1) fv' x.2.1) :
    Calls Tryd.prog 16 #[.pointer (some ⟨b, 0, none⟩)] w fun e w' => e = .returned (.bool (decide (x.1 = []))) ∧ Below b w w' ∧ ∃ s' fv', RdB w' b nv s' fv' (st || x.2.2) ∧ NumS w' (w.heap.size + 1) fv' x.2.1 := by
  have hmf : ∀ (fn : Fn) (first cap : Array Value) (w : World), (Instr.makeFunc fn first cap).run Tryd.prog w = .ok (.func fn first cap) w := fun _ _ _ _ => rfl
  have c3 := box_lt hb
  have HC := hide hc
  have HX := hide hx
  obtain ⟨r, hr⟩ : ∃ r, decide (x.1 = []) = r := ⟨_, rfl⟩
  rw [hr]
  have HR := hide hr
  clear hc hb hx hr
  go_enter_defers Tryd.func16, Tryd.ntmps16
  go_upto_region 3 with (go_at_call 37; refine (HC.out _ ((Below.refl _ _).alloc (Nat.le_refl _) _) (by simp)).mono ?_; rintro e w2 ⟨rfl, hB, s2, fv2, g1, g2, g3⟩; have HB := hide hB; have HS2 := hide g1; have HX2 := hide g2; have HN2 := hide g3; clear hB g1 g2 g3)
  have hblk : RtB w2 w.heap.size false := (HB.out.mid w.heap.size c3 (Nat.lt_succ_self _)).trans (heap_alloc_new w _)
  have k0 : w2.cell? ⟨w.heap.size, 0, none⟩ = some (.bool false) := cellOf hblk 0
  have k1 := unfrozenOf hblk 0
  have k2 := box_lt hblk
  have k5 := cellOf HX2.out 1
  have k6 := box_lt HX2.out
  have hr2 : s2.toList.isEmpty = r := by
    rw [ByteArray.toList_eq, HS2.out, ← HR.out]
    cases x.1 <;> rfl
  have hr3 : (r = true) = (s2.toList = []) := by
    rw [← hr2]
    simp
  have hk : Hid (∀ y, RtB (w2.setCell ⟨w.heap.size, 0, none⟩ (.bool y)) w.heap.size y) := fun y => setCellOf (i := 0) hblk (.bool y)
  have HBK := hide hblk
  clear hr2 hblk
  cases r with
  | true =>
    have z1 : s2.toList = [] := by rw [← hr3]
    clear hr3
    go_wp2
    have k7 : (w2.setCell ⟨w.heap.size, 0, none⟩ (.bool true)).cell? ⟨w.heap.size, 0, none⟩ = some (.bool true) := cellOf (hk.out true) 0
    have HF := hide (show Below b w (w2.setCell ⟨w.heap.size, 0, none⟩ (.bool true)) ∧ RdB (w2.setCell ⟨w.heap.size, 0, none⟩ (.bool true)) b nv s2 fv2 (st || x.2.2) ∧ NumS (w2.setCell ⟨w.heap.size, 0, none⟩ (.bool true)) (w.heap.size + 1) fv2 x.2.1 from ⟨Below.setCell (Below.trans ((Below.refl b w).alloc (Nat.le_of_lt c3) _) HB.out.low) (Nat.le_of_lt c3) _, (heap_setCell_other w2 ⟨w.heap.size, 0, none⟩ b _ (Nat.ne_of_lt c3)).trans HX2.out, ownsRow_setCell_below HN2.out (Nat.lt_succ_self _) _⟩)
    generalize w2.setCell ⟨w.heap.size, 0, none⟩ (.bool true) = w3 at k7 HF ⊢
    refine leaves_cons (f := 36) (args := #[.pointer (some ⟨w.heap.size, 0, none⟩)]) (by simp) (by simp [go_sem]) ?_
    refine (read_idle ⟨w.heap.size, 0, none⟩ _).mono ?_
    rintro e u' w4 ⟨rfl, rfl, rfl⟩
    simp [Leaves, settle, results, Tryd.results16, go_sem, k7]
    obtain ⟨a1, a2, a3⟩ := HF.out
    exact ⟨a1, s2, fv2, a2, a3⟩
  | false =>
    have z1 : ¬ s2.toList = [] := by rw [← hr3]; simp
    clear hr3
    have z2 : s2.toList.isEmpty = false := by simpa using z1
    go_wp2
    have k7 : (w2.setCell ⟨w.heap.size, 0, none⟩ (.bool false)).cell? ⟨w.heap.size, 0, none⟩ = some (.bool false) := cellOf (hk.out false) 0
    have HF := hide (show Below b w (w2.setCell ⟨w.heap.size, 0, none⟩ (.bool false)) ∧ RdB (w2.setCell ⟨w.heap.size, 0, none⟩ (.bool false)) b nv s2 fv2 (st || x.2.2) ∧ NumS (w2.setCell ⟨w.heap.size, 0, none⟩ (.bool false)) (w.heap.size + 1) fv2 x.2.1 from ⟨Below.setCell (Below.trans ((Below.refl b w).alloc (Nat.le_of_lt c3) _) HB.out.low) (Nat.le_of_lt c3) _, (heap_setCell_other w2 ⟨w.heap.size, 0, none⟩ b _ (Nat.ne_of_lt c3)).trans HX2.out, ownsRow_setCell_below HN2.out (Nat.lt_succ_self _) _⟩)
    generalize w2.setCell ⟨w.heap.size, 0, none⟩ (.bool false) = w3 at k7 HF ⊢
    refine leaves_cons (f := 36) (args := #[.pointer (some ⟨w.heap.size, 0, none⟩)]) (by simp) (by simp [go_sem]) ?_
    refine (read_idle ⟨w.heap.size, 0, none⟩ _).mono ?_
    rintro e u' w4 ⟨rfl, rfl, rfl⟩
    simp [Leaves, settle, results, Tryd.results16, go_sem, k7]
    obtain ⟨a1, a2, a3⟩ := HF.out
    exact ⟨a1, s2, fv2, a2, a3⟩
/-- Reading a whole text. -/
theorem read_any (ns : List ByteArray) (b : Nat) (hb0 : 0 < b) (hnl : ns.length ≤ maxLen) (nv : Value) (s : ByteArray) (st : Bool) (w : World) (hs : s.size ≤ 1000000) (hb : RdB w b nv s (.slice none 0 0) st) (hns : Names w b nv ns) (hsg : SgnAt w 0) (o : Option (List UInt8 × List Int × Bool)) (ho : termR (ns.map fun x => x.data.toList) s.size s.data.toList = o) :
    Calls Tryd.prog 16 #[.pointer (some ⟨b, 0, none⟩)] w (ReadP b (w.heap.size + 1) nv st w o) := by
  have c3 := box_lt hb
  have hm : s.size ≤ maxLen := by unfold maxLen; omega
  have hc : ∀ (w1 : World), Below w.heap.size w w1 → w1.heap.size = w.heap.size + 1 → Calls Tryd.prog 37 #[.pointer (some ⟨b, 0, none⟩)] w1 (RdP b (w.heap.size + 1) nv st [] w1 o) := by
    intro w1 hB1 hz
    rw [← ho]
    have hBb := hB1.mono (Nat.le_of_lt c3)
    refine term_any ns nv b (w.heap.size + 1) (by omega) hb0 hnl s.size s (.slice none 0 0) st [] w1 (Nat.le_refl _) hm ((hB1.block b c3).trans hb) (by omega) ?_ (by simpa using hs) (hns.below hBb) ?_
    · exact ⟨by simp, .inl ⟨rfl, rfl⟩⟩
    · intro j hj
      have h1 := hsg j hj
      rw [← hBb.cell (p := ⟨0, j, none⟩) hb0] at h1
      exact h1
  cases o with
  | none =>
    refine (read_none b nv s st _ w hb fun w1 h1 h2 => (hc w1 h1 h2).mono fun e w2 h => ⟨h.2, h.1⟩).mono fun e w' h => ⟨h.2, h.1⟩
  | some x =>
    have hl := termR_rest _ _ _ ho
    rw [size_dl] at hl
    refine (read_some b nv s st _ w hb x (by omega) fun w1 h1 h2 => (hc w1 h1 h2).mono fun e w2 h => ⟨h.2.1, h.1, h.2.2⟩).mono fun e w' h => ⟨h.2.1, h.1, h.2.2⟩
end Go.Proofs.YtjimbcklnnhloaaDoor
/- The same list of numbers: walk (as in F59, without what Core needs). -/
namespace Go.Proofs.YtjimbcklnnhloaaDoor
open Go.RowKit
set_option linter.unusedVariables false
set_option linter.unusedSimpArgs false
theorem ints_own {w : World} {base : Nat} {v : Value} {l : List Int} (h : w.ownsRow base 3 1 v l.length (l.map (Value.int .i64))) : Ints w w.heap.size v l :=
  Sl.of_owns h fun i j hi hj => by
    obtain rfl : j = 0 := by omega
    rw [Nat.mul_one, Nat.add_zero, List.getElem?_map]
    simp [hi]
set_option maxRecDepth 100000 in
set_option maxHeartbeats 2000000 in
theorem sameInts_any (a b : List Int) (u v : Value) (w : World) (ha : Ints w w.heap.size u a) (hb : Ints w w.heap.size v b) (hal : a.length ≤ 1000) (hbl : b.length ≤ maxLen) :
    Calls Tryd.prog 8 #[u, v] w fun e w' => e = .returned (.bool (decide (a = b))) ∧ Below w.heap.size w w' := by
  obtain ⟨A, b0, off, cap, rfl, hnc, hA, hc⟩ := ha
  obtain ⟨A', b1, off1, cap1, rfl, hnc1, hA1, hc1⟩ := hb
  unfold maxLen at hbl
  by_cases hl : a.length = b.length
  · have hl1 : ((a.length : Int) != (b.length : Int)) = false := by simp [hl]
    have HL := hide hl
    have HC := hide hc
    have HC1 := hide hc1
    have HA := hide hA
    have HA1 := hide hA1
    clear hl hc hc1 hA hA1
    go_enter Tryd.func8, Tryd.ntmps8
    go_wp2
    go_loopw [5] (fun i wr => ∃ k : Nat, k ≤ a.length ∧ i = .int .i64 k ∧ Hid (∀ j, j < k → a.getD j 0 = b.getD j 0) ∧ Below w.heap.size w wr) (fun i _ => a.length - (intOf i).toNat)
    case atStart => exact ⟨0, Nat.zero_le _, rfl, fun j hj => by omega, Below.refl _ _⟩
    case round =>
      obtain ⟨k, hk, rfl, hall, hB⟩ := hrel
      by_cases hkl : k < a.length
      · have hkb : k < b.length := by have := HL.out; omega
        obtain ⟨rfl, hbb⟩ : A = some ⟨b0, off, none⟩ ∧ b0 < w.heap.size := by
          rcases HA.out with h | h
          · exact h
          · omega
        obtain ⟨rfl, hbb1⟩ : A' = some ⟨b1, off1, none⟩ ∧ b1 < w.heap.size := by
          rcases HA1.out with h | h
          · exact h
          · omega
        obtain ⟨x, hx⟩ : ∃ x, a.getD k 0 = x := ⟨_, rfl⟩
        obtain ⟨y, hy⟩ : ∃ y, b.getD k 0 = y := ⟨_, rfl⟩
        have c0 : wr.cell? ⟨b0, off + k, none⟩ = some (.int .i64 x) := by
          have h1 := HC.out k 0 hkl (by omega)
          rw [Nat.mul_one, Nat.add_zero, hx] at h1
          exact (hB.cell (p := ⟨b0, off + k, none⟩) hbb).trans h1
        have c1 : wr.cell? ⟨b1, off1 + k, none⟩ = some (.int .i64 y) := by
          have h1 := HC1.out k 0 hkb (by omega)
          rw [Nat.mul_one, Nat.add_zero, hy] at h1
          exact (hB.cell (p := ⟨b1, off1 + k, none⟩) hbb1).trans h1
        have hsz := hB.size
        have l0 : b0 < wr.heap.size := by omega
        have l1 : b1 < wr.heap.size := by omega
        have j0 : (0 : Int) ≤ (k : Int) := by omega
        have j1 : (k : Int) < (a.length : Int) := by omega
        have j2 : (k : Int) < (b.length : Int) := by omega
        have HXY := hide (And.intro hx hy)
        clear hx hy
        by_cases hxy : x = y
        · have hne : (x != y) = false := by simp [hxy]
          have HE := hide hxy
          clear hxy
          go_wp2_with fail
          refine wp_region_held_drew (S := (fun w' => Below wr.heap.size wr w')) (by kernel_rfl) ?_ (fun hHeld => ?_)
          · try dsimp only
            exact (by repeat (first | exact Below.refl _ _ | assumption | refine Below.drew ?_ | refine Below.drewN ?_ _ | refine Below.allocT ?_ (Nat.le_refl _) _ | refine Below.setCell ?_ (by simp <;> omega) _ | refine Below.to ?_ (by assumption) (Nat.le_refl _)))
          refine wpAnyH_take (i := 0) (v := ?v1_0) rfl (by kernel_rfl) (by kernel_rfl) (by kernel_rfl) (fun _ _ _ h => h) (Or.inl ⟨by rfl, ?y1_0⟩) (by assumption) ?r1_0
          case' y1_0 => (intro w hSw; (try dsimp only at hSw); (try have hlS := HLK.out _ hSw); obtain ⟨hcS, hfS⟩ := bcell hSw; clear hSw; go_simp; try with_reducible rfl)
          try simp only [Act.put, List.getElem_toArray, List.getElem_cons_succ, List.getElem_cons_zero, List.setIfInBounds_toArray, List.set_cons_zero, List.set_cons_succ]
          refine wpAnyH_take (i := 1) (v := ?v1_1) rfl (by kernel_rfl) (by kernel_rfl) (by kernel_rfl) (fun _ _ _ h => h) (Or.inl ⟨by rfl, ?y1_1⟩) (by assumption) ?r1_1
          case' y1_1 => (intro w hSw; (try dsimp only at hSw); (try have hlS := HLK.out _ hSw); obtain ⟨hcS, hfS⟩ := bcell hSw; clear hSw; go_simp; try with_reducible rfl)
          try simp only [Act.put, List.getElem_toArray, List.getElem_cons_succ, List.getElem_cons_zero, List.setIfInBounds_toArray, List.set_cons_zero, List.set_cons_succ]
          refine wpAnyH_take (i := 2) (v := ?v1_2) rfl (by kernel_rfl) (by kernel_rfl) (by kernel_rfl) (fun _ _ _ h => h) (Or.inl ⟨by rfl, ?y1_2⟩) (by assumption) ?r1_2
          case' y1_2 => (intro w hSw; (try dsimp only at hSw); (try have hlS := HLK.out _ hSw); obtain ⟨hcS, hfS⟩ := bcell hSw; clear hSw; go_simp; try with_reducible rfl)
          try simp only [Act.put, List.getElem_toArray, List.getElem_cons_succ, List.getElem_cons_zero, List.setIfInBounds_toArray, List.set_cons_zero, List.set_cons_succ]
          refine wpAnyH_take (i := 3) (v := ?v1_3) rfl (by kernel_rfl) (by kernel_rfl) (by kernel_rfl) (fun _ _ _ h => h) (Or.inl ⟨by rfl, ?y1_3⟩) (by assumption) ?r1_3
          case' y1_3 => (intro w hSw; (try dsimp only at hSw); (try have hlS := HLK.out _ hSw); obtain ⟨hcS, hfS⟩ := bcell hSw; clear hSw; go_simp; try with_reducible rfl)
          try simp only [Act.put, List.getElem_toArray, List.getElem_cons_succ, List.getElem_cons_zero, List.setIfInBounds_toArray, List.set_cons_zero, List.set_cons_succ]
          refine wpAnyH_take (i := 4) (v := ?v1_4) rfl (by kernel_rfl) (by kernel_rfl) (by kernel_rfl) (fun _ _ _ h => h) (Or.inl ⟨by rfl, ?y1_4⟩) (by assumption) ?r1_4
          case' y1_4 => (intro w hSw; (try dsimp only at hSw); (try have hlS := HLK.out _ hSw); obtain ⟨hcS, hfS⟩ := bcell hSw; clear hSw; go_simp; try with_reducible rfl)
          try simp only [Act.put, List.getElem_toArray, List.getElem_cons_succ, List.getElem_cons_zero, List.setIfInBounds_toArray, List.set_cons_zero, List.set_cons_succ]
          refine wpAnyH_take (i := 5) (v := ?v1_5) rfl (by kernel_rfl) (by kernel_rfl) (by kernel_rfl) (fun _ _ _ h => h) (Or.inl ⟨by rfl, ?y1_5⟩) (by assumption) ?r1_5
          case' y1_5 => (intro w hSw; (try dsimp only at hSw); (try have hlS := HLK.out _ hSw); obtain ⟨hcS, hfS⟩ := bcell hSw; clear hSw; go_simp; try with_reducible rfl)
          try simp only [Act.put, List.getElem_toArray, List.getElem_cons_succ, List.getElem_cons_zero, List.setIfInBounds_toArray, List.set_cons_zero, List.set_cons_succ]
          refine wpAnyH_take (i := 6) (v := ?v1_6) rfl (by kernel_rfl) (by kernel_rfl) (by kernel_rfl) (fun _ _ _ h => h) (Or.inl ⟨by rfl, ?y1_6⟩) (by assumption) ?r1_6
          case' y1_6 => (intro w hSw; (try dsimp only at hSw); (try have hlS := HLK.out _ hSw); obtain ⟨hcS, hfS⟩ := bcell hSw; clear hSw; go_simp; try with_reducible rfl)
          try simp only [Act.put, List.getElem_toArray, List.getElem_cons_succ, List.getElem_cons_zero, List.setIfInBounds_toArray, List.set_cons_zero, List.set_cons_succ]
          refine wpAnyH_take (i := 7) (v := ?v1_7) rfl (by kernel_rfl) (by kernel_rfl) (by kernel_rfl) (fun _ _ _ h => h) (Or.inl ⟨by rfl, ?y1_7⟩) (by assumption) ?r1_7
          case' y1_7 => (intro w hSw; (try dsimp only at hSw); (try have hlS := HLK.out _ hSw); obtain ⟨hcS, hfS⟩ := bcell hSw; clear hSw; go_simp; try with_reducible rfl)
          try simp only [Act.put, List.getElem_toArray, List.getElem_cons_succ, List.getElem_cons_zero, List.setIfInBounds_toArray, List.set_cons_zero, List.set_cons_succ]
          refine wpAnyH_take (i := 8) (v := ?v1_8) rfl (by kernel_rfl) (by kernel_rfl) (by kernel_rfl) (fun _ _ _ h => h) (Or.inl ⟨by rfl, ?y1_8⟩) (by assumption) ?r1_8
          case' y1_8 => (intro w hSw; (try dsimp only at hSw); (try have hlS := HLK.out _ hSw); obtain ⟨hcS, hfS⟩ := bcell hSw; clear hSw; go_simp; try with_reducible rfl)
          try simp only [Act.put, List.getElem_toArray, List.getElem_cons_succ, List.getElem_cons_zero, List.setIfInBounds_toArray, List.set_cons_zero, List.set_cons_succ]
          refine wpAnyH_done (by kernel_rfl) ?_ _
          go_wp2_with fail
          go_roundw
          case rel => exact ⟨k + 1, by omega, by go_num, fun j hj => by
              rcases Nat.lt_or_ge j k with h | h
              · exact hall.out j h
              · rw [show j = k from by omega, HXY.out.1, HXY.out.2, HE.out], Below.to hB hHeld (Nat.le_refl _)⟩
          case measure => simp [intOf]; omega
        · have hne : (x != y) = true := by simpa using hxy
          have HE := hide hxy
          clear hxy
          go_wp2_with fail
          refine wp_region_held_drew (S := (fun w' => Below wr.heap.size wr w')) (by kernel_rfl) ?_ (fun hHeld => ?_)
          · try dsimp only
            exact (by repeat (first | exact Below.refl _ _ | assumption | refine Below.drew ?_ | refine Below.drewN ?_ _ | refine Below.allocT ?_ (Nat.le_refl _) _ | refine Below.setCell ?_ (by simp <;> omega) _ | refine Below.to ?_ (by assumption) (Nat.le_refl _)))
          refine wpAnyH_take (i := 0) (v := ?v2_0) rfl (by kernel_rfl) (by kernel_rfl) (by kernel_rfl) (fun _ _ _ h => h) (Or.inl ⟨by rfl, ?y2_0⟩) (by assumption) ?r2_0
          case' y2_0 => (intro w hSw; (try dsimp only at hSw); (try have hlS := HLK.out _ hSw); obtain ⟨hcS, hfS⟩ := bcell hSw; clear hSw; go_simp; try with_reducible rfl)
          try simp only [Act.put, List.getElem_toArray, List.getElem_cons_succ, List.getElem_cons_zero, List.setIfInBounds_toArray, List.set_cons_zero, List.set_cons_succ]
          refine wpAnyH_take (i := 1) (v := ?v2_1) rfl (by kernel_rfl) (by kernel_rfl) (by kernel_rfl) (fun _ _ _ h => h) (Or.inl ⟨by rfl, ?y2_1⟩) (by assumption) ?r2_1
          case' y2_1 => (intro w hSw; (try dsimp only at hSw); (try have hlS := HLK.out _ hSw); obtain ⟨hcS, hfS⟩ := bcell hSw; clear hSw; go_simp; try with_reducible rfl)
          try simp only [Act.put, List.getElem_toArray, List.getElem_cons_succ, List.getElem_cons_zero, List.setIfInBounds_toArray, List.set_cons_zero, List.set_cons_succ]
          refine wpAnyH_take (i := 2) (v := ?v2_2) rfl (by kernel_rfl) (by kernel_rfl) (by kernel_rfl) (fun _ _ _ h => h) (Or.inl ⟨by rfl, ?y2_2⟩) (by assumption) ?r2_2
          case' y2_2 => (intro w hSw; (try dsimp only at hSw); (try have hlS := HLK.out _ hSw); obtain ⟨hcS, hfS⟩ := bcell hSw; clear hSw; go_simp; try with_reducible rfl)
          try simp only [Act.put, List.getElem_toArray, List.getElem_cons_succ, List.getElem_cons_zero, List.setIfInBounds_toArray, List.set_cons_zero, List.set_cons_succ]
          refine wpAnyH_take (i := 3) (v := ?v2_3) rfl (by kernel_rfl) (by kernel_rfl) (by kernel_rfl) (fun _ _ _ h => h) (Or.inl ⟨by rfl, ?y2_3⟩) (by assumption) ?r2_3
          case' y2_3 => (intro w hSw; (try dsimp only at hSw); (try have hlS := HLK.out _ hSw); obtain ⟨hcS, hfS⟩ := bcell hSw; clear hSw; go_simp; try with_reducible rfl)
          try simp only [Act.put, List.getElem_toArray, List.getElem_cons_succ, List.getElem_cons_zero, List.setIfInBounds_toArray, List.set_cons_zero, List.set_cons_succ]
          refine wpAnyH_take (i := 4) (v := ?v2_4) rfl (by kernel_rfl) (by kernel_rfl) (by kernel_rfl) (fun _ _ _ h => h) (Or.inl ⟨by rfl, ?y2_4⟩) (by assumption) ?r2_4
          case' y2_4 => (intro w hSw; (try dsimp only at hSw); (try have hlS := HLK.out _ hSw); obtain ⟨hcS, hfS⟩ := bcell hSw; clear hSw; go_simp; try with_reducible rfl)
          try simp only [Act.put, List.getElem_toArray, List.getElem_cons_succ, List.getElem_cons_zero, List.setIfInBounds_toArray, List.set_cons_zero, List.set_cons_succ]
          refine wpAnyH_take (i := 5) (v := ?v2_5) rfl (by kernel_rfl) (by kernel_rfl) (by kernel_rfl) (fun _ _ _ h => h) (Or.inl ⟨by rfl, ?y2_5⟩) (by assumption) ?r2_5
          case' y2_5 => (intro w hSw; (try dsimp only at hSw); (try have hlS := HLK.out _ hSw); obtain ⟨hcS, hfS⟩ := bcell hSw; clear hSw; go_simp; try with_reducible rfl)
          try simp only [Act.put, List.getElem_toArray, List.getElem_cons_succ, List.getElem_cons_zero, List.setIfInBounds_toArray, List.set_cons_zero, List.set_cons_succ]
          refine wpAnyH_take (i := 6) (v := ?v2_6) rfl (by kernel_rfl) (by kernel_rfl) (by kernel_rfl) (fun _ _ _ h => h) (Or.inl ⟨by rfl, ?y2_6⟩) (by assumption) ?r2_6
          case' y2_6 => (intro w hSw; (try dsimp only at hSw); (try have hlS := HLK.out _ hSw); obtain ⟨hcS, hfS⟩ := bcell hSw; clear hSw; go_simp; try with_reducible rfl)
          try simp only [Act.put, List.getElem_toArray, List.getElem_cons_succ, List.getElem_cons_zero, List.setIfInBounds_toArray, List.set_cons_zero, List.set_cons_succ]
          refine wpAnyH_take (i := 7) (v := ?v2_7) rfl (by kernel_rfl) (by kernel_rfl) (by kernel_rfl) (fun _ _ _ h => h) (Or.inl ⟨by rfl, ?y2_7⟩) (by assumption) ?r2_7
          case' y2_7 => (intro w hSw; (try dsimp only at hSw); (try have hlS := HLK.out _ hSw); obtain ⟨hcS, hfS⟩ := bcell hSw; clear hSw; go_simp; try with_reducible rfl)
          try simp only [Act.put, List.getElem_toArray, List.getElem_cons_succ, List.getElem_cons_zero, List.setIfInBounds_toArray, List.set_cons_zero, List.set_cons_succ]
          refine wpAnyH_take (i := 8) (v := ?v2_8) rfl (by kernel_rfl) (by kernel_rfl) (by kernel_rfl) (fun _ _ _ h => h) (Or.inl ⟨by rfl, ?y2_8⟩) (by assumption) ?r2_8
          case' y2_8 => (intro w hSw; (try dsimp only at hSw); (try have hlS := HLK.out _ hSw); obtain ⟨hcS, hfS⟩ := bcell hSw; clear hSw; go_simp; try with_reducible rfl)
          try simp only [Act.put, List.getElem_toArray, List.getElem_cons_succ, List.getElem_cons_zero, List.setIfInBounds_toArray, List.set_cons_zero, List.set_cons_succ]
          refine wpAnyH_done (by kernel_rfl) ?_ _
          go_wp2_with fail
          go_ret
          refine ⟨ret_bool (Eq.symm (decide_eq_false fun e => HE.out ?_)), (by repeat (first | exact Below.refl _ _ | assumption | refine Below.drew ?_ | refine Below.drewN ?_ _ | refine Below.allocT ?_ (Nat.le_refl _) _ | refine Below.setCell ?_ (by simp <;> omega) _ | refine Below.to ?_ (by assumption) (Nat.le_refl _)))⟩
          rw [← HXY.out.1, ← HXY.out.2, e]
      · obtain rfl : k = a.length := by omega
        go_wp2
        go_ret
        refine ⟨ret_bool (Eq.symm (decide_eq_true ?_)), hB⟩
        apply List.ext_getElem HL.out
        intro i h1 h2
        have := hall.out i h1
        simpa [List.getD_eq_getElem?_getD, h1, h2] using this
  · have hl1 : ((a.length : Int) != (b.length : Int)) = true := by simp; omega
    have HL := hide hl
    clear hl hc hc1 hA hA1
    go_enter Tryd.func8, Tryd.ntmps8
    go_wp2
    go_ret
    exact ⟨ret_bool (Eq.symm (decide_eq_false fun e => HL.out (by rw [e]))), (by repeat (first | exact Below.refl _ _ | assumption | refine Below.drew ?_ | refine Below.drewN ?_ _ | refine Below.allocT ?_ (Nat.le_refl _) _ | refine Below.setCell ?_ (by simp <;> omega) _ | refine Below.to ?_ (by assumption) (Nat.le_refl _)))⟩
end Go.Proofs.YtjimbcklnnhloaaDoor
/- Parse: walk. -/
namespace Go.Proofs.YtjimbcklnnhloaaDoor
open Go.RowKit
set_option linter.unusedVariables false
set_option linter.unusedSimpArgs false
/-- What reading a text leaves. -/
def parO (m : Mo) (s : ByteArray) : Option (List UInt8 × List Int × Bool) := termR m.names s.size s.data.toList
/-- The error of Parse, from what reading leaves. -/
def parEo : Option (List UInt8 × List Int × Bool) → Int
  | none => 4
  | some x => if x.1 = [] then (if x.2.2 = true then 10 else if 100 < x.2.1.length then 11 else 0) else 4
def parFo : Option (List UInt8 × List Int × Bool) → List Int
  | none => []
  | some x => if x.1 = [] then (if x.2.2 = true then [] else if 100 < x.2.1.length then [] else x.2.1) else []
def parE (m : Mo) (s : ByteArray) : Int := if m.err ≠ 0 then m.err else if 65536 < s.size then 2 else parEo (parO m s)
def parF (m : Mo) (s : ByteArray) : List Int := if m.err ≠ 0 then [] else if 65536 < s.size then [] else parFo (parO m s)
/-- What Parse leaves. -/
def ParP (w : World) (z : Int) (f : List Int) (e : Ending) (w' : World) : Prop := ∃ v, e = .returned (.tuple #[v, .int .i64 z]) ∧ Ints w' w'.heap.size v f ∧ Below w.heap.size w w'
theorem ints_nil (w : World) (B : Nat) : Ints w B (.slice none 0 0) [] := ⟨none, 0, 0, 0, rfl, Nat.le_refl _, .inr rfl, fun i j hi _ => by simp at hi⟩
theorem parP_nil {w w' : World} {z : Int} (hB : Below w.heap.size w w') : ParP w z [] (.returned (.tuple #[.slice none 0 0, .int .i64 z])) w' := ⟨_, rfl, ints_nil _ _, hB⟩
set_option maxRecDepth 100000 in
set_option maxHeartbeats 4000000 in
theorem Parse_err (m : Mo) (s : ByteArray) (ov rv : Value) (w : World) (hs : SizedM m) (h : MoAt w w.heap.size ov rv m) (he : m.err ≠ 0) :
    Calls Tryd.prog 6 #[.agg #[ov, rv], .string s] w (ParP w m.err []) := by
  obtain ⟨A, cap, hov⟩ := Sl.form h.o
  obtain ⟨Ar, capr, hrv⟩ := h.r.form
  have H := hide h
  have HS := hide hs
  obtain ⟨z, hz⟩ : ∃ z, m.err = z := ⟨_, rfl⟩
  rw [hz] at he ⊢
  have hz1 : (z != 0) = true := by simpa using he
  have HZ := hide hz
  subst hov hrv
  clear h hs he hz
  go_enter Tryd.func6, Tryd.ntmps6
  go_upto_region 1 with (fail)
  generalize hw0 : World.alloc _ _ = w0
  obtain ⟨hb0, hB0, hs0⟩ := alloc1 hw0
  clear hw0
  have HX0 : Hid (MoBox w0 w.heap.size (.slice A m.opts.length cap) (.slice Ar m.rules.length capr)) := hb0
  have HB0 := hide hB0
  have c0 := cellOf hb0 0
  have c1 := cellOf hb0 1
  clear hb0 hB0
  go_wp2_with (go_at_call 15; refine (CheckModel_any m _ _ _ HS.out (H.out.up HB0.out)).mono ?_; rw [HZ.out]; rintro e w1 ⟨rfl, hB1⟩)
  go_ret2
  exact parP_nil (Below.to HB0.out hB1 (Nat.le_refl _))
set_option maxRecDepth 100000 in
set_option maxHeartbeats 4000000 in
theorem Parse_big (m : Mo) (s : ByteArray) (ov rv : Value) (w : World) (hs : SizedM m) (h : MoAt w w.heap.size ov rv m) (he : m.err = 0) (hm : s.size ≤ maxLen) (hb : 65536 < s.size) :
    Calls Tryd.prog 6 #[.agg #[ov, rv], .string s] w (ParP w 2 []) := by
  obtain ⟨A, cap, hov⟩ := Sl.form h.o
  obtain ⟨Ar, capr, hrv⟩ := h.r.form
  have H := hide h
  have HS := hide hs
  have HZ := hide he
  have hb1 : decide ((65536 : Int) < (s.size : Int)) = true := by simp; omega
  have hb2 : (65536 : Int) < (s.size : Int) := by omega
  subst hov hrv
  unfold maxLen at hm
  clear h hs he hb
  go_enter Tryd.func6, Tryd.ntmps6
  go_upto_region 1 with (fail)
  generalize hw0 : World.alloc _ _ = w0
  obtain ⟨hb0, hB0, hs0⟩ := alloc1 hw0
  clear hw0
  have HX0 : Hid (MoBox w0 w.heap.size (.slice A m.opts.length cap) (.slice Ar m.rules.length capr)) := hb0
  have HB0 := hide hB0
  have c0 := cellOf hb0 0
  have c1 := cellOf hb0 1
  clear hb0 hB0
  go_wp2_with (go_at_call 15; refine (CheckModel_any m _ _ _ HS.out (H.out.up HB0.out)).mono ?_; rw [HZ.out]; rintro e w1 ⟨rfl, hB1⟩)
  go_ret2
  exact parP_nil (Below.to HB0.out hB1 (Nat.le_refl _))
set_option maxRecDepth 100000 in
set_option maxHeartbeats 8000000 in
theorem Parse_read (m : Mo) (s : ByteArray) (ov rv : Value) (w : World) (hs : SizedM m) (h : MoAt w w.heap.size ov rv m) (he : m.err = 0) (hl : s.size ≤ 2000) (hsg : SgnAt w 0) (h0 : 0 < w.heap.size) (o : Option (List UInt8 × List Int × Bool)) (ho : parO m s = o) :
    Calls Tryd.prog 6 #[.agg #[ov, rv], .string s] w (ParP w (parEo o) (parFo o)) := by
  obtain ⟨A, cap, hov⟩ := Sl.form h.o
  obtain ⟨Ar, capr, hrv⟩ := h.r.form
  have H := hide h
  have HS := hide hs
  have HZ := hide he
  have HSG := hide hsg
  have HO := hide ho
  have hb1 : decide ((65536 : Int) < (s.size : Int)) = false := by simp; omega
  have hb2 : ¬ (65536 : Int) < (s.size : Int) := by omega
  subst hov hrv
  obtain ⟨z, hz⟩ : ∃ z, parEo o = z := ⟨_, rfl⟩
  obtain ⟨f, hf⟩ : ∃ f, parFo o = f := ⟨_, rfl⟩
  rw [hz, hf]
  have HEZ := hide hz
  have HEF := hide hf
  clear h hs he hsg ho hz hf
  go_enter Tryd.func6, Tryd.ntmps6
  go_upto_region 1 with (fail)
  generalize hw0 : World.alloc _ _ = w0
  obtain ⟨hb0, hB0, hs0⟩ := alloc1 hw0
  clear hw0
  have HX0 : Hid (MoBox w0 w.heap.size (.slice A m.opts.length cap) (.slice Ar m.rules.length capr)) := hb0
  have HB0 := hide hB0
  have c0 := cellOf hb0 0
  have c1 := cellOf hb0 1
  clear hb0 hB0
  go_upto_region 4 with (go_at_call 15; refine (CheckModel_any m _ _ _ HS.out (H.out.up HB0.out)).mono ?_; rw [HZ.out]; rintro e w1 ⟨rfl, hB1⟩; have hX1 := box_to HX0.out hB1; have HB1 : Hid (Below w.heap.size w w1) := Below.to HB0.out hB1 (Nat.le_refl _); have d0 := cellOf hX1 0; have d1 := box_lt hX1; clear hB1 hX1 c0 c1)
  go_upto_region 7 with (fail)
  generalize hw0 : World.alloc _ _ = w2
  obtain ⟨hb0, hB0, hs0⟩ := alloc1 hw0
  clear hw0
  have HX2 : Hid (RdB w2 w1.heap.size (.slice A m.opts.length cap) s (.slice none 0 0) false) := hb0
  have HB2 : Hid (Below w.heap.size w w2) := hide (Below.to HB1.out hB0 (Nat.le_refl _))
  have hnm : Names w2 w1.heap.size (.slice A m.opts.length cap) m.opts := (H.out.o.below HB2.out).more (by omega)
  have hs2 : SgnAt w2 0 := fun j hj => by
    have h1 := HSG.out j hj
    rw [← HB2.out.cell (p := ⟨0, j, none⟩) h0] at h1
    exact h1
  have hrd := read_any m.opts w1.heap.size (by omega) HS.out.n (.slice A m.opts.length cap) s false w2 (by omega) HX2.out hnm hs2 o HO.out
  have HR := hide hrd
  have HB2' : Hid (Below w.heap.size w w2 ∧ w.heap.size ≤ w1.heap.size) := ⟨HB2.out, Nat.le_of_lt d1⟩
  clear hb0 hB0 hnm hs2 hrd d0 d1
  cases o with
  | none =>
    go_wp2_with (go_at_call 16; refine HR.out.mono ?_; rintro e w3 ⟨hB3, rfl⟩; have HB3 := hide hB3; clear hB3)
    go_ret2
    rw [← HEZ.out, ← HEF.out]
    exact parP_nil (Below.trans HB2'.out.1 (HB3.out.mono HB2'.out.2))
  | some x =>
    obtain ⟨l, fx, sx⟩ := x
    have HB4 : Hid (∀ w3, Below w1.heap.size w2 w3 → Below w.heap.size w w3) := fun w3 hB3 => Below.trans HB2'.out.1 (hB3.mono HB2'.out.2)
    by_cases hx : l = []
    · subst hx
      go_upto_region 9 with (go_at_call 16; refine HR.out.mono ?_; rintro e w3 ⟨hB3, rfl, s3, fv3, g1, g2⟩; have HB3 := hide (HB4.out w3 hB3); have HX3 := hide g1; have HN3 := hide g2; have k0 := cellOf g1 2; have k1 := cellOf g1 3; have k2 := box_lt g1; clear hB3 g1 g2)
      obtain ⟨A3, cap3, hfv⟩ := owns_shape HN3.out
      subst hfv
      cases sx with
      | true =>
        go_wp2
        go_ret2
        rw [← HEZ.out, ← HEF.out]
        exact parP_nil HB3.out
      | false =>
        by_cases h100 : 100 < fx.length
        · have e1 : decide ((100 : Int) < (fx.length : Int)) = true := by simp; omega
          have e2 : (100 : Int) < (fx.length : Int) := by omega
          have hz : z = 11 := by rw [← HEZ.out]; simp [parEo, h100]
          have hf : f = [] := by rw [← HEF.out]; simp [parFo, h100]
          have HZ1 := hide hz
          have HF1 := hide hf
          clear h100 hz hf
          go_wp2
          go_ret2
          rw [HZ1.out, HF1.out]
          exact parP_nil HB3.out
        · have e1 : decide ((100 : Int) < (fx.length : Int)) = false := by simp; omega
          have e2 : ¬ (100 : Int) < (fx.length : Int) := by omega
          have hz : z = 0 := by rw [← HEZ.out]; simp [parEo, h100]
          have hf : f = fx := by rw [← HEF.out]; simp [parFo, h100]
          have HZ1 := hide hz
          have HF1 := hide hf
          clear h100 hz hf
          go_wp2
          go_ret2
          rw [HZ1.out, HF1.out]
          exact ⟨_, rfl, ints_own HN3.out, HB3.out⟩
    · have he1 : parEo (some (l, fx, sx)) = 4 := if_neg hx
      have he2 : parFo (some (l, fx, sx)) = [] := if_neg hx
      rw [he1] at HEZ
      rw [he2] at HEF
      have hd : decide (l = []) = false := by simpa using hx
      have HD := hide (show decide ((l, fx, sx).1 = []) = false from hd)
      clear he1 he2 hx hd
      go_wp2_with (go_at_call 16; refine HR.out.mono ?_; rintro e w3 ⟨hB3, hee, s3, fv3, g1, g2⟩; rw [HD.out] at hee; subst hee; have HB3 := hide (HB4.out w3 hB3); clear hB3 g1 g2)
      go_ret2
      rw [← HEZ.out, ← HEF.out]
      exact parP_nil HB3.out
/-- Parse answers as parE and parF say. -/
theorem Parse_any (m : Mo) (s : ByteArray) (ov rv : Value) (w : World) (hs : SizedM m) (h : MoAt w w.heap.size ov rv m) (hm : s.size ≤ maxLen) (hl : s.size ≤ 2000 ∨ 65536 < s.size) (hsg : SgnAt w 0) (h0 : 0 < w.heap.size) :
    Calls Tryd.prog 6 #[.agg #[ov, rv], .string s] w (ParP w (parE m s) (parF m s)) := by
  by_cases he : m.err = 0
  · by_cases hb : 65536 < s.size
    · have h1 : parE m s = 2 := by unfold parE; rw [if_neg (by simpa using he), if_pos hb]
      have h2 : parF m s = [] := by unfold parF; rw [if_neg (by simpa using he), if_pos hb]
      rw [h1, h2]
      exact Parse_big m s ov rv w hs h he hm hb
    · have h1 : parE m s = parEo (parO m s) := by unfold parE; rw [if_neg (by simpa using he), if_neg hb]
      have h2 : parF m s = parFo (parO m s) := by unfold parF; rw [if_neg (by simpa using he), if_neg hb]
      rw [h1, h2]
      exact Parse_read m s ov rv w hs h he (by omega) hsg h0 _ rfl
  · have h1 : parE m s = m.err := by unfold parE; rw [if_pos he]
    have h2 : parF m s = [] := by unfold parF; rw [if_pos he]
    rw [h1, h2]
    exact Parse_err m s ov rv w hs h he
end Go.Proofs.YtjimbcklnnhloaaDoor
/- The elder program's Parse: walk. -/
namespace Go.Proofs.YtjimbcklnnhloaaDoor
open Go.RowKit
set_option linter.unusedVariables false
set_option linter.unusedSimpArgs false
/-- The elder reader's term reads as termR says. -/
theorem rterm_any (ns : List ByteArray) (ov rv : Value) (s : ByteArray) (hs : s.size ≤ 1000000) (b B : Nat) (hbB : b < B) (hnl : ns.length ≤ maxLen) (hnn : namesB [] (ns.map fun x => x.data.toList) = true) : ∀ (n : Nat) (a : Nat) (fv : Value) (st : Bool) (xs : List Int) (w : World), s.size - a + 1 ≤ n → a ≤ s.size → RxB w b ov rv s a fv st → B ≤ w.heap.size → NumS w B fv xs → xs.length + (s.size - a) ≤ 1000000 → Names w b ov ns →
    Calls Tryd.prog 18 #[.pointer (some ⟨b, 0, none⟩)] w (RxP b B ov rv s st xs w (termR (ns.map fun x => x.data.toList) n (s.data.toList.drop a)))
  | 0, a, fv, st, xs, w, hn, _, _, _, _, _, _ => by omega
  | n + 1, a, fv, st, xs, w, hn, ha, hb, hBw, ho, hl, hns => by
    rw [termR_step]
    have hlen : (s.data.toList.drop a).length = s.size - a := by rw [List.length_drop, size_dl]
    unfold stepR
    cases h1 : needR 33 (s.data.toList.drop a) with
    | some r =>
      have h2 := needR_len h1
      refine rterm_bang b B hbB ov rv fv s a st xs w hs ha hb hBw ho (by omega) r h1 _ fun w1 fv1 g1 g2 g3 g4 g5 g6 => ?_
      rw [← g2]
      exact rterm_any ns ov rv s hs b B hbB hnl hnn n (a + 1) fv1 st _ w1 (by omega) g1 g3 g4 g5 (by simp; omega) (hns.below g6.low)
    | none =>
      cases h2 : needR 40 (s.data.toList.drop a) with
      | some r =>
        refine rterm_open b B hbB ov rv fv s a st xs w (termR (ns.map fun x => x.data.toList) n) (fun l x h => termR_len n l x h) hs ha hb hBw ho hl h1 r h2 (fun w1 fv1 a1 st1 xs1 g1 g2 g3 g4 g5 g6 g7 => ?_) _ rfl
        exact rterm_any ns ov rv s hs b B hbB hnl hnn n a1 fv1 st1 xs1 w1 (by omega) g2 g3 g4 g5 g6 (hns.below g7.low)
      | none =>
        exact rterm_word b B hbB ov rv fv s a st xs ns w hs ha hb hBw ho (by omega) hns hnl hnn h1 h2
set_option maxRecDepth 100000 in
set_option maxHeartbeats 4000000 in
theorem rParse_err (m : Mo) (s : ByteArray) (ov rv : Value) (w : World) (hs : SizedM m) (h : MoAt w w.heap.size ov rv m) (he : m.err ≠ 0) :
    Calls Tryd.prog 7 #[.agg #[ov, rv], .string s] w (ParP w m.err []) := by
  obtain ⟨A, cap, hov⟩ := Sl.form h.o
  obtain ⟨Ar, capr, hrv⟩ := h.r.form
  have H := hide h
  have HS := hide hs
  obtain ⟨z, hz⟩ : ∃ z, m.err = z := ⟨_, rfl⟩
  rw [hz] at he ⊢
  have hz1 : (z != 0) = true := by simpa using he
  have HZ := hide hz
  subst hov hrv
  clear h hs he hz
  go_enter Tryd.func7, Tryd.ntmps7
  go_upto_region 1 with (fail)
  generalize hw0 : World.alloc _ _ = w0
  obtain ⟨hb0, hB0, hs0⟩ := alloc1 hw0
  clear hw0
  have HX0 : Hid (MoBox w0 w.heap.size (.slice A m.opts.length cap) (.slice Ar m.rules.length capr)) := hb0
  have HB0 := hide hB0
  have c0 := cellOf hb0 0
  have c1 := cellOf hb0 1
  clear hb0 hB0
  go_wp2_with (go_at_call 17; refine (rCheckModel_any m _ _ _ HS.out (H.out.up HB0.out)).mono ?_; rw [HZ.out]; rintro e w1 ⟨rfl, hB1⟩)
  go_ret2
  exact parP_nil (Below.to HB0.out hB1 (Nat.le_refl _))
set_option maxRecDepth 100000 in
set_option maxHeartbeats 4000000 in
theorem rParse_big (m : Mo) (s : ByteArray) (ov rv : Value) (w : World) (hs : SizedM m) (h : MoAt w w.heap.size ov rv m) (he : m.err = 0) (hm : s.size ≤ maxLen) (hb : 65536 < s.size) :
    Calls Tryd.prog 7 #[.agg #[ov, rv], .string s] w (ParP w 2 []) := by
  obtain ⟨A, cap, hov⟩ := Sl.form h.o
  obtain ⟨Ar, capr, hrv⟩ := h.r.form
  have H := hide h
  have HS := hide hs
  have HZ := hide he
  have hb1 : decide ((65536 : Int) < (s.size : Int)) = true := by simp; omega
  have hb2 : (65536 : Int) < (s.size : Int) := by omega
  subst hov hrv
  unfold maxLen at hm
  clear h hs he hb
  go_enter Tryd.func7, Tryd.ntmps7
  go_upto_region 1 with (fail)
  generalize hw0 : World.alloc _ _ = w0
  obtain ⟨hb0, hB0, hs0⟩ := alloc1 hw0
  clear hw0
  have HX0 : Hid (MoBox w0 w.heap.size (.slice A m.opts.length cap) (.slice Ar m.rules.length capr)) := hb0
  have HB0 := hide hB0
  have c0 := cellOf hb0 0
  have c1 := cellOf hb0 1
  clear hb0 hB0
  go_wp2_with (go_at_call 17; refine (rCheckModel_any m _ _ _ HS.out (H.out.up HB0.out)).mono ?_; rw [HZ.out]; rintro e w1 ⟨rfl, hB1⟩)
  go_ret2
  exact parP_nil (Below.to HB0.out hB1 (Nat.le_refl _))
set_option maxRecDepth 100000 in
set_option maxHeartbeats 8000000 in
theorem rParse_read (m : Mo) (s : ByteArray) (ov rv : Value) (w : World) (hs : SizedM m) (h : MoAt w w.heap.size ov rv m) (he : m.err = 0) (hl : s.size ≤ 2000) (o : Option (List UInt8 × List Int × Bool)) (ho : parO m s = o) :
    Calls Tryd.prog 7 #[.agg #[ov, rv], .string s] w (ParP w (parEo o) (parFo o)) := by
  obtain ⟨A, cap, hov⟩ := Sl.form h.o
  obtain ⟨Ar, capr, hrv⟩ := h.r.form
  have H := hide h
  have HS := hide hs
  have HZ := hide he
  have HO := hide ho
  have hb1 : decide ((65536 : Int) < (s.size : Int)) = false := by simp; omega
  have hb2 : ¬ (65536 : Int) < (s.size : Int) := by omega
  subst hov hrv
  obtain ⟨z, hz⟩ : ∃ z, parEo o = z := ⟨_, rfl⟩
  obtain ⟨f, hf⟩ : ∃ f, parFo o = f := ⟨_, rfl⟩
  rw [hz, hf]
  have HEZ := hide hz
  have HEF := hide hf
  clear h hs he ho hz hf
  go_enter Tryd.func7, Tryd.ntmps7
  go_upto_region 1 with (fail)
  generalize hw0 : World.alloc _ _ = w0
  obtain ⟨hb0, hB0, hs0⟩ := alloc1 hw0
  clear hw0
  have HX0 : Hid (MoBox w0 w.heap.size (.slice A m.opts.length cap) (.slice Ar m.rules.length capr)) := hb0
  have HB0 := hide hB0
  have c0 := cellOf hb0 0
  have c1 := cellOf hb0 1
  clear hb0 hB0
  go_upto_region 4 with (go_at_call 17; refine (rCheckModel_any m _ _ _ HS.out (H.out.up HB0.out)).mono ?_; rw [HZ.out]; rintro e w1 ⟨rfl, hB1⟩; have hX1 := box_to HX0.out hB1; have HB1 : Hid (Below w.heap.size w w1) := Below.to HB0.out hB1 (Nat.le_refl _); have d0 := cellOf hX1 0; have d2 := cellOf hX1 1; have d1 := box_lt hX1; clear hB1 hX1 c0 c1)
  go_upto_region 7 with (fail)
  generalize hw0 : World.alloc _ _ = w2
  obtain ⟨hb0, hB0, hs0⟩ := alloc1 hw0
  clear hw0
  have HX2 : Hid (RxB w2 w1.heap.size (.slice A m.opts.length cap) (.slice Ar m.rules.length capr) s 0 (.slice none 0 0) false) := hb0
  have HB2 : Hid (Below w.heap.size w w2) := hide (Below.to HB1.out hB0 (Nat.le_refl _))
  have hnm : Names w2 w1.heap.size (.slice A m.opts.length cap) m.opts := (H.out.o.below HB2.out).more (by omega)
  have hrd := rterm_any m.opts (.slice A m.opts.length cap) (.slice Ar m.rules.length capr) s (by omega) w1.heap.size (w1.heap.size + 1) (by omega) HS.out.n (Mo.ok HZ.out).2.2.1 (s.size + 1) 0 (.slice none 0 0) false [] w2 (by omega) (by omega) HX2.out (by omega) ⟨by simp, .inl ⟨rfl, rfl⟩⟩ (by simp; omega) hnm
  rw [List.drop_zero, termR_more s.size _ (s.size + 1) (by rw [size_dl]; exact Nat.le_refl _) (by omega)] at hrd
  have hrd2 : Calls Tryd.prog 18 #[.pointer (some ⟨w1.heap.size, 0, none⟩)] w2 (RxP w1.heap.size (w1.heap.size + 1) (.slice A m.opts.length cap) (.slice Ar m.rules.length capr) s false [] w2 o) := by
    rw [← HO.out]
    exact hrd
  have HR := hide hrd2
  have HB2' : Hid (Below w.heap.size w w2 ∧ w.heap.size ≤ w1.heap.size) := ⟨HB2.out, Nat.le_of_lt d1⟩
  clear hb0 hB0 hnm hrd hrd2 d0 d1 d2
  cases o with
  | none =>
    go_wp2_with (go_at_call 18; refine HR.out.mono ?_; rintro e w3 ⟨hB3, rfl⟩; have HB3 := hide hB3.low; clear hB3)
    go_ret2
    rw [← HEZ.out, ← HEF.out]
    exact parP_nil (Below.trans HB2'.out.1 (HB3.out.mono HB2'.out.2))
  | some x =>
    obtain ⟨l, fx, sx⟩ := x
    have HB4 : Hid (∀ w3, Below w1.heap.size w2 w3 → Below w.heap.size w w3) := fun w3 hB3 => Below.trans HB2'.out.1 (hB3.mono HB2'.out.2)
    by_cases hx : l = []
    · subst hx
      go_upto_region 9 with (go_at_call 18; refine HR.out.mono ?_; rintro e w3 ⟨hB3, rfl, a3, fv3, g0, g1, g2, g3⟩; have ha3 : a3 = s.size := (by have h5 := congrArg List.length g1; rw [List.length_drop, size_dl] at h5; simp at h5; omega); have k5 : decide ((a3 : Int) < (s.size : Int)) = false := (by simp; omega); have k6 : ¬ (a3 : Int) < (s.size : Int) := (by omega); have HB3 := hide (HB4.out w3 hB3.low); have HX3 := hide g2; have HN3 := hide g3; have k0 := cellOf g2 4; have k1 := cellOf g2 5; have k3 := cellOf g2 3; have k2 := box_lt g2; clear hB3 ha3 g0 g1 g2 g3)
      obtain ⟨A3, cap3, hfv⟩ := owns_shape HN3.out
      subst hfv
      cases sx with
      | true =>
        go_wp2
        go_ret2
        rw [← HEZ.out, ← HEF.out]
        exact parP_nil HB3.out
      | false =>
        by_cases h100 : 100 < fx.length
        · have e1 : decide ((100 : Int) < (fx.length : Int)) = true := by simp; omega
          have e2 : (100 : Int) < (fx.length : Int) := by omega
          have hz : z = 11 := by rw [← HEZ.out]; simp [parEo, h100]
          have hf : f = [] := by rw [← HEF.out]; simp [parFo, h100]
          have HZ1 := hide hz
          have HF1 := hide hf
          clear h100 hz hf
          go_wp2
          go_ret2
          rw [HZ1.out, HF1.out]
          exact parP_nil HB3.out
        · have e1 : decide ((100 : Int) < (fx.length : Int)) = false := by simp; omega
          have e2 : ¬ (100 : Int) < (fx.length : Int) := by omega
          have hz : z = 0 := by rw [← HEZ.out]; simp [parEo, h100]
          have hf : f = fx := by rw [← HEF.out]; simp [parFo, h100]
          have HZ1 := hide hz
          have HF1 := hide hf
          clear h100 hz hf
          go_wp2
          go_ret2
          rw [HZ1.out, HF1.out]
          exact ⟨_, rfl, ints_own HN3.out, HB3.out⟩
    · have he1 : parEo (some (l, fx, sx)) = 4 := if_neg hx
      have he2 : parFo (some (l, fx, sx)) = [] := if_neg hx
      rw [he1] at HEZ
      rw [he2] at HEF
      have HD := hide hx
      clear he1 he2 hx
      go_wp2_with (go_at_call 18; refine HR.out.mono ?_; rintro e w3 ⟨hB3, rfl, a3, fv3, g0, g1, g2, g3⟩; have ha3 : a3 < s.size := (by have h6 : 0 < l.length := List.length_pos_iff.2 HD.out; have h5 := congrArg List.length g1; rw [List.length_drop, size_dl] at h5; simp at h5; omega); have k5 : decide ((a3 : Int) < (s.size : Int)) = true := (by simp; omega); have k6 : (a3 : Int) < (s.size : Int) := (by omega); have HB3 := hide (HB4.out w3 hB3.low); have k3 := cellOf g2 3; have k2 := box_lt g2; clear hB3 ha3 g0 g1 g2 g3)
      go_ret2
      rw [← HEZ.out, ← HEF.out]
      exact parP_nil HB3.out
/-- The elder Parse answers as parE and parF say. -/
theorem rParse_any (m : Mo) (s : ByteArray) (ov rv : Value) (w : World) (hs : SizedM m) (h : MoAt w w.heap.size ov rv m) (hm : s.size ≤ maxLen) (hl : s.size ≤ 2000 ∨ 65536 < s.size) :
    Calls Tryd.prog 7 #[.agg #[ov, rv], .string s] w (ParP w (parE m s) (parF m s)) := by
  by_cases he : m.err = 0
  · by_cases hb : 65536 < s.size
    · have h1 : parE m s = 2 := by unfold parE; rw [if_neg (by simpa using he), if_pos hb]
      have h2 : parF m s = [] := by unfold parF; rw [if_neg (by simpa using he), if_pos hb]
      rw [h1, h2]
      exact rParse_big m s ov rv w hs h he hm hb
    · have h1 : parE m s = parEo (parO m s) := by unfold parE; rw [if_neg (by simpa using he), if_neg hb]
      have h2 : parF m s = parFo (parO m s) := by unfold parF; rw [if_neg (by simpa using he), if_neg hb]
      rw [h1, h2]
      exact rParse_read m s ov rv w hs h he (by omega) _ rfl
  · have h1 : parE m s = m.err := by unfold parE; rw [if_pos he]
    have h2 : parF m s = [] := by unfold parF; rw [if_pos he]
    rw [h1, h2]
    exact rParse_err m s ov rv w hs h he
/-- A parsed formula is short. -/
theorem parF_len (m : Mo) (s : ByteArray) : (parF m s).length ≤ 100 := by
  have h : ∀ o, (parFo o).length ≤ 100 := by
    intro o
    unfold parFo
    split
    · simp
    · split
      · split
        · simp
        · split
          · simp
          · omega
      · simp
  unfold parF
  split
  · simp
  · split
    · simp
    · exact h _
end Go.Proofs.YtjimbcklnnhloaaDoor
/- The elder program's Format, and both for every model and formula: walk. -/
namespace Go.Proofs.YtjimbcklnnhloaaDoor
open Go.RowKit
set_option linter.unusedVariables false
set_option linter.unusedSimpArgs false
set_option maxRecDepth 100000 in
set_option maxHeartbeats 2000000 in
theorem rCheckFormula_any (m : Mo) (f : List Int) (ov rv fv : Value) (w : World) (hs : SizedM m) (hl : f.length ≤ maxLen) (h : MoAt w w.heap.size ov rv m) (hf : Ints w w.heap.size fv f) :
    Calls Tryd.prog 25 #[.agg #[ov, rv], fv] w fun e w' => e = .returned (.int .i64 (m.errF [f])) ∧ Below w.heap.size w w' := by
  obtain ⟨A, cap, hov⟩ := Sl.form h.o
  obtain ⟨Ar, capr, hrv⟩ := h.r.form
  obtain ⟨Al, capl, hlv⟩ := Sl.form hf
  have H := hide h
  have HF := hide hf
  have HS := hide hs
  subst hov hrv hlv
  clear h hf hs
  go_enter Tryd.func25, Tryd.ntmps25
  go_upto_region 1 with (fail)
  generalize hw0 : World.alloc _ _ = w0
  obtain ⟨hb0, hB0, hs0⟩ := alloc1 hw0
  clear hw0
  have HX0 : Hid (MoBox w0 w.heap.size (.slice A m.opts.length cap) (.slice Ar m.rules.length capr)) := hb0
  have HB0 := hide hB0
  have c0 := cellOf hb0 0
  have c1 := cellOf hb0 1
  have hck := rCheckModel_any m (.slice A m.opts.length cap) (.slice Ar m.rules.length capr) w0 HS.out (H.out.up hB0)
  have HCK := hide hck
  clear hb0 hB0 hs0 hck
  by_cases he : m.err = 0
  · have HE := hide he
    clear he
    go_upto_region 4 with (go_at_call 17; refine HCK.out.mono ?_; rw [HE.out]; rintro e w1 ⟨rfl, hB1⟩; have hbx := box_to HX0.out hB1; have d0 := cellOf hbx 0; have d1 := cellOf hbx 1; have HB1 : Hid (Below w.heap.size w w1) := Below.to HB0.out hB1 (Nat.le_refl _); clear hbx hB1 c0 c1)
    have hv := rValid_any f m.opts.length (.slice Al f.length capl) w.heap.size w1 hl (HF.out.below HB1.out)
    have HV := hide hv
    clear hv
    cases hvf : validF m.opts.length f with
    | true =>
      have HVF := hide hvf
      have hef : m.errF [f] = 0 := by rw [Mo.errF_ok HE.out, List.all_cons, HVF.out]; rfl
      have HEF := hide hef
      clear hvf hef
      go_wp2_with (go_at_call 39; refine HV.out.mono ?_; rw [HVF.out]; rintro e w2 ⟨rfl, rfl⟩)
      go_ret
      exact ⟨ret_int HEF.out.symm, HB1.out⟩
    | false =>
      have HVF := hide hvf
      have hef : m.errF [f] = 11 := by rw [Mo.errF_ok HE.out, List.all_cons, HVF.out]; rfl
      have HEF := hide hef
      clear hvf hef
      go_wp2_with (go_at_call 39; refine HV.out.mono ?_; rw [HVF.out]; rintro e w2 ⟨rfl, rfl⟩)
      go_ret
      exact ⟨ret_int HEF.out.symm, HB1.out⟩
  · obtain ⟨z, hz⟩ : ∃ z, m.err = z := ⟨_, rfl⟩
    rw [hz] at he
    have hz1 : (z != 0) = true := by simpa using he
    have hef : m.errF [f] = z := by rw [Mo.errF_err (by rw [hz]; exact he), hz]
    have HEF := hide hef
    have HZ := hide hz
    clear he hz hef
    go_wp2_with (go_at_call 17; refine HCK.out.mono ?_; rw [HZ.out]; rintro e w1 ⟨rfl, hB1⟩)
    go_ret
    exact ⟨ret_int HEF.out.symm, Below.to HB0.out hB1 (Nat.le_refl _)⟩
set_option maxRecDepth 100000 in
set_option maxHeartbeats 4000000 in
theorem rFormat_err (m : Mo) (f : List Int) (ov rv fv : Value) (w : World) (hs : SizedM m) (hl : f.length ≤ maxLen) (h : MoAt w w.heap.size ov rv m) (hf : Ints w w.heap.size fv f) (he : m.errF [f] ≠ 0) :
    Calls Tryd.prog 10 #[.agg #[ov, rv], fv] w (ForP w [] (m.errF [f])) := by
  obtain ⟨A, cap, hov⟩ := Sl.form h.o
  obtain ⟨Ar, capr, hrv⟩ := h.r.form
  obtain ⟨Al, capl, hlv⟩ := Sl.form hf
  subst hov hrv hlv
  have H := hide h
  have HF := hide hf
  have HS := hide hs
  have HL := hide hl
  obtain ⟨z, hz⟩ : ∃ z, m.errF [f] = z := ⟨_, rfl⟩
  rw [hz] at he ⊢
  have hz1 : (z != 0) = true := by simpa using he
  have HZ := hide hz
  clear h hf hs he hz hl
  go_enter Tryd.func10, Tryd.ntmps10
  go_upto_region 1 with (fail)
  generalize hw0 : World.alloc _ _ = w0
  obtain ⟨hb0, hB0, hs0⟩ := alloc1 hw0
  clear hw0
  have HB0 := hide hB0
  have c0 := cellOf hb0 0
  have c1 := cellOf hb0 1
  clear hb0 hB0
  go_wp2_with (go_at_call 25; refine (rCheckFormula_any m f _ _ _ _ HS.out HL.out (H.out.up HB0.out) (HF.out.up HB0.out)).mono ?_; rw [HZ.out]; rintro e w1 ⟨rfl, hB1⟩)
  go_ret2
  exact ⟨rfl, Below.to HB0.out hB1 (Nat.le_refl _)⟩
set_option maxRecDepth 100000 in
set_option maxHeartbeats 4000000 in
theorem rFormat_ok (m : Mo) (f : List Int) (t : Tm) (ov rv fv : Value) (w : World) (hs : SizedM m) (hl : f.length ≤ maxLen) (h : MoAt w w.heap.size ov rv m) (hf : Ints w w.heap.size fv f) (he : m.errF [f] = 0) (hok : t.ok m.names.length) (hft : f = t.enc) (hf1 : f.length ≤ 100) (hn : ∀ i, i < m.names.length → (m.names.getD i []).length ≤ 8) :
    Calls Tryd.prog 10 #[.agg #[ov, rv], fv] w (ForP w (t.txt m.names) 0) := by
  obtain ⟨A, cap, hov⟩ := Sl.form h.o
  obtain ⟨Ar, capr, hrv⟩ := h.r.form
  obtain ⟨Al, capl, hlv⟩ := Sl.form hf
  subst hov hrv hlv
  have H := hide h
  have HF := hide hf
  have HS := hide hs
  have HL := hide hl
  have HZ := hide he
  have HFT := hide hft
  have hsh := fun w1 (hB : Below w.heap.size w w1) => show_any m hs hn f hf1 _ _ _ t 0 [] w1 hok (by rw [List.drop_zero, List.append_nil]; exact hft) (h.up hB) (hf.up hB)
  have HSH := hide hsh
  clear h hf hs he hl hft hsh
  go_enter Tryd.func10, Tryd.ntmps10
  go_upto_region 1 with (fail)
  generalize hw0 : World.alloc _ _ = w0
  obtain ⟨hb0, hB0, hs0⟩ := alloc1 hw0
  clear hw0
  have HX0 := hide hb0
  have HB0 := hide hB0
  have c0 := cellOf hb0 0
  have c1 := cellOf hb0 1
  clear hb0 hB0
  go_upto_region 4 with (go_at_call 25; refine (rCheckFormula_any m f _ _ _ _ HS.out HL.out (H.out.up HB0.out) (HF.out.up HB0.out)).mono ?_; rw [HZ.out]; rintro e w1 ⟨rfl, hB1⟩; have HB1 := hide (Below.to HB0.out hB1 (Nat.le_refl _)); have hX1 := box_to HX0.out hB1; have d0 := cellOf hX1 0; have d1 := cellOf hX1 1; have d2 := box_lt hX1; clear hB1 hX1 c0 c1)
  have HC := hide (HSH.out w1 HB1.out)
  go_wp2_with (go_at_call 26; refine HC.out.mono ?_; rintro e w2 ⟨rfl, hB2⟩; have HB2 := hide hB2; clear hB2)
  go_ret2
  exact ⟨rfl, Below.to HB1.out HB2.out (Nat.le_refl _)⟩
/-- What a valid model and formula say. -/
theorem fmt_term {m : Mo} {f : List Int} (he : m.errF [f] = 0) : ∃ t : Tm, t.ok m.names.length ∧ f = t.enc ∧ f.length ≤ 100 ∧ (∀ i, i < m.names.length → (m.names.getD i []).length ≤ 8) ∧ (∀ x ∈ m.opts, x.size ≤ 8) ∧ (t.txt m.names).length ≤ 2000 ∧ t.txt m.names ≠ [] ∧ namesB [] m.names = true ∧ m.err = 0 := by
  obtain ⟨h1, h2⟩ := Mo.okF he
  have h3 := h2 f (by simp)
  have h4 := (Mo.ok h1).2.2.1
  obtain ⟨t, hok, hft⟩ := term_of h3
  have hok2 : t.ok m.names.length := by unfold Mo.names; rw [List.length_map]; exact hok
  have hfl : f.length ≤ 100 := by
    simp only [validF, Bool.and_eq_true, decide_eq_true_eq] at h3
    exact h3.2
  have hn := names_le h4
  have hx : ∀ x ∈ m.opts, x.size ≤ 8 := fun x hx => by
    obtain ⟨i, hi, rfl⟩ := List.getElem_of_mem hx
    have h5 := hn i (by unfold Mo.names; simpa using hi)
    rw [names_get, List.getD_eq_getElem?_getD, List.getElem?_eq_getElem hi, Option.getD_some, size_dl] at h5
    exact h5
  have ht := Tm.txt_le hn t hok2
  have h0 : t.txt m.names ≠ [] := by
    cases t with
    | opt i =>
      intro h6
      have h7 := (namesB_get [] m.names h4 i hok2).1
      have h8 : m.names.getD i [] = [] := h6
      rw [h8] at h7
      exact absurd h7 (by decide)
    | yes => exact List.cons_ne_nil _ _
    | no => exact List.cons_ne_nil _ _
    | not t => exact List.cons_ne_nil _ _
    | bin k a b => exact List.cons_ne_nil _ _
  exact ⟨t, hok2, hft, hfl, hn, hx, by rw [hft] at hfl; omega, h0, h4, h1⟩
/-- The text of a valid formula parses as it. -/
theorem parse_fmt {m : Mo} {t : Tm} (hok : t.ok m.names.length) (hn : namesB [] m.names = true) (he : m.err = 0) (hl : (t.txt m.names).length ≤ 2000) (hf : t.enc.length ≤ 100) : parE m ⟨(t.txt m.names).toArray⟩ = 0 ∧ parF m ⟨(t.txt m.names).toArray⟩ = t.enc := by
  have hsz : (⟨(t.txt m.names).toArray⟩ : ByteArray).size = (t.txt m.names).length := by show (t.txt m.names).toArray.size = _; simp
  have hr := read_txt hn t hok [] rfl (t.txt m.names).length (by simp)
  rw [List.append_nil] at hr
  have ho : parO m ⟨(t.txt m.names).toArray⟩ = some ([], t.enc, false) := by
    unfold parO
    rw [hsz]
    exact hr
  have h1 : parEo (some (([] : List UInt8), t.enc, false)) = 0 := by simp [parEo]; omega
  have h2 : parFo (some (([] : List UInt8), t.enc, false)) = t.enc := by simp [parFo]; omega
  constructor
  · unfold parE
    rw [if_neg (by simpa using he), if_neg (by rw [hsz]; omega), ho]
    exact h1
  · unfold parF
    rw [if_neg (by simpa using he), if_neg (by rw [hsz]; omega), ho]
    exact h2
end Go.Proofs.YtjimbcklnnhloaaDoor

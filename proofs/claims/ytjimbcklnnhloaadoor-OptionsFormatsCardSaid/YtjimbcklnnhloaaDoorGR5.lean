/- Part 5 of this claim's texts: walks and plain laws. -/
import Derived.Test.YtjimbcklnnhloaaDoorRows
import Derived.Test.YtjimbcklnnhloaaDoorGR4
import Derived.Deep.RegionHeld3
import Derived.Deep.DrawnRows
import Derived.Deep.CutBlock
import Derived.Deep.DeepMust
import Derived.IntWalk
/- The reader of a formula: a term that begins with a bracket. -/
namespace Go.Proofs.YtjimbcklnnhloaaDoor
open Go.RowKit
set_option linter.unusedVariables false
set_option linter.unusedSimpArgs false
abbrev TmR := List UInt8 → Option (List UInt8 × List Int × Bool)
/-- What a term with a bracket leaves, if terms leave T. -/
def openR (T : TmR) (l : List UInt8) : Option (List UInt8 × List Int × Bool) :=
  (T l).bind fun x => (needR 32 x.1).bind fun r1 => (signR r1).bind fun y => (needR 32 y.1).bind fun r2 => (T r2).bind fun z => (needR 41 z.1).map fun r3 => (r3, (-4 - (y.2 : Int)) :: (x.2.1 ++ z.2.1), x.2.2 || z.2.2)
theorem rd_none {b B : Nat} {nv : Value} {st : Bool} {xs : List Int} {w w' : World} {o : Option (List UInt8 × List Int × Bool)} (h : o = none) (hB : Bx b B w w') : RdP b B nv st xs w o (.panicked badP) w' := by
  subst h; exact ⟨hB, rfl⟩
theorem size_dl (s : ByteArray) : s.data.toList.length = s.size := by simp
theorem addr_at (g k : Nat) : (⟨g, 0, none⟩ : Addr).add k = ⟨g, k, none⟩ := by
  unfold Addr.add
  split
  · rename_i h0; rw [h0]
  · rw [Nat.zero_add]
theorem set_at (xs : List Int) (u : Int) (ys : List Int) (j : Nat) (hj : j = xs.length) (a : Int) : ((xs ++ [a] ++ ys).map fun n => Value.int .i64 n).set j (.int .i64 u) = (xs ++ [u] ++ ys).map fun n => Value.int .i64 n := by
  subst hj
  simp [List.set_append_right]
theorem sigI_none {c : UInt8} (h : sigI c < 0) : sigT c = none := by
  unfold sigI at h
  split at h
  · omega
  · assumption
theorem sigI_some {c : UInt8} (h : 0 ≤ sigI c) : sigT c = some (sigI c).toNat ∧ sigI c < 3 := by
  unfold sigI at h ⊢
  split at h
  · rename_i k hk
    rw [hk]
    refine ⟨by simp, ?_⟩
    unfold sigT at hk
    split at hk
    · simp at hk; subst hk; decide
    · split at hk
      · simp at hk; subst hk; decide
      · split at hk
        · simp at hk; subst hk; decide
        · simp at hk
  · omega
set_option maxRecDepth 100000 in
set_option maxHeartbeats 8000000 in
theorem term_open (b B : Nat) (hbB : b < B) (nv fv : Value) (s : ByteArray) (st : Bool) (xs : List Int) (w : World) (T : TmR) (hT : ∀ l x, T l = some x → x.1.length + x.2.1.length ≤ l.length) (hs : s.size ≤ maxLen) (hb : RdB w b nv s fv st) (hBw : B ≤ w.heap.size) (ho : NumS w B fv xs) (hl : xs.length + s.size ≤ 1000000) (h0 : 0 < s.size) (h1 : s[0] = 40) (hsg : SgnAt w 0) (hb0 : 0 < b)
    (hr : ∀ (w1 : World) (fv1 : Value) (s1 : ByteArray) (st1 : Bool) (xs1 : List Int), s1.size < s.size → RdB w1 b nv s1 fv1 st1 → NumS w1 B fv1 xs1 → xs1.length + s1.size ≤ 1000000 → Bx b B w w1 → Calls Tryd.prog 37 #[.pointer (some ⟨b, 0, none⟩)] w1 (RdP b B nv st1 xs1 w1 (T s1.data.toList))) (o : Option (List UInt8 × List Int × Bool)) (hoo : o = openR T (s.extract 1 s.size).data.toList) :
    Calls Tryd.prog 37 #[.pointer (some ⟨b, 0, none⟩)] w (RdP b B nv st xs w o) := by
  obtain ⟨i0, hi0, hz0, hz1, hz2⟩ := info_parts infoInt
  obtain ⟨A, cap, hfv⟩ := owns_shape ho
  subst hfv
  obtain ⟨z1, z2⟩ := str_full h0
  have e1 : ((s[0].toNat : Int) == 40) = true := by rw [h1]; rfl
  have e0 : ((s[0].toNat : Int) == 33) = false := by rw [h1]; rfl
  have k1 : (1 : Int) ≤ (s.size : Int) := by omega
  have hsz1 : (s.extract 1 s.size).size = s.size - 1 := by simp
  have HL0 : Hid (xs.length ≤ 1000000) := hide (show xs.length ≤ 1000000 by omega)
  unfold maxLen at hs
  have c0 := cellOf hb 1
  have c2 := unfrozenOf hb 1
  have c3 := box_lt hb
  have HX := hide hb
  have HO := hide ho
  have HL := hide hl
  have HR := hide hr
  have HSG := hide hsg
  have HOO := hide hoo
  have HT := hide hT
  have HSZ1 := hide hsz1
  clear hb ho hl hr h1 hsg hoo hT hsz1
  go_enter Tryd.func37, Tryd.ntmps37
  go_upto_region 10 with (fail)
  have HX1 : Hid (RdB (w.setCell ⟨b, 1, none⟩ (.string (s.extract 1 s.size))) b nv (s.extract 1 s.size) (.slice A xs.length cap) st) := setCellOf (i := 1) HX.out _
  have HO1 : Hid (NumS (w.setCell ⟨b, 1, none⟩ (.string (s.extract 1 s.size))) B (.slice A xs.length cap) xs) := ownsRow_setCell_below HO.out hbB _
  have HB1 := hide (show Bx b B w (w.setCell ⟨b, 1, none⟩ (.string (s.extract 1 s.size))) from Bx.setCell hbB (Bx.refl b B w) _)
  generalize (w.setCell ⟨b, 1, none⟩ (.string (s.extract 1 s.size))) = w1 at HX1 HO1 HB1 ⊢
  clear c0 c2 c3
  have d9 := HB1.out.big hBw
  have c0 := cellOf HX1.out 2
  have c2 := unfrozenOf HX1.out 2
  have c3 := box_lt HX1.out
  go_upto_region 12 with (at_builtin; go_must (refine wpList_append_own_at _ rfl (.tmp 58) (.tmp 59) _ rfl (B) 3 i0 _ 1 8 Tryd.underlying27 hi0 hz0 hz1 hz2 rfl (by omega) _ _ _ rfl ((HO1.out).alloc _) ⟨w1.heap.size, 0, none⟩ 1 1 [.int .i64 (-4)] rfl rfl (World.news_of_block (heap_alloc_new w1 _)) (by simp [Value.oneCell']) (by have h1 := HL0.out; unfold maxLen; omega) (by have h1 := HL0.out; omega) (by have h1 := d9; simp; omega) ?_); intro v1 w3 hown1 hg1 _ hat1; obtain ⟨A1, cap1, hv1⟩ := owns_shape hown1; subst hv1; have HB3 : Hid (Below B w1 w3) := Below.grown ((Below.refl _ _).alloc d9 _) hg1 (by simp; omega) (fun j hj => (HO1.out.lt j hj).1); have HX3 : Hid (RdB w3 b nv (s.extract 1 s.size) (.slice A xs.length cap) st) := (HB3.out.block b hbB).trans HX1.out; have HO3 := hide hown1; have d0 := cellOf HX3.out 2; have d2 := unfrozenOf HX3.out 2; have d3 := box_lt HX3.out; clear hown1 hg1 hat1)
  have HX4 : Hid (RdB (w3.setCell ⟨b, 2, none⟩ (.slice A1 (xs.length + 1) cap1)) b nv (s.extract 1 s.size) (.slice A1 (xs.length + 1) cap1) st) := setCellOf (i := 2) HX3.out _
  have HO4 : Hid (NumS (w3.setCell ⟨b, 2, none⟩ (.slice A1 (xs.length + 1) cap1)) B (.slice A1 (xs.length + 1) cap1) (xs ++ [-4])) := by
    have := ownsRow_setCell_below HO3.out (a := ⟨b, 2, none⟩) hbB (.slice A1 (xs.length + 1) cap1)
    show NumS _ _ _ _
    unfold NumS
    rw [List.length_append, List.map_append]
    exact this
  have HB4 := hide (show Bx b B w (w3.setCell ⟨b, 2, none⟩ (.slice A1 (xs.length + 1) cap1)) from Bx.setCell hbB (Bx.trans HB1.out (Bx.of HB3.out hbB)) _)
  generalize (w3.setCell ⟨b, 2, none⟩ (.slice A1 (xs.length + 1) cap1)) = w4 at HX4 HO4 HB4 ⊢
  obtain ⟨l1, hl1⟩ : ∃ z, (s.extract 1 s.size).data.toList = z := ⟨_, rfl⟩
  have hll1 : l1.length = s.size - 1 := by rw [← hl1, size_dl]; exact HSZ1.out
  have hcc := HR.out w4 _ _ _ _ (by rw [HSZ1.out]; omega) HX4.out HO4.out (by rw [HSZ1.out]; have := HL.out; simp; omega) HB4.out
  rw [hl1] at hcc HOO
  clear hl1 c0 c2 c3 d0 d2 d3
  cases ht1 : T l1 with
  | none =>
    rw [ht1] at hcc
    have HC := hide hcc
    have hon : o = none := by rw [HOO.out]; unfold openR; rw [ht1]; rfl
    have HON := hide hon
    clear hcc ht1 hon hll1
    go_wp2_with (go_at_call 37; refine HC.out.mono ?_; rintro e w5 ⟨hB, rfl⟩; have HB := hide hB; clear hB)
    exact ⟨rfl, rd_none HON.out (Bx.trans HB4.out HB.out)⟩
  | some x =>
    rw [ht1] at hcc
    have HC := hide hcc
    have hx1 := HT.out l1 x ht1
    have HT1 := hide ht1
    clear hcc ht1
    go_upto_region 13 with (go_at_call 37; refine HC.out.mono ?_; rintro e w5 ⟨hB, rfl, s5, fv5, g1, g2, g3⟩; have HB5 := hide hB; have HS5 := hide g1; have HX5 := hide g2; have HO5 := hide g3; clear hB g1 g2 g3)
    have hs5 : s5.size = x.1.length := by rw [← HS5.out, size_dl]
    have hn5 := need_any b nv fv5 s5 (st || x.2.2) 32 w5 (by unfold maxLen; omega) HX5.out
    rw [HS5.out] at hn5
    cases hq : needR 32 x.1 with
    | none =>
      rw [hq] at hn5
      have HN5 := hide hn5
      have hon : o = none := by rw [HOO.out]; unfold openR; rw [HT1.out, Option.bind_some, hq]; rfl
      have HON := hide hon
      clear hn5 hq hon hll1 hs5 hx1
      go_wp2_with (go_at_call 56; refine HN5.out.mono ?_; rintro e w6 ⟨rfl, rfl⟩)
      exact ⟨rfl, rd_none HON.out (Bx.trans HB4.out HB5.out)⟩
    | some q =>
      rw [hq] at hn5
      have HN5 := hide hn5
      have hql := needR_len hq
      have HQ := hide hq
      clear hn5 hq
      go_upto_region 14 with (go_at_call 56; refine HN5.out.mono ?_; rintro e w6 ⟨rfl, g1, g2⟩; have HS6 := hide g1; have HW6 := hide g2; clear g1 g2)
      have HX6 : Hid (RdB w6 b nv (s5.extract 1 s5.size) fv5 (st || x.2.2)) := by rw [HW6.out]; exact setCellOf (i := 1) HX5.out _
      obtain ⟨s6, hs6⟩ : ∃ z, s5.extract 1 s5.size = z := ⟨_, rfl⟩
      rw [hs6] at HX6 HS6
      have hsz6 : s6.size = q.length := by rw [← HS6.out, size_dl]
      have HO6 : Hid (NumS w6 B fv5 ((xs ++ [-4]) ++ x.2.1)) := by rw [HW6.out]; exact ownsRow_setCell_below HO5.out hbB _
      have HB6 : Hid (Bx b B w w6) := by
        have h1 : Bx b B w5 w6 := by rw [HW6.out]; exact Bx.setCell hbB (Bx.refl _ _ _) _
        exact Bx.trans HB4.out (Bx.trans HB5.out h1)
      clear hs6
      have c0 := cellOf HX6.out 1
      have c3 := box_lt HX6.out
      by_cases hq0 : s6.size = 0
      · obtain ⟨y1, y2⟩ := str_none hq0
        have hqn : q = [] := List.eq_nil_of_length_eq_zero (by omega)
        have hon : o = none := by rw [HOO.out]; unfold openR; rw [HT1.out, Option.bind_some, HQ.out, Option.bind_some, hqn]; rfl
        have HON := hide hon
        clear hqn hon hll1 hs5 hx1 hql hsz6 hq0
        go_wp2
        exact ⟨rfl, rd_none HON.out HB6.out⟩
      · have hq6 : 0 < s6.size := by omega
        obtain ⟨y1, y2⟩ := str_full hq6
        have HSG6 : Hid (∀ w', Below w6.heap.size w6 w' → SgnAt w' 0) := fun w' hw' j hj => by
          have h1 := HSG.out j hj
          rw [← HB6.out.low.cell (p := ⟨0, j, none⟩) hb0] at h1
          rw [← hw'.cell (p := ⟨0, j, none⟩) (Nat.lt_trans hb0 c3)] at h1
          exact h1
        have hqc : q = s6[0] :: (s6.extract 1 s6.size).data.toList := by rw [← HS6.out]; exact str_cons hq6
        have HQC := hide hqc
        obtain ⟨i, hi⟩ : ∃ z, sigI s6[0] = z := ⟨_, rfl⟩
        have HI := hide hi
        clear hi hqc
        by_cases hin : i < 0
        · have hon : o = none := by rw [HOO.out]; unfold openR; rw [HT1.out, Option.bind_some, HQ.out, Option.bind_some, HQC.out, signR, sigI_none (by rw [HI.out]; exact hin)]; rfl
          have HON := hide hon
          have hin' : decide (i < 0) = true := by simpa using hin
          clear hon hll1 hs5 hx1 hql hsz6 hq0
          go_upto_region 16 with (fail)
          refine wp_region_held_drew (S := (fun w' => Below w6.heap.size w6 w')) (by kernel_rfl) ?_ (fun hHeld => ?_)
          · try dsimp only
            exact (by repeat (first | exact Below.refl _ _ | assumption | refine Below.drew ?_ | refine Below.drewN ?_ _ | refine Below.allocT ?_ (Nat.le_refl _) _ | refine Below.setCell ?_ (by simp <;> omega) _ | refine Below.to ?_ (by assumption) (Nat.le_refl _)))
          refine wpAnyH_take (i := 0) (v := ?v1_0) rfl (by kernel_rfl) (by kernel_rfl) (by kernel_rfl) (fun _ _ _ h => h) (Or.inl ⟨by rfl, ?y1_0⟩) (by assumption) ?r1_0
          case' y1_0 => (intro w hSw; (try dsimp only at hSw); (try have hlS := HLK.out _ hSw); obtain ⟨hcS, hfS⟩ := bcell hSw; clear hSw; go_simp; try with_reducible rfl)
          try simp only [Act.put, List.getElem_toArray, List.getElem_cons_succ, List.getElem_cons_zero, List.setIfInBounds_toArray, List.set_cons_zero, List.set_cons_succ]
          refine wpAnyH_take (i := 1) (v := ?v1_1) rfl (by kernel_rfl) (by kernel_rfl) (by kernel_rfl) (fun _ _ _ h => h) (Or.inl ⟨by rfl, ?y1_1⟩) (by assumption) ?r1_1
          case' y1_1 => (intro w hSw; (try dsimp only at hSw); (try have hlS := HLK.out _ hSw); obtain ⟨hcS, hfS⟩ := bcell hSw; clear hSw; go_simp; try with_reducible rfl)
          try simp only [Act.put, List.getElem_toArray, List.getElem_cons_succ, List.getElem_cons_zero, List.setIfInBounds_toArray, List.set_cons_zero, List.set_cons_succ]
          refine wpAnyH_take (i := 2) (v := ?v1_2) rfl (by kernel_rfl) (by kernel_rfl) (by kernel_rfl) (fun _ _ _ h => h) (Or.inl ⟨by rfl, ?y1_2⟩) (by assumption) ?r1_2
          case' y1_2 => (intro w hSw; (try dsimp only at hSw); (try have hlS := HLK.out _ hSw); obtain ⟨hcS, hfS⟩ := bcell hSw; clear hSw; go_simp; try with_reducible rfl)
          try simp only [Act.put, List.getElem_toArray, List.getElem_cons_succ, List.getElem_cons_zero, List.setIfInBounds_toArray, List.set_cons_zero, List.set_cons_succ]
          refine wpAnyH_take (i := 3) (v := ?v1_3) rfl (by kernel_rfl) (by kernel_rfl) (by kernel_rfl) (fun _ _ _ h => h) (Or.inl ⟨by rfl, ?y1_3⟩) (by assumption) ?r1_3
          case' y1_3 => (intro w hSw; (try dsimp only at hSw); (try have hlS := HLK.out _ hSw); obtain ⟨hcS, hfS⟩ := bcell hSw; clear hSw; go_simp; try with_reducible rfl)
          try simp only [Act.put, List.getElem_toArray, List.getElem_cons_succ, List.getElem_cons_zero, List.setIfInBounds_toArray, List.set_cons_zero, List.set_cons_succ]
          refine wpAnyH_take (i := 4) (v := ?v1_4) rfl (by kernel_rfl) (by kernel_rfl) (by kernel_rfl) (fun _ _ _ h => h) (Or.inl ⟨by rfl, ?y1_4⟩) (by assumption) ?r1_4
          case' y1_4 => (intro w hSw; (try dsimp only at hSw); (try have hlS := HLK.out _ hSw); obtain ⟨hcS, hfS⟩ := bcell hSw; clear hSw; go_simp; try with_reducible rfl)
          try simp only [Act.put, List.getElem_toArray, List.getElem_cons_succ, List.getElem_cons_zero, List.setIfInBounds_toArray, List.set_cons_zero, List.set_cons_succ]
          refine wpAnyH_take (i := 5) (v := ?v1_5) rfl (by kernel_rfl) (by kernel_rfl) (by kernel_rfl) (fun _ _ _ h => h) (Or.inl ⟨by rfl, ?y1_5⟩) (by assumption) ?r1_5
          case' y1_5 => (intro w hSw; (try dsimp only at hSw); (try have hlS := HLK.out _ hSw); obtain ⟨hcS, hfS⟩ := bcell hSw; clear hSw; go_simp; try with_reducible rfl)
          try simp only [Act.put, List.getElem_toArray, List.getElem_cons_succ, List.getElem_cons_zero, List.setIfInBounds_toArray, List.set_cons_zero, List.set_cons_succ]
          refine wpAnyH_ready (rs := [6]) (by kernel_rfl) (by simp) ?_
          refine AllReadyH.cons rfl (fun K hK => ?_) AllReadyH.nil
          go_simp
          ((go_at_call 57; refine (indexB_any 0 _ _ (HSG6.out _ (by repeat (first | exact Below.refl _ _ | assumption | refine Below.drew ?_ | refine Below.drewN ?_ _ | refine Below.allocT ?_ (Nat.le_refl _) _ | refine Below.setCell ?_ (by simp <;> omega) _ | refine Below.to ?_ (by assumption) (Nat.le_refl _))))).mono ?_; rw [HI.out]; rintro e w1 ⟨rfl, rfl⟩))
          (try dsimp only)
          refine hK.out _ _ ?_ (fun hNext => ?_)
          · try dsimp only
            exact (by repeat (first | exact Below.refl _ _ | assumption | refine Below.drew ?_ | refine Below.drewN ?_ _ | refine Below.allocT ?_ (Nat.le_refl _) _ | refine Below.setCell ?_ (by simp <;> omega) _ | refine Below.to ?_ (by assumption) (Nat.le_refl _)))
          clear hK K hHeld
          have hHeld := hNext
          clear hNext
          (try dsimp only at hHeld)
          try simp only [Act.put, List.getElem_toArray, List.getElem_cons_succ, List.getElem_cons_zero, List.setIfInBounds_toArray, List.set_cons_zero, List.set_cons_succ]
          refine wpAnyH_take (i := 7) (v := ?v1_7) rfl (by kernel_rfl) (by kernel_rfl) (by kernel_rfl) (fun _ _ _ h => h) (Or.inl ⟨by rfl, ?y1_7⟩) (by assumption) ?r1_7
          case' y1_7 => (intro w hSw; (try dsimp only at hSw); (try have hlS := HLK.out _ hSw); obtain ⟨hcS, hfS⟩ := bcell hSw; clear hSw; go_simp; try with_reducible rfl)
          try simp only [Act.put, List.getElem_toArray, List.getElem_cons_succ, List.getElem_cons_zero, List.setIfInBounds_toArray, List.set_cons_zero, List.set_cons_succ]
          refine wpAnyH_done (by kernel_rfl) ?_ _
          go_wp2
          exact ⟨rfl, rd_none HON.out (Bx.trans HB6.out (Bx.of (Below.drew (Below.refl _ _)) hbB))⟩
        · obtain ⟨hi1, hi2⟩ := sigI_some (c := s6[0]) (by rw [HI.out]; omega)
          rw [HI.out] at hi1 hi2
          obtain ⟨k, rfl⟩ : ∃ k : Nat, i = (k : Int) := ⟨i.toNat, by omega⟩
          rw [Int.toNat_natCast] at hi1
          have HI1 := hide hi1
          have hk3 : k < 3 := by omega
          have kk : decide ((k : Int) < 0) = false := by simp
          clear hi1 hi2 hin hq0
          have HF1 := hide (show l1.length = s.size - 1 ∧ x.1.length + x.2.1.length ≤ l1.length ∧ s5.size = x.1.length ∧ q.length < x.1.length ∧ s6.size = q.length from ⟨hll1, hx1, hs5, hql, hsz6⟩)
          have k6 : (1 : Int) ≤ (s6.size : Int) := by omega
          have k7 : s6.size ≤ 2 ^ 63 - 1 := by omega
          clear hll1 hx1 hs5 hql hsz6
          go_upto_region 16 with (fail)
          refine wp_region_held_drew (S := (fun w' => Below w6.heap.size w6 w')) (by kernel_rfl) ?_ (fun hHeld => ?_)
          · try dsimp only
            exact (by repeat (first | exact Below.refl _ _ | assumption | refine Below.drew ?_ | refine Below.drewN ?_ _ | refine Below.allocT ?_ (Nat.le_refl _) _ | refine Below.setCell ?_ (by simp <;> omega) _ | refine Below.to ?_ (by assumption) (Nat.le_refl _)))
          refine wpAnyH_take (i := 0) (v := ?v2_0) rfl (by kernel_rfl) (by kernel_rfl) (by kernel_rfl) (fun _ _ _ h => h) (Or.inl ⟨by rfl, ?y2_0⟩) (by assumption) ?r2_0
          case' y2_0 => (intro w hSw; (try dsimp only at hSw); (try have hlS := HLK.out _ hSw); obtain ⟨hcS, hfS⟩ := bcell hSw; clear hSw; go_simp; try with_reducible rfl)
          try simp only [Act.put, List.getElem_toArray, List.getElem_cons_succ, List.getElem_cons_zero, List.setIfInBounds_toArray, List.set_cons_zero, List.set_cons_succ]
          refine wpAnyH_take (i := 1) (v := ?v2_1) rfl (by kernel_rfl) (by kernel_rfl) (by kernel_rfl) (fun _ _ _ h => h) (Or.inl ⟨by rfl, ?y2_1⟩) (by assumption) ?r2_1
          case' y2_1 => (intro w hSw; (try dsimp only at hSw); (try have hlS := HLK.out _ hSw); obtain ⟨hcS, hfS⟩ := bcell hSw; clear hSw; go_simp; try with_reducible rfl)
          try simp only [Act.put, List.getElem_toArray, List.getElem_cons_succ, List.getElem_cons_zero, List.setIfInBounds_toArray, List.set_cons_zero, List.set_cons_succ]
          refine wpAnyH_take (i := 2) (v := ?v2_2) rfl (by kernel_rfl) (by kernel_rfl) (by kernel_rfl) (fun _ _ _ h => h) (Or.inl ⟨by rfl, ?y2_2⟩) (by assumption) ?r2_2
          case' y2_2 => (intro w hSw; (try dsimp only at hSw); (try have hlS := HLK.out _ hSw); obtain ⟨hcS, hfS⟩ := bcell hSw; clear hSw; go_simp; try with_reducible rfl)
          try simp only [Act.put, List.getElem_toArray, List.getElem_cons_succ, List.getElem_cons_zero, List.setIfInBounds_toArray, List.set_cons_zero, List.set_cons_succ]
          refine wpAnyH_take (i := 3) (v := ?v2_3) rfl (by kernel_rfl) (by kernel_rfl) (by kernel_rfl) (fun _ _ _ h => h) (Or.inl ⟨by rfl, ?y2_3⟩) (by assumption) ?r2_3
          case' y2_3 => (intro w hSw; (try dsimp only at hSw); (try have hlS := HLK.out _ hSw); obtain ⟨hcS, hfS⟩ := bcell hSw; clear hSw; go_simp; try with_reducible rfl)
          try simp only [Act.put, List.getElem_toArray, List.getElem_cons_succ, List.getElem_cons_zero, List.setIfInBounds_toArray, List.set_cons_zero, List.set_cons_succ]
          refine wpAnyH_take (i := 4) (v := ?v2_4) rfl (by kernel_rfl) (by kernel_rfl) (by kernel_rfl) (fun _ _ _ h => h) (Or.inl ⟨by rfl, ?y2_4⟩) (by assumption) ?r2_4
          case' y2_4 => (intro w hSw; (try dsimp only at hSw); (try have hlS := HLK.out _ hSw); obtain ⟨hcS, hfS⟩ := bcell hSw; clear hSw; go_simp; try with_reducible rfl)
          try simp only [Act.put, List.getElem_toArray, List.getElem_cons_succ, List.getElem_cons_zero, List.setIfInBounds_toArray, List.set_cons_zero, List.set_cons_succ]
          refine wpAnyH_take (i := 5) (v := ?v2_5) rfl (by kernel_rfl) (by kernel_rfl) (by kernel_rfl) (fun _ _ _ h => h) (Or.inl ⟨by rfl, ?y2_5⟩) (by assumption) ?r2_5
          case' y2_5 => (intro w hSw; (try dsimp only at hSw); (try have hlS := HLK.out _ hSw); obtain ⟨hcS, hfS⟩ := bcell hSw; clear hSw; go_simp; try with_reducible rfl)
          try simp only [Act.put, List.getElem_toArray, List.getElem_cons_succ, List.getElem_cons_zero, List.setIfInBounds_toArray, List.set_cons_zero, List.set_cons_succ]
          refine wpAnyH_ready (rs := [6]) (by kernel_rfl) (by simp) ?_
          refine AllReadyH.cons rfl (fun K hK => ?_) AllReadyH.nil
          go_simp
          ((go_at_call 57; refine (indexB_any 0 _ _ (HSG6.out _ (by repeat (first | exact Below.refl _ _ | assumption | refine Below.drew ?_ | refine Below.drewN ?_ _ | refine Below.allocT ?_ (Nat.le_refl _) _ | refine Below.setCell ?_ (by simp <;> omega) _ | refine Below.to ?_ (by assumption) (Nat.le_refl _))))).mono ?_; rw [HI.out]; rintro e w1 ⟨rfl, rfl⟩))
          (try dsimp only)
          refine hK.out _ _ ?_ (fun hNext => ?_)
          · try dsimp only
            exact (by repeat (first | exact Below.refl _ _ | assumption | refine Below.drew ?_ | refine Below.drewN ?_ _ | refine Below.allocT ?_ (Nat.le_refl _) _ | refine Below.setCell ?_ (by simp <;> omega) _ | refine Below.to ?_ (by assumption) (Nat.le_refl _)))
          clear hK K hHeld
          have hHeld := hNext
          clear hNext
          (try dsimp only at hHeld)
          try simp only [Act.put, List.getElem_toArray, List.getElem_cons_succ, List.getElem_cons_zero, List.setIfInBounds_toArray, List.set_cons_zero, List.set_cons_succ]
          refine wpAnyH_take (i := 7) (v := ?v2_7) rfl (by kernel_rfl) (by kernel_rfl) (by kernel_rfl) (fun _ _ _ h => h) (Or.inl ⟨by rfl, ?y2_7⟩) (by assumption) ?r2_7
          case' y2_7 => (intro w hSw; (try dsimp only at hSw); (try have hlS := HLK.out _ hSw); obtain ⟨hcS, hfS⟩ := bcell hSw; clear hSw; go_simp; try with_reducible rfl)
          try simp only [Act.put, List.getElem_toArray, List.getElem_cons_succ, List.getElem_cons_zero, List.setIfInBounds_toArray, List.set_cons_zero, List.set_cons_succ]
          refine wpAnyH_done (by kernel_rfl) ?_ _
          go_upto_region 19 with (fail)
          have HX7 : Hid (RdB w6.drew b nv s6 fv5 (st || x.2.2)) := box_to HX6.out (Below.drew (Below.refl _ _))
          have HO7 : Hid (NumS w6.drew B fv5 ((xs ++ [-4]) ++ x.2.1)) := owns_below HO6.out (Below.drew (Below.refl _ _))
          have HB7 := hide (show Bx b B w w6.drew from Bx.trans HB6.out (Bx.of (Below.drew (Below.refl _ _)) hbB))
          obtain ⟨w7, hw7⟩ : ∃ z, w6.drew = z := ⟨_, rfl⟩
          rw [hw7] at HX7 HO7 HB7
          rw [hw7]
          obtain ⟨n7, hn7⟩ : ∃ z, ((xs ++ [-4]) ++ x.2.1).length = z := ⟨_, rfl⟩
          have hlt7 : xs.length < n7 := by rw [← hn7]; simp
          have hrow := HO7.out
          unfold NumS at hrow
          rw [hn7] at hrow
          obtain ⟨g, cap7, hv7, _, hl7⟩ := hrow.form (by omega)
          subst hv7
          have HROW := hide hrow
          have HN7 := hide hn7
          have hbg : B ≤ g := (hrow.lt g rfl).1
          have f0 := cellOf HX7.out 2
          have f3 := box_lt HX7.out
          have f4 := hrow.frozenAt xs.length
          have f5 : w7.cell? ⟨g, xs.length, none⟩ = some (.int .i64 (-4)) := by
            have h1 := hrow.cells (g := g) rfl xs.length (.int .i64 (-4)) (by simp)
            rwa [addr_at] at h1
          have hi1 : (xs.length : Int) < (n7 : Int) := by omega
          have hi2 : (0 : Int) ≤ (xs.length : Int) := by omega
          clear c0 c3 hw7 hrow hn7 hHeld
          go_upto_region 20 with (fail)
          have hst := HROW.out.stored xs.length (.int .i64 (-4 - (k : Int)))
          rw [set_at _ _ _ _ rfl] at hst
          have HO8 : Hid (NumS (w7.setCell ⟨g, xs.length, none⟩ (.int .i64 (-4 - (k : Int)))) B (.slice (some ⟨g, 0, none⟩) n7 cap7) (xs ++ [-4 - (k : Int)] ++ x.2.1)) := by
            show NumS _ _ _ _
            unfold NumS
            have h2 : (xs ++ [-4 - (k : Int)] ++ x.2.1).length = n7 := by rw [← HN7.out]; simp
            rw [h2]
            exact hst.1
          have HB8 : Hid (Below B w7 (w7.setCell ⟨g, xs.length, none⟩ (.int .i64 (-4 - (k : Int))))) := Below.setCell (Below.refl _ _) hbg _
          have HX8 : Hid (RdB (w7.setCell ⟨g, xs.length, none⟩ (.int .i64 (-4 - (k : Int)))) b nv s6 (.slice (some ⟨g, 0, none⟩) n7 cap7) (st || x.2.2)) := (HB8.out.block b hbB).trans HX7.out
          generalize (w7.setCell ⟨g, xs.length, none⟩ (.int .i64 (-4 - (k : Int)))) = w8 at HO8 HB8 HX8 ⊢
          have HN7L : Hid ((xs ++ [-4 - (k : Int)] ++ x.2.1).length = xs.length + 1 + x.2.1.length) := hide (show (xs ++ [-4 - (k : Int)] ++ x.2.1).length = xs.length + 1 + x.2.1.length by simp; omega)
          clear hst f0 f3 f4 f5
          have c0 := cellOf HX8.out 1
          have c2 := unfrozenOf HX8.out 1
          have c3 := box_lt HX8.out
          go_upto_region 21 with (fail)
          have HX9 : Hid (RdB (w8.setCell ⟨b, 1, none⟩ (.string (s6.extract 1 s6.size))) b nv (s6.extract 1 s6.size) (.slice (some ⟨g, 0, none⟩) n7 cap7) (st || x.2.2)) := setCellOf (i := 1) HX8.out _
          have HO9 : Hid (NumS (w8.setCell ⟨b, 1, none⟩ (.string (s6.extract 1 s6.size))) B (.slice (some ⟨g, 0, none⟩) n7 cap7) (xs ++ [-4 - (k : Int)] ++ x.2.1)) := ownsRow_setCell_below HO8.out hbB _
          have HB9 := hide (show Bx b B w (w8.setCell ⟨b, 1, none⟩ (.string (s6.extract 1 s6.size))) from Bx.setCell hbB (Bx.trans HB7.out (Bx.of HB8.out hbB)) _)
          generalize (w8.setCell ⟨b, 1, none⟩ (.string (s6.extract 1 s6.size))) = w9 at HX9 HO9 HB9 ⊢
          clear c0 c2 c3
          obtain ⟨l2, hl2⟩ : ∃ z, (s6.extract 1 s6.size).data.toList = z := ⟨_, rfl⟩
          have hll2 : (s6.extract 1 s6.size).size = l2.length := by rw [← hl2, size_dl]
          have hll3 : (s6.extract 1 s6.size).size = s6.size - 1 := by simp
          have hqd : signR q = some (l2, k) := by rw [HQC.out, signR, HI1.out, hl2]; rfl
          have HQD := hide hqd
          have hn9 := need_any b nv _ (s6.extract 1 s6.size) (st || x.2.2) 32 w9 (by unfold maxLen; omega) HX9.out
          rw [hl2] at hn9
          cases hq2 : needR 32 l2 with
          | none =>
            rw [hq2] at hn9
            have HN9 := hide hn9
            have hon : o = none := by rw [HOO.out]; unfold openR; rw [HT1.out, Option.bind_some, HQ.out, Option.bind_some, HQD.out, Option.bind_some, hq2]; rfl
            have HON := hide hon
            clear hn9 hq2 hon hll2 hll3 hqd hl2
            go_wp2_with (go_at_call 56; refine HN9.out.mono ?_; rintro e w10 ⟨rfl, rfl⟩)
            exact ⟨rfl, rd_none HON.out HB9.out⟩
          | some q2 =>
            rw [hq2] at hn9
            have HN9 := hide hn9
            have hql2 := needR_len hq2
            have HQ2 := hide hq2
            have HL2 := hide hl2
            have HF2 := hide (show s6.size - 1 = l2.length ∧ q2.length < l2.length from ⟨by omega, hql2⟩)
            clear hn9 hq2 hql2 hll2 hll3 hqd hl2
            go_upto_region 22 with (go_at_call 56; refine HN9.out.mono ?_; rintro e w10 ⟨rfl, g1, g2⟩; have HS10 := hide g1; have HW10 := hide g2; clear g1 g2)
            have HX10 : Hid (RdB w10 b nv ((s6.extract 1 s6.size).extract 1 (s6.extract 1 s6.size).size) (.slice (some ⟨g, 0, none⟩) n7 cap7) (st || x.2.2)) := by rw [HW10.out]; exact setCellOf (i := 1) HX9.out _
            have HO10 : Hid (NumS w10 B (.slice (some ⟨g, 0, none⟩) n7 cap7) (xs ++ [-4 - (k : Int)] ++ x.2.1)) := by rw [HW10.out]; exact ownsRow_setCell_below HO9.out hbB _
            have HB10 : Hid (Bx b B w w10) := by rw [HW10.out]; exact Bx.setCell hbB HB9.out _
            obtain ⟨s10, hs10⟩ : ∃ z, (s6.extract 1 s6.size).extract 1 (s6.extract 1 s6.size).size = z := ⟨_, rfl⟩
            rw [hs10] at HX10 HS10
            clear hs10
            have hs10 : s10.size = q2.length := by rw [← HS10.out, size_dl]
            have hcc := HR.out w10 _ _ _ _ (by obtain ⟨a1, a2, a3, a4, a5⟩ := HF1.out; have := HF2.out; omega) HX10.out HO10.out (by rw [HN7L.out]; obtain ⟨a1, a2, a3, a4, a5⟩ := HF1.out; have := HF2.out; have := HL.out; omega) HB10.out
            rw [HS10.out] at hcc
            cases ht2 : T q2 with
            | none =>
              rw [ht2] at hcc
              have HC2 := hide hcc
              have hon : o = none := by rw [HOO.out]; unfold openR; rw [HT1.out, Option.bind_some, HQ.out, Option.bind_some, HQD.out, Option.bind_some, HQ2.out, Option.bind_some, ht2]; rfl
              have HON := hide hon
              clear hcc ht2 hon hs10
              go_wp2_with (go_at_call 37; refine HC2.out.mono ?_; rintro e w11 ⟨hB, rfl⟩; have HB := hide hB; clear hB)
              exact ⟨rfl, rd_none HON.out (Bx.trans HB10.out HB.out)⟩
            | some z =>
              rw [ht2] at hcc
              have HC2 := hide hcc
              have hz1' := HT.out q2 z ht2
              have HT2 := hide ht2
              clear hcc ht2
              go_upto_region 23 with (go_at_call 37; refine HC2.out.mono ?_; rintro e w11 ⟨hB, rfl, s11, fv11, g1, g2, g3⟩; have HB11 := hide hB; have HS11 := hide g1; have HX11 := hide g2; have HO11 := hide g3; clear hB g1 g2 g3)
              have hs11 : s11.size = z.1.length := by rw [← HS11.out, size_dl]
              have hn11 := need_any b nv fv11 s11 (st || x.2.2 || z.2.2) 41 w11 (by unfold maxLen; obtain ⟨a1, a2, a3, a4, a5⟩ := HF1.out; have := HF2.out; omega) HX11.out
              rw [HS11.out] at hn11
              cases hq3 : needR 41 z.1 with
              | none =>
                rw [hq3] at hn11
                have HN11 := hide hn11
                have hon : o = none := by rw [HOO.out]; unfold openR; rw [HT1.out, Option.bind_some, HQ.out, Option.bind_some, HQD.out, Option.bind_some, HQ2.out, Option.bind_some, HT2.out, Option.bind_some, hq3]; rfl
                have HON := hide hon
                clear hn11 hq3 hon hs11 hz1' hs10
                go_wp2_with (go_at_call 56; refine HN11.out.mono ?_; rintro e w12 ⟨rfl, rfl⟩)
                exact ⟨rfl, rd_none HON.out (Bx.trans HB10.out HB11.out)⟩
              | some q3 =>
                rw [hq3] at hn11
                have HN11 := hide hn11
                have hon : o = some (q3, (-4 - (k : Int)) :: (x.2.1 ++ z.2.1), x.2.2 || z.2.2) := by rw [HOO.out]; unfold openR; rw [HT1.out, Option.bind_some, HQ.out, Option.bind_some, HQD.out, Option.bind_some, HQ2.out, Option.bind_some, HT2.out, Option.bind_some, hq3]; rfl
                have HON := hide hon
                clear hn11 hq3 hon hs11 hz1' hs10
                go_wp2_with (go_at_call 56; refine HN11.out.mono ?_; rintro e w12 ⟨rfl, g1, g2⟩; have HS12 := hide g1; have HW12 := hide g2; clear g1 g2)
                go_end0
                rw [HON.out]
                refine ⟨?_, rfl, s11.extract 1 s11.size, fv11, HS12.out, ?_, ?_⟩
                · rw [HW12.out]; exact Bx.setCell hbB (Bx.trans HB10.out HB11.out) _
                · rw [HW12.out]
                  have h1 := setCellOf (i := 1) HX11.out (.string (s11.extract 1 s11.size))
                  rw [Bool.or_assoc] at h1
                  exact h1
                · rw [HW12.out]
                  have h1 := ownsRow_setCell_below HO11.out (a := ⟨b, 1, none⟩) hbB (.string (s11.extract 1 s11.size))
                  have h2 : xs ++ (-4 - (k : Int)) :: (x.2.1 ++ z.2.1) = xs ++ [-4 - (k : Int)] ++ x.2.1 ++ z.2.1 := by simp
                  show NumS _ _ _ _
                  rw [h2]
                  exact h1
end Go.Proofs.YtjimbcklnnhloaaDoor
/- The reader of a formula: a term is read as termR says. -/
namespace Go.Proofs.YtjimbcklnnhloaaDoor
open Go.RowKit
set_option linter.unusedVariables false
set_option linter.unusedSimpArgs false
theorem wordN_pos {l : List UInt8} (h : namedB (l.take (wordN l)) = true) : 0 < wordN l := by
  simp only [namedB, Bool.and_eq_true, decide_eq_true_eq] at h
  have h1 := h.1.1.1.1.1
  rw [List.length_take] at h1
  omega
theorem nameR_len {ns : List (List UInt8)} {l : List UInt8} {x : List UInt8 × List Int × Bool} (h : nameR ns l = some x) : x.1.length + x.2.1.length ≤ l.length := by
  have hle := wordN_le l
  have key : 0 < wordN l → ∀ (n : Int) (b : Bool), (l.drop (wordN l)).length + [n].length ≤ l.length := by
    intro h0 n b
    rw [List.length_drop]
    simp only [List.length_singleton]
    omega
  have hp : ∀ (k : List UInt8), 0 < k.length → l.take (wordN l) = k → 0 < wordN l := by
    intro k hk he
    have := congrArg List.length he
    rw [List.length_take] at this
    omega
  unfold nameR at h
  split at h
  · rename_i e
    simp only [Option.some.injEq] at h; subst h
    exact key (hp _ (by decide) e) _ true
  · split at h
    · rename_i e
      simp only [Option.some.injEq] at h; subst h
      exact key (hp _ (by decide) e) _ true
    · split at h
      · rename_i e
        simp only [Option.some.injEq] at h; subst h
        exact key (wordN_pos e) _ true
      · simp at h
/-- A term has no more numbers than bytes. -/
theorem termR_len {ns : List (List UInt8)} : ∀ (n : Nat) (l : List UInt8) (x : List UInt8 × List Int × Bool), termR ns n l = some x → x.1.length + x.2.1.length ≤ l.length
  | 0, l, x, h => by simp [termR] at h
  | n + 1, [], x, h => by simp [termR] at h
  | n + 1, c :: r, x, h => by
    rw [termR] at h
    split at h
    · rw [Option.map_eq_some_iff] at h
      obtain ⟨y, hy, rfl⟩ := h
      have := termR_len n r y hy
      simp; omega
    · split at h
      · simp only [Option.bind_eq_some_iff, Option.map_eq_some_iff] at h
        obtain ⟨y, hy, r1, h1, z, hz, r2, h2, u, hu, r3, h3, rfl⟩ := h
        have a1 := termR_len n r y hy
        have a3 := needR_len h1
        have a4 := signR_len hz
        have a5 := needR_len h2
        have a6 := termR_len n r2 u hu
        have a7 := needR_len h3
        simp; omega
      · exact nameR_len h
/-- The reader's term reads as termR says. -/
theorem term_any (ns : List ByteArray) (nv : Value) (b B : Nat) (hbB : b < B) (hb0 : 0 < b) (hnl : ns.length ≤ maxLen) : ∀ (n : Nat) (s : ByteArray) (fv : Value) (st : Bool) (xs : List Int) (w : World), s.size ≤ n → s.size ≤ maxLen → RdB w b nv s fv st → B ≤ w.heap.size → NumS w B fv xs → xs.length + s.size ≤ 1000000 → Names w b nv ns → SgnAt w 0 →
    Calls Tryd.prog 37 #[.pointer (some ⟨b, 0, none⟩)] w (RdP b B nv st xs w (termR (ns.map fun x => x.data.toList) n s.data.toList))
  | n, s, fv, st, xs, w, hn, hs, hb, hBw, ho, hl, hns, hsg => by
    by_cases h0 : s.size = 0
    · have he : s.data.toList = [] := List.eq_nil_of_length_eq_zero (by rw [size_dl]; exact h0)
      have e : termR (ns.map fun x => x.data.toList) n s.data.toList = none := by
        rw [he]
        cases n <;> rfl
      rw [e]
      exact (term_empty b B hbB nv fv s st w hb hBw h0).mono fun e w' h => ⟨h.2, h.1⟩
    · have hp : 0 < s.size := by omega
      match n, hn with
      | 0, hn => omega
      | n + 1, hn =>
        have hsg1 : ∀ w1, Bx b B w w1 → SgnAt w1 0 := fun w1 hB j hj => by
          have h1 := hsg j hj
          rw [← hB.low.cell (p := ⟨0, j, none⟩) hb0] at h1
          exact h1
        have hr : ∀ (w1 : World) (fv1 : Value) (s1 : ByteArray) (st1 : Bool) (xs1 : List Int), s1.size < s.size → RdB w1 b nv s1 fv1 st1 → NumS w1 B fv1 xs1 → xs1.length + s1.size ≤ 1000000 → Bx b B w w1 → Calls Tryd.prog 37 #[.pointer (some ⟨b, 0, none⟩)] w1 (RdP b B nv st1 xs1 w1 (termR (ns.map fun x => x.data.toList) n s1.data.toList)) :=
          fun w1 fv1 s1 st1 xs1 g1 g2 g3 g4 g5 => term_any ns nv b B hbB hb0 hnl n s1 fv1 st1 xs1 w1 (by omega) (by omega) g2 (g5.big hBw) g3 g4 (hns.below g5.low) (hsg1 w1 g5)
        rw [str_cons hp, termR]
        have hsz1 : (s.extract 1 s.size).size = s.size - 1 := by simp
        by_cases h1 : s[0] = 33
        · rw [if_pos h1]
          exact term_bang b B hbB nv fv s st xs w hs hb hBw ho (by omega) hp h1 _ fun w1 fv1 g2 g3 g5 => hr w1 fv1 _ _ _ (by omega) g2 g3 (by simp; omega) g5
        · rw [if_neg h1]
          by_cases h2 : s[0] = 40
          · rw [if_pos h2]
            exact term_open b B hbB nv fv s st xs w (termR (ns.map fun x => x.data.toList) n) (fun l x h => termR_len n l x h) hs hb hBw ho hl hp h2 hsg hb0 hr _ rfl
          · rw [if_neg h2, ← str_cons hp]
            exact term_name b B hbB nv fv s st xs ns w hs hb hBw ho (by omega) hns hnl hp h1 h2
end Go.Proofs.YtjimbcklnnhloaaDoor
/- The elder program's reader: takes: walk. -/
namespace Go.Proofs.YtjimbcklnnhloaaDoor
open Go.RowKit
set_option linter.unusedVariables false
set_option linter.unusedSimpArgs false
/-- The elder reader in its box. -/
def RxB (w : World) (b : Nat) (ov rv : Value) (s : ByteArray) (a : Nat) (fv : Value) (st : Bool) : Prop := w.heap[b]? = some (.cells #[ov, rv, .string s, .int .i64 (a : Nat), fv, .bool st] 50 (0, 0))
theorem owns_keep {w w1 : World} {B e n : Nat} {v : Value} {xs : List Value} (h : w.ownsRow B e 1 v n xs) (hk : ∀ g, B ≤ g → g < w.heap.size → w1.heap[g]? = w.heap[g]?) : w1.ownsRow B e 1 v n xs := by
  refine ⟨h.1, ?_⟩
  rcases h.2 with h' | ⟨g, cap, cur, h', hb, hg, hr⟩
  · exact .inl h'
  · exact .inr ⟨g, cap, cur, h', hb, (hk g hb (box_lt hg)).trans hg, hr⟩
theorem numS_bx {w w1 : World} {b B : Nat} {fv : Value} {xs : List Int} (h : NumS w B fv xs) (hbB : b < B) (hB : Bx b w.heap.size w w1) : NumS w1 B fv xs :=
  owns_keep h fun g h1 h2 => hB.mid g (by omega) h2
theorem one_str {t : ByteArray} {c : UInt8} (h : t.data.toList = [c]) : t.size = 1 ∧ t.toList = [c] := ⟨by rw [← size_dl, h]; rfl, by rw [ByteArray.toList_eq, h]⟩
theorem at_str (s : ByteArray) (a : Nat) (h : a < s.size) : (s.extract a (a + 1)).toList = [s[a]] := by
  rw [ByteArray.toList_eq, ByteArray.data_extract, Array.toList_extract, List.extract_eq_take_drop]
  have h3 : a < s.data.toList.length := by rw [size_dl]; exact h
  rw [show a + 1 - a = 1 by omega, List.drop_eq_getElem_cons h3]
  rfl
theorem drop_at (s : ByteArray) (a : Nat) (h : a < s.size) : s.data.toList.drop a = s[a] :: s.data.toList.drop (a + 1) := by
  have h3 : a < s.data.toList.length := by rw [size_dl]; exact h
  rw [List.drop_eq_getElem_cons h3]
  rfl
set_option maxRecDepth 100000 in
set_option maxHeartbeats 4000000 in
theorem takes_end (b : Nat) (ov rv fv : Value) (s t : ByteArray) (a : Nat) (st : Bool) (w : World) (hs : s.size ≤ 1000000) (hb : RxB w b ov rv s a fv st) (ha : a = s.size) (ht : t.size = 1) :
    Calls Tryd.prog 40 #[.pointer (some ⟨b, 0, none⟩), .string t] w fun e w' => e = .returned (.bool false) ∧ Below w.heap.size w w' := by
  have c1 := cellOf hb 2
  have c2 := cellOf hb 3
  have c3 := box_lt hb
  have e1 : decide ((s.size : Int) - (a : Int) < (t.size : Int)) = true := by simp; omega
  have j1 : (s.size : Int) - (a : Int) < (t.size : Int) := by omega
  have j2 : (s.size : Int) ≤ 1000000 := by omega
  have j3 : (a : Int) ≤ 1000000 := by omega
  have HT := hide ht
  have HA := hide ha
  have wz : IntKind.i64.wrap ((s.size : Int) - (a : Int)) = (s.size : Int) - (a : Int) := IntWalk.i64_in _ (by omega)
  clear hb ha ht hs
  go_enter Tryd.func40, Tryd.ntmps40
  go_upto_region 1 with (fail)
  refine wp_region_held_drew (S := (fun w' => Below w.heap.size w w')) (by kernel_rfl) ?_ (fun hHeld => ?_)
  · try dsimp only
    exact (by repeat (first | exact Below.refl _ _ | assumption | refine Below.drew ?_ | refine Below.drewN ?_ _ | refine Below.allocT ?_ (Nat.le_refl _) _ | refine Below.setCell ?_ (by simp <;> omega) _ | refine Below.to ?_ (by assumption) (Nat.le_refl _)))
  refine wpAnyH_take (i := 0) (v := ?v1_0) rfl (by kernel_rfl) (by kernel_rfl) (by kernel_rfl) (fun _ _ _ h => h) (Or.inl ⟨by rfl, ?y1_0⟩) (by assumption) ?r1_0
  case' y1_0 => (intro w hSw; (try dsimp only at hSw); (try have hlS := HLK.out _ hSw); obtain ⟨hcS, hfS⟩ := bcell hSw; clear hSw; go_simp; try with_reducible rfl)
  try simp only [Act.put, List.getElem_toArray, List.getElem_cons_succ, List.getElem_cons_zero, List.setIfInBounds_toArray, List.set_cons_zero, List.set_cons_succ]
  refine wpAnyH_take (i := 1) (v := ?v1_1) rfl (by kernel_rfl) (by kernel_rfl) (by kernel_rfl) (fun _ _ _ h => h) (Or.inl ⟨by rfl, ?y1_1⟩) (by assumption) ?r1_1
  case' y1_1 => (intro w hSw; (try dsimp only at hSw); (try have hlS := HLK.out _ hSw); obtain ⟨hcS, hfS⟩ := bcell hSw; clear hSw; go_simp; try with_reducible rfl)
  try simp only [Act.put, List.getElem_toArray, List.getElem_cons_succ, List.getElem_cons_zero, List.setIfInBounds_toArray, List.set_cons_zero, List.set_cons_succ]
  refine wpAnyH_take (i := 2) (v := ?v1_2) rfl (by kernel_rfl) (by kernel_rfl) (by kernel_rfl) (fun _ _ _ h => h) (Or.inl ⟨by rfl, ?y1_2⟩) (by assumption) ?r1_2
  case' y1_2 => (intro w hSw; (try dsimp only at hSw); (try have hlS := HLK.out _ hSw); obtain ⟨hcS, hfS⟩ := bcell hSw; clear hSw; go_simp; try with_reducible rfl)
  try simp only [Act.put, List.getElem_toArray, List.getElem_cons_succ, List.getElem_cons_zero, List.setIfInBounds_toArray, List.set_cons_zero, List.set_cons_succ]
  refine wpAnyH_take (i := 3) (v := ?v1_3) rfl (by kernel_rfl) (by kernel_rfl) (by kernel_rfl) (fun _ _ _ h => h) (Or.inl ⟨by rfl, ?y1_3⟩) (by assumption) ?r1_3
  case' y1_3 => (intro w hSw; (try dsimp only at hSw); (try have hlS := HLK.out _ hSw); obtain ⟨hcS, hfS⟩ := bcell hSw; clear hSw; go_simp; try with_reducible rfl)
  try simp only [Act.put, List.getElem_toArray, List.getElem_cons_succ, List.getElem_cons_zero, List.setIfInBounds_toArray, List.set_cons_zero, List.set_cons_succ]
  refine wpAnyH_take (i := 4) (v := ?v1_4) rfl (by kernel_rfl) (by kernel_rfl) (by kernel_rfl) (fun _ _ _ h => h) (Or.inl ⟨by rfl, ?y1_4⟩) (by assumption) ?r1_4
  case' y1_4 => (intro w hSw; (try dsimp only at hSw); (try have hlS := HLK.out _ hSw); obtain ⟨hcS, hfS⟩ := bcell hSw; clear hSw; go_simp; try with_reducible rfl)
  try simp only [Act.put, List.getElem_toArray, List.getElem_cons_succ, List.getElem_cons_zero, List.setIfInBounds_toArray, List.set_cons_zero, List.set_cons_succ]
  refine wpAnyH_take (i := 5) (v := ?v1_5) rfl (by kernel_rfl) (by kernel_rfl) (by kernel_rfl) (fun _ _ _ h => h) (Or.inl ⟨by rfl, ?y1_5⟩) (by assumption) ?r1_5
  case' y1_5 => (intro w hSw; (try dsimp only at hSw); (try have hlS := HLK.out _ hSw); obtain ⟨hcS, hfS⟩ := bcell hSw; clear hSw; go_simp; try with_reducible rfl)
  try simp only [Act.put, List.getElem_toArray, List.getElem_cons_succ, List.getElem_cons_zero, List.setIfInBounds_toArray, List.set_cons_zero, List.set_cons_succ]
  refine wpAnyH_take (i := 6) (v := ?v1_6) rfl (by kernel_rfl) (by kernel_rfl) (by kernel_rfl) (fun _ _ _ h => h) (Or.inl ⟨by rfl, ?y1_6⟩) (by assumption) ?r1_6
  case' y1_6 => (intro w hSw; (try dsimp only at hSw); (try have hlS := HLK.out _ hSw); obtain ⟨hcS, hfS⟩ := bcell hSw; clear hSw; go_simp; try with_reducible rfl)
  try simp only [Act.put, List.getElem_toArray, List.getElem_cons_succ, List.getElem_cons_zero, List.setIfInBounds_toArray, List.set_cons_zero, List.set_cons_succ]
  refine wpAnyH_take (i := 7) (v := ?v1_7) rfl (by kernel_rfl) (by kernel_rfl) (by kernel_rfl) (fun _ _ _ h => h) (Or.inl ⟨by rfl, ?y1_7⟩) (by assumption) ?r1_7
  case' y1_7 => (intro w hSw; (try dsimp only at hSw); (try have hlS := HLK.out _ hSw); obtain ⟨hcS, hfS⟩ := bcell hSw; clear hSw; go_simp; try with_reducible rfl)
  try simp only [Act.put, List.getElem_toArray, List.getElem_cons_succ, List.getElem_cons_zero, List.setIfInBounds_toArray, List.set_cons_zero, List.set_cons_succ]
  refine wpAnyH_take (i := 8) (v := ?v1_8) rfl (by kernel_rfl) (by kernel_rfl) (by kernel_rfl) (fun _ _ _ h => h) (Or.inl ⟨by rfl, ?y1_8⟩) (by assumption) ?r1_8
  case' y1_8 => (intro w hSw; (try dsimp only at hSw); (try have hlS := HLK.out _ hSw); obtain ⟨hcS, hfS⟩ := bcell hSw; clear hSw; go_simp; try with_reducible rfl)
  try simp only [Act.put, List.getElem_toArray, List.getElem_cons_succ, List.getElem_cons_zero, List.setIfInBounds_toArray, List.set_cons_zero, List.set_cons_succ]
  refine wpAnyH_take (i := 9) (v := ?v1_9) rfl (by kernel_rfl) (by kernel_rfl) (by kernel_rfl) (fun _ _ _ h => h) (Or.inl ⟨by rfl, ?y1_9⟩) (by assumption) ?r1_9
  case' y1_9 => (intro w hSw; (try dsimp only at hSw); (try have hlS := HLK.out _ hSw); obtain ⟨hcS, hfS⟩ := bcell hSw; clear hSw; go_simp; try with_reducible rfl)
  try simp only [Act.put, List.getElem_toArray, List.getElem_cons_succ, List.getElem_cons_zero, List.setIfInBounds_toArray, List.set_cons_zero, List.set_cons_succ]
  refine wpAnyH_take (i := 10) (v := ?v1_10) rfl (by kernel_rfl) (by kernel_rfl) (by kernel_rfl) (fun _ _ _ h => h) (Or.inl ⟨by rfl, ?y1_10⟩) (by assumption) ?r1_10
  case' y1_10 => (intro w hSw; (try dsimp only at hSw); (try have hlS := HLK.out _ hSw); obtain ⟨hcS, hfS⟩ := bcell hSw; clear hSw; go_simp; try with_reducible rfl)
  try simp only [Act.put, List.getElem_toArray, List.getElem_cons_succ, List.getElem_cons_zero, List.setIfInBounds_toArray, List.set_cons_zero, List.set_cons_succ]
  refine wpAnyH_take (i := 11) (v := ?v1_11) rfl (by kernel_rfl) (by kernel_rfl) (by kernel_rfl) (fun _ _ _ h => h) (Or.inl ⟨by rfl, ?y1_11⟩) (by assumption) ?r1_11
  case' y1_11 => (intro w hSw; (try dsimp only at hSw); (try have hlS := HLK.out _ hSw); obtain ⟨hcS, hfS⟩ := bcell hSw; clear hSw; go_simp; try with_reducible rfl)
  try simp only [Act.put, List.getElem_toArray, List.getElem_cons_succ, List.getElem_cons_zero, List.setIfInBounds_toArray, List.set_cons_zero, List.set_cons_succ]
  refine wpAnyH_take (i := 12) (v := ?v1_12) rfl (by kernel_rfl) (by kernel_rfl) (by kernel_rfl) (fun _ _ _ h => h) (Or.inl ⟨by rfl, ?y1_12⟩) (by assumption) ?r1_12
  case' y1_12 => (intro w hSw; (try dsimp only at hSw); (try have hlS := HLK.out _ hSw); obtain ⟨hcS, hfS⟩ := bcell hSw; clear hSw; go_simp; try with_reducible rfl)
  try simp only [Act.put, List.getElem_toArray, List.getElem_cons_succ, List.getElem_cons_zero, List.setIfInBounds_toArray, List.set_cons_zero, List.set_cons_succ]
  refine wpAnyH_take (i := 13) (v := ?v1_13) rfl (by kernel_rfl) (by kernel_rfl) (by kernel_rfl) (fun _ _ _ h => h) (Or.inl ⟨by rfl, ?y1_13⟩) (by assumption) ?r1_13
  case' y1_13 => (intro w hSw; (try dsimp only at hSw); (try have hlS := HLK.out _ hSw); obtain ⟨hcS, hfS⟩ := bcell hSw; clear hSw; go_simp; try with_reducible rfl)
  try simp only [Act.put, List.getElem_toArray, List.getElem_cons_succ, List.getElem_cons_zero, List.setIfInBounds_toArray, List.set_cons_zero, List.set_cons_succ]
  refine wpAnyH_take (i := 14) (v := undef) rfl (by kernel_rfl) (by kernel_rfl) (by kernel_rfl) (fun _ _ _ h => h) (Or.inr ⟨?w1_14, rfl⟩) (by assumption) ?r1_14
  case' w1_14 => first | rfl | (simp [Region.wanted, yielded, *]; done)
  try simp only [Act.put, List.getElem_toArray, List.getElem_cons_succ, List.getElem_cons_zero, List.setIfInBounds_toArray, List.set_cons_zero, List.set_cons_succ]
  refine wpAnyH_take (i := 15) (v := undef) rfl (by kernel_rfl) (by kernel_rfl) (by kernel_rfl) (fun _ _ _ h => h) (Or.inr ⟨?w1_15, rfl⟩) (by assumption) ?r1_15
  case' w1_15 => first | rfl | (simp [Region.wanted, yielded, *]; done)
  try simp only [Act.put, List.getElem_toArray, List.getElem_cons_succ, List.getElem_cons_zero, List.setIfInBounds_toArray, List.set_cons_zero, List.set_cons_succ]
  refine wpAnyH_take (i := 16) (v := undef) rfl (by kernel_rfl) (by kernel_rfl) (by kernel_rfl) (fun _ _ _ h => h) (Or.inr ⟨?w1_16, rfl⟩) (by assumption) ?r1_16
  case' w1_16 => first | rfl | (simp [Region.wanted, yielded, *]; done)
  try simp only [Act.put, List.getElem_toArray, List.getElem_cons_succ, List.getElem_cons_zero, List.setIfInBounds_toArray, List.set_cons_zero, List.set_cons_succ]
  refine wpAnyH_take (i := 17) (v := undef) rfl (by kernel_rfl) (by kernel_rfl) (by kernel_rfl) (fun _ _ _ h => h) (Or.inr ⟨?w1_17, rfl⟩) (by assumption) ?r1_17
  case' w1_17 => first | rfl | (simp [Region.wanted, yielded, *]; done)
  try simp only [Act.put, List.getElem_toArray, List.getElem_cons_succ, List.getElem_cons_zero, List.setIfInBounds_toArray, List.set_cons_zero, List.set_cons_succ]
  refine wpAnyH_take (i := 18) (v := undef) rfl (by kernel_rfl) (by kernel_rfl) (by kernel_rfl) (fun _ _ _ h => h) (Or.inr ⟨?w1_18, rfl⟩) (by assumption) ?r1_18
  case' w1_18 => first | rfl | (simp [Region.wanted, yielded, *]; done)
  try simp only [Act.put, List.getElem_toArray, List.getElem_cons_succ, List.getElem_cons_zero, List.setIfInBounds_toArray, List.set_cons_zero, List.set_cons_succ]
  refine wpAnyH_take (i := 19) (v := undef) rfl (by kernel_rfl) (by kernel_rfl) (by kernel_rfl) (fun _ _ _ h => h) (Or.inr ⟨?w1_19, rfl⟩) (by assumption) ?r1_19
  case' w1_19 => first | rfl | (simp [Region.wanted, yielded, *]; done)
  try simp only [Act.put, List.getElem_toArray, List.getElem_cons_succ, List.getElem_cons_zero, List.setIfInBounds_toArray, List.set_cons_zero, List.set_cons_succ]
  refine wpAnyH_take (i := 20) (v := undef) rfl (by kernel_rfl) (by kernel_rfl) (by kernel_rfl) (fun _ _ _ h => h) (Or.inr ⟨?w1_20, rfl⟩) (by assumption) ?r1_20
  case' w1_20 => first | rfl | (simp [Region.wanted, yielded, *]; done)
  try simp only [Act.put, List.getElem_toArray, List.getElem_cons_succ, List.getElem_cons_zero, List.setIfInBounds_toArray, List.set_cons_zero, List.set_cons_succ]
  refine wpAnyH_take (i := 21) (v := undef) rfl (by kernel_rfl) (by kernel_rfl) (by kernel_rfl) (fun _ _ _ h => h) (Or.inr ⟨?w1_21, rfl⟩) (by assumption) ?r1_21
  case' w1_21 => first | rfl | (simp [Region.wanted, yielded, *]; done)
  try simp only [Act.put, List.getElem_toArray, List.getElem_cons_succ, List.getElem_cons_zero, List.setIfInBounds_toArray, List.set_cons_zero, List.set_cons_succ]
  refine wpAnyH_take (i := 22) (v := undef) rfl (by kernel_rfl) (by kernel_rfl) (by kernel_rfl) (fun _ _ _ h => h) (Or.inr ⟨?w1_22, rfl⟩) (by assumption) ?r1_22
  case' w1_22 => first | rfl | (simp [Region.wanted, yielded, *]; done)
  try simp only [Act.put, List.getElem_toArray, List.getElem_cons_succ, List.getElem_cons_zero, List.setIfInBounds_toArray, List.set_cons_zero, List.set_cons_succ]
  refine wpAnyH_take (i := 23) (v := undef) rfl (by kernel_rfl) (by kernel_rfl) (by kernel_rfl) (fun _ _ _ h => h) (Or.inr ⟨?w1_23, rfl⟩) (by assumption) ?r1_23
  case' w1_23 => first | rfl | (simp [Region.wanted, yielded, *]; done)
  try simp only [Act.put, List.getElem_toArray, List.getElem_cons_succ, List.getElem_cons_zero, List.setIfInBounds_toArray, List.set_cons_zero, List.set_cons_succ]
  refine wpAnyH_take (i := 24) (v := undef) rfl (by kernel_rfl) (by kernel_rfl) (by kernel_rfl) (fun _ _ _ h => h) (Or.inr ⟨?w1_24, rfl⟩) (by assumption) ?r1_24
  case' w1_24 => first | rfl | (simp [Region.wanted, yielded, *]; done)
  try simp only [Act.put, List.getElem_toArray, List.getElem_cons_succ, List.getElem_cons_zero, List.setIfInBounds_toArray, List.set_cons_zero, List.set_cons_succ]
  refine wpAnyH_take (i := 25) (v := undef) rfl (by kernel_rfl) (by kernel_rfl) (by kernel_rfl) (fun _ _ _ h => h) (Or.inr ⟨?w1_25, rfl⟩) (by assumption) ?r1_25
  case' w1_25 => first | rfl | (simp [Region.wanted, yielded, *]; done)
  try simp only [Act.put, List.getElem_toArray, List.getElem_cons_succ, List.getElem_cons_zero, List.setIfInBounds_toArray, List.set_cons_zero, List.set_cons_succ]
  refine wpAnyH_take (i := 26) (v := undef) rfl (by kernel_rfl) (by kernel_rfl) (by kernel_rfl) (fun _ _ _ h => h) (Or.inr ⟨?w1_26, rfl⟩) (by assumption) ?r1_26
  case' w1_26 => first | rfl | (simp [Region.wanted, yielded, *]; done)
  try simp only [Act.put, List.getElem_toArray, List.getElem_cons_succ, List.getElem_cons_zero, List.setIfInBounds_toArray, List.set_cons_zero, List.set_cons_succ]
  refine wpAnyH_take (i := 27) (v := undef) rfl (by kernel_rfl) (by kernel_rfl) (by kernel_rfl) (fun _ _ _ h => h) (Or.inr ⟨?w1_27, rfl⟩) (by assumption) ?r1_27
  case' w1_27 => first | rfl | (simp [Region.wanted, yielded, *]; done)
  try simp only [Act.put, List.getElem_toArray, List.getElem_cons_succ, List.getElem_cons_zero, List.setIfInBounds_toArray, List.set_cons_zero, List.set_cons_succ]
  refine wpAnyH_take (i := 28) (v := undef) rfl (by kernel_rfl) (by kernel_rfl) (by kernel_rfl) (fun _ _ _ h => h) (Or.inr ⟨?w1_28, rfl⟩) (by assumption) ?r1_28
  case' w1_28 => first | rfl | (simp [Region.wanted, yielded, *]; done)
  try simp only [Act.put, List.getElem_toArray, List.getElem_cons_succ, List.getElem_cons_zero, List.setIfInBounds_toArray, List.set_cons_zero, List.set_cons_succ]
  refine wpAnyH_take (i := 29) (v := undef) rfl (by kernel_rfl) (by kernel_rfl) (by kernel_rfl) (fun _ _ _ h => h) (Or.inr ⟨?w1_29, rfl⟩) (by assumption) ?r1_29
  case' w1_29 => first | rfl | (simp [Region.wanted, yielded, *]; done)
  try simp only [Act.put, List.getElem_toArray, List.getElem_cons_succ, List.getElem_cons_zero, List.setIfInBounds_toArray, List.set_cons_zero, List.set_cons_succ]
  refine wpAnyH_take (i := 30) (v := undef) rfl (by kernel_rfl) (by kernel_rfl) (by kernel_rfl) (fun _ _ _ h => h) (Or.inr ⟨?w1_30, rfl⟩) (by assumption) ?r1_30
  case' w1_30 => first | rfl | (simp [Region.wanted, yielded, *]; done)
  try simp only [Act.put, List.getElem_toArray, List.getElem_cons_succ, List.getElem_cons_zero, List.setIfInBounds_toArray, List.set_cons_zero, List.set_cons_succ]
  refine wpAnyH_take (i := 31) (v := undef) rfl (by kernel_rfl) (by kernel_rfl) (by kernel_rfl) (fun _ _ _ h => h) (Or.inr ⟨?w1_31, rfl⟩) (by assumption) ?r1_31
  case' w1_31 => first | rfl | (simp [Region.wanted, yielded, *]; done)
  try simp only [Act.put, List.getElem_toArray, List.getElem_cons_succ, List.getElem_cons_zero, List.setIfInBounds_toArray, List.set_cons_zero, List.set_cons_succ]
  refine wpAnyH_take (i := 32) (v := ?v1_32) rfl (by kernel_rfl) (by kernel_rfl) (by kernel_rfl) (fun _ _ _ h => h) (Or.inl ⟨by rfl, ?y1_32⟩) (by assumption) ?r1_32
  case' y1_32 => (intro w hSw; (try dsimp only at hSw); (try have hlS := HLK.out _ hSw); obtain ⟨hcS, hfS⟩ := bcell hSw; clear hSw; go_simp; try with_reducible rfl)
  try simp only [Act.put, List.getElem_toArray, List.getElem_cons_succ, List.getElem_cons_zero, List.setIfInBounds_toArray, List.set_cons_zero, List.set_cons_succ]
  refine wpAnyH_done (by kernel_rfl) ?_ _
  clear wz
  go_wp2
  go_ret
  exact ⟨rfl, hHeld⟩
set_option maxRecDepth 100000 in
set_option maxHeartbeats 4000000 in
theorem takes_not (b : Nat) (ov rv fv : Value) (s t : ByteArray) (a : Nat) (c : UInt8) (st : Bool) (w : World) (hs : s.size ≤ 1000000) (hb : RxB w b ov rv s a fv st) (ha : a < s.size) (ht : t.data.toList = [c]) (hc : s[a] ≠ c) :
    Calls Tryd.prog 40 #[.pointer (some ⟨b, 0, none⟩), .string t] w fun e w' => e = .returned (.bool false) ∧ Below w.heap.size w w' := by
  have c1 := cellOf hb 2
  have c2 := cellOf hb 3
  have c3 := box_lt hb
  obtain ⟨ht1, ht2⟩ := one_str ht
  have h1 : ¬ (s.extract a (a + 1)).toList = t.toList := by rw [at_str s a ha, ht2]; simpa using hc
  have h2 : ((s.extract a (a + 1)).toList == t.toList) = false := by simpa using h1
  have h3 : ((s.extract a (a + 1)).toList != t.toList) = true := by simpa using h1
  have e1 : decide ((s.size : Int) - (a : Int) < (t.size : Int)) = false := by simp; omega
  have j1 : ¬ (s.size : Int) - (a : Int) < (t.size : Int) := by omega
  have j2 : (s.size : Int) ≤ 1000000 := by omega
  have j3 : (a : Int) ≤ 1000000 := by omega
  have j4 : (0 : Int) ≤ (a : Int) := by omega
  have j5 : (a : Int) ≤ (a : Int) + (t.size : Int) := by omega
  have j6 : (a : Int) + (t.size : Int) ≤ (s.size : Int) := by omega
  have wz : IntKind.i64.wrap ((s.size : Int) - (a : Int)) = (s.size : Int) - (a : Int) := IntWalk.i64_in _ (by omega)
  have wy : IntKind.i64.wrap ((a : Int) + (t.size : Int)) = (a : Int) + (t.size : Int) := IntWalk.i64_in _ (by omega)
  have wx : ((a : Int) + (t.size : Int)).toNat = a + 1 := by omega
  clear hb ha ht hs ht1 ht2 hc
  go_enter Tryd.func40, Tryd.ntmps40
  go_upto_region 1 with (fail)
  refine wp_region_held_drew (S := (fun w' => Below w.heap.size w w')) (by kernel_rfl) ?_ (fun hHeld => ?_)
  · try dsimp only
    exact (by repeat (first | exact Below.refl _ _ | assumption | refine Below.drew ?_ | refine Below.drewN ?_ _ | refine Below.allocT ?_ (Nat.le_refl _) _ | refine Below.setCell ?_ (by simp <;> omega) _ | refine Below.to ?_ (by assumption) (Nat.le_refl _)))
  refine wpAnyH_take (i := 0) (v := ?v2_0) rfl (by kernel_rfl) (by kernel_rfl) (by kernel_rfl) (fun _ _ _ h => h) (Or.inl ⟨by rfl, ?y2_0⟩) (by assumption) ?r2_0
  case' y2_0 => (intro w hSw; (try dsimp only at hSw); (try have hlS := HLK.out _ hSw); obtain ⟨hcS, hfS⟩ := bcell hSw; clear hSw; go_simp; try with_reducible rfl)
  try simp only [Act.put, List.getElem_toArray, List.getElem_cons_succ, List.getElem_cons_zero, List.setIfInBounds_toArray, List.set_cons_zero, List.set_cons_succ]
  refine wpAnyH_take (i := 1) (v := ?v2_1) rfl (by kernel_rfl) (by kernel_rfl) (by kernel_rfl) (fun _ _ _ h => h) (Or.inl ⟨by rfl, ?y2_1⟩) (by assumption) ?r2_1
  case' y2_1 => (intro w hSw; (try dsimp only at hSw); (try have hlS := HLK.out _ hSw); obtain ⟨hcS, hfS⟩ := bcell hSw; clear hSw; go_simp; try with_reducible rfl)
  try simp only [Act.put, List.getElem_toArray, List.getElem_cons_succ, List.getElem_cons_zero, List.setIfInBounds_toArray, List.set_cons_zero, List.set_cons_succ]
  refine wpAnyH_take (i := 2) (v := ?v2_2) rfl (by kernel_rfl) (by kernel_rfl) (by kernel_rfl) (fun _ _ _ h => h) (Or.inl ⟨by rfl, ?y2_2⟩) (by assumption) ?r2_2
  case' y2_2 => (intro w hSw; (try dsimp only at hSw); (try have hlS := HLK.out _ hSw); obtain ⟨hcS, hfS⟩ := bcell hSw; clear hSw; go_simp; try with_reducible rfl)
  try simp only [Act.put, List.getElem_toArray, List.getElem_cons_succ, List.getElem_cons_zero, List.setIfInBounds_toArray, List.set_cons_zero, List.set_cons_succ]
  refine wpAnyH_take (i := 3) (v := ?v2_3) rfl (by kernel_rfl) (by kernel_rfl) (by kernel_rfl) (fun _ _ _ h => h) (Or.inl ⟨by rfl, ?y2_3⟩) (by assumption) ?r2_3
  case' y2_3 => (intro w hSw; (try dsimp only at hSw); (try have hlS := HLK.out _ hSw); obtain ⟨hcS, hfS⟩ := bcell hSw; clear hSw; go_simp; try with_reducible rfl)
  try simp only [Act.put, List.getElem_toArray, List.getElem_cons_succ, List.getElem_cons_zero, List.setIfInBounds_toArray, List.set_cons_zero, List.set_cons_succ]
  refine wpAnyH_take (i := 4) (v := ?v2_4) rfl (by kernel_rfl) (by kernel_rfl) (by kernel_rfl) (fun _ _ _ h => h) (Or.inl ⟨by rfl, ?y2_4⟩) (by assumption) ?r2_4
  case' y2_4 => (intro w hSw; (try dsimp only at hSw); (try have hlS := HLK.out _ hSw); obtain ⟨hcS, hfS⟩ := bcell hSw; clear hSw; go_simp; try with_reducible rfl)
  try simp only [Act.put, List.getElem_toArray, List.getElem_cons_succ, List.getElem_cons_zero, List.setIfInBounds_toArray, List.set_cons_zero, List.set_cons_succ]
  refine wpAnyH_take (i := 5) (v := ?v2_5) rfl (by kernel_rfl) (by kernel_rfl) (by kernel_rfl) (fun _ _ _ h => h) (Or.inl ⟨by rfl, ?y2_5⟩) (by assumption) ?r2_5
  case' y2_5 => (intro w hSw; (try dsimp only at hSw); (try have hlS := HLK.out _ hSw); obtain ⟨hcS, hfS⟩ := bcell hSw; clear hSw; go_simp; try with_reducible rfl)
  try simp only [Act.put, List.getElem_toArray, List.getElem_cons_succ, List.getElem_cons_zero, List.setIfInBounds_toArray, List.set_cons_zero, List.set_cons_succ]
  refine wpAnyH_take (i := 6) (v := ?v2_6) rfl (by kernel_rfl) (by kernel_rfl) (by kernel_rfl) (fun _ _ _ h => h) (Or.inl ⟨by rfl, ?y2_6⟩) (by assumption) ?r2_6
  case' y2_6 => (intro w hSw; (try dsimp only at hSw); (try have hlS := HLK.out _ hSw); obtain ⟨hcS, hfS⟩ := bcell hSw; clear hSw; go_simp; try with_reducible rfl)
  try simp only [Act.put, List.getElem_toArray, List.getElem_cons_succ, List.getElem_cons_zero, List.setIfInBounds_toArray, List.set_cons_zero, List.set_cons_succ]
  refine wpAnyH_take (i := 7) (v := ?v2_7) rfl (by kernel_rfl) (by kernel_rfl) (by kernel_rfl) (fun _ _ _ h => h) (Or.inl ⟨by rfl, ?y2_7⟩) (by assumption) ?r2_7
  case' y2_7 => (intro w hSw; (try dsimp only at hSw); (try have hlS := HLK.out _ hSw); obtain ⟨hcS, hfS⟩ := bcell hSw; clear hSw; go_simp; try with_reducible rfl)
  try simp only [Act.put, List.getElem_toArray, List.getElem_cons_succ, List.getElem_cons_zero, List.setIfInBounds_toArray, List.set_cons_zero, List.set_cons_succ]
  refine wpAnyH_take (i := 8) (v := ?v2_8) rfl (by kernel_rfl) (by kernel_rfl) (by kernel_rfl) (fun _ _ _ h => h) (Or.inl ⟨by rfl, ?y2_8⟩) (by assumption) ?r2_8
  case' y2_8 => (intro w hSw; (try dsimp only at hSw); (try have hlS := HLK.out _ hSw); obtain ⟨hcS, hfS⟩ := bcell hSw; clear hSw; go_simp; try with_reducible rfl)
  try simp only [Act.put, List.getElem_toArray, List.getElem_cons_succ, List.getElem_cons_zero, List.setIfInBounds_toArray, List.set_cons_zero, List.set_cons_succ]
  refine wpAnyH_take (i := 9) (v := ?v2_9) rfl (by kernel_rfl) (by kernel_rfl) (by kernel_rfl) (fun _ _ _ h => h) (Or.inl ⟨by rfl, ?y2_9⟩) (by assumption) ?r2_9
  case' y2_9 => (intro w hSw; (try dsimp only at hSw); (try have hlS := HLK.out _ hSw); obtain ⟨hcS, hfS⟩ := bcell hSw; clear hSw; go_simp; try with_reducible rfl)
  try simp only [Act.put, List.getElem_toArray, List.getElem_cons_succ, List.getElem_cons_zero, List.setIfInBounds_toArray, List.set_cons_zero, List.set_cons_succ]
  refine wpAnyH_take (i := 10) (v := ?v2_10) rfl (by kernel_rfl) (by kernel_rfl) (by kernel_rfl) (fun _ _ _ h => h) (Or.inl ⟨by rfl, ?y2_10⟩) (by assumption) ?r2_10
  case' y2_10 => (intro w hSw; (try dsimp only at hSw); (try have hlS := HLK.out _ hSw); obtain ⟨hcS, hfS⟩ := bcell hSw; clear hSw; go_simp; try with_reducible rfl)
  try simp only [Act.put, List.getElem_toArray, List.getElem_cons_succ, List.getElem_cons_zero, List.setIfInBounds_toArray, List.set_cons_zero, List.set_cons_succ]
  refine wpAnyH_take (i := 11) (v := ?v2_11) rfl (by kernel_rfl) (by kernel_rfl) (by kernel_rfl) (fun _ _ _ h => h) (Or.inl ⟨by rfl, ?y2_11⟩) (by assumption) ?r2_11
  case' y2_11 => (intro w hSw; (try dsimp only at hSw); (try have hlS := HLK.out _ hSw); obtain ⟨hcS, hfS⟩ := bcell hSw; clear hSw; go_simp; try with_reducible rfl)
  try simp only [Act.put, List.getElem_toArray, List.getElem_cons_succ, List.getElem_cons_zero, List.setIfInBounds_toArray, List.set_cons_zero, List.set_cons_succ]
  refine wpAnyH_take (i := 12) (v := ?v2_12) rfl (by kernel_rfl) (by kernel_rfl) (by kernel_rfl) (fun _ _ _ h => h) (Or.inl ⟨by rfl, ?y2_12⟩) (by assumption) ?r2_12
  case' y2_12 => (intro w hSw; (try dsimp only at hSw); (try have hlS := HLK.out _ hSw); obtain ⟨hcS, hfS⟩ := bcell hSw; clear hSw; go_simp; try with_reducible rfl)
  try simp only [Act.put, List.getElem_toArray, List.getElem_cons_succ, List.getElem_cons_zero, List.setIfInBounds_toArray, List.set_cons_zero, List.set_cons_succ]
  refine wpAnyH_take (i := 13) (v := ?v2_13) rfl (by kernel_rfl) (by kernel_rfl) (by kernel_rfl) (fun _ _ _ h => h) (Or.inl ⟨by rfl, ?y2_13⟩) (by assumption) ?r2_13
  case' y2_13 => (intro w hSw; (try dsimp only at hSw); (try have hlS := HLK.out _ hSw); obtain ⟨hcS, hfS⟩ := bcell hSw; clear hSw; go_simp; try with_reducible rfl)
  try simp only [Act.put, List.getElem_toArray, List.getElem_cons_succ, List.getElem_cons_zero, List.setIfInBounds_toArray, List.set_cons_zero, List.set_cons_succ]
  refine wpAnyH_take (i := 14) (v := ?v2_14) rfl (by kernel_rfl) (by kernel_rfl) (by kernel_rfl) (fun _ _ _ h => h) (Or.inl ⟨by rfl, ?y2_14⟩) (by assumption) ?r2_14
  case' y2_14 => (intro w hSw; (try dsimp only at hSw); (try have hlS := HLK.out _ hSw); obtain ⟨hcS, hfS⟩ := bcell hSw; clear hSw; go_simp; try with_reducible rfl)
  try simp only [Act.put, List.getElem_toArray, List.getElem_cons_succ, List.getElem_cons_zero, List.setIfInBounds_toArray, List.set_cons_zero, List.set_cons_succ]
  refine wpAnyH_take (i := 15) (v := ?v2_15) rfl (by kernel_rfl) (by kernel_rfl) (by kernel_rfl) (fun _ _ _ h => h) (Or.inl ⟨by rfl, ?y2_15⟩) (by assumption) ?r2_15
  case' y2_15 => (intro w hSw; (try dsimp only at hSw); (try have hlS := HLK.out _ hSw); obtain ⟨hcS, hfS⟩ := bcell hSw; clear hSw; go_simp; try with_reducible rfl)
  try simp only [Act.put, List.getElem_toArray, List.getElem_cons_succ, List.getElem_cons_zero, List.setIfInBounds_toArray, List.set_cons_zero, List.set_cons_succ]
  refine wpAnyH_take (i := 16) (v := ?v2_16) rfl (by kernel_rfl) (by kernel_rfl) (by kernel_rfl) (fun _ _ _ h => h) (Or.inl ⟨by rfl, ?y2_16⟩) (by assumption) ?r2_16
  case' y2_16 => (intro w hSw; (try dsimp only at hSw); (try have hlS := HLK.out _ hSw); obtain ⟨hcS, hfS⟩ := bcell hSw; clear hSw; go_simp; try with_reducible rfl)
  try simp only [Act.put, List.getElem_toArray, List.getElem_cons_succ, List.getElem_cons_zero, List.setIfInBounds_toArray, List.set_cons_zero, List.set_cons_succ]
  refine wpAnyH_take (i := 17) (v := ?v2_17) rfl (by kernel_rfl) (by kernel_rfl) (by kernel_rfl) (fun _ _ _ h => h) (Or.inl ⟨by rfl, ?y2_17⟩) (by assumption) ?r2_17
  case' y2_17 => (intro w hSw; (try dsimp only at hSw); (try have hlS := HLK.out _ hSw); obtain ⟨hcS, hfS⟩ := bcell hSw; clear hSw; go_simp; try with_reducible rfl)
  try simp only [Act.put, List.getElem_toArray, List.getElem_cons_succ, List.getElem_cons_zero, List.setIfInBounds_toArray, List.set_cons_zero, List.set_cons_succ]
  refine wpAnyH_take (i := 18) (v := ?v2_18) rfl (by kernel_rfl) (by kernel_rfl) (by kernel_rfl) (fun _ _ _ h => h) (Or.inl ⟨by rfl, ?y2_18⟩) (by assumption) ?r2_18
  case' y2_18 => (intro w hSw; (try dsimp only at hSw); (try have hlS := HLK.out _ hSw); obtain ⟨hcS, hfS⟩ := bcell hSw; clear hSw; go_simp; try with_reducible rfl)
  try simp only [Act.put, List.getElem_toArray, List.getElem_cons_succ, List.getElem_cons_zero, List.setIfInBounds_toArray, List.set_cons_zero, List.set_cons_succ]
  refine wpAnyH_take (i := 19) (v := ?v2_19) rfl (by kernel_rfl) (by kernel_rfl) (by kernel_rfl) (fun _ _ _ h => h) (Or.inl ⟨by rfl, ?y2_19⟩) (by assumption) ?r2_19
  case' y2_19 => (intro w hSw; (try dsimp only at hSw); (try have hlS := HLK.out _ hSw); obtain ⟨hcS, hfS⟩ := bcell hSw; clear hSw; go_simp; try with_reducible rfl)
  try simp only [Act.put, List.getElem_toArray, List.getElem_cons_succ, List.getElem_cons_zero, List.setIfInBounds_toArray, List.set_cons_zero, List.set_cons_succ]
  refine wpAnyH_take (i := 20) (v := ?v2_20) rfl (by kernel_rfl) (by kernel_rfl) (by kernel_rfl) (fun _ _ _ h => h) (Or.inl ⟨by rfl, ?y2_20⟩) (by assumption) ?r2_20
  case' y2_20 => (intro w hSw; (try dsimp only at hSw); (try have hlS := HLK.out _ hSw); obtain ⟨hcS, hfS⟩ := bcell hSw; clear hSw; go_simp; try with_reducible rfl)
  try simp only [Act.put, List.getElem_toArray, List.getElem_cons_succ, List.getElem_cons_zero, List.setIfInBounds_toArray, List.set_cons_zero, List.set_cons_succ]
  refine wpAnyH_take (i := 21) (v := ?v2_21) rfl (by kernel_rfl) (by kernel_rfl) (by kernel_rfl) (fun _ _ _ h => h) (Or.inl ⟨by rfl, ?y2_21⟩) (by assumption) ?r2_21
  case' y2_21 => (intro w hSw; (try dsimp only at hSw); (try have hlS := HLK.out _ hSw); obtain ⟨hcS, hfS⟩ := bcell hSw; clear hSw; go_simp; try with_reducible rfl)
  try simp only [Act.put, List.getElem_toArray, List.getElem_cons_succ, List.getElem_cons_zero, List.setIfInBounds_toArray, List.set_cons_zero, List.set_cons_succ]
  refine wpAnyH_take (i := 22) (v := ?v2_22) rfl (by kernel_rfl) (by kernel_rfl) (by kernel_rfl) (fun _ _ _ h => h) (Or.inl ⟨by rfl, ?y2_22⟩) (by assumption) ?r2_22
  case' y2_22 => (intro w hSw; (try dsimp only at hSw); (try have hlS := HLK.out _ hSw); obtain ⟨hcS, hfS⟩ := bcell hSw; clear hSw; go_simp; try with_reducible rfl)
  try simp only [Act.put, List.getElem_toArray, List.getElem_cons_succ, List.getElem_cons_zero, List.setIfInBounds_toArray, List.set_cons_zero, List.set_cons_succ]
  refine wpAnyH_take (i := 23) (v := ?v2_23) rfl (by kernel_rfl) (by kernel_rfl) (by kernel_rfl) (fun _ _ _ h => h) (Or.inl ⟨by rfl, ?y2_23⟩) (by assumption) ?r2_23
  case' y2_23 => (intro w hSw; (try dsimp only at hSw); (try have hlS := HLK.out _ hSw); obtain ⟨hcS, hfS⟩ := bcell hSw; clear hSw; go_simp; try with_reducible rfl)
  try simp only [Act.put, List.getElem_toArray, List.getElem_cons_succ, List.getElem_cons_zero, List.setIfInBounds_toArray, List.set_cons_zero, List.set_cons_succ]
  refine wpAnyH_take (i := 24) (v := ?v2_24) rfl (by kernel_rfl) (by kernel_rfl) (by kernel_rfl) (fun _ _ _ h => h) (Or.inl ⟨by rfl, ?y2_24⟩) (by assumption) ?r2_24
  case' y2_24 => (intro w hSw; (try dsimp only at hSw); (try have hlS := HLK.out _ hSw); obtain ⟨hcS, hfS⟩ := bcell hSw; clear hSw; go_simp; try with_reducible rfl)
  try simp only [Act.put, List.getElem_toArray, List.getElem_cons_succ, List.getElem_cons_zero, List.setIfInBounds_toArray, List.set_cons_zero, List.set_cons_succ]
  refine wpAnyH_take (i := 25) (v := ?v2_25) rfl (by kernel_rfl) (by kernel_rfl) (by kernel_rfl) (fun _ _ _ h => h) (Or.inl ⟨by rfl, ?y2_25⟩) (by assumption) ?r2_25
  case' y2_25 => (intro w hSw; (try dsimp only at hSw); (try have hlS := HLK.out _ hSw); obtain ⟨hcS, hfS⟩ := bcell hSw; clear hSw; go_simp; try with_reducible rfl)
  try simp only [Act.put, List.getElem_toArray, List.getElem_cons_succ, List.getElem_cons_zero, List.setIfInBounds_toArray, List.set_cons_zero, List.set_cons_succ]
  refine wpAnyH_take (i := 26) (v := ?v2_26) rfl (by kernel_rfl) (by kernel_rfl) (by kernel_rfl) (fun _ _ _ h => h) (Or.inl ⟨by rfl, ?y2_26⟩) (by assumption) ?r2_26
  case' y2_26 => (intro w hSw; (try dsimp only at hSw); (try have hlS := HLK.out _ hSw); obtain ⟨hcS, hfS⟩ := bcell hSw; clear hSw; go_simp; try with_reducible rfl)
  try simp only [Act.put, List.getElem_toArray, List.getElem_cons_succ, List.getElem_cons_zero, List.setIfInBounds_toArray, List.set_cons_zero, List.set_cons_succ]
  refine wpAnyH_take (i := 27) (v := ?v2_27) rfl (by kernel_rfl) (by kernel_rfl) (by kernel_rfl) (fun _ _ _ h => h) (Or.inl ⟨by rfl, ?y2_27⟩) (by assumption) ?r2_27
  case' y2_27 => (intro w hSw; (try dsimp only at hSw); (try have hlS := HLK.out _ hSw); obtain ⟨hcS, hfS⟩ := bcell hSw; clear hSw; go_simp; try with_reducible rfl)
  try simp only [Act.put, List.getElem_toArray, List.getElem_cons_succ, List.getElem_cons_zero, List.setIfInBounds_toArray, List.set_cons_zero, List.set_cons_succ]
  refine wpAnyH_take (i := 28) (v := ?v2_28) rfl (by kernel_rfl) (by kernel_rfl) (by kernel_rfl) (fun _ _ _ h => h) (Or.inl ⟨by rfl, ?y2_28⟩) (by assumption) ?r2_28
  case' y2_28 => (intro w hSw; (try dsimp only at hSw); (try have hlS := HLK.out _ hSw); obtain ⟨hcS, hfS⟩ := bcell hSw; clear hSw; go_simp; try with_reducible rfl)
  try simp only [Act.put, List.getElem_toArray, List.getElem_cons_succ, List.getElem_cons_zero, List.setIfInBounds_toArray, List.set_cons_zero, List.set_cons_succ]
  refine wpAnyH_take (i := 29) (v := ?v2_29) rfl (by kernel_rfl) (by kernel_rfl) (by kernel_rfl) (fun _ _ _ h => h) (Or.inl ⟨by rfl, ?y2_29⟩) (by assumption) ?r2_29
  case' y2_29 => (intro w hSw; (try dsimp only at hSw); (try have hlS := HLK.out _ hSw); obtain ⟨hcS, hfS⟩ := bcell hSw; clear hSw; go_simp; try with_reducible rfl)
  try simp only [Act.put, List.getElem_toArray, List.getElem_cons_succ, List.getElem_cons_zero, List.setIfInBounds_toArray, List.set_cons_zero, List.set_cons_succ]
  refine wpAnyH_take (i := 30) (v := ?v2_30) rfl (by kernel_rfl) (by kernel_rfl) (by kernel_rfl) (fun _ _ _ h => h) (Or.inl ⟨by rfl, ?y2_30⟩) (by assumption) ?r2_30
  case' y2_30 => (intro w hSw; (try dsimp only at hSw); (try have hlS := HLK.out _ hSw); obtain ⟨hcS, hfS⟩ := bcell hSw; clear hSw; go_simp; try with_reducible rfl)
  try simp only [Act.put, List.getElem_toArray, List.getElem_cons_succ, List.getElem_cons_zero, List.setIfInBounds_toArray, List.set_cons_zero, List.set_cons_succ]
  refine wpAnyH_take (i := 31) (v := ?v2_31) rfl (by kernel_rfl) (by kernel_rfl) (by kernel_rfl) (fun _ _ _ h => h) (Or.inl ⟨by rfl, ?y2_31⟩) (by assumption) ?r2_31
  case' y2_31 => (intro w hSw; (try dsimp only at hSw); (try have hlS := HLK.out _ hSw); obtain ⟨hcS, hfS⟩ := bcell hSw; clear hSw; go_simp; try with_reducible rfl)
  try simp only [Act.put, List.getElem_toArray, List.getElem_cons_succ, List.getElem_cons_zero, List.setIfInBounds_toArray, List.set_cons_zero, List.set_cons_succ]
  refine wpAnyH_take (i := 32) (v := ?v2_32) rfl (by kernel_rfl) (by kernel_rfl) (by kernel_rfl) (fun _ _ _ h => h) (Or.inl ⟨by rfl, ?y2_32⟩) (by assumption) ?r2_32
  case' y2_32 => (intro w hSw; (try dsimp only at hSw); (try have hlS := HLK.out _ hSw); obtain ⟨hcS, hfS⟩ := bcell hSw; clear hSw; go_simp; try with_reducible rfl)
  try simp only [Act.put, List.getElem_toArray, List.getElem_cons_succ, List.getElem_cons_zero, List.setIfInBounds_toArray, List.set_cons_zero, List.set_cons_succ]
  refine wpAnyH_done (by kernel_rfl) ?_ _
  clear wz wy wx
  go_wp2
  go_ret
  exact ⟨rfl, hHeld⟩
set_option maxRecDepth 100000 in
set_option maxHeartbeats 4000000 in
theorem takes_yes (b : Nat) (ov rv fv : Value) (s t : ByteArray) (a : Nat) (c : UInt8) (st : Bool) (w : World) (hs : s.size ≤ 1000000) (hb : RxB w b ov rv s a fv st) (ha : a < s.size) (ht : t.data.toList = [c]) (hc : s[a] = c) :
    Calls Tryd.prog 40 #[.pointer (some ⟨b, 0, none⟩), .string t] w fun e w' => e = .returned (.bool true) ∧ Bx b w.heap.size w w' ∧ RxB w' b ov rv s (a + 1) fv st := by
  have c1 := cellOf hb 2
  have c2 := cellOf hb 3
  have c3 := box_lt hb
  obtain ⟨ht1, ht2⟩ := one_str ht
  have h1 : (s.extract a (a + 1)).toList = t.toList := by rw [at_str s a ha, ht2, hc]
  have h2 : ((s.extract a (a + 1)).toList == t.toList) = true := by simpa using h1
  have h3 : ((s.extract a (a + 1)).toList != t.toList) = false := by simpa using h1
  have e1 : decide ((s.size : Int) - (a : Int) < (t.size : Int)) = false := by simp; omega
  have j1 : ¬ (s.size : Int) - (a : Int) < (t.size : Int) := by omega
  have j2 : (s.size : Int) ≤ 1000000 := by omega
  have j3 : (a : Int) ≤ 1000000 := by omega
  have j4 : (0 : Int) ≤ (a : Int) := by omega
  have j5 : (a : Int) ≤ (a : Int) + (t.size : Int) := by omega
  have j6 : (a : Int) + (t.size : Int) ≤ (s.size : Int) := by omega
  have wz : IntKind.i64.wrap ((s.size : Int) - (a : Int)) = (s.size : Int) - (a : Int) := IntWalk.i64_in _ (by omega)
  have wy : IntKind.i64.wrap ((a : Int) + (t.size : Int)) = (a : Int) + (t.size : Int) := IntWalk.i64_in _ (by omega)
  have wx : ((a : Int) + (t.size : Int)).toNat = a + 1 := by omega
  have c4 := unfrozenOf hb 3
  have HX := hide hb
  have HT := hide ht1
  have hlt : b < w.heap.size := c3
  clear hb ha ht hs ht1 ht2 hc
  go_enter Tryd.func40, Tryd.ntmps40
  go_upto_region 1 with (fail)
  refine wp_region_held_drew (S := (fun w' => Below w.heap.size w w')) (by kernel_rfl) ?_ (fun hHeld => ?_)
  · try dsimp only
    exact (by repeat (first | exact Below.refl _ _ | assumption | refine Below.drew ?_ | refine Below.drewN ?_ _ | refine Below.allocT ?_ (Nat.le_refl _) _ | refine Below.setCell ?_ (by simp <;> omega) _ | refine Below.to ?_ (by assumption) (Nat.le_refl _)))
  refine wpAnyH_take (i := 0) (v := ?v3_0) rfl (by kernel_rfl) (by kernel_rfl) (by kernel_rfl) (fun _ _ _ h => h) (Or.inl ⟨by rfl, ?y3_0⟩) (by assumption) ?r3_0
  case' y3_0 => (intro w hSw; (try dsimp only at hSw); (try have hlS := HLK.out _ hSw); obtain ⟨hcS, hfS⟩ := bcell hSw; clear hSw; go_simp; try with_reducible rfl)
  try simp only [Act.put, List.getElem_toArray, List.getElem_cons_succ, List.getElem_cons_zero, List.setIfInBounds_toArray, List.set_cons_zero, List.set_cons_succ]
  refine wpAnyH_take (i := 1) (v := ?v3_1) rfl (by kernel_rfl) (by kernel_rfl) (by kernel_rfl) (fun _ _ _ h => h) (Or.inl ⟨by rfl, ?y3_1⟩) (by assumption) ?r3_1
  case' y3_1 => (intro w hSw; (try dsimp only at hSw); (try have hlS := HLK.out _ hSw); obtain ⟨hcS, hfS⟩ := bcell hSw; clear hSw; go_simp; try with_reducible rfl)
  try simp only [Act.put, List.getElem_toArray, List.getElem_cons_succ, List.getElem_cons_zero, List.setIfInBounds_toArray, List.set_cons_zero, List.set_cons_succ]
  refine wpAnyH_take (i := 2) (v := ?v3_2) rfl (by kernel_rfl) (by kernel_rfl) (by kernel_rfl) (fun _ _ _ h => h) (Or.inl ⟨by rfl, ?y3_2⟩) (by assumption) ?r3_2
  case' y3_2 => (intro w hSw; (try dsimp only at hSw); (try have hlS := HLK.out _ hSw); obtain ⟨hcS, hfS⟩ := bcell hSw; clear hSw; go_simp; try with_reducible rfl)
  try simp only [Act.put, List.getElem_toArray, List.getElem_cons_succ, List.getElem_cons_zero, List.setIfInBounds_toArray, List.set_cons_zero, List.set_cons_succ]
  refine wpAnyH_take (i := 3) (v := ?v3_3) rfl (by kernel_rfl) (by kernel_rfl) (by kernel_rfl) (fun _ _ _ h => h) (Or.inl ⟨by rfl, ?y3_3⟩) (by assumption) ?r3_3
  case' y3_3 => (intro w hSw; (try dsimp only at hSw); (try have hlS := HLK.out _ hSw); obtain ⟨hcS, hfS⟩ := bcell hSw; clear hSw; go_simp; try with_reducible rfl)
  try simp only [Act.put, List.getElem_toArray, List.getElem_cons_succ, List.getElem_cons_zero, List.setIfInBounds_toArray, List.set_cons_zero, List.set_cons_succ]
  refine wpAnyH_take (i := 4) (v := ?v3_4) rfl (by kernel_rfl) (by kernel_rfl) (by kernel_rfl) (fun _ _ _ h => h) (Or.inl ⟨by rfl, ?y3_4⟩) (by assumption) ?r3_4
  case' y3_4 => (intro w hSw; (try dsimp only at hSw); (try have hlS := HLK.out _ hSw); obtain ⟨hcS, hfS⟩ := bcell hSw; clear hSw; go_simp; try with_reducible rfl)
  try simp only [Act.put, List.getElem_toArray, List.getElem_cons_succ, List.getElem_cons_zero, List.setIfInBounds_toArray, List.set_cons_zero, List.set_cons_succ]
  refine wpAnyH_take (i := 5) (v := ?v3_5) rfl (by kernel_rfl) (by kernel_rfl) (by kernel_rfl) (fun _ _ _ h => h) (Or.inl ⟨by rfl, ?y3_5⟩) (by assumption) ?r3_5
  case' y3_5 => (intro w hSw; (try dsimp only at hSw); (try have hlS := HLK.out _ hSw); obtain ⟨hcS, hfS⟩ := bcell hSw; clear hSw; go_simp; try with_reducible rfl)
  try simp only [Act.put, List.getElem_toArray, List.getElem_cons_succ, List.getElem_cons_zero, List.setIfInBounds_toArray, List.set_cons_zero, List.set_cons_succ]
  refine wpAnyH_take (i := 6) (v := ?v3_6) rfl (by kernel_rfl) (by kernel_rfl) (by kernel_rfl) (fun _ _ _ h => h) (Or.inl ⟨by rfl, ?y3_6⟩) (by assumption) ?r3_6
  case' y3_6 => (intro w hSw; (try dsimp only at hSw); (try have hlS := HLK.out _ hSw); obtain ⟨hcS, hfS⟩ := bcell hSw; clear hSw; go_simp; try with_reducible rfl)
  try simp only [Act.put, List.getElem_toArray, List.getElem_cons_succ, List.getElem_cons_zero, List.setIfInBounds_toArray, List.set_cons_zero, List.set_cons_succ]
  refine wpAnyH_take (i := 7) (v := ?v3_7) rfl (by kernel_rfl) (by kernel_rfl) (by kernel_rfl) (fun _ _ _ h => h) (Or.inl ⟨by rfl, ?y3_7⟩) (by assumption) ?r3_7
  case' y3_7 => (intro w hSw; (try dsimp only at hSw); (try have hlS := HLK.out _ hSw); obtain ⟨hcS, hfS⟩ := bcell hSw; clear hSw; go_simp; try with_reducible rfl)
  try simp only [Act.put, List.getElem_toArray, List.getElem_cons_succ, List.getElem_cons_zero, List.setIfInBounds_toArray, List.set_cons_zero, List.set_cons_succ]
  refine wpAnyH_take (i := 8) (v := ?v3_8) rfl (by kernel_rfl) (by kernel_rfl) (by kernel_rfl) (fun _ _ _ h => h) (Or.inl ⟨by rfl, ?y3_8⟩) (by assumption) ?r3_8
  case' y3_8 => (intro w hSw; (try dsimp only at hSw); (try have hlS := HLK.out _ hSw); obtain ⟨hcS, hfS⟩ := bcell hSw; clear hSw; go_simp; try with_reducible rfl)
  try simp only [Act.put, List.getElem_toArray, List.getElem_cons_succ, List.getElem_cons_zero, List.setIfInBounds_toArray, List.set_cons_zero, List.set_cons_succ]
  refine wpAnyH_take (i := 9) (v := ?v3_9) rfl (by kernel_rfl) (by kernel_rfl) (by kernel_rfl) (fun _ _ _ h => h) (Or.inl ⟨by rfl, ?y3_9⟩) (by assumption) ?r3_9
  case' y3_9 => (intro w hSw; (try dsimp only at hSw); (try have hlS := HLK.out _ hSw); obtain ⟨hcS, hfS⟩ := bcell hSw; clear hSw; go_simp; try with_reducible rfl)
  try simp only [Act.put, List.getElem_toArray, List.getElem_cons_succ, List.getElem_cons_zero, List.setIfInBounds_toArray, List.set_cons_zero, List.set_cons_succ]
  refine wpAnyH_take (i := 10) (v := ?v3_10) rfl (by kernel_rfl) (by kernel_rfl) (by kernel_rfl) (fun _ _ _ h => h) (Or.inl ⟨by rfl, ?y3_10⟩) (by assumption) ?r3_10
  case' y3_10 => (intro w hSw; (try dsimp only at hSw); (try have hlS := HLK.out _ hSw); obtain ⟨hcS, hfS⟩ := bcell hSw; clear hSw; go_simp; try with_reducible rfl)
  try simp only [Act.put, List.getElem_toArray, List.getElem_cons_succ, List.getElem_cons_zero, List.setIfInBounds_toArray, List.set_cons_zero, List.set_cons_succ]
  refine wpAnyH_take (i := 11) (v := ?v3_11) rfl (by kernel_rfl) (by kernel_rfl) (by kernel_rfl) (fun _ _ _ h => h) (Or.inl ⟨by rfl, ?y3_11⟩) (by assumption) ?r3_11
  case' y3_11 => (intro w hSw; (try dsimp only at hSw); (try have hlS := HLK.out _ hSw); obtain ⟨hcS, hfS⟩ := bcell hSw; clear hSw; go_simp; try with_reducible rfl)
  try simp only [Act.put, List.getElem_toArray, List.getElem_cons_succ, List.getElem_cons_zero, List.setIfInBounds_toArray, List.set_cons_zero, List.set_cons_succ]
  refine wpAnyH_take (i := 12) (v := ?v3_12) rfl (by kernel_rfl) (by kernel_rfl) (by kernel_rfl) (fun _ _ _ h => h) (Or.inl ⟨by rfl, ?y3_12⟩) (by assumption) ?r3_12
  case' y3_12 => (intro w hSw; (try dsimp only at hSw); (try have hlS := HLK.out _ hSw); obtain ⟨hcS, hfS⟩ := bcell hSw; clear hSw; go_simp; try with_reducible rfl)
  try simp only [Act.put, List.getElem_toArray, List.getElem_cons_succ, List.getElem_cons_zero, List.setIfInBounds_toArray, List.set_cons_zero, List.set_cons_succ]
  refine wpAnyH_take (i := 13) (v := ?v3_13) rfl (by kernel_rfl) (by kernel_rfl) (by kernel_rfl) (fun _ _ _ h => h) (Or.inl ⟨by rfl, ?y3_13⟩) (by assumption) ?r3_13
  case' y3_13 => (intro w hSw; (try dsimp only at hSw); (try have hlS := HLK.out _ hSw); obtain ⟨hcS, hfS⟩ := bcell hSw; clear hSw; go_simp; try with_reducible rfl)
  try simp only [Act.put, List.getElem_toArray, List.getElem_cons_succ, List.getElem_cons_zero, List.setIfInBounds_toArray, List.set_cons_zero, List.set_cons_succ]
  refine wpAnyH_take (i := 14) (v := ?v3_14) rfl (by kernel_rfl) (by kernel_rfl) (by kernel_rfl) (fun _ _ _ h => h) (Or.inl ⟨by rfl, ?y3_14⟩) (by assumption) ?r3_14
  case' y3_14 => (intro w hSw; (try dsimp only at hSw); (try have hlS := HLK.out _ hSw); obtain ⟨hcS, hfS⟩ := bcell hSw; clear hSw; go_simp; try with_reducible rfl)
  try simp only [Act.put, List.getElem_toArray, List.getElem_cons_succ, List.getElem_cons_zero, List.setIfInBounds_toArray, List.set_cons_zero, List.set_cons_succ]
  refine wpAnyH_take (i := 15) (v := ?v3_15) rfl (by kernel_rfl) (by kernel_rfl) (by kernel_rfl) (fun _ _ _ h => h) (Or.inl ⟨by rfl, ?y3_15⟩) (by assumption) ?r3_15
  case' y3_15 => (intro w hSw; (try dsimp only at hSw); (try have hlS := HLK.out _ hSw); obtain ⟨hcS, hfS⟩ := bcell hSw; clear hSw; go_simp; try with_reducible rfl)
  try simp only [Act.put, List.getElem_toArray, List.getElem_cons_succ, List.getElem_cons_zero, List.setIfInBounds_toArray, List.set_cons_zero, List.set_cons_succ]
  refine wpAnyH_take (i := 16) (v := ?v3_16) rfl (by kernel_rfl) (by kernel_rfl) (by kernel_rfl) (fun _ _ _ h => h) (Or.inl ⟨by rfl, ?y3_16⟩) (by assumption) ?r3_16
  case' y3_16 => (intro w hSw; (try dsimp only at hSw); (try have hlS := HLK.out _ hSw); obtain ⟨hcS, hfS⟩ := bcell hSw; clear hSw; go_simp; try with_reducible rfl)
  try simp only [Act.put, List.getElem_toArray, List.getElem_cons_succ, List.getElem_cons_zero, List.setIfInBounds_toArray, List.set_cons_zero, List.set_cons_succ]
  refine wpAnyH_take (i := 17) (v := ?v3_17) rfl (by kernel_rfl) (by kernel_rfl) (by kernel_rfl) (fun _ _ _ h => h) (Or.inl ⟨by rfl, ?y3_17⟩) (by assumption) ?r3_17
  case' y3_17 => (intro w hSw; (try dsimp only at hSw); (try have hlS := HLK.out _ hSw); obtain ⟨hcS, hfS⟩ := bcell hSw; clear hSw; go_simp; try with_reducible rfl)
  try simp only [Act.put, List.getElem_toArray, List.getElem_cons_succ, List.getElem_cons_zero, List.setIfInBounds_toArray, List.set_cons_zero, List.set_cons_succ]
  refine wpAnyH_take (i := 18) (v := ?v3_18) rfl (by kernel_rfl) (by kernel_rfl) (by kernel_rfl) (fun _ _ _ h => h) (Or.inl ⟨by rfl, ?y3_18⟩) (by assumption) ?r3_18
  case' y3_18 => (intro w hSw; (try dsimp only at hSw); (try have hlS := HLK.out _ hSw); obtain ⟨hcS, hfS⟩ := bcell hSw; clear hSw; go_simp; try with_reducible rfl)
  try simp only [Act.put, List.getElem_toArray, List.getElem_cons_succ, List.getElem_cons_zero, List.setIfInBounds_toArray, List.set_cons_zero, List.set_cons_succ]
  refine wpAnyH_take (i := 19) (v := ?v3_19) rfl (by kernel_rfl) (by kernel_rfl) (by kernel_rfl) (fun _ _ _ h => h) (Or.inl ⟨by rfl, ?y3_19⟩) (by assumption) ?r3_19
  case' y3_19 => (intro w hSw; (try dsimp only at hSw); (try have hlS := HLK.out _ hSw); obtain ⟨hcS, hfS⟩ := bcell hSw; clear hSw; go_simp; try with_reducible rfl)
  try simp only [Act.put, List.getElem_toArray, List.getElem_cons_succ, List.getElem_cons_zero, List.setIfInBounds_toArray, List.set_cons_zero, List.set_cons_succ]
  refine wpAnyH_take (i := 20) (v := ?v3_20) rfl (by kernel_rfl) (by kernel_rfl) (by kernel_rfl) (fun _ _ _ h => h) (Or.inl ⟨by rfl, ?y3_20⟩) (by assumption) ?r3_20
  case' y3_20 => (intro w hSw; (try dsimp only at hSw); (try have hlS := HLK.out _ hSw); obtain ⟨hcS, hfS⟩ := bcell hSw; clear hSw; go_simp; try with_reducible rfl)
  try simp only [Act.put, List.getElem_toArray, List.getElem_cons_succ, List.getElem_cons_zero, List.setIfInBounds_toArray, List.set_cons_zero, List.set_cons_succ]
  refine wpAnyH_take (i := 21) (v := ?v3_21) rfl (by kernel_rfl) (by kernel_rfl) (by kernel_rfl) (fun _ _ _ h => h) (Or.inl ⟨by rfl, ?y3_21⟩) (by assumption) ?r3_21
  case' y3_21 => (intro w hSw; (try dsimp only at hSw); (try have hlS := HLK.out _ hSw); obtain ⟨hcS, hfS⟩ := bcell hSw; clear hSw; go_simp; try with_reducible rfl)
  try simp only [Act.put, List.getElem_toArray, List.getElem_cons_succ, List.getElem_cons_zero, List.setIfInBounds_toArray, List.set_cons_zero, List.set_cons_succ]
  refine wpAnyH_take (i := 22) (v := ?v3_22) rfl (by kernel_rfl) (by kernel_rfl) (by kernel_rfl) (fun _ _ _ h => h) (Or.inl ⟨by rfl, ?y3_22⟩) (by assumption) ?r3_22
  case' y3_22 => (intro w hSw; (try dsimp only at hSw); (try have hlS := HLK.out _ hSw); obtain ⟨hcS, hfS⟩ := bcell hSw; clear hSw; go_simp; try with_reducible rfl)
  try simp only [Act.put, List.getElem_toArray, List.getElem_cons_succ, List.getElem_cons_zero, List.setIfInBounds_toArray, List.set_cons_zero, List.set_cons_succ]
  refine wpAnyH_take (i := 23) (v := ?v3_23) rfl (by kernel_rfl) (by kernel_rfl) (by kernel_rfl) (fun _ _ _ h => h) (Or.inl ⟨by rfl, ?y3_23⟩) (by assumption) ?r3_23
  case' y3_23 => (intro w hSw; (try dsimp only at hSw); (try have hlS := HLK.out _ hSw); obtain ⟨hcS, hfS⟩ := bcell hSw; clear hSw; go_simp; try with_reducible rfl)
  try simp only [Act.put, List.getElem_toArray, List.getElem_cons_succ, List.getElem_cons_zero, List.setIfInBounds_toArray, List.set_cons_zero, List.set_cons_succ]
  refine wpAnyH_take (i := 24) (v := ?v3_24) rfl (by kernel_rfl) (by kernel_rfl) (by kernel_rfl) (fun _ _ _ h => h) (Or.inl ⟨by rfl, ?y3_24⟩) (by assumption) ?r3_24
  case' y3_24 => (intro w hSw; (try dsimp only at hSw); (try have hlS := HLK.out _ hSw); obtain ⟨hcS, hfS⟩ := bcell hSw; clear hSw; go_simp; try with_reducible rfl)
  try simp only [Act.put, List.getElem_toArray, List.getElem_cons_succ, List.getElem_cons_zero, List.setIfInBounds_toArray, List.set_cons_zero, List.set_cons_succ]
  refine wpAnyH_take (i := 25) (v := ?v3_25) rfl (by kernel_rfl) (by kernel_rfl) (by kernel_rfl) (fun _ _ _ h => h) (Or.inl ⟨by rfl, ?y3_25⟩) (by assumption) ?r3_25
  case' y3_25 => (intro w hSw; (try dsimp only at hSw); (try have hlS := HLK.out _ hSw); obtain ⟨hcS, hfS⟩ := bcell hSw; clear hSw; go_simp; try with_reducible rfl)
  try simp only [Act.put, List.getElem_toArray, List.getElem_cons_succ, List.getElem_cons_zero, List.setIfInBounds_toArray, List.set_cons_zero, List.set_cons_succ]
  refine wpAnyH_take (i := 26) (v := ?v3_26) rfl (by kernel_rfl) (by kernel_rfl) (by kernel_rfl) (fun _ _ _ h => h) (Or.inl ⟨by rfl, ?y3_26⟩) (by assumption) ?r3_26
  case' y3_26 => (intro w hSw; (try dsimp only at hSw); (try have hlS := HLK.out _ hSw); obtain ⟨hcS, hfS⟩ := bcell hSw; clear hSw; go_simp; try with_reducible rfl)
  try simp only [Act.put, List.getElem_toArray, List.getElem_cons_succ, List.getElem_cons_zero, List.setIfInBounds_toArray, List.set_cons_zero, List.set_cons_succ]
  refine wpAnyH_take (i := 27) (v := ?v3_27) rfl (by kernel_rfl) (by kernel_rfl) (by kernel_rfl) (fun _ _ _ h => h) (Or.inl ⟨by rfl, ?y3_27⟩) (by assumption) ?r3_27
  case' y3_27 => (intro w hSw; (try dsimp only at hSw); (try have hlS := HLK.out _ hSw); obtain ⟨hcS, hfS⟩ := bcell hSw; clear hSw; go_simp; try with_reducible rfl)
  try simp only [Act.put, List.getElem_toArray, List.getElem_cons_succ, List.getElem_cons_zero, List.setIfInBounds_toArray, List.set_cons_zero, List.set_cons_succ]
  refine wpAnyH_take (i := 28) (v := ?v3_28) rfl (by kernel_rfl) (by kernel_rfl) (by kernel_rfl) (fun _ _ _ h => h) (Or.inl ⟨by rfl, ?y3_28⟩) (by assumption) ?r3_28
  case' y3_28 => (intro w hSw; (try dsimp only at hSw); (try have hlS := HLK.out _ hSw); obtain ⟨hcS, hfS⟩ := bcell hSw; clear hSw; go_simp; try with_reducible rfl)
  try simp only [Act.put, List.getElem_toArray, List.getElem_cons_succ, List.getElem_cons_zero, List.setIfInBounds_toArray, List.set_cons_zero, List.set_cons_succ]
  refine wpAnyH_take (i := 29) (v := ?v3_29) rfl (by kernel_rfl) (by kernel_rfl) (by kernel_rfl) (fun _ _ _ h => h) (Or.inl ⟨by rfl, ?y3_29⟩) (by assumption) ?r3_29
  case' y3_29 => (intro w hSw; (try dsimp only at hSw); (try have hlS := HLK.out _ hSw); obtain ⟨hcS, hfS⟩ := bcell hSw; clear hSw; go_simp; try with_reducible rfl)
  try simp only [Act.put, List.getElem_toArray, List.getElem_cons_succ, List.getElem_cons_zero, List.setIfInBounds_toArray, List.set_cons_zero, List.set_cons_succ]
  refine wpAnyH_take (i := 30) (v := ?v3_30) rfl (by kernel_rfl) (by kernel_rfl) (by kernel_rfl) (fun _ _ _ h => h) (Or.inl ⟨by rfl, ?y3_30⟩) (by assumption) ?r3_30
  case' y3_30 => (intro w hSw; (try dsimp only at hSw); (try have hlS := HLK.out _ hSw); obtain ⟨hcS, hfS⟩ := bcell hSw; clear hSw; go_simp; try with_reducible rfl)
  try simp only [Act.put, List.getElem_toArray, List.getElem_cons_succ, List.getElem_cons_zero, List.setIfInBounds_toArray, List.set_cons_zero, List.set_cons_succ]
  refine wpAnyH_take (i := 31) (v := ?v3_31) rfl (by kernel_rfl) (by kernel_rfl) (by kernel_rfl) (fun _ _ _ h => h) (Or.inl ⟨by rfl, ?y3_31⟩) (by assumption) ?r3_31
  case' y3_31 => (intro w hSw; (try dsimp only at hSw); (try have hlS := HLK.out _ hSw); obtain ⟨hcS, hfS⟩ := bcell hSw; clear hSw; go_simp; try with_reducible rfl)
  try simp only [Act.put, List.getElem_toArray, List.getElem_cons_succ, List.getElem_cons_zero, List.setIfInBounds_toArray, List.set_cons_zero, List.set_cons_succ]
  refine wpAnyH_take (i := 32) (v := ?v3_32) rfl (by kernel_rfl) (by kernel_rfl) (by kernel_rfl) (fun _ _ _ h => h) (Or.inl ⟨by rfl, ?y3_32⟩) (by assumption) ?r3_32
  case' y3_32 => (intro w hSw; (try dsimp only at hSw); (try have hlS := HLK.out _ hSw); obtain ⟨hcS, hfS⟩ := bcell hSw; clear hSw; go_simp; try with_reducible rfl)
  try simp only [Act.put, List.getElem_toArray, List.getElem_cons_succ, List.getElem_cons_zero, List.setIfInBounds_toArray, List.set_cons_zero, List.set_cons_succ]
  refine wpAnyH_done (by kernel_rfl) ?_ _
  clear wz wx h1 h2 h3
  go_wp2
  go_ret
  have hx := box_to HX.out hHeld
  have h4 := setCellOf (i := 3) hx (.int .i64 ((a : Int) + (t.size : Int)))
  have h5 : ((a : Int) + (t.size : Int)) = ((a + 1 : Nat) : Int) := by rw [HT.out]; rfl
  refine ⟨rfl, ⟨Below.setCell (hHeld.mono (Nat.le_of_lt c3)) (Nat.le_refl b) _, fun j g1 g2 => (heap_setCell_other _ ⟨b, 3, none⟩ j _ (fun e => by simp at e; omega)).trans (hHeld.block j g2)⟩, ?_⟩
  rw [h5] at h4 ⊢
  exact h4
/-- takes goes on behind a byte, if it is next. -/
theorem takes_any (b : Nat) (ov rv fv : Value) (s t : ByteArray) (a : Nat) (c : UInt8) (st : Bool) (w : World) (hs : s.size ≤ 1000000) (hb : RxB w b ov rv s a fv st) (ha : a ≤ s.size) (ht : t.data.toList = [c]) :
    Calls Tryd.prog 40 #[.pointer (some ⟨b, 0, none⟩), .string t] w fun e w' => Bx b w.heap.size w w' ∧
      match needR c (s.data.toList.drop a) with
      | none => e = .returned (.bool false) ∧ RxB w' b ov rv s a fv st
      | some r => e = .returned (.bool true) ∧ RxB w' b ov rv s (a + 1) fv st ∧ a < s.size ∧ s.data.toList.drop (a + 1) = r := by
  have c3 := box_lt hb
  by_cases h0 : a < s.size
  · rw [drop_at s a h0, needR]
    by_cases hc : s[a] = c
    · rw [if_pos hc]
      exact (takes_yes b ov rv fv s t a c st w hs hb h0 ht hc).mono fun e w' h => ⟨h.2.1, h.1, h.2.2, h0, rfl⟩
    · rw [if_neg hc]
      exact (takes_not b ov rv fv s t a c st w hs hb h0 ht hc).mono fun e w' h => ⟨Bx.of h.2 c3, h.1, box_to hb h.2⟩
  · have he : s.data.toList.drop a = [] := List.drop_eq_nil_of_le (by rw [size_dl]; omega)
    rw [he]
    exact (takes_end b ov rv fv s t a st w hs hb (by omega) (one_str ht).1).mono fun e w' h => ⟨Bx.of h.2 c3, h.1, box_to hb h.2⟩
end Go.Proofs.YtjimbcklnnhloaaDoor

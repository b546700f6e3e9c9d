/- Part 17 of this claim's texts: walks and plain laws. -/
import Derived.Test.YtehadoecnmfeoaaGreatRows
import Derived.Test.YtehadoecnmfeoaaGreatGBT16
import Derived.Laws.EntriesVeiled
import Derived.Deep.DeepMust
import Derived.Deep.RegionHeld3
import Derived.Deep.DrawnRows
import Derived.Test.YtehadoecnmfeoaaGreatGBT3
/- The program's search for reels: walk of its closure. -/
namespace Go.Proofs.YtehadoecnmfeoaaGreat
open Go.RowKit
set_option linter.unusedVariables false
set_option linter.unusedSimpArgs false
theorem drop_cons6 {ps : List Int} {i : Nat} (hi : i < ps.length) : ps.drop i = ps.getD i 0 :: ps.drop (i + 1) := by
  rw [List.drop_eq_getElem_cons hi, List.getD_eq_getElem?_getD, List.getElem?_eq_getElem hi]
  rfl
set_option maxRecDepth 100000 in
set_option maxHeartbeats 4000000 in
theorem next_any (ps : List Int) (len : Int) (hps : ps.length ≤ 12) (hp : ∀ p ∈ ps, 1 ≤ p ∧ p ≤ len) (hlen : len ≤ 1000000) (A : Option Addr) (q : Nat) (w0 : World) (HI : Ints w0 w0.heap.size (.slice A ps.length q) ps) (n op pp lp np : Nat) (most : Nat) (hmost : most ≤ 12) :
    ∀ (m : Nat) (S : List Nat) (L : Nat → Int) (o : Nat) (ov : Value) (w : World), RlAt w0 w n op pp lp np (.slice A ps.length q) L ov S → S.length + m = ps.length → o ≤ 12 → (∀ i, 0 ≤ L i ∧ L i ≤ len) →
    Calls Tryz.prog 118 #[.int .i64 o, .int .i64 most, .pointer (some ⟨op, 0, none⟩), .pointer (some ⟨pp, 0, none⟩), .pointer (some ⟨lp, 0, none⟩), .pointer (some ⟨np, 0, none⟩)] w (NxP w0 n op pp lp np (.slice A ps.length q) L S (rlS most (ps.drop S.length) L o)) := by
  obtain ⟨i0, hi0, iz0, iz1, iz2⟩ := info_parts infoInt
  have HII := hide HI
  have HP := hide hp
  clear HI hp
  intro m
  induction m with
  | zero =>
    intro S L o ov w h hm ho hL
    have hd : ps.drop S.length = [] := List.drop_eq_nil_of_le (by omega)
    rw [hd]
    obtain ⟨As, caps, rfl⟩ := owns_form h.own
    have W := hide h
    have x0 := cellOf h.oc 0
    have lx := box_lt h.oc
    have y0 := cellOf h.pc 0
    have ly := box_lt h.pc
    have hs1 : ((S.length : Int) == (ps.length : Int)) = true := by simp; omega
    clear h hd hm
    go_enter Tryz.func118, Tryz.ntmps118
    go_wp2_with fail
    go_ret
    exact ⟨_, L, rfl, by rw [List.append_nil]; exact W.out⟩
  | succ m ih =>
    intro S L o ov w h hm ho hL
    have hil : S.length < ps.length := by omega
    obtain ⟨p, hpe⟩ : ∃ p, ps.getD S.length 0 = p := ⟨_, rfl⟩
    have hpr : 1 ≤ p ∧ p ≤ len := HP.out p (by rw [← hpe]; exact getD_mem7 hil)
    obtain ⟨qs, hqs⟩ : ∃ qs, ps.drop (S.length + 1) = qs := ⟨_, rfl⟩
    have hd : ps.drop S.length = p :: qs := by rw [drop_cons6 hil, hpe, hqs]
    rw [hd]
    obtain ⟨res, hres⟩ : ∃ res, rlS most (p :: qs) L o = res := ⟨_, rfl⟩
    rw [hres]
    have HRES := hide hres
    obtain ⟨As, caps, rfl⟩ := owns_form h.own
    have W := hide h
    have x0 := cellOf h.oc 0
    have lx := box_lt h.oc
    have y0 := cellOf h.pc 0
    have ly := box_lt h.pc
    have hs1 : ((S.length : Int) == (ps.length : Int)) = false := by simp; omega
    have HQ := hide hqs
    have HPE := hide hpe
    have HL := hide hL
    have HIH := hide ih
    have hSl : S.length ≤ 12 := by omega
    have hm2 : S.length + 1 + m = ps.length := by omega
    obtain ⟨pr1, pr2⟩ := hpr
    clear h hd hm hres hqs hpe hL ih
    go_enter Tryz.func118, Tryz.ntmps118
    go_wp2_with fail
    clear x0 lx y0 ly
    go_loopw [10] (fun i wr => ∃ (r : Nat) (ov : Value), i = .int .i64 r ∧ r ≤ 13 ∧ Hid (∀ j, j < r → j < most → rlT most p qs L o j = none) ∧ Hid (RlAt w0 wr n op pp lp np (.slice A ps.length q) L ov S)) (fun i _ => 13 - (intOf i).toNat)
    case atStart => exact ⟨0, _, rfl, by omega, fun j hj => absurd hj (by omega), W.out⟩
    case round =>
      clear W
      obtain ⟨r, ov2, rfl, hr13, HNO, R⟩ := hrel
      obtain ⟨A2, cap2, hv2⟩ := owns_form R.out.own
      subst hv2
      by_cases hro : r ≤ o
      case neg =>
        have hro1 : decide ((r : Int) ≤ (o : Int)) = false := decide_eq_false (by omega)
        have hne : res = none := by
          rw [← HRES.out, rlS_cons]
          refine findSome_none fun j hj => ?_
          rcases Nat.lt_or_ge j r with h1 | h1
          · exact HNO.out j h1 hj
          · unfold rlT; rw [if_neg (by omega)]
        subst hne
        have hro2 : ¬ (r : Int) ≤ (o : Int) := by omega
        go_wp2_with fail
        go_ret
        exact ⟨_, rfl, R.out⟩
      case pos =>
      have hro1 : (r : Int) ≤ (o : Int) := by omega
      by_cases hrm : r < most
      case neg =>
        have hrm1 : ¬ (r : Int) < (most : Int) := by omega
        have hne : res = none := by
          rw [← HRES.out, rlS_cons]
          exact findSome_none fun j hj => HNO.out j (by omega) hj
        subst hne
        go_wp2_with fail
        go_ret
        exact ⟨_, rfl, R.out⟩
      case pos =>
      have hrm1 : (r : Int) < (most : Int) := by omega
      have hr12 : r < 12 := by omega
      have ir : (r : Int) < 12 := by omega
      have ir0 : (0 : Int) ≤ (r : Int) := by omega
      obtain ⟨a, ha⟩ : ∃ a, L r = a := ⟨_, rfl⟩
      have hLr := HL.out r
      rw [ha] at hLr
      obtain ⟨a0, a1⟩ := hLr
      obtain ⟨c1, c2, c3⟩ := R.out.lf.cell hr12
      rw [ha] at c1
      have y0 := cellOf R.out.pc 0
      have ly := box_lt R.out.pc
      obtain ⟨bp, offp, x, HX, hA, hbp, hq, ep⟩ := (HII.out.below R.out.below).at7 hil
      have hxp : x = p := by rw [← HX.out, HPE.out]
      subst hxp hA
      have hlp : ¬ bp = lp := by have := R.out.lo.2.1; omega
      have hpl : ¬ pp = lp := fun e => R.out.ne.2.2.2.1 e.symm
      have lbp : bp < wr.heap.size := Nat.lt_of_lt_of_le hbp R.out.below.size
      have is0 : (0 : Int) ≤ (S.length : Int) := by omega
      have is1 : (S.length : Int) < (ps.length : Int) := by omega
      have iq : (ps.length : Int) ≤ (q : Int) := by omega
      have HAE := hide ha
      clear ha hbp hq
      go_upto_region 7 with (fail)
      by_cases hax : a < x
      · have hT : rlT most x qs L o r = none := by unfold rlT; rw [HAE.out, if_neg (by omega)]
        have HT := hide hT
        have g1 : decide (a < x) = true := decide_eq_true hax
        clear hT
        refine wp_region_held_drew (S := (fun w' => Below wr.heap.size wr w')) (by kernel_rfl) ?_ (fun hHeld => ?_)
        · try dsimp only
          exact (by repeat (first | exact Below.refl _ _ | assumption | refine Below.drew ?_ | refine Below.drewN ?_ _ | refine Below.allocT ?_ (Nat.le_refl _) _ | refine Below.setCell ?_ (by simp <;> omega) _ | refine Below.to ?_ (by assumption) (Nat.le_refl _)))
        refine zT 0 rfl ?_
        refine zT 1 rfl ?_
        refine zT 2 rfl ?_
        refine zT 3 rfl ?_
        refine zT 4 rfl ?_
        refine zT 5 rfl ?_
        refine zT 6 rfl ?_
        refine zT 7 rfl ?_
        refine wpAnyH_done (by kernel_rfl) ?_ _
        clear hHeld c1 c2 c3 y0 ly ep lbp hlp hpl
        go_wp2_with fail
        go_roundw
        case rel => exact ⟨r + 1, _, by go_num, by omega, fun j hj hj2 => by
            rcases Nat.lt_or_ge j r with h1 | h1
            · exact HNO.out j h1 hj2
            · rw [show j = r by omega]; exact HT.out, R.out.drew⟩
        case measure => simp [intOf]; omega
      · have g1 : decide (a < x) = false := decide_eq_false hax
        have hT : rlT most x qs L o r = (rlS most qs (updL L r (a - x)) (max o (r + 1))).map (fun l => r :: l) := by unfold rlT; rw [HAE.out, if_pos ⟨hro, by omega⟩]
        have HT := hide hT
        have wr1 : IntKind.i64.wrap (a - x) = a - x := IntWalk.i64_in _ (by omega)
        clear hT
        refine wp_region_held_drew (S := (fun w' => Below wr.heap.size wr w')) (by kernel_rfl) ?_ (fun hHeld => ?_)
        · try dsimp only
          exact (by repeat (first | exact Below.refl _ _ | assumption | refine Below.drew ?_ | refine Below.drewN ?_ _ | refine Below.allocT ?_ (Nat.le_refl _) _ | refine Below.setCell ?_ (by simp <;> omega) _ | refine Below.to ?_ (by assumption) (Nat.le_refl _)))
        refine zT 0 rfl ?_
        refine zT 1 rfl ?_
        refine zT 2 rfl ?_
        refine zT 3 rfl ?_
        refine zT 4 rfl ?_
        refine zT 5 rfl ?_
        refine zT 6 rfl ?_
        refine zT 7 rfl ?_
        refine wpAnyH_done (by kernel_rfl) ?_ _
        clear hHeld
        have R2 := hide R.out.drew
        generalize hwq : World.drew _ = wq at R2 ⊢
        clear hwq c1 c2 c3 y0 ly lbp ep
        obtain ⟨c1, c2, c3⟩ := R2.out.lf.cell hr12
        rw [HAE.out] at c1
        have y0 := cellOf R2.out.pc 0
        have ly := box_lt R2.out.pc
        obtain ⟨bp2, offp2, x2, HX2, hA2, hbp, hq, ep⟩ := (HII.out.below R2.out.below).at7 hil
        have hxp2 : x2 = x := by rw [← HX2.out, HPE.out]
        subst hxp2
        injection hA2 with hA2
        injection hA2 with e1 e2
        subst e1 e2
        have lbp : bp < wq.heap.size := Nat.lt_of_lt_of_le hbp R2.out.below.size
        clear hbp hq
        go_upto_region 8 with (fail)
        refine wp_region_held_drew (S := (fun w' => Keeps (fun j => j = lp ∨ j = lp) wq w')) (by kernel_rfl) ?_ (fun hHeld => ?_)
        · try dsimp only
          (repeat (first | (with_reducible exact Keeps.refl _ _) | exact hKeep.out | exact hKeepS.out _ | assumption | (with_reducible refine Keeps.drew ?_) | (with_reducible refine Keeps.drewN ?_ _) | (with_reducible refine Keeps.alloc ?_ _) | (with_reducible refine Keeps.setCell ?_ (.inl (by first | exact .inl rfl | exact .inr rfl)) _)))
        refine zU 0 rfl ?_
        refine zU 1 rfl ?_
        refine zU 3 rfl ?_
        refine zU 4 rfl ?_
        refine zU 5 rfl ?_
        refine zU 6 rfl ?_
        refine wpAnyH_ready (rs := [2]) (by kernel_rfl) (by simp) ?_
        refine (AllReadyH.cons rfl (fun K hK => ?_) AllReadyH.nil)
        go_simp
        refine hK.out _ _ ?_ (fun hNext => ?_)
        · try dsimp only
          (repeat (first | (with_reducible exact Keeps.refl _ _) | exact hKeep.out | exact hKeepS.out _ | assumption | (with_reducible refine Keeps.drew ?_) | (with_reducible refine Keeps.drewN ?_ _) | (with_reducible refine Keeps.alloc ?_ _) | (with_reducible refine Keeps.setCell ?_ (.inl (by first | exact .inl rfl | exact .inr rfl)) _)))
        clear hK K hHeld
        have hHeld := hNext
        clear hNext
        (try dsimp only at hHeld)
        try simp only [zX]
        refine zU 7 rfl ?_
        refine zU 8 rfl ?_
        refine wpAnyH_ready (rs := [9]) (by kernel_rfl) (by simp) ?_
        refine (AllReadyH.cons rfl (fun K hK => ?_) AllReadyH.nil)
        go_simp
        refine hK.out _ _ ?_ (fun hNext => ?_)
        · try dsimp only
          (repeat (first | (with_reducible exact Keeps.refl _ _) | exact hKeep.out | exact hKeepS.out _ | assumption | (with_reducible refine Keeps.drew ?_) | (with_reducible refine Keeps.drewN ?_ _) | (with_reducible refine Keeps.alloc ?_ _) | (with_reducible refine Keeps.setCell ?_ (.inl (by first | exact .inl rfl | exact .inr rfl)) _)))
        clear hK K hHeld
        have hHeld := hNext
        clear hNext
        (try dsimp only at hHeld)
        try simp only [zX]
        refine wpAnyH_done (by kernel_rfl) ?_ _
        have R3 := hide (R2.out.setL hr12 (a - x2)).drew
        generalize hwz : World.drew (World.setCell _ _ _) = wz at R3 ⊢
        clear hwz hHeld c1 c2 c3 y0 ly lbp ep
        have z0 := cellOf R3.out.oc 0
        have z1 := unfrozenOf R3.out.oc 0
        have lz := box_lt R3.out.oc
        go_upto_region 10 with (at_builtin; go_must (refine wpList_append_own_at _ rfl (.tmp 44) (.tmp 46) _ rfl n 3 i0 _ 1 8 Tryz.underlying45 hi0 iz0 iz1 iz2 rfl (by omega) _ _ _ rfl (World.ownsRow.alloc R3.out.own _) ⟨wz.heap.size, 0, none⟩ 1 1 [.int .i64 (r : Nat)] rfl rfl (World.news_of_block (heap_alloc_new wz _)) (by simp [Value.oneCell']) (by unfold maxLen; omega) (by omega) (by have := R3.out.sz; simp; omega) ?_); intro v1 w4 hown1 hg1 _ hat1; have hw4 := R3.out.sno hown1 hg1; obtain ⟨A4, cap4, hv4⟩ := owns_form hown1; subst hv4; have hob := ((hg1.block op (by have := box_lt R3.out.oc; simp; omega) (fun e => by have := (R3.out.own.lt _ e.symm).1; have := R3.out.hi.1; omega)).trans (Below.heap_alloc _ _ _ (box_lt R3.out.oc))).trans R3.out.oc; have u0 := cellOf hob 0; have u1 := unfrozenOf hob 0; have lu := box_lt hob; have HW4 := hide hw4; clear hw4 hob hown1 hg1 hat1 z0 z1 lz)
        generalize hw5 : World.setCell _ _ _ = w5 at HW4 ⊢
        clear hw5 u0 u1 lu
        have n0 := cellOf HW4.out.nc 0
        have ln := box_lt HW4.out.nc
        have hcl := HIH.out (S ++ [r]) (updL L r (a - x2)) (max o (r + 1)) _ w5 HW4.out (by simp; omega) (by omega) (fun i => by
          unfold updL
          have := HL.out i
          split
          · omega
          · exact this)
        rw [List.length_append, List.length_singleton, HQ.out] at hcl
        obtain ⟨rc, hrc⟩ : ∃ rc, rlS most qs (updL L r (a - x2)) (max o (r + 1)) = rc := ⟨_, rfl⟩
        rw [hrc] at hcl
        have HRC := hide hrc
        have hmx : max o (r + 1) = if o ≤ r then r + 1 else o := by split <;> omega
        rw [hmx] at hcl
        clear hrc hmx
        by_cases hor : o ≤ r
        · rw [if_pos hor, show ((r + 1 : Nat) : Int) = (r : Int) + 1 from rfl] at hcl
          have HCL := hide hcl
          have hmx1 : (o : Int) < (r : Int) + 1 := by omega
          clear hcl
          cases rc with
          | some R' =>
            have hrs : res = some (r :: R') := by
              rw [← HRES.out, rlS_cons]
              exact findSome_first (k := r) (fun j hj => HNO.out j hj (by omega)) (by rw [HT.out, HRC.out]; rfl) hrm
            subst hrs
            go_wp2_with (go_at_call 118; refine HCL.out.mono ?_; rintro e w6 ⟨ov6, L6, rfl, hW6⟩; have HW6 := hide hW6; clear hW6 n0 ln)
            go_ret
            exact ⟨ov6, L6, rfl, by have h6 := HW6.out; rw [List.append_assoc] at h6; exact h6⟩
          | none =>
            go_upto_region 13 with (go_at_call 118; refine HCL.out.mono ?_; rintro e w6 ⟨ov6, rfl, hW6⟩; obtain ⟨A6, cap6, hv6, hcap6⟩ := hW6.form; subst hv6; have p0 := cellOf hW6.oc 0; have p1 := unfrozenOf hW6.oc 0; have lp6 := box_lt hW6.oc; have HW6 := hide hW6; clear hW6 n0 ln)
            have HW7 := hide HW6.out.pop
            generalize hw7 : World.setCell _ _ _ = w7 at HW7 ⊢
            clear hw7 p0 p1 lp6 hcap6
            obtain ⟨c1, c2, c3⟩ := HW7.out.lf.cell hr12
            have hc1 : updL L r (a - x2) r = a - x2 := by unfold updL; rw [if_pos rfl]
            rw [hc1] at c1
            have y0 := cellOf HW7.out.pc 0
            have ly := box_lt HW7.out.pc
            obtain ⟨bp3, offp3, x3, HX3, hA3, hbp, hq, ep⟩ := (HII.out.below HW7.out.below).at7 hil
            have hxp3 : x3 = x2 := by rw [← HX3.out, HPE.out]
            subst hxp3
            injection hA3 with hA3
            injection hA3 with e1 e2
            subst e1 e2
            have lbp : bp < w7.heap.size := Nat.lt_of_lt_of_le hbp HW7.out.below.size
            have wr2 : IntKind.i64.wrap (a - x3 + x3) = a := by rw [Int.sub_add_cancel]; exact IntWalk.i64_in _ (by omega)
            clear hbp hq hc1
            refine wp_region_held_drew (S := (fun w' => Keeps (fun j => j = lp ∨ j = lp) w7 w')) (by kernel_rfl) ?_ (fun hHeld => ?_)
            · try dsimp only
              (repeat (first | (with_reducible exact Keeps.refl _ _) | exact hKeep.out | exact hKeepS.out _ | assumption | (with_reducible refine Keeps.drew ?_) | (with_reducible refine Keeps.drewN ?_ _) | (with_reducible refine Keeps.alloc ?_ _) | (with_reducible refine Keeps.setCell ?_ (.inl (by first | exact .inl rfl | exact .inr rfl)) _)))
            refine zU 0 rfl ?_
            refine zU 1 rfl ?_
            refine zU 3 rfl ?_
            refine zU 4 rfl ?_
            refine zU 5 rfl ?_
            refine zU 6 rfl ?_
            refine wpAnyH_ready (rs := [2]) (by kernel_rfl) (by simp) ?_
            refine (AllReadyH.cons rfl (fun K hK => ?_) AllReadyH.nil)
            go_simp
            refine hK.out _ _ ?_ (fun hNext => ?_)
            · try dsimp only
              (repeat (first | (with_reducible exact Keeps.refl _ _) | exact hKeep.out | exact hKeepS.out _ | assumption | (with_reducible refine Keeps.drew ?_) | (with_reducible refine Keeps.drewN ?_ _) | (with_reducible refine Keeps.alloc ?_ _) | (with_reducible refine Keeps.setCell ?_ (.inl (by first | exact .inl rfl | exact .inr rfl)) _)))
            clear hK K hHeld
            have hHeld := hNext
            clear hNext
            (try dsimp only at hHeld)
            try simp only [zX]
            refine zU 7 rfl ?_
            refine zU 8 rfl ?_
            refine wpAnyH_ready (rs := [9]) (by kernel_rfl) (by simp) ?_
            refine (AllReadyH.cons rfl (fun K hK => ?_) AllReadyH.nil)
            go_simp
            refine hK.out _ _ ?_ (fun hNext => ?_)
            · try dsimp only
              (repeat (first | (with_reducible exact Keeps.refl _ _) | exact hKeep.out | exact hKeepS.out _ | assumption | (with_reducible refine Keeps.drew ?_) | (with_reducible refine Keeps.drewN ?_ _) | (with_reducible refine Keeps.alloc ?_ _) | (with_reducible refine Keeps.setCell ?_ (.inl (by first | exact .inl rfl | exact .inr rfl)) _)))
            clear hK K hHeld
            have hHeld := hNext
            clear hNext
            (try dsimp only at hHeld)
            try simp only [zX]
            refine wpAnyH_done (by kernel_rfl) ?_ _
            have R8 := hide (((HW7.out.setL hr12 a).same (L' := L) (fun i => by rw [← HAE.out]; exact updL_back L r _ i)).drew)
            clear hHeld c1 c2 c3 y0 ly lbp ep
            go_wp2_with fail
            go_roundw
            case rel => exact ⟨r + 1, _, by go_num, by omega, fun j hj hj2 => by
                rcases Nat.lt_or_ge j r with h1 | h1
                · exact HNO.out j h1 hj2
                · rw [show j = r by omega, HT.out, HRC.out]; rfl, R8.out⟩
            case measure => simp [intOf]; omega
        · rw [if_neg hor] at hcl
          have HCL := hide hcl
          have hmx1 : ¬ (o : Int) < (r : Int) + 1 := by omega
          clear hcl
          cases rc with
          | some R' =>
            have hrs : res = some (r :: R') := by
              rw [← HRES.out, rlS_cons]
              exact findSome_first (k := r) (fun j hj => HNO.out j hj (by omega)) (by rw [HT.out, HRC.out]; rfl) hrm
            subst hrs
            go_wp2_with (go_at_call 118; refine HCL.out.mono ?_; rintro e w6 ⟨ov6, L6, rfl, hW6⟩; have HW6 := hide hW6; clear hW6 n0 ln)
            go_ret
            exact ⟨ov6, L6, rfl, by have h6 := HW6.out; rw [List.append_assoc] at h6; exact h6⟩
          | none =>
            go_upto_region 13 with (go_at_call 118; refine HCL.out.mono ?_; rintro e w6 ⟨ov6, rfl, hW6⟩; obtain ⟨A6, cap6, hv6, hcap6⟩ := hW6.form; subst hv6; have p0 := cellOf hW6.oc 0; have p1 := unfrozenOf hW6.oc 0; have lp6 := box_lt hW6.oc; have HW6 := hide hW6; clear hW6 n0 ln)
            have HW7 := hide HW6.out.pop
            generalize hw7 : World.setCell _ _ _ = w7 at HW7 ⊢
            clear hw7 p0 p1 lp6 hcap6
            obtain ⟨c1, c2, c3⟩ := HW7.out.lf.cell hr12
            have hc1 : updL L r (a - x2) r = a - x2 := by unfold updL; rw [if_pos rfl]
            rw [hc1] at c1
            have y0 := cellOf HW7.out.pc 0
            have ly := box_lt HW7.out.pc
            obtain ⟨bp3, offp3, x3, HX3, hA3, hbp, hq, ep⟩ := (HII.out.below HW7.out.below).at7 hil
            have hxp3 : x3 = x2 := by rw [← HX3.out, HPE.out]
            subst hxp3
            injection hA3 with hA3
            injection hA3 with e1 e2
            subst e1 e2
            have lbp : bp < w7.heap.size := Nat.lt_of_lt_of_le hbp HW7.out.below.size
            have wr2 : IntKind.i64.wrap (a - x3 + x3) = a := by rw [Int.sub_add_cancel]; exact IntWalk.i64_in _ (by omega)
            clear hbp hq hc1
            refine wp_region_held_drew (S := (fun w' => Keeps (fun j => j = lp ∨ j = lp) w7 w')) (by kernel_rfl) ?_ (fun hHeld => ?_)
            · try dsimp only
              (repeat (first | (with_reducible exact Keeps.refl _ _) | exact hKeep.out | exact hKeepS.out _ | assumption | (with_reducible refine Keeps.drew ?_) | (with_reducible refine Keeps.drewN ?_ _) | (with_reducible refine Keeps.alloc ?_ _) | (with_reducible refine Keeps.setCell ?_ (.inl (by first | exact .inl rfl | exact .inr rfl)) _)))
            refine zU 0 rfl ?_
            refine zU 1 rfl ?_
            refine zU 3 rfl ?_
            refine zU 4 rfl ?_
            refine zU 5 rfl ?_
            refine zU 6 rfl ?_
            refine wpAnyH_ready (rs := [2]) (by kernel_rfl) (by simp) ?_
            refine (AllReadyH.cons rfl (fun K hK => ?_) AllReadyH.nil)
            go_simp
            refine hK.out _ _ ?_ (fun hNext => ?_)
            · try dsimp only
              (repeat (first | (with_reducible exact Keeps.refl _ _) | exact hKeep.out | exact hKeepS.out _ | assumption | (with_reducible refine Keeps.drew ?_) | (with_reducible refine Keeps.drewN ?_ _) | (with_reducible refine Keeps.alloc ?_ _) | (with_reducible refine Keeps.setCell ?_ (.inl (by first | exact .inl rfl | exact .inr rfl)) _)))
            clear hK K hHeld
            have hHeld := hNext
            clear hNext
            (try dsimp only at hHeld)
            try simp only [zX]
            refine zU 7 rfl ?_
            refine zU 8 rfl ?_
            refine wpAnyH_ready (rs := [9]) (by kernel_rfl) (by simp) ?_
            refine (AllReadyH.cons rfl (fun K hK => ?_) AllReadyH.nil)
            go_simp
            refine hK.out _ _ ?_ (fun hNext => ?_)
            · try dsimp only
              (repeat (first | (with_reducible exact Keeps.refl _ _) | exact hKeep.out | exact hKeepS.out _ | assumption | (with_reducible refine Keeps.drew ?_) | (with_reducible refine Keeps.drewN ?_ _) | (with_reducible refine Keeps.alloc ?_ _) | (with_reducible refine Keeps.setCell ?_ (.inl (by first | exact .inl rfl | exact .inr rfl)) _)))
            clear hK K hHeld
            have hHeld := hNext
            clear hNext
            (try dsimp only at hHeld)
            try simp only [zX]
            refine wpAnyH_done (by kernel_rfl) ?_ _
            have R8 := hide (((HW7.out.setL hr12 a).same (L' := L) (fun i => by rw [← HAE.out]; exact updL_back L r _ i)).drew)
            clear hHeld c1 c2 c3 y0 ly lbp ep
            go_wp2_with fail
            go_roundw
            case rel => exact ⟨r + 1, _, by go_num, by omega, fun j hj hj2 => by
                rcases Nat.lt_or_ge j r with h1 | h1
                · exact HNO.out j h1 hj2
                · rw [show j = r by omega, HT.out, HRC.out]; rfl, R8.out⟩
            case measure => simp [intOf]; omega
end Go.Proofs.YtehadoecnmfeoaaGreat
/- Reels (the program): walk. -/
namespace Go.Proofs.YtehadoecnmfeoaaGreat
open Go.RowKit
set_option linter.unusedVariables false
set_option linter.unusedSimpArgs false
set_option maxRecDepth 100000 in
theorem bwithin_any (n lo hi : Int) (w : World) (b : Bool) (hb : btw n lo hi = b) : Calls Tryz.prog 72 #[.int .i64 n, .int .i64 lo, .int .i64 hi] w fun e w' => e = .returned (.bool b) ∧ w = w' := by
  subst hb
  by_cases h1 : lo ≤ n
  · have hr : btw n lo hi = decide (n ≤ hi) := by simp [btw, h1]
    have HR := hide hr
    have h1' : decide (lo ≤ n) = true := decide_eq_true h1
    clear hr
    by_cases h2 : n ≤ hi
    · go_enter Tryz.func72, Tryz.ntmps72
      go_wp2
      go_ret
      exact ⟨ret_bool (by rw [HR.out]; simp [h2]), rfl⟩
    · go_enter Tryz.func72, Tryz.ntmps72
      go_wp2
      go_ret
      exact ⟨ret_bool (by rw [HR.out]; simp [h2]), rfl⟩
  · have hr : btw n lo hi = false := by simp [btw, h1]
    have HR := hide hr
    clear hr
    go_enter Tryz.func72, Tryz.ntmps72
    go_wp2
    go_ret
    exact ⟨ret_bool (by rw [HR.out]), rfl⟩
set_option maxRecDepth 100000 in
theorem piece_any (x len : Int) (b : Nat) (w : World) (h : w.heap[b]? = some (.cells #[.int .i64 len] 3 (0, 0))) :
    Calls Tryz.prog 117 #[.int .i64 x, .pointer (some ⟨b, 0, none⟩)] w fun e w' => e = .returned (.bool (!btw x 1 len)) ∧ Below w.heap.size w w' := by
  have c0 := cellOf h 0
  have hl := box_lt h
  obtain ⟨z, hz⟩ : ∃ z, btw x 1 len = z := ⟨_, rfl⟩
  rw [hz]
  have HZ := hide hz
  clear h hz
  go_enter Tryz.func117, Tryz.ntmps117
  go_wp2_with (go_at_call 72; refine (bwithin_any _ _ _ _ _ HZ.out).mono ?_; rintro e w1 ⟨rfl, rfl⟩)
  go_ret
  exact ⟨rfl, Below.refl _ _⟩
theorem Ints.form7 {w : World} {B : Nat} {v : Value} {l : List Int} (h : Ints w B v l) : ∃ A cap, v = .slice A l.length cap := Sl.form h
set_option maxRecDepth 100000 in
theorem index_piece (p : Int → Bool) (c0 : Value) (v : Value) (gs : List Int) (w : World) (hm : gs.length ≤ maxLen) (h : Ints w w.heap.size v gs)
    (hf : ∀ (i : Nat) (x : Int)  (W : World), i < gs.length → gs.getD i 0 = x → Below w.heap.size w W → Calls Tryz.prog 117 #[.int .i64 x, c0] W fun e w' => e = .returned (.bool (p x)) ∧ Below W.heap.size W w') :
    Calls Tryz.prog 157 #[v, .func (.func 117) #[] #[c0]] w fun e w' => e = .returned (.int .i64 (idxI p gs)) ∧ Below w.heap.size w w' := by
  unfold maxLen at hm
  obtain ⟨A, cap, rfl⟩ := Ints.form7 h
  have H := hide h; clear h
  have HF := hide hf; clear hf
  go_enter Tryz.func157, Tryz.ntmps157
  go_wp2
  go_loopw [5, 8] (fun _ i wr => ∃ k : Nat, k ≤ gs.length ∧ i = .int .i64 k ∧ Hid (∀ j, j < k → p (gs.getD j 0) = false) ∧ Below w.heap.size w wr) (fun _ i _ => gs.length - (intOf i).toNat)
  case atStart => exact ⟨0, Nat.zero_le _, rfl, fun j hj => by omega, Below.refl _ _⟩
  case round =>
    obtain ⟨k, hk, rfl, hz, hB⟩ := hrel
    by_cases hlt : k < gs.length
    · obtain ⟨b, off, x, HX, rfl, hbb, hq, e0⟩ := Ints.at7 (H.out.below hB) hlt
      have hf := fun W (hW : Below w.heap.size w W) => HF.out k x  W hlt HX.out hW
      have HF2 := hide hf
      have HB := hide hB
      clear hf
      by_cases hp : p x = true
      · have HP := hide hp
        clear hp
        go_wp2_with (go_at_call 117; refine (HF2.out _ hB).mono ?_; rw [HP.out]; rintro e w1 ⟨rfl, hB1⟩)
        go_ret
        exact ⟨ret_int (idxI_at p 0 gs k hz.out hlt (by rw [HX.out]; exact HP.out)).symm, Below.to HB.out hB1 (Nat.le_refl _)⟩
      · have hp' : p x = false := by simpa using hp
        have HP := hide hp'
        clear hp hp'
        go_wp2_with (go_at_call 117; refine (HF2.out _ hB).mono ?_; rw [HP.out]; rintro e w1 ⟨rfl, hB1⟩)
        go_roundw
        case rel => exact ⟨k + 1, by omega, by go_num, fun j hj => by
            rcases Nat.lt_or_ge j k with h | h
            · exact hz.out j h
            · rw [show j = k from by omega, HX.out]; exact HP.out, Below.to HB.out hB1 (Nat.le_refl _)⟩
        case measure => simp [intOf]; omega
    · go_wp2
      go_ret
      exact ⟨ret_int (idxI_none p 0 gs (fun j hj => hz.out j (by omega))).symm, hB⟩
set_option maxRecDepth 100000 in
theorem contains_piece (p : Int → Bool) (c0 : Value) (v : Value) (gs : List Int) (w : World) (hm : gs.length ≤ maxLen) (h : Ints w w.heap.size v gs)
    (hf : ∀ (i : Nat) (x : Int)  (W : World), i < gs.length → gs.getD i 0 = x → Below w.heap.size w W → Calls Tryz.prog 117 #[.int .i64 x, c0] W fun e w' => e = .returned (.bool (p x)) ∧ Below W.heap.size W w') :
    Calls Tryz.prog 70 #[v, .func (.func 117) #[] #[c0]] w fun e w' => e = .returned (.bool (gs.any p)) ∧ Below w.heap.size w w' := by
  have hc := index_piece p c0 v gs w hm h hf
  have he := idxI_any p gs
  have hlo := idxI_lo p gs
  have hhi := idxI_hi p gs
  obtain ⟨z, hz⟩ : ∃ z, idxI p gs = z := ⟨_, rfl⟩
  rw [hz] at hc he hlo hhi
  obtain ⟨A, cap, rfl⟩ := Ints.form7 h
  have HC := hide hc
  have HE := hide he
  unfold maxLen at hm
  have hz2 : z ≤ 9223372036854775807 := by omega
  clear hc he hz h hf
  go_enter Tryz.func70, Tryz.ntmps70
  go_wp2_with (go_at_call 157; refine HC.out.mono ?_; rintro e w1 ⟨rfl, hB1⟩)
  go_ret
  exact ⟨ret_bool HE.out, hB1⟩

end Go.Proofs.YtehadoecnmfeoaaGreat

/- Part 37 of this claim's texts: walks and plain laws. -/
import Derived.Test.YtehadoecnmfeoaaGreatRows
import Derived.Test.YtehadoecnmfeoaaGreatGBS31
import Derived.Test.YtehadoecnmfeoaaGreatGBS34
import Derived.Test.YtehadoecnmfeoaaGreatGBS36
import Derived.Lib.SliceRun
import Derived.Deep.DeepMust
import Derived.Deep.RegionHeld3
import Derived.Deep.DrawnRows
import Derived.Test.YtehadoecnmfeoaaGreatGBS3
set_option linter.unusedVariables false
set_option linter.unusedSimpArgs false
set_option linter.unusedSectionVars false
namespace Go.Proofs.YtehadoecnmfeoaaGreat
open Go.RowKit
theorem run_clear_two {P : Program} (w : World) (t e ty : TypeId) (z u : Value) (ht : P.underlying t = some (.slice e)) (hv : ∀ w, (zeroValue e).run P w = .ok z w) (hz : z.cells = #[u, u]) (h1 : u.oneCell' = true) (b o n c : Nat) (hn : 0 < n)
  (hc : ∀ j, j < n * 2 → (w.cell? ⟨b, o + j, none⟩).isSome = true) (hf : ∀ j, j < n * 2 → w.frozen? ⟨b, o + j, none⟩ = false) :
  (Builtin.clear_ #[t] ty #[.slice (some ⟨b, o, none⟩) n c]).run P w = .ok (.tuple #[]) (w.setCells b o (List.replicate (n * 2) u)) := by
 have hzc : (Builtin.zeroCells z.cells n).toList = List.replicate (n * 2) u := by
  rw [hz]
  simp only [Builtin.zeroCells]
  apply List.ext_getElem
  ·
   simp
  ·
   intro i h1 h2
   simp
   have : i % 2 = 0 ∨ i % 2 = 1 := by omega
   rcases this with h | h <;> rw [h] <;> rfl
 have hst := run_storeCells_cells (P := P) b o (List.replicate (n * 2) u) 0 w (by simpa using hc) (by simpa using hf) (by intro v hv'; rw [List.eq_of_mem_replicate hv']; exact h1)
 simp only [Nat.add_zero] at hst
 obtain ⟨m, rfl⟩ : ∃ m, n = m + 1 := ⟨n - 1, by omega⟩
 simp [Builtin.clear_, run_underlying ht, hv, hzc, hst]
theorem own_clearK {base e g cap n size : Nat} (z : Value) : ∀ (k s : Nat) (w : World) (xs : List Value), w.ownsRow base e size (.slice (some ⟨g, 0, none⟩) n cap) n xs → ∃ ys, (w.setCells g s (List.replicate k z)).ownsRow base e size (.slice (some ⟨g, 0, none⟩) n cap) n ys ∧ ys.take s = xs.take s ∧ w.grownBy (w.setCells g s (List.replicate k z)) (some g)
 | 0, s, w, xs, h => ⟨xs, h, rfl, only_refl _ _⟩
 | k + 1, s, w, xs, h => by
  obtain ⟨h1, h2⟩ := h.stored s z
  obtain ⟨ys, h3, h4, h5⟩ := own_clearK z k (s + 1) _ _ h1
  refine ⟨ys, h3, ?_, only_trans h2 h5⟩
  have h6 : ys.take s = (ys.take (s + 1)).take s := by rw [List.take_take, Nat.min_eq_left (by omega)]
  rw [h6, h4, List.take_take, Nat.min_eq_left (by omega), List.take_set_of_le (Nat.le_refl _)]
theorem own_cutK {w : World} {e B size : Nat} {A : Option Addr} {m cap : Nat} {xs : List Value} (h : w.ownsRow B e size (.slice A m cap) m xs) {r : Nat} (hr : r ≤ m) : w.ownsRow B e size (.slice A r cap) r (xs.take (r * size)) := by
 obtain ⟨h1, ⟨h2, h3⟩ | ⟨g, cap', cur, h2, h3, h4, h5, h6, h7, h8⟩⟩ := h
 ·
  injection h2 with e1 e2 e3
  subst e1 e3
  obtain rfl : r = 0 := by omega
  exact ⟨by simp, .inl ⟨rfl, rfl⟩⟩
 ·
  injection h2 with e1 e2 e3
  subst e1 e3
  have hm : r * size ≤ m * size := Nat.mul_le_mul_right _ hr
  refine ⟨by rw [List.length_take, h1]; omega, .inr ⟨g, cap, cur, rfl, h3, h4, by omega, h6, h7, ?_⟩⟩
  rw [← h8, List.take_take, Nat.min_eq_left hm]
theorem rowV_take {α : Type} {enc : α → List Value} {k : Nat} (hk : ∀ a, (enc a).length = k) (L : List α) (m : Nat) (hm : m ≤ L.length) : (rowV enc L).take (m * k) = rowV enc (L.take m) := by
 have e : rowV enc L = rowV enc (L.take m) ++ rowV enc (L.drop m) := by rw [← rowV_app, List.take_append_drop]
 have hl : (rowV enc (L.take m)).length = m * k := by rw [rowV_len hk, List.length_take, Nat.min_eq_left hm]
 rw [e, List.take_append_of_le_length (by rw [hl]; exact Nat.le_refl _), List.take_of_length_le (by rw [hl]; exact Nat.le_refl _)]
set_option maxRecDepth 100000 in
set_option maxHeartbeats 4000000 in
theorem compactP_any (L : List Pn) (B g q : Nat) (w : World) (h2 : 2 ≤ L.length) (hm : L.length ≤ 1000000) (hB : B ≤ w.heap.size) (h : w.ownsRow B 74 2 (.slice (some ⟨g, 0, none⟩) L.length q) L.length (rowV pnE L)) :
  Calls Tryz.prog 185 #[.slice (some ⟨g, 0, none⟩) L.length q] w fun e w' => e = .returned (.slice (some ⟨g, 0, none⟩) (cmpP L).length q) ∧
   w'.ownsRow B 74 2 (.slice (some ⟨g, 0, none⟩) (cmpP L).length q) (cmpP L).length (rowV pnE (cmpP L)) ∧ Below B w w' := by
 obtain ⟨_, _, _, hA0, hBg, hgw0, _, hLq, _⟩ := own_pn h (k := 0) (by omega)
 injection hA0 with hA0
 injection hA0 with hA0 _ _
 subst hA0
 have HO := hide h
 have i2 : ¬ (L.length : Int) < 2 := by omega
 have i3 : (1 : Int) < (L.length : Int) := by omega
 clear h h2
 go_enter Tryz.func185, Tryz.ntmps185
 go_wp2_with fail
 go_loopw [3] (fun kv wr => ∃ k : Nat, kv = .int .i64 k ∧ 1 ≤ k ∧ k ≤ L.length ∧ Hid (∀ j, j < k → kepB L j = true) ∧ Hid (Below w.heap.size w wr)) (fun kv _ => L.length - (intOf kv).toNat)
 case atStart => exact ⟨1, rfl, by omega, by omega, fun j hj => by rw [show j = 0 by omega]; rfl, Below.refl _ _⟩
 case round =>
  obtain ⟨k, rfl, hk1, hk, HK, HBW⟩ := hrel
  by_cases hlt : k < L.length
  case neg =>
   have hlt1 : ¬ (k : Int) < (L.length : Int) := by omega
   go_wp2_with fail
   go_ret
   have e := cmpP_all (L := L) fun j hj => HK.out j (by omega)
   rw [e]
   exact ⟨rfl, owns_below HO.out HBW.out, HBW.out.mono hB⟩
  case pos =>
   obtain ⟨p, rfl⟩ : ∃ p, k = p + 1 := ⟨k - 1, by omega⟩
   have HOr := hide (owns_below HO.out HBW.out)
   obtain ⟨_, x, HX, hA1, _, lg, _, _, x0, x1, _⟩ := own_pn HOr.out hlt
   obtain ⟨_, y, HY, hA2, _, _, _, _, y0, y1, _⟩ := own_pn HOr.out (k := p) (by omega)
   injection hA1 with hA1
   injection hA1 with hA1 _ _
   subst hA1
   injection hA2 with hA2
   injection hA2 with hA2 _ _
   subst hA2
   have hlt1 : ((p + 1 : Nat) : Int) < (L.length : Int) := by omega
   have ip0 : (0 : Int) ≤ (p : Int) := by omega
   have ip1 : (p : Int) < (L.length : Int) := by omega
   have ip2 : p < L.length := by omega
   have ip5 : (p : Int) + 1 < (L.length : Int) := by omega
   have ip7 : 0 ≤ (p : Int) + 1 := by omega
   have wm : IntKind.i64.wrap (((p + 1 : Nat) : Int) - 1) = (p : Int) := by rw [IntWalk.i64_in _ (by omega)]; omega
   have wm2 : IntKind.i64.wrap ((p : Int) + 1 - 1) = (p : Int) := by rw [IntWalk.i64_in _ (by omega)]; omega
   have wm3 : IntKind.i64.wrap (p : Int) = (p : Int) := by rw [IntWalk.i64_in _ (by omega)]
   have he := fun w => pinEq x.1 x.2 y.1 y.2 w
   by_cases hxy : x = y
   ·
    have he1 : (x.1 == y.1 && x.2 == y.2) = true := by rw [hxy]; simp
    rw [he1] at he
    have HKB : Hid (kepB L (p + 1) = false) := by show _ = _; rw [kepB_eq HX.out HY.out, hxy]; simp
    clear hxy he1
    go_upto_region 6 with (fail)
    refine wp_region_held_drew (S := (fun w' => Below wr.heap.size wr w')) (by kernel_rfl) ?_ (fun hHeld => ?_)
    ·
     try dsimp only
     exact zP
    refine zT 0 rfl ?_
    refine zT 1 rfl ?_
    refine zT 2 rfl ?_
    refine zT 3 rfl ?_
    refine zT 4 rfl ?_
    refine zT 5 rfl ?_
    refine zT 6 rfl ?_
    refine zT 7 rfl ?_
    refine zT 8 rfl ?_
    refine zT 9 rfl ?_
    refine wpAnyH_done (by kernel_rfl) ?_ _
    generalize hw6 : World.drew _ = w6 at hHeld ⊢
    have HB6 := hide (Below.to HBW.out hHeld (Nat.le_refl _))
    clear hw6 hHeld x0 x1 y0 y1 lg
    go_wp2_with fail
    have HK2 : Hid (kepC L (p + 1 + 1) = List.range (p + 1)) := by
     show _ = _
     rw [kepC_succ, if_neg (by rw [HKB.out]; simp), kepC_all fun j hj => HK.out j hj]
    have HST := hide (KepD.start L (k := p + 1) (by omega))
    obtain ⟨r, hr⟩ : ∃ r, L.length - (p + 1) = r := ⟨_, rfl⟩
    obtain ⟨q', hq'⟩ : ∃ z, q - (p + 1) = z := ⟨_, rfl⟩
    rw [hr, hq']
    have HR : Hid (L.length = p + 1 + r) := by show _ = _; omega
    have hr1 : 1 ≤ r := by omega
    have hrm : r ≤ 1000000 := by omega
    clear hr hq' he wm wm2 wm3 ip1 ip5 ip7 ip2 hlt1
    go_loopw [3, 5] (fun kv jv wr => ∃ (j : Nat) (Y : List Pn), kv = .int .i64 (kepC L (p + 1 + j)).length ∧ jv = .int .i64 j ∧ 1 ≤ j ∧ j ≤ r ∧ (kepC L (p + 1 + j)).length < p + 1 + j ∧ Hid (wr.ownsRow B 74 2 (.slice (some ⟨g, 0, none⟩) L.length q) L.length (rowV pnE Y)) ∧ Hid (KepD Y L (kepC L (p + 1 + j))) ∧ Hid (Below B w wr)) (fun _ jv _ => r - (intOf jv).toNat)
    case atStart => exact ⟨1, L, by rw [HK2.out, List.length_range]; go_num, rfl, Nat.le_refl _, hr1, by rw [HK2.out, List.length_range]; omega, owns_below HO.out HB6.out, by rw [HK2.out]; exact HST.out, HB6.out.mono hB⟩
    case round =>
     obtain ⟨j, Y, rfl, rfl, hj1, hjr, hKl, HOW, HKD, HBl⟩ := hrel
     obtain ⟨K, hK⟩ : ∃ z, kepC L (p + 1 + j) = z := ⟨_, rfl⟩
     rw [hK] at hKl HKD ⊢
     obtain ⟨c, hc⟩ : ∃ c, K.length = c := ⟨_, rfl⟩
     rw [hc] at hKl ⊢
     have HKE := hide hK
     have HCE := hide hc
     have hYl : Hid (Y.length = L.length) := HKD.out.len
     have hown : Hid (wr.ownsRow B 74 2 (.slice (some ⟨g, 0, none⟩) L.length q) Y.length (rowV pnE Y)) := by
      show World.ownsRow _ _ _ _ _ _ _
      rw [hYl.out]
      exact HOW.out
     have hBr : B ≤ wr.heap.size := Nat.le_trans hB HBl.out.size
     clear hK hc
     by_cases hlt : j < r
     case neg =>
      have hlt1 : ¬ (j : Int) < (r : Int) := by omega
      have hend : Hid (p + 1 + j = L.length) := by show _ = _; have := HR.out; omega
      have hcL : c < L.length := by have := HR.out; omega
      have hfz := fun j => HOW.out.frozenAt j
      obtain ⟨Z, hZ, hZt, hZg⟩ := own_clearK (.int .i64 0) ((L.length - c) * 2) (c * 2) wr _ HOW.out
      have hcl : ∀ ty, (Builtin.clear_ #[86] ty #[.slice (some ⟨g, c * 2, none⟩) (L.length - c) (q - c)]).run Tryz.prog wr = .ok (.tuple #[]) (wr.setCells g (c * 2) (List.replicate ((L.length - c) * 2) (.int .i64 0))) := fun ty =>
       run_clear_two wr 86 74 ty (.agg #[.int .i64 0, .int .i64 0]) (.int .i64 0) Tryz.underlying86 (fun w => by go_simp) rfl rfl g (c * 2) _ _ (by omega) (fun j hj => by
        rw [HOW.out.cellAt (c * 2 + j) (by omega), List.getElem?_eq_getElem (by rw [rowV_len pnE_len, hYl.out]; omega)]
        rfl) (fun j _ => hfz _)
      obtain ⟨w9, hw9⟩ : ∃ z, wr.setCells g (c * 2) (List.replicate ((L.length - c) * 2) (.int .i64 0)) = z := ⟨_, rfl⟩
      rw [hw9] at hZ hZg hcl
      have hcut := own_cutK hZ (r := c) (by omega)
      have hrow : (rowV pnE Y).take (c * 2) = rowV pnE (cmpP L) := by
       rw [rowV_take pnE_len Y c (by rw [hYl.out]; omega)]
       have h1 := HKD.out.pre
       rw [HCE.out] at h1
       rw [h1, ← HKE.out, hend.out]
       rfl
      rw [hZt, hrow] at hcut
      have hcl2 : (cmpP L).length = c := by rw [cmpP_len, ← hend.out, HKE.out, HCE.out]
      have HCUT := hide hcut
      have HCL2 := hide hcl2
      have HB9 : Hid (Below B w w9) := Below.grown HBl.out hZg hBr (fun q hq => by injection hq with hq; omega)
      have iK0 : (0 : Int) ≤ (c : Int) := by omega
      have iK1 : (c : Int) ≤ (L.length : Int) := by omega
      have iK2 : (L.length : Int) ≤ (q : Int) := by omega
      have iK3 : (c : Int) ≤ (q : Int) := by omega
      clear hZ hZt hZg hcut hrow hcl2 hw9 hfz
      go_wp2_with fail
      go_ret
      rw [HCL2.out]
      exact ⟨rfl, HCUT.out, HB9.out⟩
     case pos =>
      obtain ⟨m, rfl⟩ : ∃ m, j = m + 1 := ⟨j - 1, by omega⟩
      have hRl := HR.out
      have hcL : c < L.length := by omega
      obtain ⟨_, x, HX, hA1, _, lg, _, _, x0, x1, hfz⟩ := own_pn hown.out (k := p + 1 + (m + 1)) (by rw [hYl.out]; omega)
      obtain ⟨_, y, HY, hA2, _, _, _, _, y0, y1, _⟩ := own_pn hown.out (k := p + 1 + m) (by rw [hYl.out]; omega)
      injection hA1 with hA1
      injection hA1 with hA1 _ _
      subst hA1
      injection hA2 with hA2
      injection hA2 with hA2 _ _
      subst hA2
      have hXL : Hid (L.getD (p + 1 + (m + 1)) (0, 0) = x) := (HKD.out.getD (by rw [HCE.out]; omega)).symm.trans HX.out
      have hYL : Hid (L.getD (p + 1 + m) (0, 0) = y) := (HKD.out.getD (by rw [HCE.out]; omega)).symm.trans HY.out
      rw [show (p + 1 + (m + 1)) * 2 = (p + 1) * 2 + (m + 1) * 2 by omega] at x0 x1
      rw [show (p + 1 + m) * 2 = (p + 1) * 2 + m * 2 by omega] at y0 y1
      have hlt1 : ((m + 1 : Nat) : Int) < (r : Int) := by omega
      have ip0 : (0 : Int) ≤ (m : Int) := by omega
      have ip1 : (m : Int) < (r : Int) := by omega
      have ip2 : m < r := by omega
      have ip5 : (m : Int) + 1 < (r : Int) := by omega
      have ip7 : 0 ≤ (m : Int) + 1 := by omega
      have wm : IntKind.i64.wrap (((m + 1 : Nat) : Int) - 1) = (m : Int) := by rw [IntWalk.i64_in _ (by omega)]; omega
      have wm2 : IntKind.i64.wrap ((m : Int) + 1 - 1) = (m : Int) := by rw [IntWalk.i64_in _ (by omega)]; omega
      have wm3 : IntKind.i64.wrap (m : Int) = (m : Int) := by rw [IntWalk.i64_in _ (by omega)]
      have he := fun w => pinNe x.1 x.2 y.1 y.2 w
      have HLT2 : Hid (m + 1 + 1 ≤ r ∧ c < p + 1 + (m + 1) ∧ L.length = p + 1 + r) := ⟨by omega, by omega, hRl⟩
      clear hRl
      by_cases hxy : x = y
      ·
       have he1 : (x.1 == y.1 && x.2 == y.2) = true := by rw [hxy]; simp
       rw [he1] at he
       have HKB2 : Hid (kepC L (p + 1 + (m + 1) + 1) = K) := by
        show _ = _
        rw [kepC_succ, HKE.out, if_neg]
        rw [show p + 1 + (m + 1) = p + 1 + m + 1 by omega, kepB_eq (L := L) (p := p + 1 + m) hXL.out hYL.out, hxy]
        simp
       clear hxy he1
       go_upto_region 11 with (fail)
       refine wp_region_held_drew (S := (fun w' => Below wr.heap.size wr w')) (by kernel_rfl) ?_ (fun hHeld => ?_)
       ·
        try dsimp only
        exact zP
       refine zT 0 rfl ?_
       refine zT 1 rfl ?_
       refine zT 2 rfl ?_
       refine zT 3 rfl ?_
       refine zT 4 rfl ?_
       refine zT 5 rfl ?_
       refine zT 6 rfl ?_
       refine zT 7 rfl ?_
       refine zT 8 rfl ?_
       refine zT 9 rfl ?_
       refine wpAnyH_done (by kernel_rfl) ?_ _
       generalize hw7 : World.drew _ = w7 at hHeld ⊢
       have HOW7 := hide (owns_below HOW.out hHeld)
       have HB7 := hide (Below.trans HBl.out (hHeld.mono hBr))
       clear hw7 hHeld x0 x1 y0 y1 lg hfz
       go_wp2_with fail
       go_roundw
       case rel => exact ⟨m + 1 + 1, Y, by rw [← Nat.add_assoc, HKB2.out, HCE.out], by go_num, by omega, by have := HLT2.out; omega, by rw [← Nat.add_assoc, HKB2.out, HCE.out]; have := HLT2.out; omega, HOW7.out, by rw [← Nat.add_assoc, HKB2.out]; exact HKD.out, HB7.out⟩
       case measure => simp [intOf]; have := HLT2.out; omega
      ·
       have he1 : (x.1 == y.1 && x.2 == y.2) = false := by
        rw [Bool.eq_false_iff]
        intro h
        rw [Bool.and_eq_true, beq_iff_eq, beq_iff_eq] at h
        exact hxy (Prod.ext h.1 h.2)
       rw [he1] at he
       have HKB2 : Hid (kepC L (p + 1 + (m + 1) + 1) = K ++ [p + 1 + (m + 1)]) := by
        show _ = _
        rw [kepC_succ, HKE.out, if_pos]
        rw [show p + 1 + (m + 1) = p + 1 + m + 1 by omega, kepB_eq (L := L) (p := p + 1 + m) hXL.out hYL.out]
        simpa using hxy
       clear hxy he1
       go_upto_region 11 with (fail)
       refine wp_region_held_drew (S := (fun w' => Below wr.heap.size wr w')) (by kernel_rfl) ?_ (fun hHeld => ?_)
       ·
        try dsimp only
        exact zP
       refine zT 0 rfl ?_
       refine zT 1 rfl ?_
       refine zT 2 rfl ?_
       refine zT 3 rfl ?_
       refine zT 4 rfl ?_
       refine zT 5 rfl ?_
       refine zT 6 rfl ?_
       refine zT 7 rfl ?_
       refine zT 8 rfl ?_
       refine zT 9 rfl ?_
       refine wpAnyH_done (by kernel_rfl) ?_ _
       generalize hw7 : World.drew _ = w7 at hHeld ⊢
       have HOW7 := hide (owns_below HOW.out hHeld)
       have HB7 := hide (Below.trans HBl.out (hHeld.mono hBr))
       have hBr7 : B ≤ w7.heap.size := Nat.le_trans hBr hHeld.size
       clear hw7 hHeld x0 x1 y0 y1 lg hfz he
       have hown7 : w7.ownsRow B 74 2 (.slice (some ⟨g, 0, none⟩) L.length q) Y.length (rowV pnE Y) := by rw [hYl.out]; exact HOW7.out
       obtain ⟨_, x', HX', hA1, _, lg, _, _, x0, x1, hfz⟩ := own_pn hown7 (k := p + 1 + (m + 1)) (by rw [hYl.out]; have := HLT2.out; omega)
       injection hA1 with hA1
       injection hA1 with hA1 _ _
       subst hA1
       have hx' : x' = x := HX'.out.symm.trans HX.out
       subst hx'
       obtain ⟨_, _, _, hA1, _, _, _, _, y0, y1, _⟩ := own_pn hown7 (k := c) (by rw [hYl.out]; have := HLT2.out; omega)
       injection hA1 with hA1
       injection hA1 with hA1 _ _
       subst hA1
       rw [show (p + 1 + (m + 1)) * 2 = (p + 1) * 2 + (m + 1) * 2 by omega] at x0 x1
       have f0 := hfz (c * 2)
       have f1 := hfz (c * 2 + 1)
       have ic0 : (0 : Int) ≤ (c : Int) := by omega
       have ic1 : (c : Int) < (L.length : Int) := by omega
       obtain ⟨k1, k2⟩ := own_set2 HOW7.out (c * 2) (.int .i64 x'.1) (.int .i64 x'.2)
       have hset : setAll (rowV pnE Y) (c * 2) [.int .i64 x'.1, .int .i64 x'.2] = rowV pnE (Y.set c x') := rowV_set pnE_len (by rw [hYl.out]; have := HLT2.out; omega) x'
       rw [hset] at k1
       have HK1 := hide k1
       have HK2' := hide k2
       clear hown7 hset k1 k2 hfz
       go_upto_region 13 with (fail)
       have hk1 := HK1.out
       have hk2 := HK2'.out
       generalize hwv : World.setCell (World.setCell w7 _ _) _ _ = w8 at hk1 hk2 ⊢
       have HO8 := hide hk1
       have HB8 := hide (Below.grown HB7.out hk2 hBr7 (fun q hq => by injection hq with hq; omega))
       have HKD8 : Hid (KepD (Y.set c x') L (K ++ [p + 1 + (m + 1)])) := by
        have h1 := HKD.out.keep (j := p + 1 + (m + 1)) (by rw [HCE.out]; omega)
        rw [HCE.out, hXL.out] at h1
        exact h1
       clear hwv hk1 hk2 HK1 HK2' x0 x1 y0 y1 lg f0 f1
       go_wp2_with fail
       go_roundw
       case rel => exact ⟨m + 1 + 1, Y.set c x', by rw [← Nat.add_assoc, HKB2.out, List.length_append, HCE.out]; go_num, by go_num, by omega, by have := HLT2.out; omega, by rw [← Nat.add_assoc, HKB2.out, List.length_append, HCE.out]; simp; have := HLT2.out; omega, HO8.out, by rw [← Nat.add_assoc, HKB2.out]; exact HKD8.out, HB8.out⟩
       case measure => simp [intOf]; have := HLT2.out; omega
   ·
    have he1 : (x.1 == y.1 && x.2 == y.2) = false := by
     rw [Bool.eq_false_iff]
     intro h
     rw [Bool.and_eq_true, beq_iff_eq, beq_iff_eq] at h
     exact hxy (Prod.ext h.1 h.2)
    rw [he1] at he
    have HKB : Hid (kepB L (p + 1) = true) := by show _ = _; rw [kepB_eq HX.out HY.out]; simpa using hxy
    clear hxy he1
    go_upto_region 6 with (fail)
    refine wp_region_held_drew (S := (fun w' => Below wr.heap.size wr w')) (by kernel_rfl) ?_ (fun hHeld => ?_)
    ·
     try dsimp only
     exact zP
    refine zT 0 rfl ?_
    refine zT 1 rfl ?_
    refine zT 2 rfl ?_
    refine zT 3 rfl ?_
    refine zT 4 rfl ?_
    refine zT 5 rfl ?_
    refine zT 6 rfl ?_
    refine zT 7 rfl ?_
    refine zT 8 rfl ?_
    refine zT 9 rfl ?_
    refine wpAnyH_done (by kernel_rfl) ?_ _
    generalize hw6 : World.drew _ = w6 at hHeld ⊢
    have HB6 := hide (Below.to HBW.out hHeld (Nat.le_refl _))
    clear hw6 hHeld x0 x1 y0 y1 lg
    go_wp2_with fail
    go_roundw
    case rel => exact ⟨p + 1 + 1, by go_num, by omega, by omega, fun j hj => by
      rcases Nat.lt_or_ge j (p + 1) with h | h
      ·
       exact HK.out j h
      ·
       rw [show j = p + 1 from by omega]; exact HKB.out, HB6.out⟩
    case measure => simp [intOf]; omega
end Go.Proofs.YtehadoecnmfeoaaGreat

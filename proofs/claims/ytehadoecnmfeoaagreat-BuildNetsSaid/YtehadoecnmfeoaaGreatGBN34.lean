/- Part 34 of this claim's texts: walks and plain laws. -/
import Derived.Test.YtehadoecnmfeoaaGreatRows
import Derived.Test.YtehadoecnmfeoaaGreatGBN26
import Derived.Test.YtehadoecnmfeoaaGreatGBN33
import Derived.Test.YtehadoecnmfeoaaGreatGBN25
import Derived.Test.YtehadoecnmfeoaaGreatGBN10
import Derived.Deep.DeepMust
import Derived.Deep.RegionHeld3
import Derived.Deep.DrawnRows
import Derived.Test.YtehadoecnmfeoaaGreatGBN3
import Derived.Shelf.SlSortCmp.WholeK
import Derived.Shelf.SlSortCmp.Whole1
import Derived.Shelf.SlSortCmp.NoneTotal
import Derived.Test.YtehadoecnmfeoaaGreatProg
set_option linter.unusedVariables false
set_option linter.unusedSimpArgs false
set_option linter.unusedSectionVars false
namespace Go.Proofs.YtehadoecnmfeoaaGreat
open Go.RowKit Go.Sort
def cpI (a b : Int) : Int := if a < b then -1 else if b < a then 1 else 0
def orI (a b : Int) : Int := if a = 0 then b else a
set_option maxRecDepth 100000 in
theorem isNaN_int (a : Int) (w : World) : Calls Tryz.prog 166 #[.int .i64 a] w fun e W => e = .returned (.bool false) ∧ w = W := by
  have h1 : (a != a) = false := by simp
  go_enter Tryz.func166, Tryz.ntmps166
  go_wp2_with fail
  go_ret
  exact ⟨rfl, rfl⟩
set_option maxRecDepth 100000 in
theorem compare_int (a b : Int) (w : World) : Calls Tryz.prog 97 #[.int .i64 a, .int .i64 b] w fun e W => e = .returned (.int .i64 (cpI a b)) ∧ w = W := by
  obtain ⟨r, hr⟩ : ∃ z, cpI a b = z := ⟨_, rfl⟩
  rw [hr]
  have HR := hide hr
  clear hr
  by_cases h1 : a < b
  · have hr : r = -1 := by rw [← HR.out]; unfold cpI; rw [if_pos h1]
    subst hr
    go_enter Tryz.func97, Tryz.ntmps97
    go_wp2_with (go_at_call 166; refine (isNaN_int _ _).mono ?_; rintro e w2 ⟨rfl, rfl⟩)
    go_ret
    exact ⟨rfl, rfl⟩
  · by_cases h2 : b < a
    · have hr : r = 1 := by rw [← HR.out]; unfold cpI; rw [if_neg h1, if_pos h2]
      subst hr
      go_enter Tryz.func97, Tryz.ntmps97
      go_wp2_with (go_at_call 166; refine (isNaN_int _ _).mono ?_; rintro e w2 ⟨rfl, rfl⟩)
      go_ret
      exact ⟨rfl, rfl⟩
    · have hr : r = 0 := by rw [← HR.out]; unfold cpI; rw [if_neg h1, if_neg h2]
      subst hr
      go_enter Tryz.func97, Tryz.ntmps97
      go_wp2_with (go_at_call 166; refine (isNaN_int _ _).mono ?_; rintro e w2 ⟨rfl, rfl⟩)
      go_ret
      exact ⟨rfl, rfl⟩
set_option maxRecDepth 100000 in
theorem or_int (g : Nat) (a b : Int) (w : World) (h : w.heap[g]? = some (.cells #[.int .i64 a, .int .i64 b] 3 (0, 0))) : Calls Tryz.prog 96 #[.slice (some ⟨g, 0, none⟩) 2 2] w fun e W => e = .returned (.int .i64 (orI a b)) ∧ w = W := by
  obtain ⟨r, hr⟩ : ∃ z, orI a b = z := ⟨_, rfl⟩
  rw [hr]
  have HR := hide hr
  have c0 := cellOf h 0
  have c1 := cellOf h 1
  have lg := box_lt h
  clear hr h
  go_enter Tryz.func96, Tryz.ntmps96
  go_wp2_with fail
  go_loop [5, 8] (fun _ i => ∃ k : Nat, i = .int .i64 k ∧ k ≤ 2 ∧ Hid (0 < k → a = 0) ∧ Hid (1 < k → b = 0)) (fun _ i => 2 - (intOf i).toNat)
  case atStart => exact ⟨0, rfl, by omega, fun h => absurd h (by omega), fun h => absurd h (by omega)⟩
  case round =>
    obtain ⟨k, rfl, hk, H0, H1⟩ := hrel
    by_cases hk2 : k < 2
    case neg =>
      have hk1 : ¬ (k : Int) < 2 := by omega
      have hr : r = 0 := by
        rw [← HR.out]
        unfold orI
        rw [if_pos (H0.out (by omega))]
        exact H1.out (by omega)
      subst hr
      go_wp2_with fail
      go_ret
      exact ⟨rfl, rfl⟩
    case pos =>
    have hk1 : (k : Int) < 2 := by omega
    have ik0 : (0 : Int) ≤ (k : Int) := by omega
    obtain ⟨x, hx, hxc⟩ : ∃ x : Int, w.cell? ⟨g, k, none⟩ = some (.int .i64 x) ∧ Hid (x = if k = 0 then a else b) := by
      by_cases h0 : k = 0
      · subst h0; exact ⟨a, c0, (if_pos rfl).symm⟩
      · have : k = 1 := by omega
        subst this
        exact ⟨b, c1, (if_neg h0).symm⟩
    clear c0 c1
    by_cases hx0 : x = 0
    · subst hx0
      have n0 : ((0 : Int) != 0) = false := by decide
      have H02 : Hid (0 < k + 1 → a = 0) := fun _ => by
        by_cases h0 : k = 0
        · have := hxc.out; rw [if_pos h0] at this; exact this.symm
        · exact H0.out (by omega)
      have H12 : Hid (1 < k + 1 → b = 0) := fun h => by
        have := hxc.out; rw [if_neg (by omega)] at this; exact this.symm
      go_wp2_with fail
      go_round
      case rel => exact ⟨k + 1, by go_num, by omega, H02, H12⟩
      case measure => simp [intOf]; omega
    · have n0 : (x != 0) = true := by simpa using hx0
      have hr : r = x := by
        rw [← HR.out]
        unfold orI
        have h2 := hxc.out
        by_cases h0 : k = 0
        · rw [if_pos h0] at h2
          rw [if_neg (by rw [← h2]; exact hx0), h2]
        · rw [if_neg h0] at h2
          rw [if_pos (H0.out (by omega)), h2]
      subst hr
      clear hxc HR
      go_wp2_with fail
      go_ret
      exact ⟨rfl, rfl⟩
def GrQ (W w' : World) : Prop := ∃ q os, w' = grow (W.drewN q) os
theorem GrQ.refl (W : World) : GrQ W W := ⟨0, #[], by rw [grow_empty]; rfl⟩
theorem GrQ.alloc {W w' : World} (h : GrQ W w') (o : Obj) : GrQ W (w'.alloc o) := by
  obtain ⟨q, os, rfl⟩ := h
  exact ⟨q, os ++ #[o], by rw [alloc_eq_grow, grow_grow]⟩
theorem GrQ.drew {W w' : World} (h : GrQ W w') : GrQ W w'.drew := by
  obtain ⟨q, os, rfl⟩ := h
  exact ⟨q + 1, os, rfl⟩
def ctV (a : Ct) : Value := .agg #[.int .i64 a.s, .int .i64 a.n, .int .i64 a.c]
def cutC (x y : Ct) : Int := orI (cpI x.s y.s) (cpI x.n y.n)
def pinC (x y : Pn) : Int := orI (cpI x.1 y.1) (cpI x.2 y.2)
theorem pinC_lt (x y : Pn) : decide (pinC x y < 0) = ltP x y := by
  unfold pinC orI cpI
  rw [Bool.eq_iff_iff, ltP_iff, decide_eq_true_eq]
  by_cases h1 : x.1 < y.1
  · simp [h1]
  · by_cases h2 : y.1 < x.1
    · simp [h1, h2]; omega
    · by_cases h3 : x.2 < y.2
      · simp [h1, h2, h3]; omega
      · by_cases h4 : y.2 < x.2
        · simp [h1, h2, h3, h4]
        · simp [h1, h2, h3, h4]
set_option maxRecDepth 100000 in
set_option maxHeartbeats 4000000 in
theorem comparePins_any (x y : Pn) (w : World) : Calls Tryz.prog 184 #[.agg #[.int .i64 x.1, .int .i64 x.2], .agg #[.int .i64 y.1, .int .i64 y.2]] w fun e w' => e = .returned (.int .i64 (pinC x y)) ∧ GrQ w w' := by
  obtain ⟨r, hr⟩ : ∃ z, pinC x y = z := ⟨_, rfl⟩
  rw [hr]
  have HR := hide hr
  clear hr
  go_enter Tryz.func184, Tryz.ntmps184
  go_upto_region 1 with (fail)
  have hG : GrQ w ((w.alloc (.cells #[.int .i64 x.1, .int .i64 x.2] 74)).alloc (.cells #[.int .i64 y.1, .int .i64 y.2] 74)) := (GrQ.refl w |>.alloc _).alloc _
  generalize hw0 : World.alloc _ _ = w0 at hG ⊢
  obtain ⟨hb0, hb1, hB0, hs0⟩ := alloc2 hw0
  obtain ⟨p, hp⟩ : ∃ z, w.heap.size = z := ⟨_, rfl⟩
  obtain ⟨q, hq⟩ : ∃ z, w.heap.size + 1 = z := ⟨_, rfl⟩
  rw [hp] at hb0
  rw [hq] at hb1 ⊢
  rw [hp]
  have c0 := cellOf hb0 0
  have c1 := cellOf hb0 1
  have lc := box_lt hb0
  have d0 := cellOf hb1 0
  have d1 := cellOf hb1 1
  have ld := box_lt hb1
  clear hw0 hb0 hb1 hB0 hs0 hp hq
  refine wp_region_held_drew (S := (fun w' => Below w0.heap.size w0 w')) (by kernel_rfl) ?_ (fun hHeld => ?_)
  · try dsimp only
    exact zP
  refine zT 0 rfl ?_
  refine zT 1 rfl ?_
  refine zT 2 rfl ?_
  refine zT 3 rfl ?_
  refine zT 5 rfl ?_
  refine zT 6 rfl ?_
  refine zT 7 rfl ?_
  refine zT 8 rfl ?_
  refine wpAnyH_ready (rs := [4]) (by kernel_rfl) (by simp) ?_
  refine (AllReadyH.cons rfl (fun K hK => ?_) AllReadyH.nil)
  go_simp
  (first | (go_at_call 97; refine (compare_int _ _ _).mono ?_; rintro e w2 ⟨rfl, rfl⟩) | (go_at_call 96; refine (or_int w0.heap.size _ _ _ (show (World.drew (w0.alloc (.cells #[.int .i64 (cpI x.1 y.1), .int .i64 (cpI x.2 y.2)] 3 (0, 0)))).heap[w0.heap.size]? = _ from heap_alloc_new w0 _)).mono ?_; rintro e w2 ⟨rfl, rfl⟩))
  (try dsimp only)
  refine hK.out _ _ zP fun hNext => ?_; clear hK K hHeld; have hHeld := hNext; clear hNext; (try dsimp only at hHeld); try simp only [zX]
  refine wpAnyH_ready (rs := [9]) (by kernel_rfl) (by simp) ?_
  refine (AllReadyH.cons rfl (fun K hK => ?_) AllReadyH.nil)
  go_simp
  (first | (go_at_call 97; refine (compare_int _ _ _).mono ?_; rintro e w2 ⟨rfl, rfl⟩) | (go_at_call 96; refine (or_int w0.heap.size _ _ _ (show (World.drew (w0.alloc (.cells #[.int .i64 (cpI x.1 y.1), .int .i64 (cpI x.2 y.2)] 3 (0, 0)))).heap[w0.heap.size]? = _ from heap_alloc_new w0 _)).mono ?_; rintro e w2 ⟨rfl, rfl⟩))
  (try dsimp only)
  refine hK.out _ _ zP fun hNext => ?_; clear hK K hHeld; have hHeld := hNext; clear hNext; (try dsimp only at hHeld); try simp only [zX]
  refine wpAnyH_ready (rs := [10]) (by kernel_rfl) (by simp) ?_
  refine (AllReadyH.cons rfl (fun K hK => ?_) AllReadyH.nil)
  go_simp
  refine hK.out _ _ zP fun hNext => ?_; clear hK K hHeld; have hHeld := hNext; clear hNext; (try dsimp only at hHeld); try simp only [zX]
  refine wpAnyH_ready (rs := [11]) (by kernel_rfl) (by simp) ?_
  refine (AllReadyH.cons rfl (fun K hK => ?_) AllReadyH.nil)
  go_simp
  (first | (go_at_call 97; refine (compare_int _ _ _).mono ?_; rintro e w2 ⟨rfl, rfl⟩) | (go_at_call 96; refine (or_int w0.heap.size _ _ _ (show (World.drew (w0.alloc (.cells #[.int .i64 (cpI x.1 y.1), .int .i64 (cpI x.2 y.2)] 3 (0, 0)))).heap[w0.heap.size]? = _ from heap_alloc_new w0 _)).mono ?_; rintro e w2 ⟨rfl, rfl⟩))
  (try dsimp only)
  refine hK.out _ _ zP fun hNext => ?_; clear hK K hHeld; have hHeld := hNext; clear hNext; (try dsimp only at hHeld); try simp only [zX]
  refine zT 12 rfl ?_
  refine wpAnyH_done (by kernel_rfl) ?_ _
  all_goals
    have hr := HR.out
    unfold pinC at hr
    subst hr
    go_wp2_with fail
    go_ret
    exact ⟨rfl, by repeat (first | exact hG | refine GrQ.drew ?_ | refine GrQ.alloc ?_ _)⟩
end Go.Proofs.YtehadoecnmfeoaaGreat
namespace Go.Proofs.YtehadoecnmfeoaaGreat
open Go.Shelf
def sfRen_f94 : Go.Shelf.Ren := ⟨fun | 6 => 94 | 15 => 160 | 14 => 165 | 28 => 214 | 29 => 215 | 20 => 221 | 21 => 222 | 22 => 223 | 23 => 224 | 24 => 225 | 25 => 226 | 26 => 227 | 27 => 228 | 46 => 247 | 47 => 243 | 48 => 244 | 49 => 248 | 50 => 249 | 57 => 269 | n => n, fun | 22 => 63 | 24 => 67 | 25 => 136 | 3 => 3 | 39 => 173 | 0 => 0 | 53 => 253 | 55 => 255 | 4 => 4 | 46 => 247 | 45 => 246 | 50 => 61 | 5 => 5 | 9 => 9 | 66 => 282 | 70 => 286 | 76 => 302 | 77 => 205 | n => n, fun | n => n⟩
def sfRen_f183 : Go.Shelf.Ren := ⟨fun | 6 => 183 | 15 => 160 | 14 => 235 | 28 => 214 | 29 => 215 | 20 => 252 | 21 => 253 | 22 => 254 | 23 => 255 | 24 => 256 | 25 => 257 | 26 => 258 | 27 => 259 | 46 => 270 | 47 => 243 | 48 => 244 | 49 => 271 | 50 => 272 | 57 => 276 | n => n, fun | 22 => 86 | 24 => 74 | 25 => 219 | 3 => 3 | 39 => 173 | 0 => 0 | 53 => 253 | 55 => 255 | 4 => 4 | 46 => 247 | 45 => 246 | 50 => 61 | 5 => 5 | 9 => 9 | 66 => 282 | 70 => 286 | 76 => 302 | 77 => 205 | n => n, fun | n => n⟩
theorem sfLays_f183 : Go.Proofs.SlLaysF0.n6 Tryz.prog sfRen_f183 := {
  mixed := by kernel_rfl
  f6 := ⟨Tryz.f183.name, by decide, Tryz.func183.trans (congrArg some (by kernel_rfl))⟩
  f14 := ⟨Tryz.f235.name, by decide, Tryz.func235.trans (congrArg some (by kernel_rfl))⟩
  f15 := Tryz.func160.trans (congrArg some (by kernel_rfl))
  f20 := ⟨Tryz.f252.name, by decide, Tryz.func252.trans (congrArg some (by kernel_rfl))⟩
  f21 := ⟨Tryz.f253.name, by decide, Tryz.func253.trans (congrArg some (by kernel_rfl))⟩
  f22 := ⟨Tryz.f254.name, by decide, Tryz.func254.trans (congrArg some (by kernel_rfl))⟩
  f23 := ⟨Tryz.f255.name, by decide, Tryz.func255.trans (congrArg some (by kernel_rfl))⟩
  f24 := ⟨Tryz.f256.name, by decide, Tryz.func256.trans (congrArg some (by kernel_rfl))⟩
  f25 := ⟨Tryz.f257.name, by decide, Tryz.func257.trans (congrArg some (by kernel_rfl))⟩
  f26 := ⟨Tryz.f258.name, by decide, Tryz.func258.trans (congrArg some (by kernel_rfl))⟩
  f27 := ⟨Tryz.f259.name, by decide, Tryz.func259.trans (congrArg some (by kernel_rfl))⟩
  f28 := Tryz.func214.trans (congrArg some (by kernel_rfl))
  f29 := Tryz.func215.trans (congrArg some (by kernel_rfl))
  f46 := ⟨Tryz.f270.name, by decide, Tryz.func270.trans (congrArg some (by kernel_rfl))⟩
  f47 := Tryz.func243.trans (congrArg some (by kernel_rfl))
  f48 := Tryz.func244.trans (congrArg some (by kernel_rfl))
  f49 := ⟨Tryz.f271.name, by decide, Tryz.func271.trans (congrArg some (by kernel_rfl))⟩
  f50 := ⟨Tryz.f272.name, by decide, Tryz.func272.trans (congrArg some (by kernel_rfl))⟩
  f57 := ⟨Tryz.f276.name, by decide, Tryz.func276.trans (congrArg some (by kernel_rfl))⟩
  t0 := Tryz.underlying0
  a0 := Tryz.isAgg0
  z0 := Tryz.sizeOf0
  v0 := Tryz.zeroValue0
  t3 := Tryz.underlying3
  a3 := Tryz.isAgg3
  z3 := Tryz.sizeOf3
  v3 := Tryz.zeroValue3
  t4 := Tryz.underlying4
  a4 := Tryz.isAgg4
  z4 := Tryz.sizeOf4
  v4 := Tryz.zeroValue4
  t5 := Tryz.underlying5
  a5 := Tryz.isAgg5
  z5 := Tryz.sizeOf5
  v5 := Tryz.zeroValue5
  t9 := Tryz.underlying9
  a9 := Tryz.isAgg9
  z9 := Tryz.sizeOf9
  v9 := Tryz.zeroValue9
  t22 := Tryz.underlying86
  a22 := Tryz.isAgg86
  z22 := Tryz.sizeOf86
  v22 := Tryz.zeroValue86
  t25 := Tryz.underlying219
  a25 := Tryz.isAgg219
  z25 := Tryz.sizeOf219
  v25 := Tryz.zeroValue219
  t39 := Tryz.underlying173
  a39 := Tryz.isAgg173
  z39 := Tryz.sizeOf173
  v39 := Tryz.zeroValue173
  t45 := Tryz.underlying246
  a45 := Tryz.isAgg246
  z45 := Tryz.sizeOf246
  v45 := Tryz.zeroValue246
  t46 := Tryz.underlying247
  a46 := Tryz.isAgg247
  z46 := Tryz.sizeOf247
  v46 := Tryz.zeroValue247
  t50 := Tryz.underlying61
  a50 := Tryz.isAgg61
  z50 := Tryz.sizeOf61
  v50 := Tryz.zeroValue61
  t53 := Tryz.underlying253
  a53 := Tryz.isAgg253
  z53 := Tryz.sizeOf253
  v53 := Tryz.zeroValue253
  t55 := Tryz.underlying255
  a55 := Tryz.isAgg255
  z55 := Tryz.sizeOf255
  v55 := Tryz.zeroValue255
  t66 := Tryz.underlying282
  a66 := Tryz.isAgg282
  z66 := Tryz.sizeOf282
  v66 := Tryz.zeroValue282
  t70 := Tryz.underlying286
  a70 := Tryz.isAgg286
  z70 := Tryz.sizeOf286
  v70 := Tryz.zeroValue286
  t76 := Tryz.underlying302
  a76 := Tryz.isAgg302
  z76 := Tryz.sizeOf302
  v76 := Tryz.zeroValue302
  t77 := Tryz.underlying205
  a77 := Tryz.isAgg205
  z77 := Tryz.sizeOf205
  v77 := Tryz.zeroValue205 }
def sfRen_f186 : Go.Shelf.Ren := ⟨fun | 6 => 186 | 15 => 160 | 14 => 236 | 28 => 214 | 29 => 215 | 20 => 260 | 21 => 261 | 22 => 262 | 23 => 263 | 24 => 264 | 25 => 265 | 26 => 266 | 27 => 267 | 46 => 273 | 47 => 243 | 48 => 244 | 49 => 274 | 50 => 275 | 57 => 277 | n => n, fun | 22 => 82 | 24 => 86 | 25 => 221 | 3 => 3 | 39 => 173 | 0 => 0 | 53 => 253 | 55 => 255 | 4 => 4 | 46 => 247 | 45 => 246 | 50 => 61 | 5 => 5 | 9 => 9 | 66 => 282 | 70 => 286 | 76 => 302 | 77 => 205 | n => n, fun | n => n⟩
theorem sfLays_f186 : Go.Proofs.SlLaysF.n6 Tryz.prog sfRen_f186 := {
  mixed := by kernel_rfl
  f6 := ⟨Tryz.f186.name, by decide, Tryz.func186.trans (congrArg some (by kernel_rfl))⟩
  f14 := ⟨Tryz.f236.name, by decide, Tryz.func236.trans (congrArg some (by kernel_rfl))⟩
  f15 := Tryz.func160.trans (congrArg some (by kernel_rfl))
  f20 := ⟨Tryz.f260.name, by decide, Tryz.func260.trans (congrArg some (by kernel_rfl))⟩
  f21 := ⟨Tryz.f261.name, by decide, Tryz.func261.trans (congrArg some (by kernel_rfl))⟩
  f22 := ⟨Tryz.f262.name, by decide, Tryz.func262.trans (congrArg some (by kernel_rfl))⟩
  f23 := ⟨Tryz.f263.name, by decide, Tryz.func263.trans (congrArg some (by kernel_rfl))⟩
  f24 := ⟨Tryz.f264.name, by decide, Tryz.func264.trans (congrArg some (by kernel_rfl))⟩
  f25 := ⟨Tryz.f265.name, by decide, Tryz.func265.trans (congrArg some (by kernel_rfl))⟩
  f26 := ⟨Tryz.f266.name, by decide, Tryz.func266.trans (congrArg some (by kernel_rfl))⟩
  f27 := ⟨Tryz.f267.name, by decide, Tryz.func267.trans (congrArg some (by kernel_rfl))⟩
  f28 := Tryz.func214.trans (congrArg some (by kernel_rfl))
  f29 := Tryz.func215.trans (congrArg some (by kernel_rfl))
  f46 := ⟨Tryz.f273.name, by decide, Tryz.func273.trans (congrArg some (by kernel_rfl))⟩
  f47 := Tryz.func243.trans (congrArg some (by kernel_rfl))
  f48 := Tryz.func244.trans (congrArg some (by kernel_rfl))
  f49 := ⟨Tryz.f274.name, by decide, Tryz.func274.trans (congrArg some (by kernel_rfl))⟩
  f50 := ⟨Tryz.f275.name, by decide, Tryz.func275.trans (congrArg some (by kernel_rfl))⟩
  f57 := ⟨Tryz.f277.name, by decide, Tryz.func277.trans (congrArg some (by kernel_rfl))⟩
  t0 := Tryz.underlying0
  a0 := Tryz.isAgg0
  z0 := Tryz.sizeOf0
  v0 := Tryz.zeroValue0
  t3 := Tryz.underlying3
  a3 := Tryz.isAgg3
  z3 := Tryz.sizeOf3
  v3 := Tryz.zeroValue3
  t4 := Tryz.underlying4
  a4 := Tryz.isAgg4
  z4 := Tryz.sizeOf4
  v4 := Tryz.zeroValue4
  t5 := Tryz.underlying5
  a5 := Tryz.isAgg5
  z5 := Tryz.sizeOf5
  v5 := Tryz.zeroValue5
  t9 := Tryz.underlying9
  a9 := Tryz.isAgg9
  z9 := Tryz.sizeOf9
  v9 := Tryz.zeroValue9
  t22 := Tryz.underlying82
  a22 := Tryz.isAgg82
  z22 := Tryz.sizeOf82
  v22 := Tryz.zeroValue82
  a24 := Tryz.isAgg86
  z24 := Tryz.sizeOf86
  t25 := Tryz.underlying221
  a25 := Tryz.isAgg221
  z25 := Tryz.sizeOf221
  v25 := Tryz.zeroValue221
  t39 := Tryz.underlying173
  a39 := Tryz.isAgg173
  z39 := Tryz.sizeOf173
  v39 := Tryz.zeroValue173
  t45 := Tryz.underlying246
  a45 := Tryz.isAgg246
  z45 := Tryz.sizeOf246
  v45 := Tryz.zeroValue246
  t46 := Tryz.underlying247
  a46 := Tryz.isAgg247
  z46 := Tryz.sizeOf247
  v46 := Tryz.zeroValue247
  t50 := Tryz.underlying61
  a50 := Tryz.isAgg61
  z50 := Tryz.sizeOf61
  v50 := Tryz.zeroValue61
  t53 := Tryz.underlying253
  a53 := Tryz.isAgg253
  z53 := Tryz.sizeOf253
  v53 := Tryz.zeroValue253
  t55 := Tryz.underlying255
  a55 := Tryz.isAgg255
  z55 := Tryz.sizeOf255
  v55 := Tryz.zeroValue255
  t66 := Tryz.underlying282
  a66 := Tryz.isAgg282
  z66 := Tryz.sizeOf282
  v66 := Tryz.zeroValue282
  t70 := Tryz.underlying286
  a70 := Tryz.isAgg286
  z70 := Tryz.sizeOf286
  v70 := Tryz.zeroValue286
  t76 := Tryz.underlying302
  a76 := Tryz.isAgg302
  z76 := Tryz.sizeOf302
  v76 := Tryz.zeroValue302
  t77 := Tryz.underlying205
  a77 := Tryz.isAgg205
  z77 := Tryz.sizeOf205
  v77 := Tryz.zeroValue205 }
def sfRen_f186b : Go.Shelf.Ren := ⟨fun | 6 => 186 | 15 => 160 | 14 => 236 | 28 => 214 | 29 => 215 | 20 => 260 | 21 => 261 | 22 => 262 | 23 => 263 | 24 => 264 | 25 => 265 | 26 => 266 | 27 => 267 | 46 => 273 | 47 => 243 | 48 => 244 | 49 => 274 | 50 => 275 | 57 => 277 | n => n, fun | 22 => 82 | 24 => 86 | 25 => 221 | 3 => 3 | 39 => 173 | 0 => 0 | 53 => 253 | 55 => 255 | 4 => 4 | 46 => 247 | 45 => 246 | 50 => 61 | 5 => 5 | 9 => 9 | 66 => 282 | 70 => 286 | 76 => 302 | 77 => 205 | n => n, fun | n => n⟩
theorem sfLays_f186b : Go.Proofs.SlLaysF0.n6 Tryz.prog sfRen_f186b := {
  mixed := by kernel_rfl
  f6 := ⟨Tryz.f186.name, by decide, Tryz.func186.trans (congrArg some (by kernel_rfl))⟩
  f14 := ⟨Tryz.f236.name, by decide, Tryz.func236.trans (congrArg some (by kernel_rfl))⟩
  f15 := Tryz.func160.trans (congrArg some (by kernel_rfl))
  f20 := ⟨Tryz.f260.name, by decide, Tryz.func260.trans (congrArg some (by kernel_rfl))⟩
  f21 := ⟨Tryz.f261.name, by decide, Tryz.func261.trans (congrArg some (by kernel_rfl))⟩
  f22 := ⟨Tryz.f262.name, by decide, Tryz.func262.trans (congrArg some (by kernel_rfl))⟩
  f23 := ⟨Tryz.f263.name, by decide, Tryz.func263.trans (congrArg some (by kernel_rfl))⟩
  f24 := ⟨Tryz.f264.name, by decide, Tryz.func264.trans (congrArg some (by kernel_rfl))⟩
  f25 := ⟨Tryz.f265.name, by decide, Tryz.func265.trans (congrArg some (by kernel_rfl))⟩
  f26 := ⟨Tryz.f266.name, by decide, Tryz.func266.trans (congrArg some (by kernel_rfl))⟩
  f27 := ⟨Tryz.f267.name, by decide, Tryz.func267.trans (congrArg some (by kernel_rfl))⟩
  f28 := Tryz.func214.trans (congrArg some (by kernel_rfl))
  f29 := Tryz.func215.trans (congrArg some (by kernel_rfl))
  f46 := ⟨Tryz.f273.name, by decide, Tryz.func273.trans (congrArg some (by kernel_rfl))⟩
  f47 := Tryz.func243.trans (congrArg some (by kernel_rfl))
  f48 := Tryz.func244.trans (congrArg some (by kernel_rfl))
  f49 := ⟨Tryz.f274.name, by decide, Tryz.func274.trans (congrArg some (by kernel_rfl))⟩
  f50 := ⟨Tryz.f275.name, by decide, Tryz.func275.trans (congrArg some (by kernel_rfl))⟩
  f57 := ⟨Tryz.f277.name, by decide, Tryz.func277.trans (congrArg some (by kernel_rfl))⟩
  t0 := Tryz.underlying0
  a0 := Tryz.isAgg0
  z0 := Tryz.sizeOf0
  v0 := Tryz.zeroValue0
  t3 := Tryz.underlying3
  a3 := Tryz.isAgg3
  z3 := Tryz.sizeOf3
  v3 := Tryz.zeroValue3
  t4 := Tryz.underlying4
  a4 := Tryz.isAgg4
  z4 := Tryz.sizeOf4
  v4 := Tryz.zeroValue4
  t5 := Tryz.underlying5
  a5 := Tryz.isAgg5
  z5 := Tryz.sizeOf5
  v5 := Tryz.zeroValue5
  t9 := Tryz.underlying9
  a9 := Tryz.isAgg9
  z9 := Tryz.sizeOf9
  v9 := Tryz.zeroValue9
  t22 := Tryz.underlying82
  a22 := Tryz.isAgg82
  z22 := Tryz.sizeOf82
  v22 := Tryz.zeroValue82
  t25 := Tryz.underlying221
  a25 := Tryz.isAgg221
  z25 := Tryz.sizeOf221
  v25 := Tryz.zeroValue221
  t39 := Tryz.underlying173
  a39 := Tryz.isAgg173
  z39 := Tryz.sizeOf173
  v39 := Tryz.zeroValue173
  t45 := Tryz.underlying246
  a45 := Tryz.isAgg246
  z45 := Tryz.sizeOf246
  v45 := Tryz.zeroValue246
  t46 := Tryz.underlying247
  a46 := Tryz.isAgg247
  z46 := Tryz.sizeOf247
  v46 := Tryz.zeroValue247
  t50 := Tryz.underlying61
  a50 := Tryz.isAgg61
  z50 := Tryz.sizeOf61
  v50 := Tryz.zeroValue61
  t53 := Tryz.underlying253
  a53 := Tryz.isAgg253
  z53 := Tryz.sizeOf253
  v53 := Tryz.zeroValue253
  t55 := Tryz.underlying255
  a55 := Tryz.isAgg255
  z55 := Tryz.sizeOf255
  v55 := Tryz.zeroValue255
  t66 := Tryz.underlying282
  a66 := Tryz.isAgg282
  z66 := Tryz.sizeOf282
  v66 := Tryz.zeroValue282
  t70 := Tryz.underlying286
  a70 := Tryz.isAgg286
  z70 := Tryz.sizeOf286
  v70 := Tryz.zeroValue286
  t76 := Tryz.underlying302
  a76 := Tryz.isAgg302
  z76 := Tryz.sizeOf302
  v76 := Tryz.zeroValue302
  t77 := Tryz.underlying205
  a77 := Tryz.isAgg205
  z77 := Tryz.sizeOf205
  v77 := Tryz.zeroValue205 }
end Go.Proofs.YtehadoecnmfeoaaGreat
namespace Go.Proofs.YtehadoecnmfeoaaGreat
open Go.RowKit Go.Sort Go.Shelf
instance : Inhabited Ct := ⟨Ct.o⟩
theorem sortK_row {α : Type} [Inhabited α] {enc : α → List Value} {k : Nat} (hk : ∀ a, (enc a).length = k) {w : World} {base g cap n e : Nat} {os : Array Obj} {cur : Array Value} {Q : List α} {d' : Array α} (hbase : base ≤ g) (hb : w.heap[g]? = some (.cells cur e (0, 0)))
    (h1 : Q.length ≤ cap) (h2 : cap ≤ maxLen) (h3 : cur.size = cap * k) (hp : d'.toList.Perm Q) :
    (sortWorldK enc k w g 0 n d' os).ownsRow base e k (.slice (some ⟨g, 0, none⟩) Q.length cap) d'.toList.length (rowV enc d'.toList) ∧ w.grownBy (sortWorldK enc k w g 0 n d' os) (some g) := by
  have hl : d'.toList.length = Q.length := hp.length_eq
  have e1 : sortWorldK enc k w g 0 n d' os = grow (putRow id (Sort.ahead w n) g 0 (rowV enc d'.toList).toArray) os := by
    have h4 := flatK_row hk d'.toList
    rw [Array.toArray_toList] at h4
    show grow (putRow id (Sort.ahead w n) g 0 (flatK enc k d')) os = _
    rw [h4]
  rw [e1, hl]
  exact ⟨ownsRow_sortedV (by rw [rowV_len hk, hl]) hbase hb h1 h2 h3, grownBy_sortedV _⟩
end Go.Proofs.YtehadoecnmfeoaaGreat
namespace Go.Proofs.YtehadoecnmfeoaaGreat
def EdgP (es : List (Pn × Pn)) (p q : Pn) : Prop := ∃ e ∈ es, (e.1 = p ∧ e.2 = q) ∨ (e.1 = q ∧ e.2 = p)
inductive PathA (es : List (Pn × Pn)) (S : Pn → Prop) : Pn → Pn → Prop
  | one {p : Pn} : ¬ S p → PathA es S p p
  | cons {p r q : Pn} : ¬ S p → EdgP es p r → PathA es S r q → PathA es S p q
def Nos : Pn → Prop := fun _ => False
abbrev Rea (es : List (Pn × Pn)) (p q : Pn) : Prop := PathA es Nos p q
theorem getD_mem71 {α : Type} {l : List α} {k : Nat} {z : α} (h : k < l.length) : l.getD k z ∈ l := by
  rw [List.getD_eq_getElem?_getD, List.getElem?_eq_getElem h]
  exact List.getElem_mem h
theorem getD_inj71 {o : List (List Pn)} (h : NetI o) {i k : Nat} (hi : i < o.length) (hk : k < o.length) (hne : i < k) : Apart (o.getD i []) (o.getD k []) := by
  have h1 := List.pairwise_iff_getElem.1 h.apart i k hi hk hne
  rw [List.getD_eq_getElem?_getD, List.getD_eq_getElem?_getD, List.getElem?_eq_getElem hi, List.getElem?_eq_getElem hk]
  exact h1
section
variable {α : Type} (lt : α → α → Bool) (z : α)
def swapL (L : List α) (j : Nat) : List α := (L.set j (L.getD (j - 1) z)).set (j - 1) (L.getD j z)
def SrO (L : List α) (n : Nat) : Prop := ∀ p q, p < q → q < n → lt (L.getD q z) (L.getD p z) = false
structure SrI (L : List α) (j n : Nat) : Prop where
  so : ∀ p q, p < q → q ≤ n → p ≠ j → q ≠ j → lt (L.getD q z) (L.getD p z) = false
  gt : ∀ q, j < q → q ≤ n → lt (L.getD j z) (L.getD q z) = true
variable {lt z}
theorem getD_set73 {L : List α} {i j : Nat} {x : α} (hi : i < L.length) : (L.set i x).getD j z = if j = i then x else L.getD j z := by
  rw [List.getD_eq_getElem?_getD, List.getElem?_set]
  by_cases h : i = j
  · subst h
    rw [if_pos rfl, if_pos hi, if_pos rfl]
    rfl
  · rw [if_neg h, if_neg (fun e => h e.symm), ← List.getD_eq_getElem?_getD]
theorem swapL_len (L : List α) (j : Nat) : (swapL z L j).length = L.length := by simp [swapL]
theorem swapL_at {L : List α} {j i : Nat} (hj : j < L.length) (h0 : 0 < j) : (swapL z L j).getD i z = if i = j - 1 then L.getD j z else if i = j then L.getD (j - 1) z else L.getD i z := by
  unfold swapL
  rw [getD_set73 (by rw [List.length_set]; omega), getD_set73 hj]
theorem swapL_perm {L : List α} {j : Nat} (hj : j < L.length) (h0 : 0 < j) : (swapL z L j).Perm L := by
  obtain ⟨k, rfl⟩ : ∃ k, j = k + 1 := ⟨j - 1, by omega⟩
  have h1 : L = L.take k ++ (L.getD k z :: L.getD (k + 1) z :: L.drop (k + 2)) := by
    have e1 : L.drop k = L.getD k z :: L.drop (k + 1) := by
      rw [List.drop_eq_getElem_cons (by omega), List.getD_eq_getElem?_getD, List.getElem?_eq_getElem (by omega)]
      rfl
    have e2 : L.drop (k + 1) = L.getD (k + 1) z :: L.drop (k + 2) := by
      rw [List.drop_eq_getElem_cons (by omega), List.getD_eq_getElem?_getD, List.getElem?_eq_getElem (by omega)]
      rfl
    rw [← e2, ← e1, List.take_append_drop]
  have h2 : swapL z L (k + 1) = L.take k ++ (L.getD (k + 1) z :: L.getD k z :: L.drop (k + 2)) := by
    refine List.ext_getElem? fun i => ?_
    have hl : (L.take k).length = k := by simp; omega
    unfold swapL
    rw [show k + 1 - 1 = k by omega]
    rw [List.getElem?_set, List.length_set, List.getElem?_set]
    rcases Nat.lt_trichotomy i k with h | h | h
    · rw [if_neg (by omega), if_neg (by omega), List.getElem?_append_left (by omega), List.getElem?_take_of_lt h]
    · subst h
      rw [if_pos rfl, if_pos (by omega), List.getElem?_append_right (by omega), hl, Nat.sub_self]
      rfl
    · rw [if_neg (by omega)]
      by_cases h3 : k + 1 = i
      · subst h3
        rw [if_pos rfl, if_pos hj, List.getElem?_append_right (by omega), hl, show k + 1 - k = 1 by omega]
        rfl
      · rw [if_neg h3, List.getElem?_append_right (by omega), hl]
        obtain ⟨d, hd⟩ : ∃ d, i = k + 2 + d := ⟨i - (k + 2), by omega⟩
        subst hd
        rw [show k + 2 + d - k = d + 1 + 1 by omega, List.getElem?_cons_succ, List.getElem?_cons_succ, List.getElem?_drop]
  rw [h2]
  conv => rhs; rw [h1]
  exact List.Perm.append_left _ (List.Perm.swap _ _ _)
theorem SrO.one (L : List α) : SrO lt z L 1 := fun p q h1 h2 => absurd h1 (by omega)
theorem SrO.start {L : List α} {n : Nat} (h : SrO lt z L n) : SrI lt z L n n :=
  ⟨fun p q h1 h2 h3 h4 => h p q h1 (by omega), fun q h1 h2 => absurd h1 (by omega)⟩
theorem SrI.step {L : List α} {j n : Nat} (h : SrI lt z L j n) (h0 : 0 < j) (hj : j ≤ n) (hn : n < L.length) (hl : lt (L.getD j z) (L.getD (j - 1) z) = true) : SrI lt z (swapL z L j) (j - 1) n := by
  refine ⟨fun p q h1 h2 h3 h4 => ?_, fun q h1 h2 => ?_⟩
  · rw [swapL_at (by omega) h0, swapL_at (by omega) h0, if_neg h3, if_neg h4]
    by_cases h5 : p = j
    · subst h5
      rw [if_pos rfl, if_neg (by omega)]
      exact h.so (p - 1) q (by omega) h2 (by omega) (by omega)
    · rw [if_neg h5]
      by_cases h6 : q = j
      · subst h6
        rw [if_pos rfl]
        exact h.so p (q - 1) (by omega) (by omega) h5 (by omega)
      · rw [if_neg h6]
        exact h.so p q h1 h2 h5 h6
  · rw [swapL_at (by omega) h0, swapL_at (by omega) h0, if_pos rfl, if_neg (by omega)]
    by_cases h6 : q = j
    · subst h6
      rw [if_pos rfl]
      exact hl
    · rw [if_neg h6]
      exact h.gt q (by omega) h2
theorem SrI.stop {L : List α} {j n : Nat} (ha : ∀ x y, lt x y = true → lt y x = false) (ht : ∀ x y u, lt x y = false → lt y u = false → lt x u = false) (h : SrI lt z L j n) (hj : j ≤ n) (hs : j = 0 ∨ lt (L.getD j z) (L.getD (j - 1) z) = false) : SrO lt z L (n + 1) := by
  intro p q h1 h2
  by_cases h5 : p = j
  · subst h5
    exact ha _ _ (h.gt q h1 (by omega))
  · by_cases h6 : q = j
    · subst h6
      rcases hs with h7 | h7
      · omega
      · by_cases h8 : p = q - 1
        · rw [h8]; exact h7
        · exact ht _ _ _ h7 (h.so p (q - 1) (by omega) (by omega) h5 (by omega))
    · exact h.so p q h1 (by omega) h5 h6
theorem SrO.pair {L : List α} (h : SrO lt z L L.length) {R : α → α → Prop} (hR : ∀ x y, lt y x = false → R x y ∨ R y x → lt x y = true) (hp : L.Pairwise fun x y => R x y ∨ R y x) : L.Pairwise fun x y => lt x y = true := by
  rw [List.pairwise_iff_getElem] at hp ⊢
  intro i j hi hj hij
  have h1 := h i j hij hj
  rw [List.getD_eq_getElem?_getD, List.getD_eq_getElem?_getD, List.getElem?_eq_getElem hi, List.getElem?_eq_getElem hj] at h1
  exact hR _ _ h1 (hp i j hi hj hij)
end
theorem srt_pins {L M : List Pn} (h : SrO ltP (0, 0) L L.length) (hp : L.Perm M) (hM : M.Pairwise fun x y => x ≠ y) : L = sortU M := by
  refine sortU_uniq ?_ fun a => hp.mem_iff
  refine h.pair (R := fun x y => x ≠ y) (fun x y h1 h2 => ?_) ?_
  · have hne : y ≠ x := by rcases h2 with h2 | h2; exact fun e => h2 e.symm; exact h2
    exact ltP_total (by rw [h1]; simp) hne
  · exact ((hp.pairwise_iff fun {x y} e => fun e2 => e e2.symm).2 hM).imp fun h => .inl h
theorem srt_nets {L M : List (List Pn)} (hi : NetI M) (h : SrO ltN [] L L.length) (hp : L.Perm M) : L = sortN M := by
  refine sortN_uniq hi ?_ fun a => hp.mem_iff
  refine h.pair (R := fun x y => hdP x ≠ hdP y) (fun x y h1 h2 => ?_) ?_
  · have hne : hdP y ≠ hdP x := by rcases h2 with h2 | h2; exact fun e => h2 e.symm; exact h2
    exact ltP_total (by show ¬ ltN y x = true; rw [h1]; simp) hne
  · exact ((hp.pairwise_iff fun {x y} e => fun e2 => e e2.symm).2 hi.heads).imp fun h => .inl h
theorem ltP_asym (x y : Pn) (h : ltP x y = true) : ltP y x = false := by
  cases h2 : ltP y x with
  | false => rfl
  | true => rw [ltP_iff] at h h2; omega
theorem ltP_ntrans (x y u : Pn) (h : ltP x y = false) (k : ltP y u = false) : ltP x u = false := by
  cases h2 : ltP x u with
  | false => rfl
  | true =>
    have h' : ¬ ltP x y = true := by rw [h]; simp
    have k' : ¬ ltP y u = true := by rw [k]; simp
    rw [ltP_iff] at h' k' h2
    omega
def bothR (o : List (List Pn)) (a b : Pn) : List Pn := bothL o a b ++ (if o.any (fun n => n.contains a) then [] else [a]) ++ (if o.any (fun n => n.contains b) || a == b then [] else [b])
theorem anyC_iff {o : List (List Pn)} {a : Pn} : o.any (fun n => n.contains a) = true ↔ ∃ net ∈ o, a ∈ net := by simp
theorem bothR_mem {o : List (List Pn)} {a b p : Pn} : p ∈ bothR o a b ↔ p ∈ a :: b :: bothL o a b := by
  have hin : ∀ x, (x = a ∨ x = b) → o.any (fun n => n.contains x) = true → x ∈ bothL o a b := fun x hx h => by
    obtain ⟨net, hn, hxn⟩ := anyC_iff.1 h
    refine bothL_mem.2 ⟨net, hn, touB_iff.2 ?_, hxn⟩
    rcases hx with e | e
    · exact .inl (e ▸ hxn)
    · exact .inr (e ▸ hxn)
  unfold bothR
  simp only [List.mem_append, List.mem_cons]
  constructor
  · rintro ((h | h) | h)
    · exact .inr (.inr h)
    · split at h
      · cases h
      · exact .inl (by simpa using h)
    · split at h
      · cases h
      · exact .inr (.inl (by simpa using h))
  · rintro (h | h | h)
    · subst h
      cases ha : o.any (fun n => n.contains p) with
      | true => exact .inl (.inl (hin p (.inl rfl) ha))
      | false => exact .inl (.inr (by simp))
    · subst h
      cases hb : o.any (fun n => n.contains p) with
      | true => exact .inl (.inl (hin p (.inr rfl) hb))
      | false =>
        by_cases e : a = p
        · subst e
          rw [hb]
          exact .inl (.inr (by simp))
        · exact .inr (by simp [e])
    · exact .inl (.inl h)
theorem bothL_nodup {o : List (List Pn)} (h : NetI o) (a b : Pn) : (bothL o a b).Pairwise fun x y => x ≠ y := by
  unfold bothL
  rw [List.pairwise_flatten]
  refine ⟨fun net hn => ?_, (h.apart.filter _).imp fun {m n} hap x hx y hy e => hap x hx (by rw [e]; exact hy)⟩
  refine (h.asc net (List.mem_filter.1 hn).1).imp fun {x y} hlt e => ?_
  rw [e, ltP_irr] at hlt
  cases hlt
theorem bothR_nodup {o : List (List Pn)} (h : NetI o) (a b : Pn) : (bothR o a b).Pairwise fun x y => x ≠ y := by
  have hna : ∀ x, o.any (fun n => n.contains x) = false → ∀ p ∈ bothL o a b, p ≠ x := fun x hx p hp e => by
    subst e
    obtain ⟨net, hn, _, hpn⟩ := bothL_mem.1 hp
    rw [anyC_iff.2 ⟨net, hn, hpn⟩] at hx
    cases hx
  unfold bothR
  refine List.pairwise_append.2 ⟨List.pairwise_append.2 ⟨bothL_nodup h a b, ?_, fun x hx y hy => ?_⟩, ?_, fun x hx y hy => ?_⟩
  · split
    · exact List.Pairwise.nil
    · exact List.pairwise_singleton _ _
  · split at hy
    · cases hy
    · rename_i hc
      have e : y = a := by simpa using hy
      subst e
      exact hna y (by simpa using hc) x hx
  · split
    · exact List.Pairwise.nil
    · exact List.pairwise_singleton _ _
  · split at hy
    · cases hy
    · rename_i hc
      have e : y = b := by simpa using hy
      subst e
      rw [Bool.or_eq_true, not_or] at hc
      rcases List.mem_append.1 hx with h1 | h1
      · exact hna y (by simpa using hc.1) x h1
      · split at h1
        · cases h1
        · have e2 : x = a := by simpa using h1
          subst e2
          intro e3
          exact hc.2 (by simp [e3])
theorem bothR_sort {o : List (List Pn)} (h : NetI o) {a b : Pn} {L : List Pn} (hs : SrO ltP (0, 0) L L.length) (hp : L.Perm (bothR o a b)) : L = sortU (a :: b :: bothL o a b) := by
  rw [srt_pins hs hp (bothR_nodup h a b)]
  exact sortU_uniq (sortU_sorted _) fun p => sortU_mem.trans bothR_mem
def atN (o : List (List Pn)) (p : Pn) : Nat := o.findIdx fun n => n.contains p
theorem atN_tou {o : List (List Pn)} (h : NetI o) (a b : Pn) {n : Nat} (hn : n < o.length) : touB a b (o.getD n []) = (n == atN o a || n == atN o b) := by
  have key : ∀ p, p ∈ o.getD n [] ↔ n = atN o p := fun p => by
    unfold atN
    constructor
    · intro hp
      have hmem : ∃ x ∈ o, x.contains p = true := ⟨o.getD n [], getD_mem71 hn, by simpa using hp⟩
      have h1 : o.findIdx (fun n => n.contains p) < o.length := List.findIdx_lt_length.2 hmem
      have h2 := List.findIdx_getElem (w := h1)
      have h3 : p ∈ o[o.findIdx (fun n => n.contains p)] := by simpa using h2
      rcases Nat.lt_trichotomy n (o.findIdx fun n => n.contains p) with h4 | h4 | h4
      · have h5 := List.not_of_lt_findIdx h4
        rw [List.getD_eq_getElem?_getD, List.getElem?_eq_getElem hn] at hp
        exact absurd (by simpa using hp) (by simpa using h5)
      · exact h4
      · have h5 := getD_inj71 h h1 hn h4
        rw [List.getD_eq_getElem?_getD, List.getElem?_eq_getElem h1] at h5
        exact absurd hp (h5 p h3)
    · intro e
      have h1 : o.findIdx (fun n => n.contains p) < o.length := by omega
      have h2 := List.findIdx_getElem (w := h1)
      rw [List.getD_eq_getElem?_getD, List.getElem?_eq_getElem hn]
      have h3 : p ∈ o[o.findIdx (fun n => n.contains p)] := by simpa using h2
      simp only [← e] at h3
      exact h3
  rw [Bool.eq_iff_iff, touB_iff, key a, key b]
  simp
theorem atN_len {o : List (List Pn)} (p : Pn) : decide (atN o p = o.length) = !o.any (fun n => n.contains p) := by
  unfold atN
  cases h : o.any (fun n => n.contains p) with
  | true =>
    have h1 := List.findIdx_lt_length.2 (List.any_eq_true.1 h)
    exact decide_eq_false (by omega)
  | false =>
    refine decide_eq_true ?_
    refine Nat.le_antisymm List.findIdx_le_length (Nat.le_of_not_lt fun h1 => ?_)
    have h2 := List.any_eq_true.2 (List.findIdx_lt_length.1 h1)
    rw [h] at h2
    cases h2
end Go.Proofs.YtehadoecnmfeoaaGreat

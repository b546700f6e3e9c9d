/- Part 35 of this claim's texts: walks and plain laws. -/
import Derived.Test.YtehadoecnmfeoaaGreatRows
import Derived.Test.YtehadoecnmfeoaaGreatGBS27
import Derived.Test.YtehadoecnmfeoaaGreatGBS34
import Derived.Test.YtehadoecnmfeoaaGreatGBS26
import Derived.Test.YtehadoecnmfeoaaGreatGBS10
import Derived.Deep.DeepMust
import Derived.Deep.RegionHeld3
import Derived.Deep.DrawnRows
import Derived.Test.YtehadoecnmfeoaaGreatGBS3
import Derived.Shelf.SlSortCmp.WholeK
import Derived.Shelf.SlSortCmp.Whole1
import Derived.Shelf.SlSortCmp.NoneTotal
import Derived.Test.YtehadoecnmfeoaaGreatProg
set_option linter.unusedVariables false
set_option linter.unusedSimpArgs false
set_option linter.unusedSectionVars false
namespace Go.Proofs.YtehadoecnmfeoaaGreat
open Go.RowKit Go.Sort
def cpI (a b : Int) : Int := if a < b then -1 else if b < a then 1 else 0
def orI (a b : Int) : Int := if a = 0 then b else a
set_option maxRecDepth 100000 in
theorem isNaN_int (a : Int) (w : World) : Calls Tryz.prog 166 #[.int .i64 a] w fun e W => e = .returned (.bool false) ∧ w = W := by
 have h1 : (a != a) = false := by simp
 go_enter Tryz.func166, Tryz.ntmps166
 go_wp2_with fail
 go_ret
 exact ⟨rfl, rfl⟩
set_option maxRecDepth 100000 in
theorem compare_int (a b : Int) (w : World) : Calls Tryz.prog 97 #[.int .i64 a, .int .i64 b] w fun e W => e = .returned (.int .i64 (cpI a b)) ∧ w = W := by
 obtain ⟨r, hr⟩ : ∃ z, cpI a b = z := ⟨_, rfl⟩
 rw [hr]
 have HR := hide hr
 clear hr
 by_cases h1 : a < b
 ·
  have hr : r = -1 := by rw [← HR.out]; unfold cpI; rw [if_pos h1]
  subst hr
  go_enter Tryz.func97, Tryz.ntmps97
  go_wp2_with (go_at_call 166; refine (isNaN_int _ _).mono ?_; rintro e w2 ⟨rfl, rfl⟩)
  go_ret
  exact ⟨rfl, rfl⟩
 ·
  by_cases h2 : b < a
  ·
   have hr : r = 1 := by rw [← HR.out]; unfold cpI; rw [if_neg h1, if_pos h2]
   subst hr
   go_enter Tryz.func97, Tryz.ntmps97
   go_wp2_with (go_at_call 166; refine (isNaN_int _ _).mono ?_; rintro e w2 ⟨rfl, rfl⟩)
   go_ret
   exact ⟨rfl, rfl⟩
  ·
   have hr : r = 0 := by rw [← HR.out]; unfold cpI; rw [if_neg h1, if_neg h2]
   subst hr
   go_enter Tryz.func97, Tryz.ntmps97
   go_wp2_with (go_at_call 166; refine (isNaN_int _ _).mono ?_; rintro e w2 ⟨rfl, rfl⟩)
   go_ret
   exact ⟨rfl, rfl⟩
set_option maxRecDepth 100000 in
theorem or_int (g : Nat) (a b : Int) (w : World) (h : w.heap[g]? = some (.cells #[.int .i64 a, .int .i64 b] 3 (0, 0))) : Calls Tryz.prog 96 #[.slice (some ⟨g, 0, none⟩) 2 2] w fun e W => e = .returned (.int .i64 (orI a b)) ∧ w = W := by
 obtain ⟨r, hr⟩ : ∃ z, orI a b = z := ⟨_, rfl⟩
 rw [hr]
 have HR := hide hr
 have c0 := cellOf h 0
 have c1 := cellOf h 1
 have lg := box_lt h
 clear hr h
 go_enter Tryz.func96, Tryz.ntmps96
 go_wp2_with fail
 go_loop [5, 8] (fun _ i => ∃ k : Nat, i = .int .i64 k ∧ k ≤ 2 ∧ Hid (0 < k → a = 0) ∧ Hid (1 < k → b = 0)) (fun _ i => 2 - (intOf i).toNat)
 case atStart => exact ⟨0, rfl, by omega, fun h => absurd h (by omega), fun h => absurd h (by omega)⟩
 case round =>
  obtain ⟨k, rfl, hk, H0, H1⟩ := hrel
  by_cases hk2 : k < 2
  case neg =>
   have hk1 : ¬ (k : Int) < 2 := by omega
   have hr : r = 0 := by
    rw [← HR.out]
    unfold orI
    rw [if_pos (H0.out (by omega))]
    exact H1.out (by omega)
   subst hr
   go_wp2_with fail
   go_ret
   exact ⟨rfl, rfl⟩
  case pos =>
  have hk1 : (k : Int) < 2 := by omega
  have ik0 : (0 : Int) ≤ (k : Int) := by omega
  obtain ⟨x, hx, hxc⟩ : ∃ x : Int, w.cell? ⟨g, k, none⟩ = some (.int .i64 x) ∧ Hid (x = if k = 0 then a else b) := by
   by_cases h0 : k = 0
   ·
    subst h0; exact ⟨a, c0, (if_pos rfl).symm⟩
   ·
    have : k = 1 := by omega
    subst this
    exact ⟨b, c1, (if_neg h0).symm⟩
  clear c0 c1
  by_cases hx0 : x = 0
  ·
   subst hx0
   have n0 : ((0 : Int) != 0) = false := by decide
   have H02 : Hid (0 < k + 1 → a = 0) := fun _ => by
    by_cases h0 : k = 0
    ·
     have := hxc.out; rw [if_pos h0] at this; exact this.symm
    ·
     exact H0.out (by omega)
   have H12 : Hid (1 < k + 1 → b = 0) := fun h => by
    have := hxc.out; rw [if_neg (by omega)] at this; exact this.symm
   go_wp2_with fail
   go_round
   case rel => exact ⟨k + 1, by go_num, by omega, H02, H12⟩
   case measure => simp [intOf]; omega
  ·
   have n0 : (x != 0) = true := by simpa using hx0
   have hr : r = x := by
    rw [← HR.out]
    unfold orI
    have h2 := hxc.out
    by_cases h0 : k = 0
    ·
     rw [if_pos h0] at h2
     rw [if_neg (by rw [← h2]; exact hx0), h2]
    ·
     rw [if_neg h0] at h2
     rw [if_pos (H0.out (by omega)), h2]
   subst hr
   clear hxc HR
   go_wp2_with fail
   go_ret
   exact ⟨rfl, rfl⟩
def GrQ (W w' : World) : Prop := ∃ q os, w' = grow (W.drewN q) os
theorem GrQ.refl (W : World) : GrQ W W := ⟨0, #[], by rw [grow_empty]; rfl⟩
theorem GrQ.alloc {W w' : World} (h : GrQ W w') (o : Obj) : GrQ W (w'.alloc o) := by
 obtain ⟨q, os, rfl⟩ := h
 exact ⟨q, os ++ #[o], by rw [alloc_eq_grow, grow_grow]⟩
theorem GrQ.drew {W w' : World} (h : GrQ W w') : GrQ W w'.drew := by
 obtain ⟨q, os, rfl⟩ := h
 exact ⟨q + 1, os, rfl⟩
def ctV (a : Ct) : Value := .agg #[.int .i64 a.s, .int .i64 a.n, .int .i64 a.c]
def cutC (x y : Ct) : Int := orI (cpI x.s y.s) (cpI x.n y.n)
def pinC (x y : Pn) : Int := orI (cpI x.1 y.1) (cpI x.2 y.2)
theorem pinC_lt (x y : Pn) : decide (pinC x y < 0) = ltP x y := by
 unfold pinC orI cpI
 rw [Bool.eq_iff_iff, ltP_iff, decide_eq_true_eq]
 by_cases h1 : x.1 < y.1
 ·
  simp [h1]
 ·
  by_cases h2 : y.1 < x.1
  ·
   simp [h1, h2]; omega
  ·
   by_cases h3 : x.2 < y.2
   ·
    simp [h1, h2, h3]; omega
   ·
    by_cases h4 : y.2 < x.2
    ·
     simp [h1, h2, h3, h4]
    ·
     simp [h1, h2, h3, h4]
set_option maxRecDepth 100000 in
set_option maxHeartbeats 4000000 in
theorem comparePins_any (x y : Pn) (w : World) : Calls Tryz.prog 184 #[.agg #[.int .i64 x.1, .int .i64 x.2], .agg #[.int .i64 y.1, .int .i64 y.2]] w fun e w' => e = .returned (.int .i64 (pinC x y)) ∧ GrQ w w' := by
 obtain ⟨r, hr⟩ : ∃ z, pinC x y = z := ⟨_, rfl⟩
 rw [hr]
 have HR := hide hr
 clear hr
 go_enter Tryz.func184, Tryz.ntmps184
 go_upto_region 1 with (fail)
 have hG : GrQ w ((w.alloc (.cells #[.int .i64 x.1, .int .i64 x.2] 74)).alloc (.cells #[.int .i64 y.1, .int .i64 y.2] 74)) := (GrQ.refl w |>.alloc _).alloc _
 generalize hw0 : World.alloc _ _ = w0 at hG ⊢
 obtain ⟨hb0, hb1, hB0, hs0⟩ := alloc2 hw0
 obtain ⟨p, hp⟩ : ∃ z, w.heap.size = z := ⟨_, rfl⟩
 obtain ⟨q, hq⟩ : ∃ z, w.heap.size + 1 = z := ⟨_, rfl⟩
 rw [hp] at hb0
 rw [hq] at hb1 ⊢
 rw [hp]
 have c0 := cellOf hb0 0
 have c1 := cellOf hb0 1
 have lc := box_lt hb0
 have d0 := cellOf hb1 0
 have d1 := cellOf hb1 1
 have ld := box_lt hb1
 clear hw0 hb0 hb1 hB0 hs0 hp hq
 refine wp_region_held_drew (S := (fun w' => Below w0.heap.size w0 w')) (by kernel_rfl) ?_ (fun hHeld => ?_)
 ·
  try dsimp only
  exact zP
 refine zT 0 rfl ?_
 refine zT 1 rfl ?_
 refine zT 2 rfl ?_
 refine zT 3 rfl ?_
 refine zT 5 rfl ?_
 refine zT 6 rfl ?_
 refine zT 7 rfl ?_
 refine zT 8 rfl ?_
 refine wpAnyH_ready (rs := [4]) (by kernel_rfl) (by simp) ?_
 refine (AllReadyH.cons rfl (fun K hK => ?_) AllReadyH.nil)
 go_simp
 (first | (go_at_call 97; refine (compare_int _ _ _).mono ?_; rintro e w2 ⟨rfl, rfl⟩) | (go_at_call 96; refine (or_int w0.heap.size _ _ _ (show (World.drew (w0.alloc (.cells #[.int .i64 (cpI x.1 y.1), .int .i64 (cpI x.2 y.2)] 3 (0, 0)))).heap[w0.heap.size]? = _ from heap_alloc_new w0 _)).mono ?_; rintro e w2 ⟨rfl, rfl⟩))
 (try dsimp only)
 refine hK.out _ _ zP fun hNext => ?_; clear hK K hHeld; have hHeld := hNext; clear hNext; (try dsimp only at hHeld); try simp only [zX]
 refine wpAnyH_ready (rs := [9]) (by kernel_rfl) (by simp) ?_
 refine (AllReadyH.cons rfl (fun K hK => ?_) AllReadyH.nil)
 go_simp
 (first | (go_at_call 97; refine (compare_int _ _ _).mono ?_; rintro e w2 ⟨rfl, rfl⟩) | (go_at_call 96; refine (or_int w0.heap.size _ _ _ (show (World.drew (w0.alloc (.cells #[.int .i64 (cpI x.1 y.1), .int .i64 (cpI x.2 y.2)] 3 (0, 0)))).heap[w0.heap.size]? = _ from heap_alloc_new w0 _)).mono ?_; rintro e w2 ⟨rfl, rfl⟩))
 (try dsimp only)
 refine hK.out _ _ zP fun hNext => ?_; clear hK K hHeld; have hHeld := hNext; clear hNext; (try dsimp only at hHeld); try simp only [zX]
 refine wpAnyH_ready (rs := [10]) (by kernel_rfl) (by simp) ?_
 refine (AllReadyH.cons rfl (fun K hK => ?_) AllReadyH.nil)
 go_simp
 refine hK.out _ _ zP fun hNext => ?_; clear hK K hHeld; have hHeld := hNext; clear hNext; (try dsimp only at hHeld); try simp only [zX]
 refine wpAnyH_ready (rs := [11]) (by kernel_rfl) (by simp) ?_
 refine (AllReadyH.cons rfl (fun K hK => ?_) AllReadyH.nil)
 go_simp
 (first | (go_at_call 97; refine (compare_int _ _ _).mono ?_; rintro e w2 ⟨rfl, rfl⟩) | (go_at_call 96; refine (or_int w0.heap.size _ _ _ (show (World.drew (w0.alloc (.cells #[.int .i64 (cpI x.1 y.1), .int .i64 (cpI x.2 y.2)] 3 (0, 0)))).heap[w0.heap.size]? = _ from heap_alloc_new w0 _)).mono ?_; rintro e w2 ⟨rfl, rfl⟩))
 (try dsimp only)
 refine hK.out _ _ zP fun hNext => ?_; clear hK K hHeld; have hHeld := hNext; clear hNext; (try dsimp only at hHeld); try simp only [zX]
 refine zT 12 rfl ?_
 refine wpAnyH_done (by kernel_rfl) ?_ _
 all_goals
  have hr := HR.out
  unfold pinC at hr
  subst hr
  go_wp2_with fail
  go_ret
  exact ⟨rfl, by repeat (first | exact hG | refine GrQ.drew ?_ | refine GrQ.alloc ?_ _)⟩
end Go.Proofs.YtehadoecnmfeoaaGreat
namespace Go.Proofs.YtehadoecnmfeoaaGreat
open Go.Shelf
def sfRen_f94 : Go.Shelf.Ren := ⟨fun | 6 => 94 | 15 => 160 | 14 => 165 | 28 => 214 | 29 => 215 | 20 => 221 | 21 => 222 | 22 => 223 | 23 => 224 | 24 => 225 | 25 => 226 | 26 => 227 | 27 => 228 | 46 => 247 | 47 => 243 | 48 => 244 | 49 => 248 | 50 => 249 | 57 => 269 | n => n, fun | 22 => 63 | 24 => 67 | 25 => 136 | 3 => 3 | 39 => 173 | 0 => 0 | 53 => 253 | 55 => 255 | 4 => 4 | 46 => 247 | 45 => 246 | 50 => 61 | 5 => 5 | 9 => 9 | 66 => 282 | 70 => 286 | 76 => 302 | 77 => 205 | n => n, fun | n => n⟩
def sfRen_f183 : Go.Shelf.Ren := ⟨fun | 6 => 183 | 15 => 160 | 14 => 235 | 28 => 214 | 29 => 215 | 20 => 252 | 21 => 253 | 22 => 254 | 23 => 255 | 24 => 256 | 25 => 257 | 26 => 258 | 27 => 259 | 46 => 270 | 47 => 243 | 48 => 244 | 49 => 271 | 50 => 272 | 57 => 276 | n => n, fun | 22 => 86 | 24 => 74 | 25 => 219 | 3 => 3 | 39 => 173 | 0 => 0 | 53 => 253 | 55 => 255 | 4 => 4 | 46 => 247 | 45 => 246 | 50 => 61 | 5 => 5 | 9 => 9 | 66 => 282 | 70 => 286 | 76 => 302 | 77 => 205 | n => n, fun | n => n⟩
theorem sfLays_f183 : Go.Proofs.SlLaysF0.n6 Tryz.prog sfRen_f183 := {
 mixed := by kernel_rfl
 f6 := ⟨Tryz.f183.name, by decide, Tryz.func183.trans (congrArg some (by kernel_rfl))⟩
 f14 := ⟨Tryz.f235.name, by decide, Tryz.func235.trans (congrArg some (by kernel_rfl))⟩
 f15 := Tryz.func160.trans (congrArg some (by kernel_rfl))
 f20 := ⟨Tryz.f252.name, by decide, Tryz.func252.trans (congrArg some (by kernel_rfl))⟩
 f21 := ⟨Tryz.f253.name, by decide, Tryz.func253.trans (congrArg some (by kernel_rfl))⟩
 f22 := ⟨Tryz.f254.name, by decide, Tryz.func254.trans (congrArg some (by kernel_rfl))⟩
 f23 := ⟨Tryz.f255.name, by decide, Tryz.func255.trans (congrArg some (by kernel_rfl))⟩
 f24 := ⟨Tryz.f256.name, by decide, Tryz.func256.trans (congrArg some (by kernel_rfl))⟩
 f25 := ⟨Tryz.f257.name, by decide, Tryz.func257.trans (congrArg some (by kernel_rfl))⟩
 f26 := ⟨Tryz.f258.name, by decide, Tryz.func258.trans (congrArg some (by kernel_rfl))⟩
 f27 := ⟨Tryz.f259.name, by decide, Tryz.func259.trans (congrArg some (by kernel_rfl))⟩
 f28 := Tryz.func214.trans (congrArg some (by kernel_rfl))
 f29 := Tryz.func215.trans (congrArg some (by kernel_rfl))
 f46 := ⟨Tryz.f270.name, by decide, Tryz.func270.trans (congrArg some (by kernel_rfl))⟩
 f47 := Tryz.func243.trans (congrArg some (by kernel_rfl))
 f48 := Tryz.func244.trans (congrArg some (by kernel_rfl))
 f49 := ⟨Tryz.f271.name, by decide, Tryz.func271.trans (congrArg some (by kernel_rfl))⟩
 f50 := ⟨Tryz.f272.name, by decide, Tryz.func272.trans (congrArg some (by kernel_rfl))⟩
 f57 := ⟨Tryz.f276.name, by decide, Tryz.func276.trans (congrArg some (by kernel_rfl))⟩
 t0 := Tryz.underlying0
 a0 := Tryz.isAgg0
 z0 := Tryz.sizeOf0
 v0 := Tryz.zeroValue0
 t3 := Tryz.underlying3
 a3 := Tryz.isAgg3
 z3 := Tryz.sizeOf3
 v3 := Tryz.zeroValue3
 t4 := Tryz.underlying4
 a4 := Tryz.isAgg4
 z4 := Tryz.sizeOf4
 v4 := Tryz.zeroValue4
 t5 := Tryz.underlying5
 a5 := Tryz.isAgg5
 z5 := Tryz.sizeOf5
 v5 := Tryz.zeroValue5
 t9 := Tryz.underlying9
 a9 := Tryz.isAgg9
 z9 := Tryz.sizeOf9
 v9 := Tryz.zeroValue9
 t22 := Tryz.underlying86
 a22 := Tryz.isAgg86
 z22 := Tryz.sizeOf86
 v22 := Tryz.zeroValue86
 t25 := Tryz.underlying219
 a25 := Tryz.isAgg219
 z25 := Tryz.sizeOf219
 v25 := Tryz.zeroValue219
 t39 := Tryz.underlying173
 a39 := Tryz.isAgg173
 z39 := Tryz.sizeOf173
 v39 := Tryz.zeroValue173
 t45 := Tryz.underlying246
 a45 := Tryz.isAgg246
 z45 := Tryz.sizeOf246
 v45 := Tryz.zeroValue246
 t46 := Tryz.underlying247
 a46 := Tryz.isAgg247
 z46 := Tryz.sizeOf247
 v46 := Tryz.zeroValue247
 t50 := Tryz.underlying61
 a50 := Tryz.isAgg61
 z50 := Tryz.sizeOf61
 v50 := Tryz.zeroValue61
 t53 := Tryz.underlying253
 a53 := Tryz.isAgg253
 z53 := Tryz.sizeOf253
 v53 := Tryz.zeroValue253
 t55 := Tryz.underlying255
 a55 := Tryz.isAgg255
 z55 := Tryz.sizeOf255
 v55 := Tryz.zeroValue255
 t66 := Tryz.underlying282
 a66 := Tryz.isAgg282
 z66 := Tryz.sizeOf282
 v66 := Tryz.zeroValue282
 t70 := Tryz.underlying286
 a70 := Tryz.isAgg286
 z70 := Tryz.sizeOf286
 v70 := Tryz.zeroValue286
 t76 := Tryz.underlying302
 a76 := Tryz.isAgg302
 z76 := Tryz.sizeOf302
 v76 := Tryz.zeroValue302
 t77 := Tryz.underlying205
 a77 := Tryz.isAgg205
 z77 := Tryz.sizeOf205
 v77 := Tryz.zeroValue205 }
def sfRen_f186 : Go.Shelf.Ren := ⟨fun | 6 => 186 | 15 => 160 | 14 => 236 | 28 => 214 | 29 => 215 | 20 => 260 | 21 => 261 | 22 => 262 | 23 => 263 | 24 => 264 | 25 => 265 | 26 => 266 | 27 => 267 | 46 => 273 | 47 => 243 | 48 => 244 | 49 => 274 | 50 => 275 | 57 => 277 | n => n, fun | 22 => 82 | 24 => 86 | 25 => 221 | 3 => 3 | 39 => 173 | 0 => 0 | 53 => 253 | 55 => 255 | 4 => 4 | 46 => 247 | 45 => 246 | 50 => 61 | 5 => 5 | 9 => 9 | 66 => 282 | 70 => 286 | 76 => 302 | 77 => 205 | n => n, fun | n => n⟩
theorem sfLays_f186 : Go.Proofs.SlLaysF.n6 Tryz.prog sfRen_f186 := {
 mixed := by kernel_rfl
 f6 := ⟨Tryz.f186.name, by decide, Tryz.func186.trans (congrArg some (by kernel_rfl))⟩
 f14 := ⟨Tryz.f236.name, by decide, Tryz.func236.trans (congrArg some (by kernel_rfl))⟩
 f15 := Tryz.func160.trans (congrArg some (by kernel_rfl))
 f20 := ⟨Tryz.f260.name, by decide, Tryz.func260.trans (congrArg some (by kernel_rfl))⟩
 f21 := ⟨Tryz.f261.name, by decide, Tryz.func261.trans (congrArg some (by kernel_rfl))⟩
 f22 := ⟨Tryz.f262.name, by decide, Tryz.func262.trans (congrArg some (by kernel_rfl))⟩
 f23 := ⟨Tryz.f263.name, by decide, Tryz.func263.trans (congrArg some (by kernel_rfl))⟩
 f24 := ⟨Tryz.f264.name, by decide, Tryz.func264.trans (congrArg some (by kernel_rfl))⟩
 f25 := ⟨Tryz.f265.name, by decide, Tryz.func265.trans (congrArg some (by kernel_rfl))⟩
 f26 := ⟨Tryz.f266.name, by decide, Tryz.func266.trans (congrArg some (by kernel_rfl))⟩
 f27 := ⟨Tryz.f267.name, by decide, Tryz.func267.trans (congrArg some (by kernel_rfl))⟩
 f28 := Tryz.func214.trans (congrArg some (by kernel_rfl))
 f29 := Tryz.func215.trans (congrArg some (by kernel_rfl))
 f46 := ⟨Tryz.f273.name, by decide, Tryz.func273.trans (congrArg some (by kernel_rfl))⟩
 f47 := Tryz.func243.trans (congrArg some (by kernel_rfl))
 f48 := Tryz.func244.trans (congrArg some (by kernel_rfl))
 f49 := ⟨Tryz.f274.name, by decide, Tryz.func274.trans (congrArg some (by kernel_rfl))⟩
 f50 := ⟨Tryz.f275.name, by decide, Tryz.func275.trans (congrArg some (by kernel_rfl))⟩
 f57 := ⟨Tryz.f277.name, by decide, Tryz.func277.trans (congrArg some (by kernel_rfl))⟩
 t0 := Tryz.underlying0
 a0 := Tryz.isAgg0
 z0 := Tryz.sizeOf0
 v0 := Tryz.zeroValue0
 t3 := Tryz.underlying3
 a3 := Tryz.isAgg3
 z3 := Tryz.sizeOf3
 v3 := Tryz.zeroValue3
 t4 := Tryz.underlying4
 a4 := Tryz.isAgg4
 z4 := Tryz.sizeOf4
 v4 := Tryz.zeroValue4
 t5 := Tryz.underlying5
 a5 := Tryz.isAgg5
 z5 := Tryz.sizeOf5
 v5 := Tryz.zeroValue5
 t9 := Tryz.underlying9
 a9 := Tryz.isAgg9
 z9 := Tryz.sizeOf9
 v9 := Tryz.zeroValue9
 t22 := Tryz.underlying82
 a22 := Tryz.isAgg82
 z22 := Tryz.sizeOf82
 v22 := Tryz.zeroValue82
 a24 := Tryz.isAgg86
 z24 := Tryz.sizeOf86
 t25 := Tryz.underlying221
 a25 := Tryz.isAgg221
 z25 := Tryz.sizeOf221
 v25 := Tryz.zeroValue221
 t39 := Tryz.underlying173
 a39 := Tryz.isAgg173
 z39 := Tryz.sizeOf173
 v39 := Tryz.zeroValue173
 t45 := Tryz.underlying246
 a45 := Tryz.isAgg246
 z45 := Tryz.sizeOf246
 v45 := Tryz.zeroValue246
 t46 := Tryz.underlying247
 a46 := Tryz.isAgg247
 z46 := Tryz.sizeOf247
 v46 := Tryz.zeroValue247
 t50 := Tryz.underlying61
 a50 := Tryz.isAgg61
 z50 := Tryz.sizeOf61
 v50 := Tryz.zeroValue61
 t53 := Tryz.underlying253
 a53 := Tryz.isAgg253
 z53 := Tryz.sizeOf253
 v53 := Tryz.zeroValue253
 t55 := Tryz.underlying255
 a55 := Tryz.isAgg255
 z55 := Tryz.sizeOf255
 v55 := Tryz.zeroValue255
 t66 := Tryz.underlying282
 a66 := Tryz.isAgg282
 z66 := Tryz.sizeOf282
 v66 := Tryz.zeroValue282
 t70 := Tryz.underlying286
 a70 := Tryz.isAgg286
 z70 := Tryz.sizeOf286
 v70 := Tryz.zeroValue286
 t76 := Tryz.underlying302
 a76 := Tryz.isAgg302
 z76 := Tryz.sizeOf302
 v76 := Tryz.zeroValue302
 t77 := Tryz.underlying205
 a77 := Tryz.isAgg205
 z77 := Tryz.sizeOf205
 v77 := Tryz.zeroValue205 }
def sfRen_f186b : Go.Shelf.Ren := ⟨fun | 6 => 186 | 15 => 160 | 14 => 236 | 28 => 214 | 29 => 215 | 20 => 260 | 21 => 261 | 22 => 262 | 23 => 263 | 24 => 264 | 25 => 265 | 26 => 266 | 27 => 267 | 46 => 273 | 47 => 243 | 48 => 244 | 49 => 274 | 50 => 275 | 57 => 277 | n => n, fun | 22 => 82 | 24 => 86 | 25 => 221 | 3 => 3 | 39 => 173 | 0 => 0 | 53 => 253 | 55 => 255 | 4 => 4 | 46 => 247 | 45 => 246 | 50 => 61 | 5 => 5 | 9 => 9 | 66 => 282 | 70 => 286 | 76 => 302 | 77 => 205 | n => n, fun | n => n⟩
theorem sfLays_f186b : Go.Proofs.SlLaysF0.n6 Tryz.prog sfRen_f186b := {
 mixed := by kernel_rfl
 f6 := ⟨Tryz.f186.name, by decide, Tryz.func186.trans (congrArg some (by kernel_rfl))⟩
 f14 := ⟨Tryz.f236.name, by decide, Tryz.func236.trans (congrArg some (by kernel_rfl))⟩
 f15 := Tryz.func160.trans (congrArg some (by kernel_rfl))
 f20 := ⟨Tryz.f260.name, by decide, Tryz.func260.trans (congrArg some (by kernel_rfl))⟩
 f21 := ⟨Tryz.f261.name, by decide, Tryz.func261.trans (congrArg some (by kernel_rfl))⟩
 f22 := ⟨Tryz.f262.name, by decide, Tryz.func262.trans (congrArg some (by kernel_rfl))⟩
 f23 := ⟨Tryz.f263.name, by decide, Tryz.func263.trans (congrArg some (by kernel_rfl))⟩
 f24 := ⟨Tryz.f264.name, by decide, Tryz.func264.trans (congrArg some (by kernel_rfl))⟩
 f25 := ⟨Tryz.f265.name, by decide, Tryz.func265.trans (congrArg some (by kernel_rfl))⟩
 f26 := ⟨Tryz.f266.name, by decide, Tryz.func266.trans (congrArg some (by kernel_rfl))⟩
 f27 := ⟨Tryz.f267.name, by decide, Tryz.func267.trans (congrArg some (by kernel_rfl))⟩
 f28 := Tryz.func214.trans (congrArg some (by kernel_rfl))
 f29 := Tryz.func215.trans (congrArg some (by kernel_rfl))
 f46 := ⟨Tryz.f273.name, by decide, Tryz.func273.trans (congrArg some (by kernel_rfl))⟩
 f47 := Tryz.func243.trans (congrArg some (by kernel_rfl))
 f48 := Tryz.func244.trans (congrArg some (by kernel_rfl))
 f49 := ⟨Tryz.f274.name, by decide, Tryz.func274.trans (congrArg some (by kernel_rfl))⟩
 f50 := ⟨Tryz.f275.name, by decide, Tryz.func275.trans (congrArg some (by kernel_rfl))⟩
 f57 := ⟨Tryz.f277.name, by decide, Tryz.func277.trans (congrArg some (by kernel_rfl))⟩
 t0 := Tryz.underlying0
 a0 := Tryz.isAgg0
 z0 := Tryz.sizeOf0
 v0 := Tryz.zeroValue0
 t3 := Tryz.underlying3
 a3 := Tryz.isAgg3
 z3 := Tryz.sizeOf3
 v3 := Tryz.zeroValue3
 t4 := Tryz.underlying4
 a4 := Tryz.isAgg4
 z4 := Tryz.sizeOf4
 v4 := Tryz.zeroValue4
 t5 := Tryz.underlying5
 a5 := Tryz.isAgg5
 z5 := Tryz.sizeOf5
 v5 := Tryz.zeroValue5
 t9 := Tryz.underlying9
 a9 := Tryz.isAgg9
 z9 := Tryz.sizeOf9
 v9 := Tryz.zeroValue9
 t22 := Tryz.underlying82
 a22 := Tryz.isAgg82
 z22 := Tryz.sizeOf82
 v22 := Tryz.zeroValue82
 t25 := Tryz.underlying221
 a25 := Tryz.isAgg221
 z25 := Tryz.sizeOf221
 v25 := Tryz.zeroValue221
 t39 := Tryz.underlying173
 a39 := Tryz.isAgg173
 z39 := Tryz.sizeOf173
 v39 := Tryz.zeroValue173
 t45 := Tryz.underlying246
 a45 := Tryz.isAgg246
 z45 := Tryz.sizeOf246
 v45 := Tryz.zeroValue246
 t46 := Tryz.underlying247
 a46 := Tryz.isAgg247
 z46 := Tryz.sizeOf247
 v46 := Tryz.zeroValue247
 t50 := Tryz.underlying61
 a50 := Tryz.isAgg61
 z50 := Tryz.sizeOf61
 v50 := Tryz.zeroValue61
 t53 := Tryz.underlying253
 a53 := Tryz.isAgg253
 z53 := Tryz.sizeOf253
 v53 := Tryz.zeroValue253
 t55 := Tryz.underlying255
 a55 := Tryz.isAgg255
 z55 := Tryz.sizeOf255
 v55 := Tryz.zeroValue255
 t66 := Tryz.underlying282
 a66 := Tryz.isAgg282
 z66 := Tryz.sizeOf282
 v66 := Tryz.zeroValue282
 t70 := Tryz.underlying286
 a70 := Tryz.isAgg286
 z70 := Tryz.sizeOf286
 v70 := Tryz.zeroValue286
 t76 := Tryz.underlying302
 a76 := Tryz.isAgg302
 z76 := Tryz.sizeOf302
 v76 := Tryz.zeroValue302
 t77 := Tryz.underlying205
 a77 := Tryz.isAgg205
 z77 := Tryz.sizeOf205
 v77 := Tryz.zeroValue205 }
end Go.Proofs.YtehadoecnmfeoaaGreat
namespace Go.Proofs.YtehadoecnmfeoaaGreat
open Go.RowKit Go.Sort Go.Shelf
instance : Inhabited Ct := ⟨Ct.o⟩
theorem sortK_row {α : Type} [Inhabited α] {enc : α → List Value} {k : Nat} (hk : ∀ a, (enc a).length = k) {w : World} {base g cap n e : Nat} {os : Array Obj} {cur : Array Value} {Q : List α} {d' : Array α} (hbase : base ≤ g) (hb : w.heap[g]? = some (.cells cur e (0, 0)))
  (h1 : Q.length ≤ cap) (h2 : cap ≤ maxLen) (h3 : cur.size = cap * k) (hp : d'.toList.Perm Q) :
  (sortWorldK enc k w g 0 n d' os).ownsRow base e k (.slice (some ⟨g, 0, none⟩) Q.length cap) d'.toList.length (rowV enc d'.toList) ∧ w.grownBy (sortWorldK enc k w g 0 n d' os) (some g) := by
 have hl : d'.toList.length = Q.length := hp.length_eq
 have e1 : sortWorldK enc k w g 0 n d' os = grow (putRow id (Sort.ahead w n) g 0 (rowV enc d'.toList).toArray) os := by
  have h4 := flatK_row hk d'.toList
  rw [Array.toArray_toList] at h4
  show grow (putRow id (Sort.ahead w n) g 0 (flatK enc k d')) os = _
  rw [h4]
 rw [e1, hl]
 exact ⟨ownsRow_sortedV (by rw [rowV_len hk, hl]) hbase hb h1 h2 h3, grownBy_sortedV _⟩
end Go.Proofs.YtehadoecnmfeoaaGreat
namespace Go.Proofs.YtehadoecnmfeoaaGreat
def EdgP (es : List (Pn × Pn)) (p q : Pn) : Prop := ∃ e ∈ es, (e.1 = p ∧ e.2 = q) ∨ (e.1 = q ∧ e.2 = p)
inductive PathA (es : List (Pn × Pn)) (S : Pn → Prop) : Pn → Pn → Prop
 | one {p : Pn} : ¬ S p → PathA es S p p
 | cons {p r q : Pn} : ¬ S p → EdgP es p r → PathA es S r q → PathA es S p q
theorem PathA.start {es : List (Pn × Pn)} {S : Pn → Prop} {p q : Pn} (h : PathA es S p q) : ¬ S p := by
 cases h with
 | one h => exact h
 | cons h _ _ => exact h
theorem PathA.mono {es es' : List (Pn × Pn)} {S : Pn → Prop} {p q : Pn} (h : PathA es S p q) (hs : ∀ e ∈ es, e ∈ es') : PathA es' S p q := by
 induction h with
 | one h => exact .one h
 | cons h1 h2 _ ih =>
  obtain ⟨e, he, h3⟩ := h2
  exact .cons h1 ⟨e, hs e he, h3⟩ ih
theorem PathA.avoid {es : List (Pn × Pn)} {S : Pn → Prop} {p q : Pn} (c : Pn) (h : PathA es S p q) :
  PathA es (fun x => S x ∨ x = c) p q ∨ (∃ r, EdgP es c r ∧ PathA es (fun x => S x ∨ x = c) r q) ∨ c = q := by
 induction h with
 | @one p h =>
  by_cases e : p = c
  ·
   exact .inr (.inr e.symm)
  ·
   exact .inl (.one fun h2 => h2.elim h e)
 | @cons p r q h1 h2 h3 ih =>
  rcases ih with h4 | h4 | h4
  ·
   by_cases e : p = c
   ·
    subst e
    exact .inr (.inl ⟨r, h2, h4⟩)
   ·
    exact .inl (.cons (fun h5 => h5.elim h1 e) h2 h4)
  ·
   exact .inr (.inl h4)
  ·
   exact .inr (.inr h4)
theorem PathA.next {es : List (Pn × Pn)} {S : Pn → Prop} {p q : Pn} (h : PathA es S p q) (hne : p ≠ q) : ∃ r, EdgP es p r ∧ PathA es (fun x => S x ∨ x = p) r q := by
 rcases h.avoid p with h1 | h1 | h1
 ·
  exact absurd (Or.inr rfl) h1.start
 ·
  exact h1
 ·
  exact absurd h1 hne
def Nos : Pn → Prop := fun _ => False
abbrev Rea (es : List (Pn × Pn)) (p q : Pn) : Prop := PathA es Nos p q
theorem Rea.refl {es : List (Pn × Pn)} (p : Pn) : Rea es p p := .one fun h => h
theorem Rea.trans {es : List (Pn × Pn)} {p q r : Pn} (h : Rea es p q) (k : Rea es q r) : Rea es p r := by
 induction h with
 | one _ => exact k
 | cons h1 h2 _ ih => exact .cons h1 h2 (ih k)
theorem EdgP.symm {es : List (Pn × Pn)} {p q : Pn} (h : EdgP es p q) : EdgP es q p := by
 obtain ⟨e, he, h1⟩ := h
 exact ⟨e, he, h1.symm⟩
theorem Rea.edge {es : List (Pn × Pn)} {p q : Pn} (h : EdgP es p q) : Rea es p q := .cons (fun h => h) h (.one fun h => h)
theorem Rea.symm {es : List (Pn × Pn)} {p q : Pn} (h : Rea es p q) : Rea es q p := by
 induction h with
 | one h => exact .one h
 | cons _ h2 _ ih => exact ih.trans (Rea.edge h2.symm)
theorem net_rea (es : List (Pn × Pn)) : ∀ (qs rs : List (Pn × Pn)) (o : List (List Pn)), (∀ net ∈ o, ∀ p ∈ net, ∀ q ∈ net, Rea qs p q) → ∀ net ∈ rs.foldl (fun o e => joiL o e.1 e.2) o, ∀ p ∈ net, ∀ q ∈ net, Rea (qs ++ rs) p q
 | qs, [], o, h => by rw [List.append_nil]; exact h
 | qs, e :: rs, o, h => by
  rw [List.foldl_cons, show qs ++ e :: rs = (qs ++ [e]) ++ rs by simp]
  refine net_rea es (qs ++ [e]) rs _ ?_
  have hedge : Rea (qs ++ [e]) e.2 e.1 := Rea.edge ⟨e, by simp, .inr ⟨rfl, rfl⟩⟩
  have hold : ∀ net ∈ o, ∀ p ∈ net, ∀ q ∈ net, Rea (qs ++ [e]) p q := fun net hn p hp q hq => (h net hn p hp q hq).mono fun x hx => by simp [hx]
  intro net hn
  rcases List.mem_append.1 hn with h1 | h1
  ·
   exact hold net (List.mem_filter.1 h1).1
  ·
   have e1 : net = sortU (e.1 :: e.2 :: bothL o e.1 e.2) := by simpa using h1
   have hto : ∀ p ∈ net, Rea (qs ++ [e]) p e.1 := fun p hp => by
    rw [e1, sortU_mem] at hp
    rcases List.mem_cons.1 hp with e2 | hp
    ·
     rw [e2]; exact Rea.refl _
    ·
     rcases List.mem_cons.1 hp with e2 | hp
     ·
      rw [e2]; exact hedge
     ·
      obtain ⟨m, hm, h2, h3⟩ := bothL_mem.1 hp
      rcases touB_iff.1 h2 with h4 | h4
      ·
       exact hold m hm p h3 _ h4
      ·
       exact (hold m hm p h3 _ h4).trans hedge
   exact fun p hp q hq => (hto p hp).trans (hto q hq).symm
theorem con_rea {es : List (Pn × Pn)} {p q : Pn} (h : conB (netU es) p q = true) : Rea es p q := by
 obtain ⟨net, hn, hp, hq⟩ := conB_iff.1 h
 have h1 := net_rea es [] es [] (fun n h => absurd h (by simp)) net hn p hp q hq
 rw [List.nil_append] at h1
 exact h1
theorem join_keeps {o : List (List Pn)} {a b p q : Pn} (h : ∃ net ∈ o, p ∈ net ∧ q ∈ net) : ∃ net ∈ joiL o a b, p ∈ net ∧ q ∈ net := by
 obtain ⟨net, hn, hp, hq⟩ := h
 cases ht : touB a b net with
 | false => exact ⟨net, List.mem_append.2 (.inl (List.mem_filter.2 ⟨hn, by rw [ht]; rfl⟩)), hp, hq⟩
 | true =>
  refine ⟨sortU (a :: b :: bothL o a b), List.mem_append.2 (.inr (by simp)), ?_, ?_⟩
  ·
   rw [sortU_mem]
   simp only [List.mem_cons]
   exact .inr (.inr (bothL_mem.2 ⟨net, hn, ht, hp⟩))
  ·
   rw [sortU_mem]
   simp only [List.mem_cons]
   exact .inr (.inr (bothL_mem.2 ⟨net, hn, ht, hq⟩))
theorem fold_keeps {p q : Pn} : ∀ {rs : List (Pn × Pn)} {o : List (List Pn)}, (∃ net ∈ o, p ∈ net ∧ q ∈ net) → ∃ net ∈ rs.foldl (fun o e => joiL o e.1 e.2) o, p ∈ net ∧ q ∈ net
 | [], _, h => h
 | e :: rs, o, h => by
  rw [List.foldl_cons]
  exact fold_keeps (join_keeps h)
theorem fold_edge {e : Pn × Pn} : ∀ {rs : List (Pn × Pn)} {o : List (List Pn)}, e ∈ rs → ∃ net ∈ rs.foldl (fun o e => joiL o e.1 e.2) o, e.1 ∈ net ∧ e.2 ∈ net
 | d :: rs, o, h => by
  rw [List.foldl_cons]
  rcases List.mem_cons.1 h with e1 | h1
  ·
   subst e1
   refine fold_keeps ⟨sortU (e.1 :: e.2 :: bothL o e.1 e.2), List.mem_append.2 (.inr (by simp)), ?_, ?_⟩
   ·
    rw [sortU_mem]; simp
   ·
    rw [sortU_mem]; simp
  ·
   exact fold_edge h1
theorem con_trans {o : List (List Pn)} (h : NetI o) {p q r : Pn} (h1 : conB o p q = true) (h2 : conB o q r = true) : conB o p r = true := by
 obtain ⟨m, hm, hp, hq⟩ := conB_iff.1 h1
 obtain ⟨n, hn, hq2, hr⟩ := conB_iff.1 h2
 have e := h.one hm hn hq hq2
 subst e
 exact conB_iff.2 ⟨m, hm, hp, hr⟩
theorem edge_con {es : List (Pn × Pn)} {p q : Pn} (h : EdgP es p q) : conB (netU es) p q = true := by
 obtain ⟨e, he, h1⟩ := h
 obtain ⟨net, hn, h2, h3⟩ := fold_edge (o := []) he
 refine conB_iff.2 ⟨net, hn, ?_⟩
 rcases h1 with ⟨rfl, rfl⟩ | ⟨rfl, rfl⟩
 ·
  exact ⟨h2, h3⟩
 ·
  exact ⟨h3, h2⟩
theorem rea_con {es : List (Pn × Pn)} {p q : Pn} (h : Rea es p q) : p = q ∨ conB (netU es) p q = true := by
 induction h with
 | one _ => exact .inl rfl
 | @cons p r q _ h2 _ ih =>
  rcases ih with e | h3
  ·
   subst e
   exact .inr (edge_con h2)
  ·
   exact .inr (con_trans (netU_i es) (edge_con h2) h3)
theorem getD_mem71 {α : Type} {l : List α} {k : Nat} {z : α} (h : k < l.length) : l.getD k z ∈ l := by
 rw [List.getD_eq_getElem?_getD, List.getElem?_eq_getElem h]
 exact List.getElem_mem h
theorem getD_inj71 {o : List (List Pn)} (h : NetI o) {i k : Nat} (hi : i < o.length) (hk : k < o.length) (hne : i < k) : Apart (o.getD i []) (o.getD k []) := by
 have h1 := List.pairwise_iff_getElem.1 h.apart i k hi hk hne
 rw [List.getD_eq_getElem?_getD, List.getD_eq_getElem?_getD, List.getElem?_eq_getElem hi, List.getElem?_eq_getElem hk]
 exact h1
end Go.Proofs.YtehadoecnmfeoaaGreat

/- Part 40 of this claim's texts: walks and plain laws. -/
import Derived.Test.YtehadoecnmfeoaaGreatRows
import Derived.Test.YtehadoecnmfeoaaGreatGBC38
import Derived.Test.YtehadoecnmfeoaaGreatGBC39
import Derived.Test.YtehadoecnmfeoaaGreatGBC10
import Derived.Deep.DeepMust
import Derived.Deep.RegionHeld3
import Derived.Deep.DrawnRows
import Derived.Test.YtehadoecnmfeoaaGreatGBC3
import Derived.Shelf.SlSortCmp.WholeK
import Derived.Shelf.SlSortCmp.Whole1
import Derived.Shelf.SlSortCmp.NoneTotal
import Derived.Test.YtehadoecnmfeoaaGreatProg
/- Nets of pins: plain laws. -/
namespace Go.Proofs.YtehadoecnmfeoaaGreat
set_option linter.unusedVariables false
set_option linter.unusedSimpArgs false
abbrev Pn := Int × Int
def ltP (a b : Pn) : Bool := decide (a.1 < b.1) || (a.1 == b.1 && decide (a.2 < b.2))
def insP (x : Pn) : List Pn → List Pn
  | [] => [x]
  | a :: r => if ltP a x = true then a :: insP x r else if a = x then a :: r else x :: a :: r
def Asc (l : List Pn) : Prop := l.Pairwise fun a b => ltP a b = true
def sortU (l : List Pn) : List Pn := l.foldl (fun o p => insP p o) []
def touB (a b : Pn) (net : List Pn) : Bool := net.contains a || net.contains b
def bothL (out : List (List Pn)) (a b : Pn) : List Pn := (out.filter (touB a b)).flatten
def joiL (out : List (List Pn)) (a b : Pn) : List (List Pn) := out.filter (fun n => !touB a b n) ++ [sortU (a :: b :: bothL out a b)]
def Apart (m n : List Pn) : Prop := ∀ p, p ∈ m → ¬ p ∈ n
structure NetI (out : List (List Pn)) : Prop where
  ne : ∀ net ∈ out, net ≠ []
  asc : ∀ net ∈ out, Asc net
  apart : out.Pairwise Apart
def netU (es : List (Pn × Pn)) : List (List Pn) := es.foldl (fun o e => joiL o e.1 e.2) []
def hdP (net : List Pn) : Pn := net.headD (0, 0)
def ltN (m n : List Pn) : Bool := ltP (hdP m) (hdP n)
def AscN (o : List (List Pn)) : Prop := o.Pairwise fun m n => ltN m n = true
def insN (x : List Pn) : List (List Pn) → List (List Pn)
  | [] => [x]
  | a :: r => if ltN a x = true then a :: insN x r else x :: a :: r
def sortN (o : List (List Pn)) : List (List Pn) := o.foldl (fun s x => insN x s) []
def netL (es : List (Pn × Pn)) : List (List Pn) := sortN (netU es)
def conB (o : List (List Pn)) (a b : Pn) : Bool := o.any fun net => net.contains a && net.contains b
def jonN (net : List Pn) : List (Pn × Pn) := (List.range (net.length - 1)).map fun k => (net.getD k (0, 0), net.getD (k + 1) (0, 0))
def jonL (o : List (List Pn)) : List (Pn × Pn) := o.flatMap jonN
def apaN (o : List (List Pn)) (i : Nat) : List (Pn × Pn) := (o.drop (i + 1)).map fun n => (hdP (o.getD i []), hdP n)
def apaL (o : List (List Pn)) : List (Pn × Pn) := (List.range o.length).flatMap (apaN o)
def pasB (o q : List (List Pn)) : Bool := (jonL o).all (fun p => conB q p.1 p.2) && (apaL o).all fun p => !conB q p.1 p.2
end Go.Proofs.YtehadoecnmfeoaaGreat
/- The library's comparisons of numbers, and the orders of pieces and pins made of them: walks. -/
namespace Go.Proofs.YtehadoecnmfeoaaGreat
open Go.RowKit Go.Sort
set_option linter.unusedVariables false
set_option linter.unusedSimpArgs false
def cpI (a b : Int) : Int := if a < b then -1 else if b < a then 1 else 0
def orI (a b : Int) : Int := if a = 0 then b else a
set_option maxRecDepth 100000 in
theorem isNaN_int (a : Int) (w : World) : Calls Tryz.prog 166 #[.int .i64 a] w fun e W => e = .returned (.bool false) ∧ w = W := by
  have h1 : (a != a) = false := by simp
  go_enter Tryz.func166, Tryz.ntmps166
  go_wp2_with fail
  go_ret
  exact ⟨rfl, rfl⟩
set_option maxRecDepth 100000 in
theorem compare_int (a b : Int) (w : World) : Calls Tryz.prog 97 #[.int .i64 a, .int .i64 b] w fun e W => e = .returned (.int .i64 (cpI a b)) ∧ w = W := by
  obtain ⟨r, hr⟩ : ∃ z, cpI a b = z := ⟨_, rfl⟩
  rw [hr]
  have HR := hide hr
  clear hr
  by_cases h1 : a < b
  · have hr : r = -1 := by rw [← HR.out]; unfold cpI; rw [if_pos h1]
    subst hr
    go_enter Tryz.func97, Tryz.ntmps97
    go_wp2_with (go_at_call 166; refine (isNaN_int _ _).mono ?_; rintro e w2 ⟨rfl, rfl⟩)
    go_ret
    exact ⟨rfl, rfl⟩
  · by_cases h2 : b < a
    · have hr : r = 1 := by rw [← HR.out]; unfold cpI; rw [if_neg h1, if_pos h2]
      subst hr
      go_enter Tryz.func97, Tryz.ntmps97
      go_wp2_with (go_at_call 166; refine (isNaN_int _ _).mono ?_; rintro e w2 ⟨rfl, rfl⟩)
      go_ret
      exact ⟨rfl, rfl⟩
    · have hr : r = 0 := by rw [← HR.out]; unfold cpI; rw [if_neg h1, if_neg h2]
      subst hr
      go_enter Tryz.func97, Tryz.ntmps97
      go_wp2_with (go_at_call 166; refine (isNaN_int _ _).mono ?_; rintro e w2 ⟨rfl, rfl⟩)
      go_ret
      exact ⟨rfl, rfl⟩
set_option maxRecDepth 100000 in
theorem or_int (g : Nat) (a b : Int) (w : World) (h : w.heap[g]? = some (.cells #[.int .i64 a, .int .i64 b] 3 (0, 0))) : Calls Tryz.prog 96 #[.slice (some ⟨g, 0, none⟩) 2 2] w fun e W => e = .returned (.int .i64 (orI a b)) ∧ w = W := by
  obtain ⟨r, hr⟩ : ∃ z, orI a b = z := ⟨_, rfl⟩
  rw [hr]
  have HR := hide hr
  have c0 := cellOf h 0
  have c1 := cellOf h 1
  have lg := box_lt h
  clear hr h
  go_enter Tryz.func96, Tryz.ntmps96
  go_wp2_with fail
  go_loop [5, 8] (fun _ i => ∃ k : Nat, i = .int .i64 k ∧ k ≤ 2 ∧ Hid (0 < k → a = 0) ∧ Hid (1 < k → b = 0)) (fun _ i => 2 - (intOf i).toNat)
  case atStart => exact ⟨0, rfl, by omega, fun h => absurd h (by omega), fun h => absurd h (by omega)⟩
  case round =>
    obtain ⟨k, rfl, hk, H0, H1⟩ := hrel
    by_cases hk2 : k < 2
    case neg =>
      have hk1 : ¬ (k : Int) < 2 := by omega
      have hr : r = 0 := by
        rw [← HR.out]
        unfold orI
        rw [if_pos (H0.out (by omega))]
        exact H1.out (by omega)
      subst hr
      go_wp2_with fail
      go_ret
      exact ⟨rfl, rfl⟩
    case pos =>
    have hk1 : (k : Int) < 2 := by omega
    have ik0 : (0 : Int) ≤ (k : Int) := by omega
    obtain ⟨x, hx, hxc⟩ : ∃ x : Int, w.cell? ⟨g, k, none⟩ = some (.int .i64 x) ∧ Hid (x = if k = 0 then a else b) := by
      by_cases h0 : k = 0
      · subst h0; exact ⟨a, c0, (if_pos rfl).symm⟩
      · have : k = 1 := by omega
        subst this
        exact ⟨b, c1, (if_neg h0).symm⟩
    clear c0 c1
    by_cases hx0 : x = 0
    · subst hx0
      have n0 : ((0 : Int) != 0) = false := by decide
      have H02 : Hid (0 < k + 1 → a = 0) := fun _ => by
        by_cases h0 : k = 0
        · have := hxc.out; rw [if_pos h0] at this; exact this.symm
        · exact H0.out (by omega)
      have H12 : Hid (1 < k + 1 → b = 0) := fun h => by
        have := hxc.out; rw [if_neg (by omega)] at this; exact this.symm
      go_wp2_with fail
      go_round
      case rel => exact ⟨k + 1, by go_num, by omega, H02, H12⟩
      case measure => simp [intOf]; omega
    · have n0 : (x != 0) = true := by simpa using hx0
      have hr : r = x := by
        rw [← HR.out]
        unfold orI
        have h2 := hxc.out
        by_cases h0 : k = 0
        · rw [if_pos h0] at h2
          rw [if_neg (by rw [← h2]; exact hx0), h2]
        · rw [if_neg h0] at h2
          rw [if_pos (H0.out (by omega)), h2]
      subst hr
      clear hxc HR
      go_wp2_with fail
      go_ret
      exact ⟨rfl, rfl⟩
def GrQ (W w' : World) : Prop := ∃ q os, w' = grow (W.drewN q) os
theorem GrQ.refl (W : World) : GrQ W W := ⟨0, #[], by rw [grow_empty]; rfl⟩
theorem GrQ.alloc {W w' : World} (h : GrQ W w') (o : Obj) : GrQ W (w'.alloc o) := by
  obtain ⟨q, os, rfl⟩ := h
  exact ⟨q, os ++ #[o], by rw [alloc_eq_grow, grow_grow]⟩
theorem GrQ.drew {W w' : World} (h : GrQ W w') : GrQ W w'.drew := by
  obtain ⟨q, os, rfl⟩ := h
  exact ⟨q + 1, os, rfl⟩
def ctV (a : Ct) : Value := .agg #[.int .i64 a.s, .int .i64 a.n, .int .i64 a.c]
def cutC (x y : Ct) : Int := orI (cpI x.s y.s) (cpI x.n y.n)
theorem cutC_lt (x y : Ct) : decide (cutC x y < 0) = ltK x y := by
  unfold cutC orI cpI
  rw [Bool.eq_iff_iff, ltK_iff, decide_eq_true_eq]
  by_cases h1 : x.s < y.s
  · simp [h1]
  · by_cases h2 : y.s < x.s
    · simp [h1, h2]; omega
    · by_cases h3 : x.n < y.n
      · simp [h1, h2, h3]; omega
      · by_cases h4 : y.n < x.n
        · simp [h1, h2, h3, h4]
        · simp [h1, h2, h3, h4]
def pinC (x y : Pn) : Int := orI (cpI x.1 y.1) (cpI x.2 y.2)
set_option maxRecDepth 100000 in
set_option maxHeartbeats 4000000 in
theorem cutsCmp_any (x y : Ct) (w : World) : Calls Tryz.prog 95 #[ctV x, ctV y] w fun e w' => e = .returned (.int .i64 (cutC x y)) ∧ GrQ w w' := by
  obtain ⟨r, hr⟩ : ∃ z, cutC x y = z := ⟨_, rfl⟩
  rw [hr]
  have HR := hide hr
  unfold ctV
  clear hr
  go_enter Tryz.func95, Tryz.ntmps95
  go_upto_region 1 with (fail)
  have hG : GrQ w ((w.alloc (.cells #[.int .i64 x.s, .int .i64 x.n, .int .i64 x.c] 67)).alloc (.cells #[.int .i64 y.s, .int .i64 y.n, .int .i64 y.c] 67)) := (GrQ.refl w |>.alloc _).alloc _
  generalize hw0 : World.alloc _ _ = w0 at hG ⊢
  obtain ⟨hb0, hb1, hB0, hs0⟩ := alloc2 hw0
  obtain ⟨p, hp⟩ : ∃ z, w.heap.size = z := ⟨_, rfl⟩
  obtain ⟨q, hq⟩ : ∃ z, w.heap.size + 1 = z := ⟨_, rfl⟩
  rw [hp] at hb0
  rw [hq] at hb1 ⊢
  rw [hp]
  have c0 := cellOf hb0 0
  have c1 := cellOf hb0 1
  have lc := box_lt hb0
  have d0 := cellOf hb1 0
  have d1 := cellOf hb1 1
  have ld := box_lt hb1
  clear hw0 hb0 hb1 hB0 hs0 hp hq
  refine wp_region_held_drew (S := (fun w' => Below w0.heap.size w0 w')) (by kernel_rfl) ?_ (fun hHeld => ?_)
  · try dsimp only
    exact (by repeat (first | exact Below.refl _ _ | assumption | refine Below.drew ?_ | refine Below.drewN ?_ _ | refine Below.allocT ?_ (Nat.le_refl _) _ | refine Below.setCell ?_ (by simp <;> omega) _ | refine Below.to ?_ (by assumption) (Nat.le_refl _)))
  refine zT 0 rfl ?_
  refine zT 1 rfl ?_
  refine zT 2 rfl ?_
  refine zT 3 rfl ?_
  refine zT 5 rfl ?_
  refine zT 6 rfl ?_
  refine zT 7 rfl ?_
  refine zT 8 rfl ?_
  refine wpAnyH_ready (rs := [4]) (by kernel_rfl) (by simp) ?_
  refine (AllReadyH.cons rfl (fun K hK => ?_) AllReadyH.nil)
  go_simp
  (first | (go_at_call 97; refine (compare_int _ _ _).mono ?_; rintro e w2 ⟨rfl, rfl⟩) | (go_at_call 96; refine (or_int w0.heap.size _ _ _ (show (World.drew (w0.alloc (.cells #[.int .i64 (cpI x.s y.s), .int .i64 (cpI x.n y.n)] 3 (0, 0)))).heap[w0.heap.size]? = _ from heap_alloc_new w0 _)).mono ?_; rintro e w2 ⟨rfl, rfl⟩))
  (try dsimp only)
  refine hK.out _ _ ?_ (fun hNext => ?_)
  · try dsimp only
    exact (by repeat (first | exact Below.refl _ _ | assumption | refine Below.drew ?_ | refine Below.drewN ?_ _ | refine Below.allocT ?_ (Nat.le_refl _) _ | refine Below.setCell ?_ (by simp <;> omega) _ | refine Below.to ?_ (by assumption) (Nat.le_refl _)))
  clear hK K hHeld
  have hHeld := hNext
  clear hNext
  (try dsimp only at hHeld)
  try simp only [zX]
  refine wpAnyH_ready (rs := [9]) (by kernel_rfl) (by simp) ?_
  refine (AllReadyH.cons rfl (fun K hK => ?_) AllReadyH.nil)
  go_simp
  (first | (go_at_call 97; refine (compare_int _ _ _).mono ?_; rintro e w2 ⟨rfl, rfl⟩) | (go_at_call 96; refine (or_int w0.heap.size _ _ _ (show (World.drew (w0.alloc (.cells #[.int .i64 (cpI x.s y.s), .int .i64 (cpI x.n y.n)] 3 (0, 0)))).heap[w0.heap.size]? = _ from heap_alloc_new w0 _)).mono ?_; rintro e w2 ⟨rfl, rfl⟩))
  (try dsimp only)
  refine hK.out _ _ ?_ (fun hNext => ?_)
  · try dsimp only
    exact (by repeat (first | exact Below.refl _ _ | assumption | refine Below.drew ?_ | refine Below.drewN ?_ _ | refine Below.allocT ?_ (Nat.le_refl _) _ | refine Below.setCell ?_ (by simp <;> omega) _ | refine Below.to ?_ (by assumption) (Nat.le_refl _)))
  clear hK K hHeld
  have hHeld := hNext
  clear hNext
  (try dsimp only at hHeld)
  try simp only [zX]
  refine wpAnyH_ready (rs := [10]) (by kernel_rfl) (by simp) ?_
  refine (AllReadyH.cons rfl (fun K hK => ?_) AllReadyH.nil)
  go_simp
  refine hK.out _ _ ?_ (fun hNext => ?_)
  · try dsimp only
    exact (by repeat (first | exact Below.refl _ _ | assumption | refine Below.drew ?_ | refine Below.drewN ?_ _ | refine Below.allocT ?_ (Nat.le_refl _) _ | refine Below.setCell ?_ (by simp <;> omega) _ | refine Below.to ?_ (by assumption) (Nat.le_refl _)))
  clear hK K hHeld
  have hHeld := hNext
  clear hNext
  (try dsimp only at hHeld)
  try simp only [zX]
  refine wpAnyH_ready (rs := [11]) (by kernel_rfl) (by simp) ?_
  refine (AllReadyH.cons rfl (fun K hK => ?_) AllReadyH.nil)
  go_simp
  (first | (go_at_call 97; refine (compare_int _ _ _).mono ?_; rintro e w2 ⟨rfl, rfl⟩) | (go_at_call 96; refine (or_int w0.heap.size _ _ _ (show (World.drew (w0.alloc (.cells #[.int .i64 (cpI x.s y.s), .int .i64 (cpI x.n y.n)] 3 (0, 0)))).heap[w0.heap.size]? = _ from heap_alloc_new w0 _)).mono ?_; rintro e w2 ⟨rfl, rfl⟩))
  (try dsimp only)
  refine hK.out _ _ ?_ (fun hNext => ?_)
  · try dsimp only
    exact (by repeat (first | exact Below.refl _ _ | assumption | refine Below.drew ?_ | refine Below.drewN ?_ _ | refine Below.allocT ?_ (Nat.le_refl _) _ | refine Below.setCell ?_ (by simp <;> omega) _ | refine Below.to ?_ (by assumption) (Nat.le_refl _)))
  clear hK K hHeld
  have hHeld := hNext
  clear hNext
  (try dsimp only at hHeld)
  try simp only [zX]
  refine zT 12 rfl ?_
  refine wpAnyH_done (by kernel_rfl) ?_ _
  all_goals
    have hr := HR.out
    unfold cutC at hr
    subst hr
    go_wp2_with fail
    go_ret
    exact ⟨rfl, by repeat (first | exact hG | refine GrQ.drew ?_ | refine GrQ.alloc ?_ _)⟩
end Go.Proofs.YtehadoecnmfeoaaGreat
/- slices.SortFunc over pieces, pins and nets: the shelf's contract laid at this program by the kit's tool in plain words. -/
namespace Go.Proofs.YtehadoecnmfeoaaGreat
open Go.Shelf
def sfRen_f94 : Go.Shelf.Ren := ⟨fun | 6 => 94 | 15 => 160 | 14 => 165 | 28 => 214 | 29 => 215 | 20 => 221 | 21 => 222 | 22 => 223 | 23 => 224 | 24 => 225 | 25 => 226 | 26 => 227 | 27 => 228 | 46 => 247 | 47 => 243 | 48 => 244 | 49 => 248 | 50 => 249 | 57 => 269 | n => n, fun | 22 => 63 | 24 => 67 | 25 => 136 | 3 => 3 | 39 => 173 | 0 => 0 | 53 => 253 | 55 => 255 | 4 => 4 | 46 => 247 | 45 => 246 | 50 => 61 | 5 => 5 | 9 => 9 | 66 => 282 | 70 => 286 | 76 => 302 | 77 => 205 | n => n, fun | n => n⟩
theorem sfLays_f94 : Go.Proofs.SlLaysF0.n6 Tryz.prog sfRen_f94 := {
  mixed := by kernel_rfl
  f6 := ⟨Tryz.f94.name, by decide, Tryz.func94.trans (congrArg some (by kernel_rfl))⟩
  f14 := ⟨Tryz.f165.name, by decide, Tryz.func165.trans (congrArg some (by kernel_rfl))⟩
  f15 := Tryz.func160.trans (congrArg some (by kernel_rfl))
  f20 := ⟨Tryz.f221.name, by decide, Tryz.func221.trans (congrArg some (by kernel_rfl))⟩
  f21 := ⟨Tryz.f222.name, by decide, Tryz.func222.trans (congrArg some (by kernel_rfl))⟩
  f22 := ⟨Tryz.f223.name, by decide, Tryz.func223.trans (congrArg some (by kernel_rfl))⟩
  f23 := ⟨Tryz.f224.name, by decide, Tryz.func224.trans (congrArg some (by kernel_rfl))⟩
  f24 := ⟨Tryz.f225.name, by decide, Tryz.func225.trans (congrArg some (by kernel_rfl))⟩
  f25 := ⟨Tryz.f226.name, by decide, Tryz.func226.trans (congrArg some (by kernel_rfl))⟩
  f26 := ⟨Tryz.f227.name, by decide, Tryz.func227.trans (congrArg some (by kernel_rfl))⟩
  f27 := ⟨Tryz.f228.name, by decide, Tryz.func228.trans (congrArg some (by kernel_rfl))⟩
  f28 := Tryz.func214.trans (congrArg some (by kernel_rfl))
  f29 := Tryz.func215.trans (congrArg some (by kernel_rfl))
  f46 := ⟨Tryz.f247.name, by decide, Tryz.func247.trans (congrArg some (by kernel_rfl))⟩
  f47 := Tryz.func243.trans (congrArg some (by kernel_rfl))
  f48 := Tryz.func244.trans (congrArg some (by kernel_rfl))
  f49 := ⟨Tryz.f248.name, by decide, Tryz.func248.trans (congrArg some (by kernel_rfl))⟩
  f50 := ⟨Tryz.f249.name, by decide, Tryz.func249.trans (congrArg some (by kernel_rfl))⟩
  f57 := ⟨Tryz.f269.name, by decide, Tryz.func269.trans (congrArg some (by kernel_rfl))⟩
  t0 := Tryz.underlying0
  a0 := Tryz.isAgg0
  z0 := Tryz.sizeOf0
  v0 := Tryz.zeroValue0
  t3 := Tryz.underlying3
  a3 := Tryz.isAgg3
  z3 := Tryz.sizeOf3
  v3 := Tryz.zeroValue3
  t4 := Tryz.underlying4
  a4 := Tryz.isAgg4
  z4 := Tryz.sizeOf4
  v4 := Tryz.zeroValue4
  t5 := Tryz.underlying5
  a5 := Tryz.isAgg5
  z5 := Tryz.sizeOf5
  v5 := Tryz.zeroValue5
  t9 := Tryz.underlying9
  a9 := Tryz.isAgg9
  z9 := Tryz.sizeOf9
  v9 := Tryz.zeroValue9
  t22 := Tryz.underlying63
  a22 := Tryz.isAgg63
  z22 := Tryz.sizeOf63
  v22 := Tryz.zeroValue63
  t25 := Tryz.underlying136
  a25 := Tryz.isAgg136
  z25 := Tryz.sizeOf136
  v25 := Tryz.zeroValue136
  t39 := Tryz.underlying173
  a39 := Tryz.isAgg173
  z39 := Tryz.sizeOf173
  v39 := Tryz.zeroValue173
  t45 := Tryz.underlying246
  a45 := Tryz.isAgg246
  z45 := Tryz.sizeOf246
  v45 := Tryz.zeroValue246
  t46 := Tryz.underlying247
  a46 := Tryz.isAgg247
  z46 := Tryz.sizeOf247
  v46 := Tryz.zeroValue247
  t50 := Tryz.underlying61
  a50 := Tryz.isAgg61
  z50 := Tryz.sizeOf61
  v50 := Tryz.zeroValue61
  t53 := Tryz.underlying253
  a53 := Tryz.isAgg253
  z53 := Tryz.sizeOf253
  v53 := Tryz.zeroValue253
  t55 := Tryz.underlying255
  a55 := Tryz.isAgg255
  z55 := Tryz.sizeOf255
  v55 := Tryz.zeroValue255
  t66 := Tryz.underlying282
  a66 := Tryz.isAgg282
  z66 := Tryz.sizeOf282
  v66 := Tryz.zeroValue282
  t70 := Tryz.underlying286
  a70 := Tryz.isAgg286
  z70 := Tryz.sizeOf286
  v70 := Tryz.zeroValue286
  t76 := Tryz.underlying302
  a76 := Tryz.isAgg302
  z76 := Tryz.sizeOf302
  v76 := Tryz.zeroValue302
  t77 := Tryz.underlying205
  a77 := Tryz.isAgg205
  z77 := Tryz.sizeOf205
  v77 := Tryz.zeroValue205 }
def sfRen_f183 : Go.Shelf.Ren := ⟨fun | 6 => 183 | 15 => 160 | 14 => 235 | 28 => 214 | 29 => 215 | 20 => 252 | 21 => 253 | 22 => 254 | 23 => 255 | 24 => 256 | 25 => 257 | 26 => 258 | 27 => 259 | 46 => 270 | 47 => 243 | 48 => 244 | 49 => 271 | 50 => 272 | 57 => 276 | n => n, fun | 22 => 86 | 24 => 74 | 25 => 219 | 3 => 3 | 39 => 173 | 0 => 0 | 53 => 253 | 55 => 255 | 4 => 4 | 46 => 247 | 45 => 246 | 50 => 61 | 5 => 5 | 9 => 9 | 66 => 282 | 70 => 286 | 76 => 302 | 77 => 205 | n => n, fun | n => n⟩
def sfRen_f186 : Go.Shelf.Ren := ⟨fun | 6 => 186 | 15 => 160 | 14 => 236 | 28 => 214 | 29 => 215 | 20 => 260 | 21 => 261 | 22 => 262 | 23 => 263 | 24 => 264 | 25 => 265 | 26 => 266 | 27 => 267 | 46 => 273 | 47 => 243 | 48 => 244 | 49 => 274 | 50 => 275 | 57 => 277 | n => n, fun | 22 => 82 | 24 => 86 | 25 => 221 | 3 => 3 | 39 => 173 | 0 => 0 | 53 => 253 | 55 => 255 | 4 => 4 | 46 => 247 | 45 => 246 | 50 => 61 | 5 => 5 | 9 => 9 | 66 => 282 | 70 => 286 | 76 => 302 | 77 => 205 | n => n, fun | n => n⟩
def sfRen_f186b : Go.Shelf.Ren := ⟨fun | 6 => 186 | 15 => 160 | 14 => 236 | 28 => 214 | 29 => 215 | 20 => 260 | 21 => 261 | 22 => 262 | 23 => 263 | 24 => 264 | 25 => 265 | 26 => 266 | 27 => 267 | 46 => 273 | 47 => 243 | 48 => 244 | 49 => 274 | 50 => 275 | 57 => 277 | n => n, fun | 22 => 82 | 24 => 86 | 25 => 221 | 3 => 3 | 39 => 173 | 0 => 0 | 53 => 253 | 55 => 255 | 4 => 4 | 46 => 247 | 45 => 246 | 50 => 61 | 5 => 5 | 9 => 9 | 66 => 282 | 70 => 286 | 76 => 302 | 77 => 205 | n => n, fun | n => n⟩
end Go.Proofs.YtehadoecnmfeoaaGreat
/- The library's sort at this program, over rows of the call's own. -/
namespace Go.Proofs.YtehadoecnmfeoaaGreat
open Go.RowKit Go.Sort Go.Shelf
set_option linter.unusedVariables false
set_option linter.unusedSimpArgs false
instance : Inhabited Ct := ⟨Ct.o⟩
theorem ctE_one (a : Ct) : ∀ v ∈ ctE a, v.oneCell' = true := fun v hv => by
  simp [ctE] at hv
  rcases hv with rfl | rfl | rfl <;> rfl
theorem cutC_of (x y : Ct) : ltOf cutC x y = ltK x y := cutC_lt x y
theorem ltK_ntrans (x y u : Ct) (h : ltK x y = false) (k : ltK y u = false) : ltK x u = false := by
  cases h2 : ltK x u with
  | false => rfl
  | true =>
    have h' : ¬ ltK x y = true := by rw [h]; simp
    have k' : ¬ ltK y u = true := by rw [k]; simp
    rw [ltK_iff] at h' k' h2
    omega
theorem cutC_swo : SWO (ltOf cutC) where
  irrefl x := by rw [cutC_of]; exact ltK_irr x
  trans x y z h k := by
    rw [cutC_of] at h k ⊢
    exact ltK_trans _ _ _ h k
  ntrans x y z h k := by
    rw [cutC_of] at h k ⊢
    exact ltK_ntrans _ _ _ h k
theorem sortK_row {α : Type} [Inhabited α] {enc : α → List Value} {k : Nat} (hk : ∀ a, (enc a).length = k) {w : World} {base g cap n e : Nat} {os : Array Obj} {cur : Array Value} {Q : List α} {d' : Array α} (hbase : base ≤ g) (hb : w.heap[g]? = some (.cells cur e (0, 0)))
    (h1 : Q.length ≤ cap) (h2 : cap ≤ maxLen) (h3 : cur.size = cap * k) (hp : d'.toList.Perm Q) :
    (sortWorldK enc k w g 0 n d' os).ownsRow base e k (.slice (some ⟨g, 0, none⟩) Q.length cap) d'.toList.length (rowV enc d'.toList) ∧ w.grownBy (sortWorldK enc k w g 0 n d' os) (some g) := by
  have hl : d'.toList.length = Q.length := hp.length_eq
  have e1 : sortWorldK enc k w g 0 n d' os = grow (putRow id (Sort.ahead w n) g 0 (rowV enc d'.toList).toArray) os := by
    have h4 := flatK_row hk d'.toList
    rw [Array.toArray_toList] at h4
    show grow (putRow id (Sort.ahead w n) g 0 (flatK enc k d')) os = _
    rw [h4]
  rw [e1, hl]
  exact ⟨ownsRow_sortedV (by rw [rowV_len hk, hl]) hbase hb h1 h2 h3, grownBy_sortedV _⟩
set_option maxRecDepth 100000 in
theorem sortCuts_own (Q : List Ct) (base : Nat) (v : Value) (w : World) (h60 : Q.length ≤ 1000) (h : w.ownsRow base 67 3 v Q.length (rowV ctE Q)) :
    Calls Tryz.prog 94 #[v, .func (.func 95) #[] #[]] w fun e w' => e = .returned (.tuple #[]) ∧ ∃ Q' : List Ct, Q'.Perm Q ∧ (∀ i j, i < j → j < Q'.length → ltK (Q'.getD j Ct.o) (Q'.getD i Ct.o) = false) ∧
      w'.ownsRow base 67 3 v Q'.length (rowV ctE Q') ∧ (base ≤ w.heap.size → Below base w w') := by
  have eg : ∀ args w, (callFunc 95 args).run Tryz.prog w = .ok (.enter 95 args) w := enters_of Tryz.func95 (by kernel_rfl) rfl
  rcases h.2 with ⟨h0, hl⟩ | ⟨g, cap, cur, rfl, hbg, hg, hnc, hcm, hcs, ht⟩
  · obtain rfl : Q = [] := List.length_eq_zero_iff.1 hl
    subst h0
    have hcon := AnyF.slices_SortFunc_none sfLays_f94 none 0 (.func (.func 95) #[] #[]) w
    refine Calls.mono hcon ?_
    rintro e w' ⟨rfl, rfl⟩
    exact ⟨rfl, [], List.Perm.refl _, fun i j _ hj => absurd hj (by simp), h, fun _ => Below.refl _ _⟩
  · have hgl : g < w.heap.size := (Array.getElem?_eq_some_iff.1 hg).1
    have hH : HoldsK ctE 3 w g 0 Q.toArray := by
      unfold HoldsK
      rw [flatK_row ctE_len]
      exact holds_row hg (by rw [rowV_len ctE_len]; exact ht)
    have hcon := AnyQ.slices_SortFunc sfLays_f94 3 Tryz.isAgg67 Tryz.sizeOf67 ctE ctE_len ctE_one cutC cutC_swo 95 #[] g 0 cap Q.toArray w eg (fun m os dk hs x y => cutsCmp_any x y _) hH hgl (by simp; omega)
    have e2 : Q.toArray.size = Q.length := by simp
    rw [e2] at hcon
    refine Calls.mono hcon ?_
    rintro e w' ⟨rfl, d', n, os, hp, hs, rfl⟩
    have hpl := perm_list (L := Q) (by rw [e2]; exact hp)
    obtain ⟨h1, h2⟩ := sortK_row (os := os) (n := n) ctE_len hbg hg hnc hcm hcs hpl
    refine ⟨rfl, d'.toList, hpl, fun i j hij hj => ?_, h1, fun hbs => ?_⟩
    · rw [← cutC_of]
      exact sorted_list (by rw [hp.1, e2]) hs Ct.o i j hij hj
    · exact (Below.refl base w).grown h2 hbs (fun k e => by injection e with e; omega)
end Go.Proofs.YtehadoecnmfeoaaGreat

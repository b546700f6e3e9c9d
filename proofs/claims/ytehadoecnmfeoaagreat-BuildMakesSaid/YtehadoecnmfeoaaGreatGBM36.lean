/- Part 36 of this claim's texts: walks and plain laws. -/
import Derived.Test.YtehadoecnmfeoaaGreatRows
import Derived.Test.YtehadoecnmfeoaaGreatGBM19
import Derived.Test.YtehadoecnmfeoaaGreatGBM8
import Derived.Test.YtehadoecnmfeoaaGreatGBM10
import Derived.Test.YtehadoecnmfeoaaGreatGBM21
import Derived.Deep.DeepMust
import Derived.Deep.RegionHeld3
import Derived.Deep.DrawnRows
/- What is picked and made: plain laws. -/
namespace Go.Proofs.YtehadoecnmfeoaaGreat
set_option linter.unusedVariables false
set_option linter.unusedSimpArgs false
/-- The modules that are picked, the first k of them looked at. -/
def pckK (ms : List Md) (x : List Bool) (k : Nat) : List Nat := (List.range k).filter fun i => pckB x (ms.getD i Md.o)
def pckL (ms : List Md) (x : List Bool) : List Nat := pckK ms x ms.length
theorem pckK_succ (ms : List Md) (x : List Bool) (k : Nat) : pckK ms x (k + 1) = if pckB x (ms.getD k Md.o) then pckK ms x k ++ [k] else pckK ms x k := by
  unfold pckK
  rw [List.range_succ, List.filter_append]
  rw [List.filter_cons]
  cases h : pckB x (ms.getD k Md.o) with
  | true => rfl
  | false => rw [if_neg (by simp), if_neg (by simp)]; exact List.append_nil _
theorem pckK_le (ms : List Md) (x : List Bool) (k : Nat) : (pckK ms x k).length ≤ k := by
  unfold pckK
  have := List.length_filter_le (fun i => pckB x (ms.getD i Md.o)) (List.range k)
  rwa [List.length_range] at this
theorem pckL_lt {ms : List Md} {x : List Bool} {i : Nat} (h : i ∈ pckL ms x) : i < ms.length ∧ pckB x (ms.getD i Md.o) = true := by
  unfold pckL pckK at h
  simpa using h
theorem range_get (ms : List Md) : (List.range ms.length).map (fun i => ms.getD i Md.o) = ms := by
  apply List.ext_getElem
  · simp
  · intro i h1 h2
    simp only [List.length_map, List.length_range] at h1
    simp [List.getD_eq_getElem?_getD, List.getElem?_eq_getElem h1]
theorem pckL_map (ms : List Md) (x : List Bool) : (pckL ms x).map (fun i => ms.getD i Md.o) = ms.filter (pckB x) := by
  have h : ((List.range ms.length).map (fun i => ms.getD i Md.o)).filter (pckB x) = (pckL ms x).map (fun i => ms.getD i Md.o) := List.filter_map
  rw [← h, range_get]
/-- The wires of some modules. -/
def wsI (ms : List Md) (L : List Nat) : List Int := L.flatMap fun i => (ms.getD i Md.o).ws
def wsP (ms : List Md) (x : List Bool) : List Int := wsI ms (pckL ms x)
/-- Each wire as often as it is picked. -/
def madeN (n : Nat) (ms : List Md) (x : List Bool) : List Nat := (List.range n).flatMap fun w => List.replicate (manyN ms x w) w
theorem madeN_succ (n : Nat) (ms : List Md) (x : List Bool) : madeN (n + 1) ms x = madeN n ms x ++ List.replicate (manyN ms x n) n := by
  unfold madeN
  rw [List.range_succ, List.flatMap_append]
  simp
theorem madeN_lt {n : Nat} {ms : List Md} {x : List Bool} {y : Nat} (h : y ∈ madeN n ms x) : y < n := by
  unfold madeN at h
  obtain ⟨w, hw, hy⟩ := List.mem_flatMap.1 h
  rw [List.mem_range] at hw
  have := (List.mem_replicate.1 hy).2
  omega
theorem madeN_asc (ms : List Md) (x : List Bool) : ∀ n, (madeN n ms x).Pairwise (· ≤ ·)
  | 0 => List.Pairwise.nil
  | n + 1 => by
    rw [madeN_succ, List.pairwise_append]
    refine ⟨madeN_asc ms x n, List.pairwise_replicate.2 (Or.inr (Nat.le_refl n)), fun a ha b hb => ?_⟩
    have h1 := madeN_lt ha
    have h2 := (List.mem_replicate.1 hb).2
    omega
theorem madeN_count (ms : List Md) (x : List Bool) (v : Nat) : ∀ n, (madeN n ms x).count v = if v < n then manyN ms x v else 0
  | 0 => rfl
  | n + 1 => by
    rw [madeN_succ, List.count_append, madeN_count ms x v n, List.count_replicate]
    by_cases h : n = v
    · subst h
      simp
    · have h2 : (n == v) = false := by simpa using h
      rw [h2]
      simp only [Bool.false_eq_true, if_false, Nat.add_zero]
      by_cases h3 : v < n
      · rw [if_pos h3, if_pos (by omega)]
      · rw [if_neg h3, if_neg (by omega)]
theorem many_pck (ms : List Md) (x : List Bool) (w : Nat) : manyN ms x w = ((pckL ms x).map fun i => occ (ms.getD i Md.o) w).sum := by
  unfold manyN
  rw [← pckL_map, List.map_map]
  rfl
theorem occ_count (d : Md) (w : Nat) : occ d w = d.ws.count (w : Int) := by
  unfold occ
  rw [List.count_eq_countP, List.countP_eq_length_filter]
theorem wsP_count (ms : List Md) (x : List Bool) (w : Nat) : (wsP ms x).count (w : Int) = manyN ms x w := by
  rw [many_pck]
  unfold wsP wsI
  rw [List.count_flatMap]
  congr 1
  apply List.map_congr_left
  intro i _
  exact (occ_count _ _).symm
theorem wsP_in {n : Nat} {ms : List Md} (h : ∀ d ∈ ms, wiresB n d.ws = true) {x : List Bool} {y : Int} (hy : y ∈ wsP ms x) : 0 ≤ y ∧ y < (n : Int) := by
  unfold wsP wsI at hy
  obtain ⟨i, hi, hy⟩ := List.mem_flatMap.1 hy
  have hi2 := (pckL_lt hi).1
  have hm : ms.getD i Md.o ∈ ms := by
    rw [List.getD_eq_getElem?_getD, List.getElem?_eq_getElem hi2]
    exact List.getElem_mem hi2
  obtain ⟨k, hk, he⟩ := List.mem_iff_getElem.1 hy
  have h1 := wires_at (h _ hm) hk
  rw [List.getD_eq_getElem?_getD, List.getElem?_eq_getElem hk, Option.getD_some, he] at h1
  exact ⟨h1.1, h1.2.1⟩
theorem count_ints (l : List Nat) (v : Nat) : (l.map fun (n : Nat) => (n : Int)).count (v : Int) = l.count v := by
  induction l with
  | nil => rfl
  | cons a t ih =>
    rw [List.map_cons, List.count_cons, List.count_cons, ih]
    by_cases h : a = v
    · subst h; simp
    · have h2 : ¬ (a : Int) = (v : Int) := by omega
      simp [h, h2]
/-- The wires of the picked modules, sorted. -/
theorem made_sort {n : Nat} {ms : List Md} (h : ∀ d ∈ ms, wiresB n d.ws = true) (x : List Bool) : (wsP ms x).mergeSort (fun a b => decide (a ≤ b)) = (madeN n ms x).map fun (n : Nat) => (n : Int) := by
  have h1 : ((wsP ms x).mergeSort (fun a b => decide (a ≤ b))).Perm ((madeN n ms x).map fun (n : Nat) => (n : Int)) := by
    refine (List.mergeSort_perm _ _).trans (List.perm_iff_count.2 fun a => ?_)
    by_cases ha : 0 ≤ a ∧ a < (n : Int)
    · obtain ⟨v, rfl⟩ : ∃ v : Nat, a = v := ⟨a.toNat, by omega⟩
      rw [wsP_count, count_ints, madeN_count, if_pos (by omega)]
    · rw [List.count_eq_zero_of_not_mem fun hm => ha (wsP_in h hm), List.count_eq_zero_of_not_mem fun hm => ?_]
      obtain ⟨v, hv, rfl⟩ := List.mem_map.1 hm
      have := madeN_lt hv
      omega
  have h2 := List.pairwise_mergeSort (le := fun x y : Int => decide (x ≤ y)) (fun a b c h1 h2 => by simp at *; omega) (fun a b => by simp; omega) (wsP ms x)
  have h3 : ((madeN n ms x).map fun (n : Nat) => (n : Int)).Pairwise (fun x y => decide (x ≤ y) = true) := by
    rw [List.pairwise_map]
    exact (madeN_asc ms x n).imp (fun {a b} q => by simp; omega)
  exact h1.eq_of_pairwise (fun a b _ _ p q => by simp at p q; omega) h2 h3
end Go.Proofs.YtehadoecnmfeoaaGreat
/- The first defect is a defect, and no other comes before it: plain laws. -/
namespace Go.Proofs.YtehadoecnmfeoaaGreat
set_option linter.unusedVariables false
set_option linter.unusedSimpArgs false
/-- The kind of defect that a wire has: by whether it belongs to the variant, and how often it is made. -/
def kndB (is : Bool) (n : Nat) : Nat := if is = true ∧ n = 0 then 1 else if is = false ∧ 0 < n then 2 else if 1 < n then 3 else 0
def kndN (l : Lo) (ms : List Md) (x : List Bool) (w : Nat) : Nat := kndB (evF1 (vf x) (l.ws.getD w Wi.o).form) (manyN ms x w)
end Go.Proofs.YtehadoecnmfeoaaGreat
/- What is picked, and how often a wire is in it (the elder): walks. -/
namespace Go.Proofs.YtehadoecnmfeoaaGreat
open Go.RowKit
set_option linter.unusedVariables false
set_option linter.unusedSimpArgs false
set_option maxRecDepth 100000 in
set_option maxHeartbeats 4000000 in
theorem rpick_any (ms : List Md) (x : List Bool) (N : Nat) (Am : Option Addr) (qm : Nat) (vv : Value) (w : World) (h60 : ms.length ≤ 60) (hm : Mods w w.heap.size (.slice Am ms.length qm) ms) (hx : Bols w w.heap.size vv x) (hN : x.length = N) (hv : ∀ d ∈ ms, validF N d.f = true) :
    Calls Tryz.prog 87 #[.slice Am ms.length qm, vv] w fun e w' => ∃ v, e = .returned v ∧ Nods w' w'.heap.size v (pckL ms x) ∧ Below w.heap.size w w' := by
  obtain ⟨i0, hi0, iz0, iz1, iz2⟩ := info_parts infoInt
  obtain ⟨Ax, qx, hvv⟩ := Sl.form hx
  have HM := hide hm
  have HX := hide hx
  have HN := hide hN
  have HV := hide hv
  obtain ⟨LR, hLR⟩ : ∃ z, pckL ms x = z := ⟨_, rfl⟩
  rw [hLR]
  have HLR := hide hLR
  subst hvv
  clear hm hx hN hv hLR
  go_enter Tryz.func87, Tryz.ntmps87
  go_wp2_with fail
  go_loopw [5, 6] (fun sv i wr => ∃ (k : Nat) (L : List Nat), i = .int .i64 k ∧ k ≤ ms.length ∧ L.length ≤ k ∧ Hid (pckK ms x k = L) ∧ Hid (wr.ownsRow w.heap.size 3 1 sv L.length (L.map fun (n : Nat) => Value.int .i64 n)) ∧ Hid (Below w.heap.size w wr)) (fun _ i _ => ms.length - (intOf i).toNat)
  case atStart => exact ⟨0, [], rfl, Nat.zero_le _, Nat.le_refl _, rfl, World.ownsRow_nil _ _ _ _, Below.refl _ _⟩
  case round =>
    obtain ⟨k, L, rfl, hk, hLk, HL, HO, HB⟩ := hrel
    obtain ⟨A1, q1, hv1⟩ := owns_form HO.out
    subst hv1
    by_cases hkl : k < ms.length
    case neg =>
      have hkl1 : ¬ (k : Int) < (ms.length : Int) := by omega
      have hLL : LR = L := by rw [← HL.out, ← HLR.out]; unfold pckL; rw [show ms.length = k by omega]
      subst hLL
      clear hkl
      go_wp2_with fail
      go_ret
      exact ⟨_, rfl, Nods.of_own HO.out, HB.out⟩
    case pos =>
    have hkl1 : (k : Int) < (ms.length : Int) := by omega
    have ik0 : (0 : Int) ≤ (k : Int) := by omega
    obtain ⟨b, off, d, Af, qf, Aw, qw, HD, hA, hb, hq, HF, HWS, e0, e1⟩ := HM.out.at hkl
    subst hA
    have z0 := (HB.out.cell (p := ⟨b, off + k * 2, none⟩) hb).trans e0
    have z1 := (HB.out.cell (p := ⟨b, off + k * 2 + 1, none⟩) hb).trans e1
    have lb : b < wr.heap.size := Nat.lt_of_lt_of_le hb HB.out.size
    have iq : (ms.length : Int) ≤ (qm : Int) := by omega
    have htr := True_any d.f N x (.slice Af d.f.length qf) (.slice Ax x.length qx) w.heap.size wr (HF.out.below HB.out) (Sl.below HX.out HB.out) HN.out (HV.out d (by rw [← HD.out]; exact getD_mem7 hkl))
    have hps := pckK_succ ms x k
    rw [HL.out, HD.out] at hps
    unfold pckB at hps
    have hLl : L.length ≤ 60 := by omega
    cases hc : evF1 (vf x) d.f with
    | true =>
      rw [hc] at htr hps
      rw [if_pos rfl] at hps
      have HT := hide htr
      have HPS := hide hps
      clear e0 e1 hq htr hps hc
      go_wp2_with (first | (go_at_call 61; refine HT.out.mono ?_; rintro e w2 ⟨rfl, rfl⟩) | (at_builtin; go_must (refine wpList_append_own_at _ rfl (.tmp 20) (.tmp 22) _ rfl (w.heap.size) 3 i0 _ 1 8 Tryz.underlying45 hi0 iz0 iz1 iz2 rfl (by omega) _ _ _ rfl ((HO.out).alloc _) ⟨wr.heap.size, 0, none⟩ 1 1 [.int .i64 (k : Nat)] rfl rfl (World.news_of_block (heap_alloc_new wr _)) (by simp [Value.oneCell']) (by have h1 := hLl; unfold maxLen; omega) (by have h1 := hLl; omega) (by have h1 := HB.out.size; simp; omega) ?_); intro v1 w3 hown1 hg1 _ hat1; have HO1 := hide hown1; have HB1 := hide (Below.grown (Below.allocT HB.out (Nat.le_refl _) _) hg1 (by have := HB.out.size; simp; omega) (fun j hj => (HO.out.lt j hj).1)); clear hown1 hg1 hat1))
      go_roundw
      case rel => exact ⟨k + 1, L ++ [k], by go_num, by omega, by simp; omega, HPS, by
          have := HO1.out
          rw [List.map_append, List.length_append, List.length_singleton]
          exact this, HB1⟩
      case measure => simp [intOf]; omega
    | false =>
      rw [hc] at htr hps
      rw [if_neg (by simp)] at hps
      have HT := hide htr
      have HPS := hide hps
      clear e0 e1 hq htr hps hc
      go_wp2_with (go_at_call 61; refine HT.out.mono ?_; rintro e w2 ⟨rfl, rfl⟩)
      go_roundw
      case rel => exact ⟨k + 1, L, by go_num, by omega, by omega, HPS, HO, HB⟩
      case measure => simp [intOf]; omega
theorem many_le (ms : List Md) (x : List Bool) (w n : Nat) (h : ∀ d ∈ ms, wiresB n d.ws = true) : manyN ms x w ≤ ms.length := by
  rw [many_cnt h]
  unfold cntV withL
  refine Nat.le_trans (List.length_filter_le _ _) ?_
  rw [List.length_map]
  exact List.length_filter_le _ _
/-- Sum over the rest. -/
theorem many_end (f : Nat → Nat) {L : List Nat} {i : Nat} (h : i = L.length) : ((L.drop i).map f).sum = 0 := by
  rw [List.drop_eq_nil_of_le (by omega)]
  rfl
theorem many_step (f : Nat → Nat) {L : List Nat} {i : Nat} (h : i < L.length) : ((L.drop i).map f).sum = f (L.getD i 0) + ((L.drop (i + 1)).map f).sum := by
  rw [List.drop_eq_getElem_cons h, List.map_cons, List.sum_cons, List.getD_eq_getElem?_getD, List.getElem?_eq_getElem h]
  rfl
def occK (ws : List Int) (w k : Nat) : Nat := ((ws.drop k).filter fun x => x == (w : Int)).length
theorem occK_end {ws : List Int} {w k : Nat} (h : ws.length ≤ k) : occK ws w k = 0 := by
  unfold occK
  rw [List.drop_eq_nil_of_le h]
  rfl
theorem occK_step {ws : List Int} {w k : Nat} (h : k < ws.length) : occK ws w k = (if ws.getD k 0 == (w : Int) then 1 else 0) + occK ws w (k + 1) := by
  unfold occK
  rw [List.drop_eq_getElem_cons h, List.filter_cons, List.getD_eq_getElem?_getD, List.getElem?_eq_getElem h, Option.getD_some]
  cases ws[k] == (w : Int) with
  | true => rw [if_pos rfl, if_pos rfl, List.length_cons]; omega
  | false => rw [if_neg (by simp), if_neg (by simp)]; omega
theorem Nods.at8 {w : World} {B : Nat} {A : Option Addr} {m q : Nat} {S : List Nat} (h : Nods w B (.slice A m q) S) {k : Nat} (hk : k < S.length) : ∃ b off x, Hid (S.getD k 0 = x) ∧ A = some ⟨b, off, none⟩ ∧ b < B ∧ S.length ≤ q ∧ w.cell? ⟨b, off + k, none⟩ = some (.int .i64 (x : Nat)) := by
  obtain ⟨h1, h2, b, off, h3, h4, h5⟩ := sl_at h hk
  have h6 := h5 0 (by omega)
  rw [Nat.mul_one, Nat.add_zero] at h6
  exact ⟨b, off, _, rfl, h3, h4, by omega, h6⟩
set_option maxRecDepth 100000 in
set_option maxHeartbeats 4000000 in
theorem rmany_any (ms : List Md) (x : List Bool) (N k0 : Nat) (Am : Option Addr) (qm : Nat) (vv : Value) (w : World) (hd : SizedD ms) (h60 : ms.length ≤ 60) (hm : Mods w w.heap.size (.slice Am ms.length qm) ms) (hx : Bols w w.heap.size vv x) (hN : x.length = N) (hv : ∀ d ∈ ms, validF N d.f = true) (hT : manyN ms x k0 ≤ 100000) :
    Calls Tryz.prog 60 #[.slice Am ms.length qm, vv, .int .i64 (k0 : Nat)] w fun e w' => e = .returned (.int .i64 (manyN ms x k0 : Nat)) ∧ Below w.heap.size w w' := by
  have hpk := rpick_any ms x N Am qm vv w h60 hm hx hN hv
  have HPK := hide hpk
  have HM := hide hm
  have HD := hide hd
  obtain ⟨L, hL⟩ : ∃ L, pckL ms x = L := ⟨_, rfl⟩
  have hin : ∀ i, i < L.length → L.getD i 0 < ms.length := fun i hi => by
    refine (pckL_lt (x := x) ?_).1
    rw [hL, List.getD_eq_getElem?_getD, List.getElem?_eq_getElem hi]
    exact List.getElem_mem hi
  have hll : L.length ≤ 60 := by rw [← hL]; exact Nat.le_trans (pckK_le ms x _) h60
  obtain ⟨Q, hQ⟩ : ∃ Q, manyN ms x k0 = Q := ⟨_, rfl⟩
  rw [hQ] at hT ⊢
  have hQ2 := many_pck ms x k0
  rw [hQ, hL] at hQ2
  have HQ := hide hQ2
  have HIN := hide hin
  have HL := hide hL
  clear hpk hm hx hd hin hL hQ hQ2 hv
  go_enter Tryz.func60, Tryz.ntmps60
  go_wp2_with (go_at_call 87; refine HPK.out.mono ?_; rw [HL.out]; rintro e w1 ⟨v1, rfl, hv1, hB1⟩; obtain ⟨A1, q1, e1⟩ := Sl.form hv1; subst e1; have HV1 := hide hv1; have HB1 := hide hB1; clear hv1 hB1)
  obtain ⟨W1, hW1⟩ : ∃ wo : World, wo = w1 := ⟨_, rfl⟩
  subst hW1
  go_loopw [7, 9, 10, 11] (fun n i _ _ wr => ∃ (k s : Nat), n = .int .i64 s ∧ i = .int .i64 k ∧ k ≤ L.length ∧ s ≤ Q ∧ Hid (s + ((L.drop k).map fun i => occ (ms.getD i Md.o) k0).sum = Q) ∧ Hid (Below W1.heap.size W1 wr)) (fun _ i _ _ _ => L.length - (intOf i).toNat)
  case atStart => exact ⟨0, 0, rfl, rfl, Nat.zero_le _, Nat.zero_le _, by show _ = _; rw [HQ.out, Nat.zero_add, List.drop_zero], Below.refl _ _⟩
  case round =>
    obtain ⟨k, s, rfl, rfl, hk, hsQ, HS, HW⟩ := hrel
    by_cases hkl : k < L.length
    case neg =>
      have hkl1 : ¬ (k : Int) < (L.length : Int) := by omega
      have hs : s = Q := by have h1 := HS.out; rw [many_end _ (by omega)] at h1; omega
      subst hs
      clear hkl
      go_wp2_with fail
      go_ret
      exact ⟨rfl, Below.to HB1.out HW.out (Nat.le_refl _)⟩
    case pos =>
    have hkl1 : (k : Int) < (L.length : Int) := by omega
    have ik0 : (0 : Int) ≤ (k : Int) := by omega
    have HBW := hide (Below.to HB1.out HW.out (Nat.le_refl _))
    obtain ⟨b1, o1, j, HJ, hA1, hb1, hq1, ej0⟩ := Nods.at8 (Sl.below HV1.out HW.out) hkl
    have hjm : j < ms.length := by rw [← HJ.out]; exact HIN.out k hkl
    obtain ⟨b, off, d, Af, qf, Aw, qw, HDD, hA, hb, hq, HF, HWS, e0, e1⟩ := HM.out.at hjm
    subst hA hA1
    have z1 := (HBW.out.cell (p := ⟨b, off + j * 2 + 1, none⟩) hb).trans e1
    have lb : b < wr.heap.size := Nat.lt_of_lt_of_le hb HBW.out.size
    have lb1 : b1 < wr.heap.size := Nat.lt_of_lt_of_le hb1 HW.out.size
    have iq : (ms.length : Int) ≤ (qm : Int) := by omega
    have iq1 : (L.length : Int) ≤ (q1 : Int) := by omega
    have ij0 : (0 : Int) ≤ (j : Int) := by omega
    have ij1 : (j : Int) < (ms.length : Int) := by omega
    have hdw := (HD.out.f d (by rw [← HDD.out]; exact getD_mem7 hjm)).2
    unfold maxLen at hdw
    have hst := many_step (fun i => occ (ms.getD i Md.o) k0) hkl
    rw [HJ.out, HDD.out] at hst
    have hs2 := HS.out
    rw [hst] at hs2
    have HS2 := hide hs2
    clear hq hq1 e0 e1 hst hs2 HS
    go_wp2_with fail
    obtain ⟨W2, hW2⟩ : ∃ wo : World, wo = wr := ⟨_, rfl⟩
    subst hW2
    have HWR := hide (HWS.out.up HBW.out)
    obtain ⟨R, hR⟩ : ∃ R, ((L.drop (k + 1)).map fun i => occ (ms.getD i Md.o) k0).sum = R := ⟨_, rfl⟩
    have hs3 := HS2.out
    rw [hR] at hs3
    have HR := hide hR
    have HS3 : Hid (s + occK d.ws k0 0 + R = Q) := by
      show _ = _
      have h1 : occ d k0 = occK d.ws k0 0 := rfl
      omega
    clear hs3 hR HS2 z1 lb lb1
    go_loopw [7, 11] (fun n i wr => ∃ (t a : Nat), n = .int .i64 a ∧ i = .int .i64 t ∧ t ≤ d.ws.length ∧ a ≤ Q ∧ Hid (a + occK d.ws k0 t + R = Q) ∧ Hid (Below W2.heap.size W2 wr)) (fun _ i _ => d.ws.length - (intOf i).toNat)
    case atStart => exact ⟨0, s, rfl, rfl, Nat.zero_le _, hsQ, HS3, Below.refl _ _⟩
    case round =>
      obtain ⟨t, a, rfl, rfl, ht, haQ, HA, HW2⟩ := hrel
      by_cases htl : t < d.ws.length
      case neg =>
        have htl1 : ¬ (t : Int) < (d.ws.length : Int) := by omega
        have HA2 : Hid (a + ((L.drop (k + 1)).map fun i => occ (ms.getD i Md.o) k0).sum = Q) := by
          show _ = _
          have h1 := HA.out
          rw [occK_end (by omega)] at h1
          rw [HR.out]
          omega
        clear htl
        go_wp2_with fail
        go_roundw
        case rel => exact ⟨k + 1, a, by go_num, by go_num, by omega, haQ, HA2, Below.to HW.out HW2.out (Nat.le_refl _)⟩
        case measure => simp [intOf]; omega
      case pos =>
      have htl1 : (t : Int) < (d.ws.length : Int) := by omega
      have it0 : (0 : Int) ≤ (t : Int) := by omega
      obtain ⟨b2, o2, y, HY, hA2, hb2, hq2, ey0⟩ := HWR.out.at7 htl
      subst hA2
      have ey : wr.cell? ⟨b2, o2 + t, none⟩ = some (.int .i64 y) := (HW2.out.cell (p := ⟨b2, o2 + t, none⟩) hb2).trans ey0
      have lb2 : b2 < wr.heap.size := Nat.lt_of_lt_of_le hb2 HW2.out.size
      have iq2 : (d.ws.length : Int) ≤ (qw : Int) := by omega
      have hst := occK_step (w := k0) htl
      rw [HY.out] at hst
      have h2 := HA.out
      rw [hst] at h2
      clear ey0 hq2 HA
      cases hc : (y == (k0 : Int)) with
      | true =>
        rw [hc, if_pos rfl] at h2
        have haQ2 : a + 1 ≤ Q := by omega
        have HA : Hid (a + 1 + occK d.ws k0 (t + 1) + R = Q) := by show _ = _; omega
        clear h2 hst
        go_wp2_with fail
        go_roundw
        case rel => exact ⟨t + 1, a + 1, by go_num, by go_num, by omega, haQ2, HA, HW2⟩
        case measure => simp [intOf]; omega
      | false =>
        rw [hc, if_neg (by simp)] at h2
        have HA : Hid (a + occK d.ws k0 (t + 1) + R = Q) := by show _ = _; omega
        clear h2 hst
        go_wp2_with fail
        go_roundw
        case rel => exact ⟨t + 1, a, by go_num, by go_num, by omega, haQ, HA, HW2⟩
        case measure => simp [intOf]; omega
end Go.Proofs.YtehadoecnmfeoaaGreat

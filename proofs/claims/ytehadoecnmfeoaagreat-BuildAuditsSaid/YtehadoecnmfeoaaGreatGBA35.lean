/- Part 35 of this claim's texts: walks and plain laws. -/
import Derived.Test.YtehadoecnmfeoaaGreatRows
import Derived.Test.YtehadoecnmfeoaaGreatGBA19
import Derived.Test.YtehadoecnmfeoaaGreatGBA8
import Derived.Test.YtehadoecnmfeoaaGreatGBA10
import Derived.Test.YtehadoecnmfeoaaGreatGBA21
import Derived.Deep.DeepMust
import Derived.Deep.RegionHeld3
import Derived.Deep.DrawnRows
import Derived.Test.YtehadoecnmfeoaaGreatGBA28
/- What is picked and made: plain laws. -/
namespace Go.Proofs.YtehadoecnmfeoaaGreat
set_option linter.unusedVariables false
set_option linter.unusedSimpArgs false
/-- The modules that are picked, the first k of them looked at. -/
def pckK (ms : List Md) (x : List Bool) (k : Nat) : List Nat := (List.range k).filter fun i => pckB x (ms.getD i Md.o)
def pckL (ms : List Md) (x : List Bool) : List Nat := pckK ms x ms.length
theorem pckK_succ (ms : List Md) (x : List Bool) (k : Nat) : pckK ms x (k + 1) = if pckB x (ms.getD k Md.o) then pckK ms x k ++ [k] else pckK ms x k := by
  unfold pckK
  rw [List.range_succ, List.filter_append]
  rw [List.filter_cons]
  cases h : pckB x (ms.getD k Md.o) with
  | true => rfl
  | false => rw [if_neg (by simp), if_neg (by simp)]; exact List.append_nil _
theorem pckK_le (ms : List Md) (x : List Bool) (k : Nat) : (pckK ms x k).length ≤ k := by
  unfold pckK
  have := List.length_filter_le (fun i => pckB x (ms.getD i Md.o)) (List.range k)
  rwa [List.length_range] at this
theorem pckL_lt {ms : List Md} {x : List Bool} {i : Nat} (h : i ∈ pckL ms x) : i < ms.length ∧ pckB x (ms.getD i Md.o) = true := by
  unfold pckL pckK at h
  simpa using h
theorem range_get (ms : List Md) : (List.range ms.length).map (fun i => ms.getD i Md.o) = ms := by
  apply List.ext_getElem
  · simp
  · intro i h1 h2
    simp only [List.length_map, List.length_range] at h1
    simp [List.getD_eq_getElem?_getD, List.getElem?_eq_getElem h1]
theorem pckL_map (ms : List Md) (x : List Bool) : (pckL ms x).map (fun i => ms.getD i Md.o) = ms.filter (pckB x) := by
  have h : ((List.range ms.length).map (fun i => ms.getD i Md.o)).filter (pckB x) = (pckL ms x).map (fun i => ms.getD i Md.o) := List.filter_map
  rw [← h, range_get]
/-- The wires of some modules. -/
def wsI (ms : List Md) (L : List Nat) : List Int := L.flatMap fun i => (ms.getD i Md.o).ws
def wsP (ms : List Md) (x : List Bool) : List Int := wsI ms (pckL ms x)
/-- Each wire as often as it is picked. -/
def madeN (n : Nat) (ms : List Md) (x : List Bool) : List Nat := (List.range n).flatMap fun w => List.replicate (manyN ms x w) w
theorem many_pck (ms : List Md) (x : List Bool) (w : Nat) : manyN ms x w = ((pckL ms x).map fun i => occ (ms.getD i Md.o) w).sum := by
  unfold manyN
  rw [← pckL_map, List.map_map]
  rfl
end Go.Proofs.YtehadoecnmfeoaaGreat
/- The first defect is a defect, and no other comes before it: plain laws. -/
namespace Go.Proofs.YtehadoecnmfeoaaGreat
set_option linter.unusedVariables false
set_option linter.unusedSimpArgs false
/-- The kind of defect that a wire has: by whether it belongs to the variant, and how often it is made. -/
def kndB (is : Bool) (n : Nat) : Nat := if is = true ∧ n = 0 then 1 else if is = false ∧ 0 < n then 2 else if 1 < n then 3 else 0
theorem kndB_def (is : Bool) (n : Nat) {k : Nat} (h1 : 1 ≤ k) (h3 : k ≤ 3) : defB k is n = true ↔ kndB is n = k := by
  rcases (by omega : k = 1 ∨ k = 2 ∨ k = 3) with rfl | rfl | rfl <;> cases is <;> rcases (by omega : n = 0 ∨ n = 1 ∨ 1 < n) with rfl | rfl | h
  all_goals first
    | decide
    | (have a1 : ¬ n = 0 := by omega
       have a2 : 0 < n := by omega
       simp [defB, kndB, a1, a2, h])
def kndN (l : Lo) (ms : List Md) (x : List Bool) (w : Nat) : Nat := kndB (evF1 (vf x) (l.ws.getD w Wi.o).form) (manyN ms x w)
theorem audK_some {m : Mo} {f : List Int} {fs : List (List Int)} : ∀ {n : Nat} {r : Nat × List Bool}, audK m f fs n = some r → 1 ≤ r.1 ∧ r.1 ≤ n ∧ frstV m f fs r.1 = some r.2
  | 0, _, h => by cases h
  | n + 1, r, h => by
    cases h1 : audK m f fs n with
    | some r1 =>
      rw [audK_stays h1 (Nat.le_succ n)] at h
      injection h with h
      subst h
      have := audK_some h1
      exact ⟨this.1, Nat.le_succ_of_le this.2.1, this.2.2⟩
    | none =>
      rw [audK_next h1] at h
      cases h2 : frstV m f fs (n + 1) with
      | none => rw [h2] at h; cases h
      | some x =>
        rw [h2] at h
        injection h with h
        subst h
        exact ⟨Nat.succ_le_succ (Nat.zero_le n), Nat.le_refl _, h2⟩
theorem audN_some {l : Lo} {ms : List Md} : ∀ {n : Nat} {r : Nat × Nat × List Bool}, audN l ms n = some r → r.1 < n ∧ audK l.m (l.ws.getD r.1 Wi.o).form (withL ms r.1) 3 = some r.2
  | 0, _, h => by cases h
  | n + 1, r, h => by
    cases h1 : audN l ms n with
    | some r1 =>
      rw [audN_stays h1 (Nat.le_succ n)] at h
      injection h with h
      subst h
      have := audN_some h1
      exact ⟨Nat.lt_succ_of_lt this.1, this.2⟩
    | none =>
      rw [audN_next h1] at h
      cases h2 : audK l.m (l.ws.getD n Wi.o).form (withL ms n) 3 with
      | none => rw [h2] at h; cases h
      | some x =>
        rw [h2] at h
        injection h with h
        subst h
        exact ⟨Nat.lt_succ_self n, h2⟩
/-- What is found is a defect of a buildable variant. -/
theorem audA_is {l : Lo} {ms : List Md} (he : bldE l ms = 0) {r : Nat × Nat × List Bool} (h : audA l ms = some r) : r.1 < l.ws.length ∧ r.2.2 ∈ allM l.m ∧ kndN l ms r.2.2 r.1 = r.2.1 ∧ 1 ≤ r.2.1 ∧ r.2.1 ≤ 3 := by
  unfold audA at h
  rw [if_pos he] at h
  obtain ⟨h1, h2⟩ := audN_some h
  obtain ⟨h3, h4, h5⟩ := audK_some h2
  unfold frstV at h5
  have h6 := List.find?_some h5
  have hw : ∀ d ∈ ms, wiresB l.ws.length d.ws = true := fun d hd => by
    have := (bldE_ok he).ok d hd
    unfold rightB at this
    exact (Bool.and_eq_true _ _ ▸ this).1
  refine ⟨h1, List.mem_of_find?_eq_some h5, ?_, h3, h4⟩
  unfold kndN
  rw [many_cnt hw]
  exact (kndB_def _ _ h3 h4).1 h6
end Go.Proofs.YtehadoecnmfeoaaGreat
/- What is picked, and how often a wire is in it (the elder): walks. -/
namespace Go.Proofs.YtehadoecnmfeoaaGreat
open Go.RowKit
set_option linter.unusedVariables false
set_option linter.unusedSimpArgs false
set_option maxRecDepth 100000 in
set_option maxHeartbeats 4000000 in
theorem rpick_any (ms : List Md) (x : List Bool) (N : Nat) (Am : Option Addr) (qm : Nat) (vv : Value) (w : World) (h60 : ms.length ≤ 60) (hm : Mods w w.heap.size (.slice Am ms.length qm) ms) (hx : Bols w w.heap.size vv x) (hN : x.length = N) (hv : ∀ d ∈ ms, validF N d.f = true) :
    Calls Tryz.prog 87 #[.slice Am ms.length qm, vv] w fun e w' => ∃ v, e = .returned v ∧ Nods w' w'.heap.size v (pckL ms x) ∧ Below w.heap.size w w' := by
  obtain ⟨i0, hi0, iz0, iz1, iz2⟩ := info_parts infoInt
  obtain ⟨Ax, qx, hvv⟩ := Sl.form hx
  have HM := hide hm
  have HX := hide hx
  have HN := hide hN
  have HV := hide hv
  obtain ⟨LR, hLR⟩ : ∃ z, pckL ms x = z := ⟨_, rfl⟩
  rw [hLR]
  have HLR := hide hLR
  subst hvv
  clear hm hx hN hv hLR
  go_enter Tryz.func87, Tryz.ntmps87
  go_wp2_with fail
  go_loopw [5, 6] (fun sv i wr => ∃ (k : Nat) (L : List Nat), i = .int .i64 k ∧ k ≤ ms.length ∧ L.length ≤ k ∧ Hid (pckK ms x k = L) ∧ Hid (wr.ownsRow w.heap.size 3 1 sv L.length (L.map fun (n : Nat) => Value.int .i64 n)) ∧ Hid (Below w.heap.size w wr)) (fun _ i _ => ms.length - (intOf i).toNat)
  case atStart => exact ⟨0, [], rfl, Nat.zero_le _, Nat.le_refl _, rfl, World.ownsRow_nil _ _ _ _, Below.refl _ _⟩
  case round =>
    obtain ⟨k, L, rfl, hk, hLk, HL, HO, HB⟩ := hrel
    obtain ⟨A1, q1, hv1⟩ := owns_form HO.out
    subst hv1
    by_cases hkl : k < ms.length
    case neg =>
      have hkl1 : ¬ (k : Int) < (ms.length : Int) := by omega
      have hLL : LR = L := by rw [← HL.out, ← HLR.out]; unfold pckL; rw [show ms.length = k by omega]
      subst hLL
      clear hkl
      go_wp2_with fail
      go_ret
      exact ⟨_, rfl, Nods.of_own HO.out, HB.out⟩
    case pos =>
    have hkl1 : (k : Int) < (ms.length : Int) := by omega
    have ik0 : (0 : Int) ≤ (k : Int) := by omega
    obtain ⟨b, off, d, Af, qf, Aw, qw, HD, hA, hb, hq, HF, HWS, e0, e1⟩ := HM.out.at hkl
    subst hA
    have z0 := (HB.out.cell (p := ⟨b, off + k * 2, none⟩) hb).trans e0
    have z1 := (HB.out.cell (p := ⟨b, off + k * 2 + 1, none⟩) hb).trans e1
    have lb : b < wr.heap.size := Nat.lt_of_lt_of_le hb HB.out.size
    have iq : (ms.length : Int) ≤ (qm : Int) := by omega
    have htr := True_any d.f N x (.slice Af d.f.length qf) (.slice Ax x.length qx) w.heap.size wr (HF.out.below HB.out) (Sl.below HX.out HB.out) HN.out (HV.out d (by rw [← HD.out]; exact getD_mem7 hkl))
    have hps := pckK_succ ms x k
    rw [HL.out, HD.out] at hps
    unfold pckB at hps
    have hLl : L.length ≤ 60 := by omega
    cases hc : evF1 (vf x) d.f with
    | true =>
      rw [hc] at htr hps
      rw [if_pos rfl] at hps
      have HT := hide htr
      have HPS := hide hps
      clear e0 e1 hq htr hps hc
      go_wp2_with (first | (go_at_call 61; refine HT.out.mono ?_; rintro e w2 ⟨rfl, rfl⟩) | (at_builtin; go_must (refine wpList_append_own_at _ rfl (.tmp 20) (.tmp 22) _ rfl (w.heap.size) 3 i0 _ 1 8 Tryz.underlying45 hi0 iz0 iz1 iz2 rfl (by omega) _ _ _ rfl ((HO.out).alloc _) ⟨wr.heap.size, 0, none⟩ 1 1 [.int .i64 (k : Nat)] rfl rfl (World.news_of_block (heap_alloc_new wr _)) (by simp [Value.oneCell']) (by have h1 := hLl; unfold maxLen; omega) (by have h1 := hLl; omega) (by have h1 := HB.out.size; simp; omega) ?_); intro v1 w3 hown1 hg1 _ hat1; have HO1 := hide hown1; have HB1 := hide (Below.grown (Below.allocT HB.out (Nat.le_refl _) _) hg1 (by have := HB.out.size; simp; omega) (fun j hj => (HO.out.lt j hj).1)); clear hown1 hg1 hat1))
      go_roundw
      case rel => exact ⟨k + 1, L ++ [k], by go_num, by omega, by simp; omega, HPS, by
          have := HO1.out
          rw [List.map_append, List.length_append, List.length_singleton]
          exact this, HB1⟩
      case measure => simp [intOf]; omega
    | false =>
      rw [hc] at htr hps
      rw [if_neg (by simp)] at hps
      have HT := hide htr
      have HPS := hide hps
      clear e0 e1 hq htr hps hc
      go_wp2_with (go_at_call 61; refine HT.out.mono ?_; rintro e w2 ⟨rfl, rfl⟩)
      go_roundw
      case rel => exact ⟨k + 1, L, by go_num, by omega, by omega, HPS, HO, HB⟩
      case measure => simp [intOf]; omega
theorem many_le (ms : List Md) (x : List Bool) (w n : Nat) (h : ∀ d ∈ ms, wiresB n d.ws = true) : manyN ms x w ≤ ms.length := by
  rw [many_cnt h]
  unfold cntV withL
  refine Nat.le_trans (List.length_filter_le _ _) ?_
  rw [List.length_map]
  exact List.length_filter_le _ _
/-- Sum over the rest. -/
theorem many_end (f : Nat → Nat) {L : List Nat} {i : Nat} (h : i = L.length) : ((L.drop i).map f).sum = 0 := by
  rw [List.drop_eq_nil_of_le (by omega)]
  rfl
theorem many_step (f : Nat → Nat) {L : List Nat} {i : Nat} (h : i < L.length) : ((L.drop i).map f).sum = f (L.getD i 0) + ((L.drop (i + 1)).map f).sum := by
  rw [List.drop_eq_getElem_cons h, List.map_cons, List.sum_cons, List.getD_eq_getElem?_getD, List.getElem?_eq_getElem h]
  rfl
def occK (ws : List Int) (w k : Nat) : Nat := ((ws.drop k).filter fun x => x == (w : Int)).length
theorem occK_end {ws : List Int} {w k : Nat} (h : ws.length ≤ k) : occK ws w k = 0 := by
  unfold occK
  rw [List.drop_eq_nil_of_le h]
  rfl
theorem occK_step {ws : List Int} {w k : Nat} (h : k < ws.length) : occK ws w k = (if ws.getD k 0 == (w : Int) then 1 else 0) + occK ws w (k + 1) := by
  unfold occK
  rw [List.drop_eq_getElem_cons h, List.filter_cons, List.getD_eq_getElem?_getD, List.getElem?_eq_getElem h, Option.getD_some]
  cases ws[k] == (w : Int) with
  | true => rw [if_pos rfl, if_pos rfl, List.length_cons]; omega
  | false => rw [if_neg (by simp), if_neg (by simp)]; omega
theorem Nods.at8 {w : World} {B : Nat} {A : Option Addr} {m q : Nat} {S : List Nat} (h : Nods w B (.slice A m q) S) {k : Nat} (hk : k < S.length) : ∃ b off x, Hid (S.getD k 0 = x) ∧ A = some ⟨b, off, none⟩ ∧ b < B ∧ S.length ≤ q ∧ w.cell? ⟨b, off + k, none⟩ = some (.int .i64 (x : Nat)) := by
  obtain ⟨h1, h2, b, off, h3, h4, h5⟩ := sl_at h hk
  have h6 := h5 0 (by omega)
  rw [Nat.mul_one, Nat.add_zero] at h6
  exact ⟨b, off, _, rfl, h3, h4, by omega, h6⟩
set_option maxRecDepth 100000 in
set_option maxHeartbeats 4000000 in
theorem rmany_any (ms : List Md) (x : List Bool) (N k0 : Nat) (Am : Option Addr) (qm : Nat) (vv : Value) (w : World) (hd : SizedD ms) (h60 : ms.length ≤ 60) (hm : Mods w w.heap.size (.slice Am ms.length qm) ms) (hx : Bols w w.heap.size vv x) (hN : x.length = N) (hv : ∀ d ∈ ms, validF N d.f = true) (hT : manyN ms x k0 ≤ 100000) :
    Calls Tryz.prog 60 #[.slice Am ms.length qm, vv, .int .i64 (k0 : Nat)] w fun e w' => e = .returned (.int .i64 (manyN ms x k0 : Nat)) ∧ Below w.heap.size w w' := by
  have hpk := rpick_any ms x N Am qm vv w h60 hm hx hN hv
  have HPK := hide hpk
  have HM := hide hm
  have HD := hide hd
  obtain ⟨L, hL⟩ : ∃ L, pckL ms x = L := ⟨_, rfl⟩
  have hin : ∀ i, i < L.length → L.getD i 0 < ms.length := fun i hi => by
    refine (pckL_lt (x := x) ?_).1
    rw [hL, List.getD_eq_getElem?_getD, List.getElem?_eq_getElem hi]
    exact List.getElem_mem hi
  have hll : L.length ≤ 60 := by rw [← hL]; exact Nat.le_trans (pckK_le ms x _) h60
  obtain ⟨Q, hQ⟩ : ∃ Q, manyN ms x k0 = Q := ⟨_, rfl⟩
  rw [hQ] at hT ⊢
  have hQ2 := many_pck ms x k0
  rw [hQ, hL] at hQ2
  have HQ := hide hQ2
  have HIN := hide hin
  have HL := hide hL
  clear hpk hm hx hd hin hL hQ hQ2 hv
  go_enter Tryz.func60, Tryz.ntmps60
  go_wp2_with (go_at_call 87; refine HPK.out.mono ?_; rw [HL.out]; rintro e w1 ⟨v1, rfl, hv1, hB1⟩; obtain ⟨A1, q1, e1⟩ := Sl.form hv1; subst e1; have HV1 := hide hv1; have HB1 := hide hB1; clear hv1 hB1)
  obtain ⟨W1, hW1⟩ : ∃ wo : World, wo = w1 := ⟨_, rfl⟩
  subst hW1
  go_loopw [7, 9, 10, 11] (fun n i _ _ wr => ∃ (k s : Nat), n = .int .i64 s ∧ i = .int .i64 k ∧ k ≤ L.length ∧ s ≤ Q ∧ Hid (s + ((L.drop k).map fun i => occ (ms.getD i Md.o) k0).sum = Q) ∧ Hid (Below W1.heap.size W1 wr)) (fun _ i _ _ _ => L.length - (intOf i).toNat)
  case atStart => exact ⟨0, 0, rfl, rfl, Nat.zero_le _, Nat.zero_le _, by show _ = _; rw [HQ.out, Nat.zero_add, List.drop_zero], Below.refl _ _⟩
  case round =>
    obtain ⟨k, s, rfl, rfl, hk, hsQ, HS, HW⟩ := hrel
    by_cases hkl : k < L.length
    case neg =>
      have hkl1 : ¬ (k : Int) < (L.length : Int) := by omega
      have hs : s = Q := by have h1 := HS.out; rw [many_end _ (by omega)] at h1; omega
      subst hs
      clear hkl
      go_wp2_with fail
      go_ret
      exact ⟨rfl, Below.to HB1.out HW.out (Nat.le_refl _)⟩
    case pos =>
    have hkl1 : (k : Int) < (L.length : Int) := by omega
    have ik0 : (0 : Int) ≤ (k : Int) := by omega
    have HBW := hide (Below.to HB1.out HW.out (Nat.le_refl _))
    obtain ⟨b1, o1, j, HJ, hA1, hb1, hq1, ej0⟩ := Nods.at8 (Sl.below HV1.out HW.out) hkl
    have hjm : j < ms.length := by rw [← HJ.out]; exact HIN.out k hkl
    obtain ⟨b, off, d, Af, qf, Aw, qw, HDD, hA, hb, hq, HF, HWS, e0, e1⟩ := HM.out.at hjm
    subst hA hA1
    have z1 := (HBW.out.cell (p := ⟨b, off + j * 2 + 1, none⟩) hb).trans e1
    have lb : b < wr.heap.size := Nat.lt_of_lt_of_le hb HBW.out.size
    have lb1 : b1 < wr.heap.size := Nat.lt_of_lt_of_le hb1 HW.out.size
    have iq : (ms.length : Int) ≤ (qm : Int) := by omega
    have iq1 : (L.length : Int) ≤ (q1 : Int) := by omega
    have ij0 : (0 : Int) ≤ (j : Int) := by omega
    have ij1 : (j : Int) < (ms.length : Int) := by omega
    have hdw := (HD.out.f d (by rw [← HDD.out]; exact getD_mem7 hjm)).2
    unfold maxLen at hdw
    have hst := many_step (fun i => occ (ms.getD i Md.o) k0) hkl
    rw [HJ.out, HDD.out] at hst
    have hs2 := HS.out
    rw [hst] at hs2
    have HS2 := hide hs2
    clear hq hq1 e0 e1 hst hs2 HS
    go_wp2_with fail
    obtain ⟨W2, hW2⟩ : ∃ wo : World, wo = wr := ⟨_, rfl⟩
    subst hW2
    have HWR := hide (HWS.out.up HBW.out)
    obtain ⟨R, hR⟩ : ∃ R, ((L.drop (k + 1)).map fun i => occ (ms.getD i Md.o) k0).sum = R := ⟨_, rfl⟩
    have hs3 := HS2.out
    rw [hR] at hs3
    have HR := hide hR
    have HS3 : Hid (s + occK d.ws k0 0 + R = Q) := by
      show _ = _
      have h1 : occ d k0 = occK d.ws k0 0 := rfl
      omega
    clear hs3 hR HS2 z1 lb lb1
    go_loopw [7, 11] (fun n i wr => ∃ (t a : Nat), n = .int .i64 a ∧ i = .int .i64 t ∧ t ≤ d.ws.length ∧ a ≤ Q ∧ Hid (a + occK d.ws k0 t + R = Q) ∧ Hid (Below W2.heap.size W2 wr)) (fun _ i _ => d.ws.length - (intOf i).toNat)
    case atStart => exact ⟨0, s, rfl, rfl, Nat.zero_le _, hsQ, HS3, Below.refl _ _⟩
    case round =>
      obtain ⟨t, a, rfl, rfl, ht, haQ, HA, HW2⟩ := hrel
      by_cases htl : t < d.ws.length
      case neg =>
        have htl1 : ¬ (t : Int) < (d.ws.length : Int) := by omega
        have HA2 : Hid (a + ((L.drop (k + 1)).map fun i => occ (ms.getD i Md.o) k0).sum = Q) := by
          show _ = _
          have h1 := HA.out
          rw [occK_end (by omega)] at h1
          rw [HR.out]
          omega
        clear htl
        go_wp2_with fail
        go_roundw
        case rel => exact ⟨k + 1, a, by go_num, by go_num, by omega, haQ, HA2, Below.to HW.out HW2.out (Nat.le_refl _)⟩
        case measure => simp [intOf]; omega
      case pos =>
      have htl1 : (t : Int) < (d.ws.length : Int) := by omega
      have it0 : (0 : Int) ≤ (t : Int) := by omega
      obtain ⟨b2, o2, y, HY, hA2, hb2, hq2, ey0⟩ := HWR.out.at7 htl
      subst hA2
      have ey : wr.cell? ⟨b2, o2 + t, none⟩ = some (.int .i64 y) := (HW2.out.cell (p := ⟨b2, o2 + t, none⟩) hb2).trans ey0
      have lb2 : b2 < wr.heap.size := Nat.lt_of_lt_of_le hb2 HW2.out.size
      have iq2 : (d.ws.length : Int) ≤ (qw : Int) := by omega
      have hst := occK_step (w := k0) htl
      rw [HY.out] at hst
      have h2 := HA.out
      rw [hst] at h2
      clear ey0 hq2 HA
      cases hc : (y == (k0 : Int)) with
      | true =>
        rw [hc, if_pos rfl] at h2
        have haQ2 : a + 1 ≤ Q := by omega
        have HA : Hid (a + 1 + occK d.ws k0 (t + 1) + R = Q) := by show _ = _; omega
        clear h2 hst
        go_wp2_with fail
        go_roundw
        case rel => exact ⟨t + 1, a + 1, by go_num, by go_num, by omega, haQ2, HA, HW2⟩
        case measure => simp [intOf]; omega
      | false =>
        rw [hc, if_neg (by simp)] at h2
        have HA : Hid (a + occK d.ws k0 (t + 1) + R = Q) := by show _ = _; omega
        clear h2 hst
        go_wp2_with fail
        go_roundw
        case rel => exact ⟨t + 1, a, by go_num, by go_num, by omega, haQ, HA, HW2⟩
        case measure => simp [intOf]; omega
end Go.Proofs.YtehadoecnmfeoaaGreat
/- Check of modules: walk. -/
namespace Go.Proofs.YtehadoecnmfeoaaGreat
open Go.RowKit
set_option linter.unusedVariables false
set_option linter.unusedSimpArgs false
set_option maxRecDepth 100000 in
set_option maxHeartbeats 1000000 in
theorem bck1_any (d : Md) (Af : Option Addr) (qf : Nat) (Aw : Option Addr) (qw : Nat) (A0 A1 A2 A3 A4 A5 : Option Addr) (q0 q1 q2 q3 q4 q5 : Nat) (l : Lo) (lb : Nat) (w : World) (hs : SizedL l) (hd : d.f.length ≤ maxLen ∧ d.ws.length ≤ maxLen) (h : LoA w w.heap.size A0 A1 A2 A3 A4 A5 q0 q1 q2 q3 q4 q5 l) (hx : LoBox w lb A0 A1 A2 A3 A4 A5 q0 q1 q2 q3 q4 q5 l) (hf : Ints w w.heap.size (.slice Af d.f.length qf) d.f) (hw : Ints w w.heap.size (.slice Aw d.ws.length qw) d.ws) (hm : l.m.err = 0) :
    Calls Tryz.prog 82 #[.agg #[.slice Af d.f.length qf, .slice Aw d.ws.length qw], .pointer (some ⟨lb, 0, none⟩)] w fun e w' => e = .returned (.bool (!rightB l d)) ∧ Below w.heap.size w w' := by
  obtain ⟨z, hz⟩ : ∃ z, rightB l d = z := ⟨_, rfl⟩
  have hr := fun (w0 : World) (hB : Below w.heap.size w w0) => right_any d Af qf Aw qw A0 A1 A2 A3 A4 A5 q0 q1 q2 q3 q4 q5 l w0 hs hd (h.up hB) (hf.up hB) (hw.up hB) hm
  rw [hz] at hr ⊢
  have HR := hide hr
  have HX := hide hx
  clear h hx hf hw hr hz
  go_enter Tryz.func82, Tryz.ntmps82
  go_upto_region 1 with (fail)
  generalize hw0 : World.alloc _ _ = w0
  obtain ⟨hb0, hB0, hs0⟩ := alloc1 hw0
  have m0 := cellOf hb0 0
  have m1 := cellOf hb0 1
  have lm := box_lt hb0
  have c0 := cellOf (HX.out.to hB0) 0; have c1 := cellOf (HX.out.to hB0) 1; have c2 := cellOf (HX.out.to hB0) 2; have c3 := cellOf (HX.out.to hB0) 3; have c4 := cellOf (HX.out.to hB0) 4; have c5 := cellOf (HX.out.to hB0) 5
  have lc := box_lt (HX.out.to hB0)
  have HB0 := hide hB0
  clear hw0 hb0 hB0 hs0
  go_wp2_with (go_at_call 83; refine (HR.out _ HB0.out).mono ?_; rintro e w1 ⟨rfl, hB1⟩; have HB1 := hide (Below.to HB0.out hB1 (Nat.le_refl _)); clear hB1 m0 m1 lm c0 c1 c2 c3 c4 c5 lc)
  go_ret
  exact ⟨rfl, HB1.out⟩
set_option maxRecDepth 100000 in
theorem index_module (p : Md → Bool) (c0 : Value) (v : Value) (gs : List Md) (w : World) (hm : gs.length ≤ maxLen) (h : Mods w w.heap.size v gs)
    (hf : ∀ (i : Nat) (x : Md) (Af : Option Addr) (qf : Nat) (Aw : Option Addr) (qw : Nat) (W : World), i < gs.length → gs.getD i Md.o = x → Below w.heap.size w W → Ints W w.heap.size (.slice Af x.f.length qf) x.f → Ints W w.heap.size (.slice Aw x.ws.length qw) x.ws → Calls Tryz.prog 82 #[.agg #[.slice Af x.f.length qf, .slice Aw x.ws.length qw], c0] W fun e w' => e = .returned (.bool (p x)) ∧ Below W.heap.size W w') :
    Calls Tryz.prog 63 #[v, .func (.func 82) #[] #[c0]] w fun e w' => e = .returned (.int .i64 (idxI p gs)) ∧ Below w.heap.size w w' := by
  unfold maxLen at hm
  obtain ⟨A, cap, rfl⟩ := Mods.form h
  have H := hide h; clear h
  have HF := hide hf; clear hf
  go_enter Tryz.func63, Tryz.ntmps63
  go_wp2
  go_loopw [5, 8] (fun _ i wr => ∃ k : Nat, k ≤ gs.length ∧ i = .int .i64 k ∧ Hid (∀ j, j < k → p (gs.getD j Md.o) = false) ∧ Below w.heap.size w wr) (fun _ i _ => gs.length - (intOf i).toNat)
  case atStart => exact ⟨0, Nat.zero_le _, rfl, fun j hj => by omega, Below.refl _ _⟩
  case round =>
    obtain ⟨k, hk, rfl, hz, hB⟩ := hrel
    by_cases hlt : k < gs.length
    · obtain ⟨b, off, x, Af, qf, Aw, qw, HX, rfl, hbb, hq, HFO, HWO, e0, e1⟩ := Mods.at (H.out.below hB) hlt
      have hf := fun W (hW : Below w.heap.size w W) => HF.out k x Af qf Aw qw W hlt HX.out hW
      have HF2 := hide hf
      have HB := hide hB
      clear hf
      by_cases hp : p x = true
      · have HP := hide hp
        clear hp
        go_wp2_with (go_at_call 82; refine (HF2.out _ hB HFO.out HWO.out).mono ?_; rw [HP.out]; rintro e w1 ⟨rfl, hB1⟩)
        go_ret
        exact ⟨ret_int (idxI_at p Md.o gs k hz.out hlt (by rw [HX.out]; exact HP.out)).symm, Below.to HB.out hB1 (Nat.le_refl _)⟩
      · have hp' : p x = false := by simpa using hp
        have HP := hide hp'
        clear hp hp'
        go_wp2_with (go_at_call 82; refine (HF2.out _ hB HFO.out HWO.out).mono ?_; rw [HP.out]; rintro e w1 ⟨rfl, hB1⟩)
        go_roundw
        case rel => exact ⟨k + 1, by omega, by go_num, fun j hj => by
            rcases Nat.lt_or_ge j k with h | h
            · exact hz.out j h
            · rw [show j = k from by omega, HX.out]; exact HP.out, Below.to HB.out hB1 (Nat.le_refl _)⟩
        case measure => simp [intOf]; omega
    · go_wp2
      go_ret
      exact ⟨ret_int (idxI_none p Md.o gs (fun j hj => hz.out j (by omega))).symm, hB⟩
set_option maxRecDepth 100000 in
theorem contains_module (p : Md → Bool) (c0 : Value) (v : Value) (gs : List Md) (w : World) (hm : gs.length ≤ maxLen) (h : Mods w w.heap.size v gs)
    (hf : ∀ (i : Nat) (x : Md) (Af : Option Addr) (qf : Nat) (Aw : Option Addr) (qw : Nat) (W : World), i < gs.length → gs.getD i Md.o = x → Below w.heap.size w W → Ints W w.heap.size (.slice Af x.f.length qf) x.f → Ints W w.heap.size (.slice Aw x.ws.length qw) x.ws → Calls Tryz.prog 82 #[.agg #[.slice Af x.f.length qf, .slice Aw x.ws.length qw], c0] W fun e w' => e = .returned (.bool (p x)) ∧ Below W.heap.size W w') :
    Calls Tryz.prog 81 #[v, .func (.func 82) #[] #[c0]] w fun e w' => e = .returned (.bool (gs.any p)) ∧ Below w.heap.size w w' := by
  have hc := index_module p c0 v gs w hm h hf
  have he := idxI_any p gs
  have hlo := idxI_lo p gs
  have hhi := idxI_hi p gs
  obtain ⟨z, hz⟩ : ∃ z, idxI p gs = z := ⟨_, rfl⟩
  rw [hz] at hc he hlo hhi
  obtain ⟨A, cap, rfl⟩ := Mods.form h
  have HC := hide hc
  have HE := hide he
  unfold maxLen at hm
  have hz2 : z ≤ 9223372036854775807 := by omega
  clear hc he hz h hf
  go_enter Tryz.func81, Tryz.ntmps81
  go_wp2_with (go_at_call 63; refine HC.out.mono ?_; rintro e w1 ⟨rfl, hB1⟩)
  go_ret
  exact ⟨ret_bool HE.out, hB1⟩

set_option maxRecDepth 100000 in
set_option maxHeartbeats 2000000 in
theorem bCheck_any (ms : List Md) (Am : Option Addr) (qm : Nat) (A0 A1 A2 A3 A4 A5 : Option Addr) (q0 q1 q2 q3 q4 q5 : Nat) (l : Lo) (w : World) (hs : SizedL l) (hd : SizedD ms) (h : LoA w w.heap.size A0 A1 A2 A3 A4 A5 q0 q1 q2 q3 q4 q5 l) (hm : Mods w w.heap.size (.slice Am ms.length qm) ms) :
    Calls Tryz.prog 26 #[.agg #[.slice A0 l.m.opts.length q0, .slice A1 l.m.rules.length q1, .slice A2 l.ss.length q2, .slice A3 l.us.length q3, .slice A4 l.ps.length q4, .slice A5 l.ws.length q5], .slice Am ms.length qm] w fun e w' => e = .returned (.int .i64 (bldE l ms)) ∧ Below w.heap.size w w' := by
  have H := hide h
  have HS := hide hs
  have HM := hide hm
  have HD := hide hd
  have hdn := hd.n
  unfold maxLen at hdn
  clear h hs hm hd
  by_cases hz : l.err = 0
  case neg =>
    rw [bldE_err hz]
    obtain ⟨z, hze⟩ : ∃ z, l.err = z := ⟨_, rfl⟩
    rw [hze] at hz ⊢
    have HZ := hide hze
    have hz1 : (z != 0) = true := by simpa using hz
    clear hz hze
    go_enter Tryz.func26, Tryz.ntmps26
    go_upto_region 1 with (fail)
    generalize hw0 : World.alloc _ _ = w0
    obtain ⟨hb0, hB0, hs0⟩ := alloc1 hw0
    have HB0 := hide hB0
    have c0 := cellOf hb0 0; have c1 := cellOf hb0 1; have c2 := cellOf hb0 2; have c3 := cellOf hb0 3; have c4 := cellOf hb0 4; have c5 := cellOf hb0 5
    have hlb := box_lt hb0
    clear hw0 hb0 hB0 hs0
    go_wp2_with (go_at_call 62; refine (Check_any A0 A1 A2 A3 A4 A5 q0 q1 q2 q3 q4 q5 l _ HS.out (H.out.up HB0.out)).mono ?_; rw [HZ.out]; rintro e w1 ⟨rfl, hB1⟩; have HB1 := hide (Below.to HB0.out hB1 (Nat.le_refl _)); clear hB1 c0 c1 c2 c3 c4 c5 hlb)
    go_ret
    exact ⟨rfl, HB1.out⟩
  case pos =>
  have HZ := hide hz
  have hmo : l.m.err = 0 := (Lo.err_ok hz).m
  have HMO := hide hmo
  by_cases h60 : 60 < ms.length
  case pos =>
    have hr : bldE l ms = 120 := by unfold bldE; rw [if_neg (by simp [hz]), decide_eq_true h60]; rfl
    rw [hr]
    have hgt : (60 : Int) < (ms.length : Int) := by omega
    clear hz hmo hr h60
    go_enter Tryz.func26, Tryz.ntmps26
    go_upto_region 1 with (fail)
    generalize hw0 : World.alloc _ _ = w0
    obtain ⟨hb0, hB0, hs0⟩ := alloc1 hw0
    have HB0 := hide hB0
    have c0 := cellOf hb0 0; have c1 := cellOf hb0 1; have c2 := cellOf hb0 2; have c3 := cellOf hb0 3; have c4 := cellOf hb0 4; have c5 := cellOf hb0 5
    have hlb := box_lt hb0
    clear hw0 hb0 hB0 hs0
    go_wp2_with (go_at_call 62; refine (Check_any A0 A1 A2 A3 A4 A5 q0 q1 q2 q3 q4 q5 l _ HS.out (H.out.up HB0.out)).mono ?_; rw [HZ.out]; rintro e w1 ⟨rfl, hB1⟩; have HB1 := hide (Below.to HB0.out hB1 (Nat.le_refl _)); clear hB1 c0 c1 c2 c3 c4 c5 hlb)
    go_ret
    exact ⟨rfl, HB1.out⟩
  case neg =>
    have hgt : ¬ (60 : Int) < (ms.length : Int) := by omega
    obtain ⟨z, hze⟩ : ∃ z, ms.any (fun x => !rightB l x) = z := ⟨_, rfl⟩
    have hr : bldE l ms = if z = true then 120 else 0 := by
      unfold bldE
      rw [if_neg (by simp [hz]), decide_eq_false h60, Bool.false_or, ← hze]
      congr 1
      rw [List.any_eq_not_all_not]
      simp
    rw [hr]
    have HE := hide hze
    clear hz hmo hr h60 hze
    cases z with
    | true =>
      go_enter Tryz.func26, Tryz.ntmps26
      go_upto_region 1 with (fail)
      generalize hw0 : World.alloc _ _ = w0
      obtain ⟨hb0, hB0, hs0⟩ := alloc1 hw0
      have HB0 := hide hB0
      have HL0 : Hid (LoBox w0 w.heap.size A0 A1 A2 A3 A4 A5 q0 q1 q2 q3 q4 q5 l) := hb0
      have c0 := cellOf hb0 0; have c1 := cellOf hb0 1; have c2 := cellOf hb0 2; have c3 := cellOf hb0 3; have c4 := cellOf hb0 4; have c5 := cellOf hb0 5
      have hlb := box_lt hb0
      clear hw0 hb0 hB0 hs0
      go_wp2_with (first | (go_at_call 62; refine (Check_any A0 A1 A2 A3 A4 A5 q0 q1 q2 q3 q4 q5 l _ HS.out (H.out.up HB0.out)).mono ?_; rw [HZ.out]; rintro e w1 ⟨rfl, hB1⟩; have HL1 := hide (HL0.out.to hB1); have HB1 := hide (Below.to HB0.out hB1 (Nat.le_refl _)); clear hB1 c0 c1 c2 c3 c4 c5 hlb) | (go_at_call 81; refine (contains_module (fun x => !rightB l x) (.pointer (some ⟨w.heap.size, 0, none⟩)) _ ms w1 HD.out.n (HM.out.up HB1.out) (fun i x Af qf Aw qw W hi hx hW hf hg => bck1_any x Af qf Aw qw A0 A1 A2 A3 A4 A5 q0 q1 q2 q3 q4 q5 l _ W HS.out (by have := HD.out.f x (by rw [← hx]; exact getD_mem7 hi); exact this) ((H.out.up HB1.out).up hW) (HL1.out.to hW) (hf.more hW.size) (hg.more hW.size) HMO.out)).mono ?_; rw [HE.out]; rintro e w2 ⟨rfl, hB2⟩; have HB2 := hide (Below.to HB1.out hB2 (Nat.le_refl _)); clear hB2))
      go_ret
      exact ⟨rfl, HB2.out⟩
    | false =>
      go_enter Tryz.func26, Tryz.ntmps26
      go_upto_region 1 with (fail)
      generalize hw0 : World.alloc _ _ = w0
      obtain ⟨hb0, hB0, hs0⟩ := alloc1 hw0
      have HB0 := hide hB0
      have HL0 : Hid (LoBox w0 w.heap.size A0 A1 A2 A3 A4 A5 q0 q1 q2 q3 q4 q5 l) := hb0
      have c0 := cellOf hb0 0; have c1 := cellOf hb0 1; have c2 := cellOf hb0 2; have c3 := cellOf hb0 3; have c4 := cellOf hb0 4; have c5 := cellOf hb0 5
      have hlb := box_lt hb0
      clear hw0 hb0 hB0 hs0
      go_wp2_with (first | (go_at_call 62; refine (Check_any A0 A1 A2 A3 A4 A5 q0 q1 q2 q3 q4 q5 l _ HS.out (H.out.up HB0.out)).mono ?_; rw [HZ.out]; rintro e w1 ⟨rfl, hB1⟩; have HL1 := hide (HL0.out.to hB1); have HB1 := hide (Below.to HB0.out hB1 (Nat.le_refl _)); clear hB1 c0 c1 c2 c3 c4 c5 hlb) | (go_at_call 81; refine (contains_module (fun x => !rightB l x) (.pointer (some ⟨w.heap.size, 0, none⟩)) _ ms w1 HD.out.n (HM.out.up HB1.out) (fun i x Af qf Aw qw W hi hx hW hf hg => bck1_any x Af qf Aw qw A0 A1 A2 A3 A4 A5 q0 q1 q2 q3 q4 q5 l _ W HS.out (by have := HD.out.f x (by rw [← hx]; exact getD_mem7 hi); exact this) ((H.out.up HB1.out).up hW) (HL1.out.to hW) (hf.more hW.size) (hg.more hW.size) HMO.out)).mono ?_; rw [HE.out]; rintro e w2 ⟨rfl, hB2⟩; have HB2 := hide (Below.to HB1.out hB2 (Nat.le_refl _)); clear hB2))
      go_ret
      exact ⟨rfl, HB2.out⟩
end Go.Proofs.YtehadoecnmfeoaaGreat

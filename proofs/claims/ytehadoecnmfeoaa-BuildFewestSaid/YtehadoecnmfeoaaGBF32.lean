/- Part 32 of this claim's texts: walks and plain laws. -/
import Derived.Test.YtehadoecnmfeoaaRows
import Derived.Test.YtehadoecnmfeoaaGBF13
import Derived.Test.YtehadoecnmfeoaaGBF31
import Derived.Deep.DeepMust
import Derived.Deep.RegionHeld3
import Derived.Deep.DrawnRows
import Derived.Test.YtehadoecnmfeoaaGBF3
import Derived.Test.YtehadoecnmfeoaaGBF10
/- Whether a list of reels has room: walk. -/
namespace Go.Proofs.Ytehadoecnmfeoaa
open Go.RowKit
set_option linter.unusedVariables false
set_option linter.unusedSimpArgs false
/-- The used lengths with one more piece. -/
def addU (U : List Int) (r : Nat) (p : Int) : List Int := (if r = U.length then U ++ [0] else U).set r (U.getD r 0 + p)
def roomU (len : Int) : List Int → List Int → List Int → Option Nat
  | [], U, [] => some U.length
  | p :: ps, U, r :: l => if 0 ≤ r ∧ r ≤ (U.length : Int) ∧ U.getD r.toNat 0 + p ≤ len then roomU len ps (addU U r.toNat p) l else none
  | _, _, _ => none
theorem addU_len {U : List Int} {r : Nat} (p : Int) (h : r ≤ U.length) : (addU U r p).length = max U.length (r + 1) := by
  unfold addU
  rw [List.length_set]
  by_cases e : r = U.length
  · rw [if_pos e]; simp; omega
  · rw [if_neg e]; omega
theorem addU_get {U : List Int} {r : Nat} (p : Int) (h : r ≤ U.length) (i : Nat) : (addU U r p).getD i 0 = if i = r then U.getD r 0 + p else U.getD i 0 := by
  unfold addU
  by_cases e : i = r
  · subst e
    rw [if_pos rfl, List.getD_eq_getElem?_getD, List.getElem?_set_self (by
      by_cases e : i = U.length
      · rw [if_pos e]; simp; omega
      · rw [if_neg e]; omega)]
    rfl
  · rw [if_neg e, List.getD_eq_getElem?_getD, List.getElem?_set_ne (fun q => e q.symm)]
    by_cases e2 : r = U.length
    · rw [if_pos e2]
      rcases Nat.lt_trichotomy i U.length with h1 | h1 | h1
      · rw [List.getElem?_append_left h1, List.getD_eq_getElem?_getD]
      · omega
      · rw [List.getElem?_eq_none (by simp; omega), List.getD_eq_getElem?_getD, List.getElem?_eq_none (by omega)]
    · rw [if_neg e2, List.getD_eq_getElem?_getD]
theorem addU_lef {len : Int} {U : List Int} {r : Nat} (p : Int) (h : r ≤ U.length) : lefU len (addU U r p) = updL (lefU len U) r (lefU len U r - p) := by
  funext i
  unfold lefU updL
  rw [addU_get p h i]
  by_cases e : i = r
  · rw [if_pos e, if_pos e]; omega
  · rw [if_neg e, if_neg e]
theorem roomU_vld {len : Int} : ∀ (ps : List Int) (U : List Int) (l : List Nat), roomU len ps U (l.map fun (n : Nat) => (n : Int)) = vldR ps (lefU len U) U.length l
  | [], U, [] => rfl
  | [], _, _ :: _ => rfl
  | _ :: _, _, [] => rfl
  | p :: ps, U, r :: l => by
    rw [List.map_cons]
    unfold roomU vldR
    rw [Int.toNat_natCast]
    by_cases h : r ≤ U.length ∧ U.getD r 0 + p ≤ len
    · rw [if_pos ⟨by omega, by omega, h.2⟩, if_pos ⟨h.1, by unfold lefU; omega⟩, roomU_vld ps, addU_lef p h.1, addU_len p h.1]
    · rw [if_neg (by omega), if_neg (by unfold lefU; omega)]
theorem roomU_nat {len : Int} : ∀ (ps : List Int) (U : List Int) (l : List Int) {n : Nat}, roomU len ps U l = some n → ∃ l' : List Nat, l = l'.map fun (n : Nat) => (n : Int)
  | [], U, [], _, _ => ⟨[], rfl⟩
  | [], _, _ :: _, _, h => by cases h
  | _ :: _, _, [], _, h => by cases h
  | p :: ps, U, r :: l, n, h => by
    unfold roomU at h
    by_cases hc : 0 ≤ r ∧ r ≤ (U.length : Int) ∧ U.getD r.toNat 0 + p ≤ len
    · rw [if_pos hc] at h
      obtain ⟨l', rfl⟩ := roomU_nat ps _ l h
      exact ⟨r.toNat :: l', by rw [List.map_cons, Int.toNat_of_nonneg hc.1]⟩
    · rw [if_neg hc] at h; cases h
theorem roomU_len {len : Int} : ∀ (ps : List Int) (U : List Int) (l : List Int) {n : Nat}, roomU len ps U l = some n → l.length = ps.length
  | [], U, [], _, _ => rfl
  | [], _, _ :: _, _, h => by cases h
  | _ :: _, _, [], _, h => by cases h
  | p :: ps, U, r :: l, n, h => by
    unfold roomU at h
    by_cases hc : 0 ≤ r ∧ r ≤ (U.length : Int) ∧ U.getD r.toNat 0 + p ≤ len
    · rw [if_pos hc] at h
      simp [roomU_len ps _ l h]
    · rw [if_neg hc] at h; cases h
def RoomP (o : Option Nat) (w : World) (e : Ending) (w' : World) : Prop := e = .returned (.tuple #[.int .i64 (o.getD 0 : Nat), .bool o.isSome]) ∧ Below w.heap.size w w'
/-- What the cut leaves: the list, long enough. -/
def UsdP (B : Nat) (U : List Int) (w0 : World) (v : Value) (w : World) : Prop := w.ownsRow B 3 1 v U.length (U.map (Value.int .i64)) ∧ Below B w0 w
set_option maxRecDepth 100000 in
set_option maxHeartbeats 4000000 in
theorem room_any (ps ls : List Int) (len : Int) (A C : Option Addr) (q c : Nat) (w : World) (hps : ps.length ≤ 12) (hp : ∀ p ∈ ps, 1 ≤ p ∧ p ≤ len) (hlen : 0 ≤ len ∧ len ≤ 1000000) (hls : ls.length ≤ maxLen) (h : Ints w w.heap.size (.slice A ps.length q) ps) (h2 : Ints w w.heap.size (.slice C ls.length c) ls) :
    Calls Try.prog 11 #[.slice A ps.length q, .int .i64 len, .slice C ls.length c] w (RoomP (roomU len ps [] ls) w) := by
  obtain ⟨i0, hi0, iz0, iz1, iz2⟩ := info_parts infoInt
  have H := hide h
  have H2 := hide h2
  have HP := hide hp
  unfold maxLen at hls
  clear h h2 hp
  by_cases hl : ls.length = ps.length
  case neg =>
    have hr : roomU len ps [] ls = none := by
      cases hr : roomU len ps [] ls with
      | none => rfl
      | some n => exact absurd (roomU_len _ _ _ hr) hl
    rw [hr]
    have n1 : ((ls.length : Int) != (ps.length : Int)) = true := by simp; omega
    clear hr hl
    go_enter Try.func11, Try.ntmps11
    go_wp2_with fail
    go_ret2
    exact ⟨rfl, Below.refl _ _⟩
  case pos =>
  obtain ⟨res, hres⟩ : ∃ z, roomU len ps [] ls = z := ⟨_, rfl⟩
  rw [hres]
  have HRES := hide hres
  have n1 : ((ls.length : Int) != (ps.length : Int)) = false := by simp; omega
  have HLL := hide hl
  clear hres hl
  go_enter Try.func11, Try.ntmps11
  go_wp2_with fail
  go_loopw [8, 9] (fun u i wr => ∃ (k : Nat) (U : List Int), i = .int .i64 k ∧ k ≤ ls.length ∧ U.length ≤ k ∧ Hid (wr.ownsRow w.heap.size 3 1 u U.length (U.map (Value.int .i64))) ∧ Hid (Below w.heap.size w wr) ∧ Hid (roomU len (ps.drop k) U (ls.drop k) = res) ∧ Hid (∀ y ∈ U, 0 ≤ y ∧ y ≤ len)) (fun _ i _ => ls.length - (intOf i).toNat)
  case atStart => exact ⟨0, [], rfl, Nat.zero_le _, Nat.le_refl _, World.ownsRow_nil _ _ _ _, Below.refl _ _, HRES.out, fun y hy => by cases hy⟩
  case round =>
    clear HRES
    obtain ⟨k, U, rfl, hk, hUk, HO, HB, HR, HU⟩ := hrel
    obtain ⟨Au, qu, hv⟩ := owns_form HO.out
    subst hv
    by_cases hkl : k < ls.length
    case neg =>
      have hke : k = ls.length := by omega
      have hr : res = some U.length := by
        rw [← HR.out, List.drop_eq_nil_of_le (by have := HLL.out; omega), List.drop_eq_nil_of_le (by omega)]
        rfl
      subst hr
      have hkl2 : ¬ (k : Int) < (ls.length : Int) := by omega
      clear hke
      go_wp2_with fail
      go_ret2
      exact ⟨rfl, HB.out⟩
    case pos =>
    have hkl1 : (k : Int) < (ls.length : Int) := by omega
    have hkp : k < ps.length := by have := HLL.out; omega
    have hkp1 : (k : Int) < (ps.length : Int) := by omega
    have ik0 : (0 : Int) ≤ (k : Int) := by omega
    obtain ⟨bl, offl, r, HX, hC, hbl, hqc, el0⟩ := H2.out.at7 hkl
    obtain ⟨bp, offp, p, HPX, hA, hbp, hqp, ep0⟩ := H.out.at7 hkp
    have el : wr.cell? ⟨bl, offl + k, none⟩ = some (.int .i64 r) := (HB.out.cell (p := ⟨bl, offl + k, none⟩) hbl).trans el0
    have hblr : bl < wr.heap.size := Nat.lt_of_lt_of_le hbl HB.out.size
    have EL0 := hide el0
    have EP0 := hide ep0
    clear el0 ep0
    have iql : (ls.length : Int) ≤ (c : Int) := by omega
    have iqp : (ps.length : Int) ≤ (q : Int) := by omega
    subst hC hA
    have hpp := HP.out p (by rw [← HPX.out]; exact getD_mem7 hkp)
    have hd : ps.drop k = p :: ps.drop (k + 1) := by rw [drop_cons6 hkp, HPX.out]
    have hd2 : ls.drop k = r :: ls.drop (k + 1) := by rw [drop_cons6 hkl, HX.out]
    have hr := HR.out
    rw [hd, hd2] at hr
    unfold roomU at hr
    have HR1 := hide hr
    clear hr hd hd2 hqc hqp HR HX HPX
    by_cases hr0 : 0 ≤ r ∧ r ≤ (U.length : Int)
    case neg =>
      have hrn : res = none := by rw [← HR1.out, if_neg (fun h => hr0 ⟨h.1, h.2.1⟩)]
      subst hrn
      by_cases hr1 : r < 0
      · have d1 : decide (r < 0) = true := by simpa using hr1
        clear hr0
        go_wp2_with fail
        go_ret2
        exact ⟨rfl, HB.out⟩
      · have d1 : decide (r < 0) = false := by simpa using hr1
        have d2 : (U.length : Int) < r := by omega
        clear hr0
        go_wp2_with fail
        go_ret2
        exact ⟨rfl, HB.out⟩
    case pos =>
    obtain ⟨m, rfl⟩ : ∃ m : Nat, r = m := ⟨r.toNat, by omega⟩
    obtain ⟨hm0, hm1⟩ := hr0
    have hmU : m ≤ U.length := by omega
    have d1 : decide ((m : Int) < 0) = false := by simp
    have d2 : ¬ (U.length : Int) < (m : Int) := by omega
    obtain ⟨V, hV⟩ : ∃ V, (if m = U.length then U ++ [0] else U) = V := ⟨_, rfl⟩
    obtain ⟨u, hu⟩ : ∃ u, U.getD m 0 = u := ⟨_, rfl⟩
    have hmV : m < V.length := by
      rw [← hV]
      by_cases e : m = U.length
      · rw [if_pos e]; simp; omega
      · rw [if_neg e]; omega
    have hVu : V.getD m 0 = u := by
      rw [← hu, ← hV]
      by_cases e : m = U.length
      · rw [if_pos e]
        subst e
        simp [List.getD_eq_getElem?_getD]
      · rw [if_neg e]
    have hu0 : 0 ≤ u ∧ u ≤ len := by
      rw [← hu]
      rcases Nat.lt_or_ge m U.length with h1 | h1
      · exact HU.out _ (getD_mem7 h1)
      · rw [List.getD_eq_getElem?_getD, List.getElem?_eq_none (by omega)]
        exact ⟨Int.le_refl _, hlen.1⟩
    have hVl : V.length ≤ k + 1 := by
      rw [← hV]
      by_cases e : m = U.length
      · rw [if_pos e]; simp; omega
      · rw [if_neg e]; omega
    have hVm : ∀ y ∈ V, 0 ≤ y ∧ y ≤ len := by
      rw [← hV]
      by_cases e : m = U.length
      · rw [if_pos e]
        intro y hy
        rcases List.mem_append.1 hy with hy | hy
        · exact HU.out y hy
        · have : y = 0 := by simpa using hy
          subst this
          exact ⟨Int.le_refl _, hlen.1⟩
      · rw [if_neg e]; exact HU.out
    have hadd : addU U m p = V.set m (u + p) := by unfold addU; rw [hV, hu]
    rw [Int.toNat_natCast, hu, hadd] at HR1
    have HVM := hide hVm
    have HVV := hide hV
    have HVU := hide hVu
    clear hVm hV hVu hadd hu HU
    by_cases e : m = U.length
    · have hve := HVV.out
      rw [if_pos e] at hve
      have e2 : ((m : Int) == (U.length : Int)) = true := by simp; omega
      have hUl : U.length ≤ 12 := by omega
      subst hve
      clear e
      go_upto_region 11 with (at_builtin; go_must (refine wpList_append_own_at _ rfl (.tmp 42) (.tmp 43) _ rfl (w.heap.size) 3 i0 _ 1 8 Try.underlying22 hi0 iz0 iz1 iz2 rfl (by omega) _ _ _ rfl ((HO.out).alloc _) ⟨wr.heap.size, 0, none⟩ 1 1 [.int .i64 (0)] rfl rfl (World.news_of_block (heap_alloc_new wr _)) (by simp [Value.oneCell']) (by have h1 := hUl; unfold maxLen; omega) (by have h1 := hUl; omega) (by have h1 := HB.out.size; simp; omega) ?_); intro v1 w3 hown1 hg1 _ hat1; have HO1 := hide hown1; have HB1 := hide (Below.grown (Below.allocT HB.out (Nat.le_refl _) _) hg1 (by have := HB.out.size; simp; omega) (fun j hj => (HO.out.lt j hj).1)); clear hown1 hg1 hat1)
      rw [show U.map (Value.int .i64) ++ [.int .i64 0] = (U ++ [0]).map (Value.int .i64) from by simp, show U.length + 1 = (U ++ [0]).length from by simp] at HO1
      obtain ⟨V, hV⟩ : ∃ V, U ++ [0] = V := ⟨_, rfl⟩
      rw [hV] at HO1 HR1 hmV hVl HVM HVU
      obtain ⟨A1, q1, hv1⟩ := owns_form HO1.out
      subst hv1
      have hvl : U.length + 1 = V.length := by rw [← hV]; simp
      clear hV
      have HBC := hide HB1.out
      obtain ⟨g, hg, hgB, hq1, cur, hgh⟩ := own_at7 HO1.out (by omega)
      subst hg
      have c1 := HO1.out.cellAt m (by omega)
      have hxr : (V.map (Value.int .i64))[m]? = some (.int .i64 u) := by
        have h1 := HVU.out
        rw [List.getD_eq_getElem?_getD, List.getElem?_eq_getElem hmV, Option.getD_some] at h1
        rw [List.getElem?_map, List.getElem?_eq_getElem hmV, h1]
        rfl
      rw [hxr] at c1
      have f1 := HO1.out.frozenAt m
      have lg := box_lt hgh
      have iq1 : (V.length : Int) ≤ (q1 : Int) := by omega
      have im1 : (m : Int) < (V.length : Int) := by omega
      have im0 : (0 : Int) ≤ (m : Int) := by omega
      have el1 : w3.cell? ⟨bl, offl + k, none⟩ = some (.int .i64 (m : Int)) := (HBC.out.cell (p := ⟨bl, offl + k, none⟩) hbl).trans EL0.out
      have ep1 : w3.cell? ⟨bp, offp + k, none⟩ = some (.int .i64 p) := (HBC.out.cell (p := ⟨bp, offp + k, none⟩) hbp).trans EP0.out
      have wr1 : IntKind.i64.wrap (u + p) = u + p := IntWalk.i64_in _ (by omega)
      obtain ⟨ho2, _⟩ := HO1.out.stored m (.int .i64 (u + p))
      have hB2 : Below w.heap.size w (w3.setCell ⟨g, m, none⟩ (.int .i64 (u + p))).drew := Below.drew (Below.setCell HBC.out hgB _)
      have ho2 := owns_below ho2 (Below.drew (Below.refl _ _))
      clear el hxr hgh
      have hlg : ¬ bl = g := by omega
      have hpg : ¬ bp = g := by omega
      have hlw : bl < w3.heap.size := by omega
      have hpw : bp < w3.heap.size := by omega
      have hKeep : Hid (w3.grownBy w3.drew (some g)) := only_drew (only_refl _ _)
      refine wp_region_held_drew (S := (fun w' => w3.grownBy w' (some g))) (by kernel_rfl) ?_ (fun hHeld => ?_)
      · try dsimp only
        (first | exact only_refl _ _ | assumption | exact only_drew (only_refl _ _) | exact hKeep.out | exact only_drew (by assumption) | (refine only_trans hKeep.out ?_; refine only_setCell (only_setCell (only_setCell (only_setCell (only_refl _ _) ?_ _) ?_ _) ?_ _) ?_ _ <;> exact .inl rfl) | (refine only_trans hKeep.out ?_; refine only_setCell (only_refl _ _) ?_ _; exact .inl rfl))
      refine wpAnyH_take (i := 0) (v := ?v1_0) rfl (by kernel_rfl) (by kernel_rfl) (by kernel_rfl) (fun _ _ _ h => h) (Or.inl ⟨by rfl, ?y1_0⟩) (by assumption) ?r1_0
      case' y1_0 => (intro w hSw; (try dsimp only at hSw); have hcS := gcell hSw; clear hSw; go_simp; try with_reducible rfl)
      try simp only [zX]
      refine wpAnyH_take (i := 1) (v := ?v1_1) rfl (by kernel_rfl) (by kernel_rfl) (by kernel_rfl) (fun _ _ _ h => h) (Or.inl ⟨by rfl, ?y1_1⟩) (by assumption) ?r1_1
      case' y1_1 => (intro w hSw; (try dsimp only at hSw); have hcS := gcell hSw; clear hSw; go_simp; try with_reducible rfl)
      try simp only [zX]
      refine wpAnyH_take (i := 2) (v := ?v1_2) rfl (by kernel_rfl) (by kernel_rfl) (by kernel_rfl) (fun _ _ _ h => h) (Or.inl ⟨by rfl, ?y1_2⟩) (by assumption) ?r1_2
      case' y1_2 => (intro w hSw; (try dsimp only at hSw); have hcS := gcell hSw; clear hSw; go_simp; try with_reducible rfl)
      try simp only [zX]
      refine wpAnyH_take (i := 3) (v := ?v1_3) rfl (by kernel_rfl) (by kernel_rfl) (by kernel_rfl) (fun _ _ _ h => h) (Or.inl ⟨by rfl, ?y1_3⟩) (by assumption) ?r1_3
      case' y1_3 => (intro w hSw; (try dsimp only at hSw); have hcS := gcell hSw; clear hSw; go_simp; try with_reducible rfl)
      try simp only [zX]
      refine wpAnyH_take (i := 4) (v := ?v1_4) rfl (by kernel_rfl) (by kernel_rfl) (by kernel_rfl) (fun _ _ _ h => h) (Or.inl ⟨by rfl, ?y1_4⟩) (by assumption) ?r1_4
      case' y1_4 => (intro w hSw; (try dsimp only at hSw); have hcS := gcell hSw; clear hSw; go_simp; try with_reducible rfl)
      try simp only [zX]
      refine wpAnyH_take (i := 5) (v := ?v1_5) rfl (by kernel_rfl) (by kernel_rfl) (by kernel_rfl) (fun _ _ _ h => h) (Or.inl ⟨by rfl, ?y1_5⟩) (by assumption) ?r1_5
      case' y1_5 => (intro w hSw; (try dsimp only at hSw); have hcS := gcell hSw; clear hSw; go_simp; try with_reducible rfl)
      try simp only [zX]
      refine wpAnyH_take (i := 7) (v := ?v1_7) rfl (by kernel_rfl) (by kernel_rfl) (by kernel_rfl) (fun _ _ _ h => h) (Or.inl ⟨by rfl, ?y1_7⟩) (by assumption) ?r1_7
      case' y1_7 => (intro w hSw; (try dsimp only at hSw); have hcS := gcell hSw; clear hSw; go_simp; try with_reducible rfl)
      try simp only [zX]
      refine wpAnyH_take (i := 8) (v := ?v1_8) rfl (by kernel_rfl) (by kernel_rfl) (by kernel_rfl) (fun _ _ _ h => h) (Or.inl ⟨by rfl, ?y1_8⟩) (by assumption) ?r1_8
      case' y1_8 => (intro w hSw; (try dsimp only at hSw); have hcS := gcell hSw; clear hSw; go_simp; try with_reducible rfl)
      try simp only [zX]
      refine wpAnyH_take (i := 9) (v := ?v1_9) rfl (by kernel_rfl) (by kernel_rfl) (by kernel_rfl) (fun _ _ _ h => h) (Or.inl ⟨by rfl, ?y1_9⟩) (by assumption) ?r1_9
      case' y1_9 => (intro w hSw; (try dsimp only at hSw); have hcS := gcell hSw; clear hSw; go_simp; try with_reducible rfl)
      try simp only [zX]
      refine wpAnyH_take (i := 10) (v := ?v1_10) rfl (by kernel_rfl) (by kernel_rfl) (by kernel_rfl) (fun _ _ _ h => h) (Or.inl ⟨by rfl, ?y1_10⟩) (by assumption) ?r1_10
      case' y1_10 => (intro w hSw; (try dsimp only at hSw); have hcS := gcell hSw; clear hSw; go_simp; try with_reducible rfl)
      try simp only [zX]
      refine wpAnyH_ready (rs := [6]) (by kernel_rfl) (by simp) ?_
      refine AllReadyH.cons rfl (fun K hK => ?_) AllReadyH.nil
      go_simp
      refine hK.out _ _ ?_ (fun hNext => ?_)
      · try dsimp only
        (first | exact only_refl _ _ | assumption | exact only_drew (only_refl _ _) | exact hKeep.out | exact only_drew (by assumption) | (refine only_trans hKeep.out ?_; refine only_setCell (only_setCell (only_setCell (only_setCell (only_refl _ _) ?_ _) ?_ _) ?_ _) ?_ _ <;> exact .inl rfl) | (refine only_trans hKeep.out ?_; refine only_setCell (only_refl _ _) ?_ _; exact .inl rfl))
      clear hK K hHeld
      have hHeld := hNext
      clear hNext
      (try dsimp only at hHeld)
      try simp only [zX]
      refine wpAnyH_take (i := 11) (v := ?v1_11) rfl (by kernel_rfl) (by kernel_rfl) (by kernel_rfl) (fun _ _ _ h => h) (Or.inl ⟨by rfl, ?y1_11⟩) (by assumption) ?r1_11
      case' y1_11 => (intro w hSw; (try dsimp only at hSw); have hcS := gcell hSw; clear hSw; go_simp; try with_reducible rfl)
      try simp only [zX]
      refine wpAnyH_take (i := 12) (v := ?v1_12) rfl (by kernel_rfl) (by kernel_rfl) (by kernel_rfl) (fun _ _ _ h => h) (Or.inl ⟨by rfl, ?y1_12⟩) (by assumption) ?r1_12
      case' y1_12 => (intro w hSw; (try dsimp only at hSw); have hcS := gcell hSw; clear hSw; go_simp; try with_reducible rfl)
      try simp only [zX]
      refine wpAnyH_ready (rs := [13]) (by kernel_rfl) (by simp) ?_
      refine AllReadyH.cons rfl (fun K hK => ?_) AllReadyH.nil
      go_simp
      refine hK.out _ _ ?_ (fun hNext => ?_)
      · try dsimp only
        (first | exact only_refl _ _ | assumption | exact only_drew (only_refl _ _) | exact hKeep.out | exact only_drew (by assumption) | (refine only_trans hKeep.out ?_; refine only_setCell (only_setCell (only_setCell (only_setCell (only_refl _ _) ?_ _) ?_ _) ?_ _) ?_ _ <;> exact .inl rfl) | (refine only_trans hKeep.out ?_; refine only_setCell (only_refl _ _) ?_ _; exact .inl rfl))
      clear hK K hHeld
      have hHeld := hNext
      clear hNext
      (try dsimp only at hHeld)
      try simp only [zX]
      refine wpAnyH_done (by kernel_rfl) ?_ _
      generalize hw2 : World.drew (World.setCell _ _ _) = w2 at ho2 hB2 ⊢
      rw [← List.map_set] at ho2
      have c2 := ho2.cellAt m (by omega)
      rw [List.getElem?_map, List.getElem?_set_self hmV, Option.map_some] at c2
      have el2 : w2.cell? ⟨bl, offl + k, none⟩ = some (.int .i64 (m : Int)) := (hB2.cell (p := ⟨bl, offl + k, none⟩) hbl).trans EL0.out
      have HO2 := hide ho2
      have HB2 := hide hB2
      clear hw2 ho2 hB2 c1 f1 lg el1 ep1 hHeld hKeep hlw hpw
      have hlw2 : bl < w2.heap.size := by have := HB2.out.size; omega
      by_cases hax : u + p ≤ len
      · have hax2 : ¬ len < u + p := by omega
        have hr := HR1.out
        rw [if_pos ⟨hm0, hm1, hax⟩] at hr
        have HR := hide hr
        clear hr HR1
        go_wp2_with fail
        go_roundw
        case rel => exact ⟨k + 1, _, by go_num, by omega, by rw [List.length_set]; exact hVl, by rw [List.length_set]; exact HO2.out, HB2.out, HR.out, fun y hy => by
            rcases List.mem_or_eq_of_mem_set hy with h1 | h1
            · exact HVM.out y h1
            · subst h1; omega⟩
        case measure => simp [intOf]; omega
      · have hax2 : len < u + p := by omega
        have hr : res = none := by rw [← HR1.out, if_neg (fun h => hax h.2.2)]
        subst hr
        clear HR1
        go_wp2_with fail
        go_ret2
        exact ⟨rfl, HB2.out⟩
    · have hve := HVV.out
      rw [if_neg e] at hve
      have e2 : ((m : Int) == (U.length : Int)) = false := by simp; omega
      subst hve
      clear e
      go_upto_region 11 with (fail)
      have HO1 := HO
      have HBC := hide HB.out
      obtain ⟨g, hg, hgB, hqu, cur, hgh⟩ := own_at7 HO1.out (by omega)
      subst hg
      have c1 := HO1.out.cellAt m (by omega)
      have hxr : (U.map (Value.int .i64))[m]? = some (.int .i64 u) := by
        have h1 := HVU.out
        rw [List.getD_eq_getElem?_getD, List.getElem?_eq_getElem hmV, Option.getD_some] at h1
        rw [List.getElem?_map, List.getElem?_eq_getElem hmV, h1]
        rfl
      rw [hxr] at c1
      have f1 := HO1.out.frozenAt m
      have lg := box_lt hgh
      have iqu : (U.length : Int) ≤ (qu : Int) := by omega
      have im1 : (m : Int) < (U.length : Int) := by omega
      have im0 : (0 : Int) ≤ (m : Int) := by omega
      have el1 : wr.cell? ⟨bl, offl + k, none⟩ = some (.int .i64 (m : Int)) := (HBC.out.cell (p := ⟨bl, offl + k, none⟩) hbl).trans EL0.out
      have ep1 : wr.cell? ⟨bp, offp + k, none⟩ = some (.int .i64 p) := (HBC.out.cell (p := ⟨bp, offp + k, none⟩) hbp).trans EP0.out
      have wr1 : IntKind.i64.wrap (u + p) = u + p := IntWalk.i64_in _ (by omega)
      obtain ⟨ho2, _⟩ := HO1.out.stored m (.int .i64 (u + p))
      have hB2 : Below w.heap.size w (wr.setCell ⟨g, m, none⟩ (.int .i64 (u + p))).drew := Below.drew (Below.setCell HBC.out hgB _)
      have ho2 := owns_below ho2 (Below.drew (Below.refl _ _))
      clear el hxr hgh
      have hlg : ¬ bl = g := by omega
      have hpg : ¬ bp = g := by omega
      have hlw : bl < wr.heap.size := by omega
      have hpw : bp < wr.heap.size := by omega
      have hKeep : Hid (wr.grownBy wr.drew (some g)) := only_drew (only_refl _ _)
      refine wp_region_held_drew (S := (fun w' => wr.grownBy w' (some g))) (by kernel_rfl) ?_ (fun hHeld => ?_)
      · try dsimp only
        (first | exact only_refl _ _ | assumption | exact only_drew (only_refl _ _) | exact hKeep.out | exact only_drew (by assumption) | (refine only_trans hKeep.out ?_; refine only_setCell (only_setCell (only_setCell (only_setCell (only_refl _ _) ?_ _) ?_ _) ?_ _) ?_ _ <;> exact .inl rfl) | (refine only_trans hKeep.out ?_; refine only_setCell (only_refl _ _) ?_ _; exact .inl rfl))
      refine wpAnyH_take (i := 0) (v := ?v2_0) rfl (by kernel_rfl) (by kernel_rfl) (by kernel_rfl) (fun _ _ _ h => h) (Or.inl ⟨by rfl, ?y2_0⟩) (by assumption) ?r2_0
      case' y2_0 => (intro w hSw; (try dsimp only at hSw); have hcS := gcell hSw; clear hSw; go_simp; try with_reducible rfl)
      try simp only [zX]
      refine wpAnyH_take (i := 1) (v := ?v2_1) rfl (by kernel_rfl) (by kernel_rfl) (by kernel_rfl) (fun _ _ _ h => h) (Or.inl ⟨by rfl, ?y2_1⟩) (by assumption) ?r2_1
      case' y2_1 => (intro w hSw; (try dsimp only at hSw); have hcS := gcell hSw; clear hSw; go_simp; try with_reducible rfl)
      try simp only [zX]
      refine wpAnyH_take (i := 2) (v := ?v2_2) rfl (by kernel_rfl) (by kernel_rfl) (by kernel_rfl) (fun _ _ _ h => h) (Or.inl ⟨by rfl, ?y2_2⟩) (by assumption) ?r2_2
      case' y2_2 => (intro w hSw; (try dsimp only at hSw); have hcS := gcell hSw; clear hSw; go_simp; try with_reducible rfl)
      try simp only [zX]
      refine wpAnyH_take (i := 3) (v := ?v2_3) rfl (by kernel_rfl) (by kernel_rfl) (by kernel_rfl) (fun _ _ _ h => h) (Or.inl ⟨by rfl, ?y2_3⟩) (by assumption) ?r2_3
      case' y2_3 => (intro w hSw; (try dsimp only at hSw); have hcS := gcell hSw; clear hSw; go_simp; try with_reducible rfl)
      try simp only [zX]
      refine wpAnyH_take (i := 4) (v := ?v2_4) rfl (by kernel_rfl) (by kernel_rfl) (by kernel_rfl) (fun _ _ _ h => h) (Or.inl ⟨by rfl, ?y2_4⟩) (by assumption) ?r2_4
      case' y2_4 => (intro w hSw; (try dsimp only at hSw); have hcS := gcell hSw; clear hSw; go_simp; try with_reducible rfl)
      try simp only [zX]
      refine wpAnyH_take (i := 5) (v := ?v2_5) rfl (by kernel_rfl) (by kernel_rfl) (by kernel_rfl) (fun _ _ _ h => h) (Or.inl ⟨by rfl, ?y2_5⟩) (by assumption) ?r2_5
      case' y2_5 => (intro w hSw; (try dsimp only at hSw); have hcS := gcell hSw; clear hSw; go_simp; try with_reducible rfl)
      try simp only [zX]
      refine wpAnyH_take (i := 7) (v := ?v2_7) rfl (by kernel_rfl) (by kernel_rfl) (by kernel_rfl) (fun _ _ _ h => h) (Or.inl ⟨by rfl, ?y2_7⟩) (by assumption) ?r2_7
      case' y2_7 => (intro w hSw; (try dsimp only at hSw); have hcS := gcell hSw; clear hSw; go_simp; try with_reducible rfl)
      try simp only [zX]
      refine wpAnyH_take (i := 8) (v := ?v2_8) rfl (by kernel_rfl) (by kernel_rfl) (by kernel_rfl) (fun _ _ _ h => h) (Or.inl ⟨by rfl, ?y2_8⟩) (by assumption) ?r2_8
      case' y2_8 => (intro w hSw; (try dsimp only at hSw); have hcS := gcell hSw; clear hSw; go_simp; try with_reducible rfl)
      try simp only [zX]
      refine wpAnyH_take (i := 9) (v := ?v2_9) rfl (by kernel_rfl) (by kernel_rfl) (by kernel_rfl) (fun _ _ _ h => h) (Or.inl ⟨by rfl, ?y2_9⟩) (by assumption) ?r2_9
      case' y2_9 => (intro w hSw; (try dsimp only at hSw); have hcS := gcell hSw; clear hSw; go_simp; try with_reducible rfl)
      try simp only [zX]
      refine wpAnyH_take (i := 10) (v := ?v2_10) rfl (by kernel_rfl) (by kernel_rfl) (by kernel_rfl) (fun _ _ _ h => h) (Or.inl ⟨by rfl, ?y2_10⟩) (by assumption) ?r2_10
      case' y2_10 => (intro w hSw; (try dsimp only at hSw); have hcS := gcell hSw; clear hSw; go_simp; try with_reducible rfl)
      try simp only [zX]
      refine wpAnyH_ready (rs := [6]) (by kernel_rfl) (by simp) ?_
      refine AllReadyH.cons rfl (fun K hK => ?_) AllReadyH.nil
      go_simp
      refine hK.out _ _ ?_ (fun hNext => ?_)
      · try dsimp only
        (first | exact only_refl _ _ | assumption | exact only_drew (only_refl _ _) | exact hKeep.out | exact only_drew (by assumption) | (refine only_trans hKeep.out ?_; refine only_setCell (only_setCell (only_setCell (only_setCell (only_refl _ _) ?_ _) ?_ _) ?_ _) ?_ _ <;> exact .inl rfl) | (refine only_trans hKeep.out ?_; refine only_setCell (only_refl _ _) ?_ _; exact .inl rfl))
      clear hK K hHeld
      have hHeld := hNext
      clear hNext
      (try dsimp only at hHeld)
      try simp only [zX]
      refine wpAnyH_take (i := 11) (v := ?v2_11) rfl (by kernel_rfl) (by kernel_rfl) (by kernel_rfl) (fun _ _ _ h => h) (Or.inl ⟨by rfl, ?y2_11⟩) (by assumption) ?r2_11
      case' y2_11 => (intro w hSw; (try dsimp only at hSw); have hcS := gcell hSw; clear hSw; go_simp; try with_reducible rfl)
      try simp only [zX]
      refine wpAnyH_take (i := 12) (v := ?v2_12) rfl (by kernel_rfl) (by kernel_rfl) (by kernel_rfl) (fun _ _ _ h => h) (Or.inl ⟨by rfl, ?y2_12⟩) (by assumption) ?r2_12
      case' y2_12 => (intro w hSw; (try dsimp only at hSw); have hcS := gcell hSw; clear hSw; go_simp; try with_reducible rfl)
      try simp only [zX]
      refine wpAnyH_ready (rs := [13]) (by kernel_rfl) (by simp) ?_
      refine AllReadyH.cons rfl (fun K hK => ?_) AllReadyH.nil
      go_simp
      refine hK.out _ _ ?_ (fun hNext => ?_)
      · try dsimp only
        (first | exact only_refl _ _ | assumption | exact only_drew (only_refl _ _) | exact hKeep.out | exact only_drew (by assumption) | (refine only_trans hKeep.out ?_; refine only_setCell (only_setCell (only_setCell (only_setCell (only_refl _ _) ?_ _) ?_ _) ?_ _) ?_ _ <;> exact .inl rfl) | (refine only_trans hKeep.out ?_; refine only_setCell (only_refl _ _) ?_ _; exact .inl rfl))
      clear hK K hHeld
      have hHeld := hNext
      clear hNext
      (try dsimp only at hHeld)
      try simp only [zX]
      refine wpAnyH_done (by kernel_rfl) ?_ _
      generalize hw2 : World.drew (World.setCell _ _ _) = w2 at ho2 hB2 ⊢
      rw [← List.map_set] at ho2
      have c2 := ho2.cellAt m (by omega)
      rw [List.getElem?_map, List.getElem?_set_self hmV, Option.map_some] at c2
      have el2 : w2.cell? ⟨bl, offl + k, none⟩ = some (.int .i64 (m : Int)) := (hB2.cell (p := ⟨bl, offl + k, none⟩) hbl).trans EL0.out
      have HO2 := hide ho2
      have HB2 := hide hB2
      clear hw2 ho2 hB2 c1 f1 lg el1 ep1 hHeld hKeep hlw hpw
      have hlw2 : bl < w2.heap.size := by have := HB2.out.size; omega
      by_cases hax : u + p ≤ len
      · have hax2 : ¬ len < u + p := by omega
        have hr := HR1.out
        rw [if_pos ⟨hm0, hm1, hax⟩] at hr
        have HR := hide hr
        clear hr HR1
        go_wp2_with fail
        go_roundw
        case rel => exact ⟨k + 1, _, by go_num, by omega, by rw [List.length_set]; exact hVl, by rw [List.length_set]; exact HO2.out, HB2.out, HR.out, fun y hy => by
            rcases List.mem_or_eq_of_mem_set hy with h1 | h1
            · exact HVM.out y h1
            · subst h1; omega⟩
        case measure => simp [intOf]; omega
      · have hax2 : len < u + p := by omega
        have hr : res = none := by rw [← HR1.out, if_neg (fun h => hax h.2.2)]
        subst hr
        clear HR1
        go_wp2_with fail
        go_ret2
        exact ⟨rfl, HB2.out⟩
end Go.Proofs.Ytehadoecnmfeoaa
/- The laws' looms, opened: no condition. -/
namespace Go.Proofs.Ytehadoecnmfeoaa
open Go.Joins Go.ChangeShapes Go.WideShapes Go.ChangeAt Go.RowKit Go.Deep
set_option maxRecDepth 100000
set_option linter.unusedVariables false
set_option linter.unusedSimpArgs false
section
variable {H : Type} {enc : TypeId × Value → H} {W : World} {base b0 : Nat} {r : Reach} {spare : Nat → Bool} {held : Bool} {v : Value} {d : DataW H} {p : List MemPlace}
theorem open_int (hv : Value.okWide Try.prog W r b0 3 v) (h : DataW.Trod enc Try.prog W base spare held 3 v d p) : ∃ n : Int, v = .int .i64 n ∧ I64 n := by
  obtain ⟨n, rfl, _⟩ := okWide_int Try.underlying3 hv
  obtain ⟨fuel, hf⟩ := h
  obtain ⟨a, e, ha⟩ := int_cell hf
  simp at e
  subst e
  exact ⟨n, rfl, ha⟩
end
end Go.Proofs.Ytehadoecnmfeoaa

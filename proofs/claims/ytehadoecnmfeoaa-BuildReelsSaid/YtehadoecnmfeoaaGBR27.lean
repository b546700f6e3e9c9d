/- Part 27 of this claim's texts: walks and plain laws. -/
import Derived.Test.YtehadoecnmfeoaaRows
import Derived.Test.YtehadoecnmfeoaaGBR26
import Derived.Test.YtehadoecnmfeoaaGBR2
import Derived.Deep.DeepMust
import Derived.Deep.RegionHeld3
import Derived.Deep.DrawnRows
import Derived.Test.YtehadoecnmfeoaaGBR11
/- Reels (the elder): walk of the search. -/
namespace Go.Proofs.Ytehadoecnmfeoaa
open Go.RowKit
set_option linter.unusedVariables false
set_option linter.unusedSimpArgs false
theorem Ints.flat7 {w : World} {B n cap : Nat} {A : Option Addr} {l : List Int} (h : Ints w B (.slice A n cap) l) : Reads w B 1 A l.length (l.map (Value.int .i64)) := by
  obtain ⟨A', cap', he⟩ := Sl.form h
  injection he with e1 e2 e3
  subst e1 e2 e3
  have h2 := Sl.reads h (by omega)
  have e : Go.Proofs.Ytehadoecnmfeoaa.flat l.length 1 (fun i _ => Value.int .i64 (l.getD i 0)) = l.map (Value.int .i64) := by
    apply List.ext_getElem
    · simp [flat_length]
    · intro i q1 q2
      have h3 := flat_get (n := l.length) (sz := 1) (f := fun i _ => Value.int .i64 (l.getD i 0)) (i := i) (j := 0) (by simpa using q2) (by omega)
      rw [Nat.mul_one, Nat.add_zero, List.getElem?_eq_getElem q1] at h3
      injection h3 with h3
      rw [h3]
      have q3 : i < l.length := by simpa using q2
      simp [q3]
  rwa [e] at h2
theorem one_ints7 {l : List Int} : ∀ u ∈ l.map (Value.int .i64), u.oneCell' = true := by
  intro u hu
  rw [List.mem_map] at hu
  obtain ⟨_, _, rfl⟩ := hu
  rfl
theorem ints_own7 {w : World} {base : Nat} {v : Value} {l : List Int} (h : w.ownsRow base 3 1 v l.length (l.map (Value.int .i64))) : Ints w w.heap.size v l :=
  Sl.of_owns h fun i j hi hj => by
    obtain rfl : j = 0 := by omega
    rw [Nat.mul_one, Nat.add_zero, List.getElem?_map]
    simp [hi]
theorem nods_ints {w : World} {B : Nat} {v : Value} {S : List Nat} (h : Nods w B v S) : Ints w B v (S.map fun (n : Nat) => (n : Int)) := by
  obtain ⟨A, b, off, cap, h1, h2, h3, h4⟩ := h
  refine ⟨A, b, off, cap, by rw [List.length_map]; exact h1, by rw [List.length_map]; exact h2, by rw [List.length_map]; exact h3, fun i j hi hj => ?_⟩
  rw [List.length_map] at hi
  rw [h4 i j hi hj]
  simp [hi]
theorem nv_ints (S : List Nat) : nvL S = (S.map fun (n : Nat) => (n : Int)).map (Value.int .i64) := by simp [nvL]
/-- A row of the call's own that is not empty. -/
theorem own_at7 {wr : World} {B e sz n q : Nat} {A : Option Addr} {xs : List Value} (h : wr.ownsRow B e sz (.slice A n q) n xs) (hn : 0 < n) : ∃ g, A = some ⟨g, 0, none⟩ ∧ B ≤ g ∧ n ≤ q ∧ ∃ cur, wr.heap[g]? = some (.cells cur e (0, 0)) := by
  rcases h.2 with ⟨_, h0⟩ | ⟨g, cap, cur, hv, hgb, hgh, hnc, _⟩
  · omega
  · injection hv with e1 e2 e3
    subst e1 e3
    exact ⟨g, rfl, hgb, hnc, cur, hgh⟩
theorem one_nv {S : List Nat} : ∀ u ∈ nvL S, u.oneCell' = true := by
  intro u hu
  unfold nvL at hu
  rw [List.mem_map] at hu
  obtain ⟨_, _, rfl⟩ := hu
  rfl
theorem nods_reads {w : World} {B n q : Nat} {A : Option Addr} {S : List Nat} (h : Nods w B (.slice A n q) S) : Reads w B 1 A S.length (nvL S) := by
  have h1 := (nods_ints h).flat7
  rw [List.length_map, ← nv_ints] at h1
  exact h1
/-- What the search returns. -/
def RrP (S : List Nat) (res : Option (List Nat)) (w : World) (e : Ending) (w' : World) : Prop :=
  match res with
  | some R => ∃ v, e = .returned (.tuple #[v, .bool true]) ∧ Nods w' w'.heap.size v (S ++ R) ∧ Below w.heap.size w w'
  | none => e = .returned (.tuple #[.slice none 0 0, .bool false]) ∧ Below w.heap.size w w'
def lefU (len : Int) (U : List Int) (i : Nat) : Int := len - U.getD i 0
theorem lefU_set {len : Int} {U : List Int} {r : Nat} {x : Int} (hr : r < U.length) : ∀ i, i < U.length → lefU len (U.set r (U.getD r 0 + x)) i = updL (lefU len U) r (lefU len U r - x) i := by
  intro i hi
  unfold lefU updL
  by_cases e : i = r
  · subst e
    rw [if_pos rfl]
    simp only [List.getD_eq_getElem?_getD, List.getElem?_set_self hi, Option.getD_some]
    omega
  · rw [if_neg e]
    simp only [List.getD_eq_getElem?_getD, List.getElem?_set_ne (fun q => e q.symm)]
set_option maxRecDepth 100000 in
set_option maxHeartbeats 4000000 in
theorem rreels_any (ps : List Int) (len : Int) (hps : ps.length ≤ 12) (hp : ∀ p ∈ ps, 1 ≤ p ∧ p ≤ len) (hlen : len ≤ 1000000) (A : Option Addr) (q : Nat) :
    ∀ (m : Nat) (S : List Nat) (U : List Int) (o : Nat) (Al Au : Option Addr) (ql qu : Nat) (w : World), Ints w w.heap.size (.slice A ps.length q) ps → Nods w w.heap.size (.slice Al S.length ql) S → Ints w w.heap.size (.slice Au U.length qu) U → S.length + m = ps.length → U.length ≤ 12 → o ≤ 12 → (∀ u ∈ U, 0 ≤ u ∧ u ≤ len) →
    Calls Try.prog 28 #[.slice A ps.length q, .int .i64 len, .slice Al S.length ql, .slice Au U.length qu, .int .i64 o] w (RrP S (rlS U.length (ps.drop S.length) (lefU len U) o) w) := by
  obtain ⟨i0, hi0, iz0, iz1, iz2⟩ := info_parts infoInt
  have HP := hide hp
  clear hp
  intro m
  induction m with
  | zero =>
    intro S U o Al Au ql qu w h1 h2 h3 hm hU ho hu
    have hd : ps.drop S.length = [] := List.drop_eq_nil_of_le (by omega)
    rw [hd]
    have H2 := hide h2
    have hs1 : ((S.length : Int) == (ps.length : Int)) = true := by simp; omega
    clear h1 h2 h3 hd hm hu
    go_enter Try.func28, Try.ntmps28
    go_wp2_with fail
    go_ret2
    exact ⟨_, rfl, by rw [List.append_nil]; exact H2.out, Below.refl _ _⟩
  | succ m ih =>
    intro S U o Al Au ql qu w h1 h2 h3 hm hU ho hu
    have hil : S.length < ps.length := by omega
    obtain ⟨p, hpe⟩ : ∃ p, ps.getD S.length 0 = p := ⟨_, rfl⟩
    have hpr : 1 ≤ p ∧ p ≤ len := HP.out p (by rw [← hpe]; exact getD_mem7 hil)
    obtain ⟨qs, hqs⟩ : ∃ qs, ps.drop (S.length + 1) = qs := ⟨_, rfl⟩
    have hd : ps.drop S.length = p :: qs := by rw [drop_cons6 hil, hpe, hqs]
    rw [hd]
    obtain ⟨res, hres⟩ : ∃ res, rlS U.length (p :: qs) (lefU len U) o = res := ⟨_, rfl⟩
    rw [hres]
    have HRES := hide hres
    have H1 := hide h1
    have H2 := hide h2
    have H3 := hide h3
    have HU := hide hu
    have HIH := hide ih
    have HQ := hide hqs
    have hs1 : ((S.length : Int) == (ps.length : Int)) = false := by simp; omega
    have hm2 : S.length + 1 + m = ps.length := by omega
    have hSl : S.length ≤ 12 := by omega
    obtain ⟨bp, offp, x, HX, hA, hbp, hq, ep⟩ := h1.at7 hil
    have hxp : x = p := by rw [← HX.out, hpe]
    subst hxp hA
    have is0 : (0 : Int) ≤ (S.length : Int) := by omega
    have is1 : (S.length : Int) < (ps.length : Int) := by omega
    have iq : (ps.length : Int) ≤ (q : Int) := by omega
    obtain ⟨pr1, pr2⟩ := hpr
    clear h1 h2 h3 hu hd hm hres hqs hpe ih hq
    go_enter Try.func28, Try.ntmps28
    go_wp2_with fail
    clear ep hbp
    go_loopw [13, 14, 15, 16] (fun i _ _ _ wr => ∃ r : Nat, i = .int .i64 r ∧ r ≤ 13 ∧ Hid (∀ j, j < r → j < U.length → rlT U.length x qs (lefU len U) o j = none) ∧ Hid (Below w.heap.size w wr)) (fun i _ _ _ _ => 13 - (intOf i).toNat)
    case atStart => exact ⟨0, rfl, by omega, fun j hj => absurd hj (by omega), Below.refl _ _⟩
    case round =>
      obtain ⟨r, rfl, hr13, HNO, HB⟩ := hrel
      by_cases hro : r ≤ o
      case neg =>
        have hro2 : ¬ (r : Int) ≤ (o : Int) := by omega
        have hne : res = none := by
          rw [← HRES.out, rlS_cons]
          refine findSome_none fun j hj => ?_
          rcases Nat.lt_or_ge j r with h1 | h1
          · exact HNO.out j h1 hj
          · unfold rlT; rw [if_neg (by omega)]
        subst hne
        go_wp2_with fail
        go_ret2
        exact ⟨rfl, HB.out⟩
      case pos =>
      have hro1 : (r : Int) ≤ (o : Int) := by omega
      by_cases hrm : r < U.length
      case neg =>
        have hrm1 : ¬ (r : Int) < (U.length : Int) := by omega
        have hne : res = none := by
          rw [← HRES.out, rlS_cons]
          exact findSome_none fun j hj => HNO.out j (by omega) hj
        subst hne
        go_wp2_with fail
        go_ret2
        exact ⟨rfl, HB.out⟩
      case pos =>
      have hrm1 : (r : Int) < (U.length : Int) := by omega
      have ir0 : (0 : Int) ≤ (r : Int) := by omega
      obtain ⟨bu, offu, u, HUX, hAu, hbu, hqu, eu⟩ := (H3.out.up HB.out).at7 hrm
      subst hAu
      have hur := HU.out u (by rw [← HUX.out]; exact getD_mem7 hrm)
      obtain ⟨u0, u1⟩ := hur
      have iqu : (U.length : Int) ≤ (qu : Int) := by omega
      have wr1 : IntKind.i64.wrap (u + x) = u + x := IntWalk.i64_in _ (by omega)
      have hLr : lefU len U r = len - u := by unfold lefU; rw [HUX.out]
      have HLR := hide hLr
      clear hqu hLr
      by_cases hax : len < u + x
      · have hT : rlT U.length x qs (lefU len U) o r = none := by unfold rlT; rw [HLR.out, if_neg (by omega)]
        have HT := hide hT
        clear hT
        go_wp2_with fail
        go_roundw
        case rel => exact ⟨r + 1, by go_num, by omega, fun j hj hj2 => by
            rcases Nat.lt_or_ge j r with h1 | h1
            · exact HNO.out j h1 hj2
            · rw [show j = r by omega]; exact HT.out, HB.out⟩
        case measure => simp [intOf]; omega
      · have HU3 := hide (H3.out.up HB.out)
        go_upto_region 9 with (at_builtin; go_must (refine wpList_append_any _ rfl (.const (.slice none 0 0)) (.tmp 47) _ rfl wr.heap.size 3 i0 _ 1 8 Try.underlying22 hi0 iz0 iz1 iz2 rfl (by decide) _ 0 [] rfl (World.ownsRow_nil _ _ _ _) wr.heap.size _ U.length qu (U.map (Value.int .i64)) rfl HU3.out.flat7 one_ints7 (by unfold maxLen; omega) (by omega) (Nat.le_refl _) ?_); intro v1 w1 hown1 hg1 _; rw [Nat.zero_add, List.nil_append] at hown1; obtain ⟨A1, q1, hv1⟩ := owns_form hown1; subst hv1; have HO1 := hide hown1; have HB1 := hide (Below.grown (Below.refl wr.heap.size wr) hg1 (Nat.le_refl _) (fun j hj => by cases hj)); clear hown1 hg1 eu)
        obtain ⟨g, hg, hgB, hq1, cur, hgh⟩ := own_at7 HO1.out (by omega)
        subst hg
        have c1 := HO1.out.cellAt r (by omega)
        have hxr : (U.map (Value.int .i64))[r]? = some (.int .i64 u) := by
          have h1 := HUX.out
          rw [List.getD_eq_getElem?_getD, List.getElem?_eq_getElem hrm, Option.getD_some] at h1
          rw [List.getElem?_map, List.getElem?_eq_getElem hrm, h1]
          rfl
        rw [hxr] at c1
        have f1 := HO1.out.frozenAt r
        have lg := box_lt hgh
        have iq1 : (U.length : Int) ≤ (q1 : Int) := by omega
        obtain ⟨ho2, _⟩ := HO1.out.stored r (.int .i64 (u + x))
        have hB2 : Below wr.heap.size wr (w1.setCell ⟨g, r, none⟩ (.int .i64 (u + x))) := Below.setCell HB1.out hgB _
        clear hgh hxr hq1
        go_upto_region 10 with (fail)
        generalize hw2 : World.setCell _ _ _ = w2 at ho2 hB2 ⊢
        rw [← List.map_set] at ho2
        have hi2 : Ints w2 w2.heap.size (.slice (some ⟨g, 0, none⟩) (U.set r (u + x)).length q1) (U.set r (u + x)) := ints_own7 (by rw [List.length_set]; exact ho2)
        have HI2 := hide hi2
        have hBW := Below.to HB.out hB2 (Nat.le_refl _)
        have HBW := hide hBW
        have hrd := nods_reads (Sl.up H2.out hBW)
        have HRD := hide hrd
        have hus : ∀ y ∈ U.set r (u + x), 0 ≤ y ∧ y ≤ len := fun y hy => by
          rcases List.mem_or_eq_of_mem_set hy with h1 | h1
          · exact HU.out y h1
          · subst h1; omega
        have HUS := hide hus
        have hT : rlT U.length x qs (lefU len U) o r = (rlS U.length qs (updL (lefU len U) r (lefU len U r - x)) (max o (r + 1))).map (fun l => r :: l) := by unfold rlT; rw [if_pos ⟨hro, by rw [HLR.out]; omega⟩]
        obtain ⟨rc, hre0⟩ : ∃ rc, rlS U.length qs (updL (lefU len U) r (lefU len U r - x)) (max o (r + 1)) = rc := ⟨_, rfl⟩
        have hre : rlS (U.set r (u + x)).length (ps.drop (S ++ [r]).length) (lefU len (U.set r (u + x))) (max o (r + 1)) = rc := by
          rw [List.length_set, List.length_append, List.length_singleton, HQ.out, ← hre0]
          refine rlS_congr qs fun i hi => ?_
          have h1 := lefU_set (len := len) (x := x) hrm i hi
          rw [HUX.out] at h1
          exact h1
        have HT0 := hide hT
        clear hw2 ho2 hB2 hi2 hBW hrd hus hT c1 f1 lg hgB
        -- TAIL
        by_cases hor : o ≤ r
        · have hmo : max o (r + 1) = r + 1 := by omega
          rw [hmo] at hre
          have HRE := hide hre
          have HT := hide (by have h9 := HT0.out; rw [hmo] at h9; exact h9 : rlT U.length x qs (lefU len U) o r = (rlS U.length qs (updL (lefU len U) r (lefU len U r - x)) (r + 1)).map (fun l => r :: l))
          have hmx1 : (o : Int) < (r : Int) + 1 := by omega
          have hrc2 : rlS U.length qs (updL (lefU len U) r (lefU len U r - x)) (r + 1) = rc := by rw [← hre0, hmo]
          have HRC := hide hrc2
          clear hre hre0 hmo hrc2
          cases rc with
          | some R' =>
            have hrs : res = some (r :: R') := by
              rw [← HRES.out, rlS_cons]
              exact findSome_first (k := r) (fun j hj => HNO.out j hj (by omega)) (by rw [HT.out, HRC.out]; rfl) hrm
            subst hrs
            go_wp2_with (first | (at_builtin; have hgd := HO3; clear hgd; go_must (refine wpList_append_own_at _ rfl (.tmp 60) (.tmp 62) _ rfl w2.heap.size 3 i0 _ 1 8 Try.underlying22 hi0 iz0 iz1 iz2 rfl (by omega) _ _ _ rfl (World.ownsRow.alloc HO3.out _) ⟨w3.heap.size, 0, none⟩ 1 1 [.int .i64 (r : Nat)] rfl rfl (World.news_of_block (heap_alloc_new w3 _)) (by simp [Value.oneCell']) (by unfold maxLen; omega) (by omega) (by have := HB3.out.size; simp; omega) ?_); intro v4 w4 hown4 hg4 _ hat4; obtain ⟨A4, q4, hv4⟩ := owns_form hown4; subst hv4; have HB4 := hide (Below.grown (Below.allocT HB3.out (Nat.le_refl _) _) hg4 (by have := HB3.out.size; simp; omega) (fun j hj => (HO3.out.lt j hj).1)); have HO4 := hide hown4; clear hown4 hg4 hat4) | (at_builtin; go_must (refine wpList_append_any _ rfl (.const (.slice none 0 0)) (.tmp 59) _ rfl w2.heap.size 3 i0 _ 1 8 Try.underlying22 hi0 iz0 iz1 iz2 rfl (by decide) _ 0 [] rfl (World.ownsRow_nil _ _ _ _) w2.heap.size Al S.length ql (nvL S) rfl HRD.out one_nv (by unfold maxLen; omega) (by omega) (Nat.le_refl _) ?_); intro v3 w3 hown3 hg3 _; rw [Nat.zero_add, List.nil_append] at hown3; obtain ⟨A3, q3, hv3⟩ := owns_form hown3; subst hv3; have HO3 := hide hown3; have HB3 := hide (Below.grown (Below.refl w2.heap.size w2) hg3 (Nat.le_refl _) (fun j hj => by cases hj)); clear hown3 hg3) | (go_at_call 28; have hcl := HIH.out (S ++ [r]) (U.set r (u + x)) (r + 1) A4 (some ⟨g, 0, none⟩) q4 q1 w4 (H1.out.up (Below.to HBW.out HB4.out (Nat.le_refl _))) (Nods.of_own (by rw [List.length_append, List.length_singleton, show (S ++ [r]).map (fun (n : Nat) => Value.int .i64 n) = nvL S ++ [.int .i64 (r : Nat)] from nvL_snoc S r]; exact HO4.out)) (HI2.out.up HB4.out) (by simp; omega) (by rw [List.length_set]; exact hU) (by omega) HUS.out; rw [HRE.out] at hcl; simp only [List.length_append, List.length_singleton, List.length_set] at hcl; refine hcl.mono ?_; clear hcl; rintro e w6 ⟨v6, rfl, hn6, hB6⟩; have HN6 := hide hn6; have HB6 := hide (Below.to (Below.to HBW.out HB4.out (Nat.le_refl _)) hB6 (Nat.le_refl _)); clear hn6 hB6))
            go_ret2
            exact ⟨v6, rfl, by have h6 := HN6.out; rw [List.append_assoc] at h6; exact h6, HB6.out⟩
          | none =>
            go_wp2_with (first | (at_builtin; have hgd := HO3; clear hgd; go_must (refine wpList_append_own_at _ rfl (.tmp 60) (.tmp 62) _ rfl w2.heap.size 3 i0 _ 1 8 Try.underlying22 hi0 iz0 iz1 iz2 rfl (by omega) _ _ _ rfl (World.ownsRow.alloc HO3.out _) ⟨w3.heap.size, 0, none⟩ 1 1 [.int .i64 (r : Nat)] rfl rfl (World.news_of_block (heap_alloc_new w3 _)) (by simp [Value.oneCell']) (by unfold maxLen; omega) (by omega) (by have := HB3.out.size; simp; omega) ?_); intro v4 w4 hown4 hg4 _ hat4; obtain ⟨A4, q4, hv4⟩ := owns_form hown4; subst hv4; have HB4 := hide (Below.grown (Below.allocT HB3.out (Nat.le_refl _) _) hg4 (by have := HB3.out.size; simp; omega) (fun j hj => (HO3.out.lt j hj).1)); have HO4 := hide hown4; clear hown4 hg4 hat4) | (at_builtin; go_must (refine wpList_append_any _ rfl (.const (.slice none 0 0)) (.tmp 59) _ rfl w2.heap.size 3 i0 _ 1 8 Try.underlying22 hi0 iz0 iz1 iz2 rfl (by decide) _ 0 [] rfl (World.ownsRow_nil _ _ _ _) w2.heap.size Al S.length ql (nvL S) rfl HRD.out one_nv (by unfold maxLen; omega) (by omega) (Nat.le_refl _) ?_); intro v3 w3 hown3 hg3 _; rw [Nat.zero_add, List.nil_append] at hown3; obtain ⟨A3, q3, hv3⟩ := owns_form hown3; subst hv3; have HO3 := hide hown3; have HB3 := hide (Below.grown (Below.refl w2.heap.size w2) hg3 (Nat.le_refl _) (fun j hj => by cases hj)); clear hown3 hg3) | (go_at_call 28; have hcl := HIH.out (S ++ [r]) (U.set r (u + x)) (r + 1) A4 (some ⟨g, 0, none⟩) q4 q1 w4 (H1.out.up (Below.to HBW.out HB4.out (Nat.le_refl _))) (Nods.of_own (by rw [List.length_append, List.length_singleton, show (S ++ [r]).map (fun (n : Nat) => Value.int .i64 n) = nvL S ++ [.int .i64 (r : Nat)] from nvL_snoc S r]; exact HO4.out)) (HI2.out.up HB4.out) (by simp; omega) (by rw [List.length_set]; exact hU) (by omega) HUS.out; rw [HRE.out] at hcl; simp only [List.length_append, List.length_singleton, List.length_set] at hcl; refine hcl.mono ?_; clear hcl; rintro e w6 ⟨rfl, hB6⟩; have HB6 := hide (Below.to (Below.to HBW.out HB4.out (Nat.le_refl _)) hB6 (Nat.le_refl _)); clear hB6))
            go_roundw
            case rel => exact ⟨r + 1, by go_num, by omega, fun j hj hj2 => by
                rcases Nat.lt_or_ge j r with h1 | h1
                · exact HNO.out j h1 hj2
                · rw [show j = r by omega, HT.out, HRC.out]; rfl, HB6.out⟩
            case measure => simp [intOf]; omega
        · have hmo : max o (r + 1) = o := by omega
          rw [hmo] at hre
          have HRE := hide hre
          have HT := hide (by have h9 := HT0.out; rw [hmo] at h9; exact h9 : rlT U.length x qs (lefU len U) o r = (rlS U.length qs (updL (lefU len U) r (lefU len U r - x)) o).map (fun l => r :: l))
          have hmx1 : ¬ (o : Int) < (r : Int) + 1 := by omega
          have hrc2 : rlS U.length qs (updL (lefU len U) r (lefU len U r - x)) o = rc := by rw [← hre0, hmo]
          have HRC := hide hrc2
          clear hre hre0 hmo hrc2
          cases rc with
          | some R' =>
            have hrs : res = some (r :: R') := by
              rw [← HRES.out, rlS_cons]
              exact findSome_first (k := r) (fun j hj => HNO.out j hj (by omega)) (by rw [HT.out, HRC.out]; rfl) hrm
            subst hrs
            go_wp2_with (first | (at_builtin; have hgd := HO3; clear hgd; go_must (refine wpList_append_own_at _ rfl (.tmp 60) (.tmp 62) _ rfl w2.heap.size 3 i0 _ 1 8 Try.underlying22 hi0 iz0 iz1 iz2 rfl (by omega) _ _ _ rfl (World.ownsRow.alloc HO3.out _) ⟨w3.heap.size, 0, none⟩ 1 1 [.int .i64 (r : Nat)] rfl rfl (World.news_of_block (heap_alloc_new w3 _)) (by simp [Value.oneCell']) (by unfold maxLen; omega) (by omega) (by have := HB3.out.size; simp; omega) ?_); intro v4 w4 hown4 hg4 _ hat4; obtain ⟨A4, q4, hv4⟩ := owns_form hown4; subst hv4; have HB4 := hide (Below.grown (Below.allocT HB3.out (Nat.le_refl _) _) hg4 (by have := HB3.out.size; simp; omega) (fun j hj => (HO3.out.lt j hj).1)); have HO4 := hide hown4; clear hown4 hg4 hat4) | (at_builtin; go_must (refine wpList_append_any _ rfl (.const (.slice none 0 0)) (.tmp 59) _ rfl w2.heap.size 3 i0 _ 1 8 Try.underlying22 hi0 iz0 iz1 iz2 rfl (by decide) _ 0 [] rfl (World.ownsRow_nil _ _ _ _) w2.heap.size Al S.length ql (nvL S) rfl HRD.out one_nv (by unfold maxLen; omega) (by omega) (Nat.le_refl _) ?_); intro v3 w3 hown3 hg3 _; rw [Nat.zero_add, List.nil_append] at hown3; obtain ⟨A3, q3, hv3⟩ := owns_form hown3; subst hv3; have HO3 := hide hown3; have HB3 := hide (Below.grown (Below.refl w2.heap.size w2) hg3 (Nat.le_refl _) (fun j hj => by cases hj)); clear hown3 hg3) | (go_at_call 28; have hcl := HIH.out (S ++ [r]) (U.set r (u + x)) o A4 (some ⟨g, 0, none⟩) q4 q1 w4 (H1.out.up (Below.to HBW.out HB4.out (Nat.le_refl _))) (Nods.of_own (by rw [List.length_append, List.length_singleton, show (S ++ [r]).map (fun (n : Nat) => Value.int .i64 n) = nvL S ++ [.int .i64 (r : Nat)] from nvL_snoc S r]; exact HO4.out)) (HI2.out.up HB4.out) (by simp; omega) (by rw [List.length_set]; exact hU) (by omega) HUS.out; rw [HRE.out] at hcl; simp only [List.length_append, List.length_singleton, List.length_set] at hcl; refine hcl.mono ?_; clear hcl; rintro e w6 ⟨v6, rfl, hn6, hB6⟩; have HN6 := hide hn6; have HB6 := hide (Below.to (Below.to HBW.out HB4.out (Nat.le_refl _)) hB6 (Nat.le_refl _)); clear hn6 hB6))
            go_ret2
            exact ⟨v6, rfl, by have h6 := HN6.out; rw [List.append_assoc] at h6; exact h6, HB6.out⟩
          | none =>
            go_wp2_with (first | (at_builtin; have hgd := HO3; clear hgd; go_must (refine wpList_append_own_at _ rfl (.tmp 60) (.tmp 62) _ rfl w2.heap.size 3 i0 _ 1 8 Try.underlying22 hi0 iz0 iz1 iz2 rfl (by omega) _ _ _ rfl (World.ownsRow.alloc HO3.out _) ⟨w3.heap.size, 0, none⟩ 1 1 [.int .i64 (r : Nat)] rfl rfl (World.news_of_block (heap_alloc_new w3 _)) (by simp [Value.oneCell']) (by unfold maxLen; omega) (by omega) (by have := HB3.out.size; simp; omega) ?_); intro v4 w4 hown4 hg4 _ hat4; obtain ⟨A4, q4, hv4⟩ := owns_form hown4; subst hv4; have HB4 := hide (Below.grown (Below.allocT HB3.out (Nat.le_refl _) _) hg4 (by have := HB3.out.size; simp; omega) (fun j hj => (HO3.out.lt j hj).1)); have HO4 := hide hown4; clear hown4 hg4 hat4) | (at_builtin; go_must (refine wpList_append_any _ rfl (.const (.slice none 0 0)) (.tmp 59) _ rfl w2.heap.size 3 i0 _ 1 8 Try.underlying22 hi0 iz0 iz1 iz2 rfl (by decide) _ 0 [] rfl (World.ownsRow_nil _ _ _ _) w2.heap.size Al S.length ql (nvL S) rfl HRD.out one_nv (by unfold maxLen; omega) (by omega) (Nat.le_refl _) ?_); intro v3 w3 hown3 hg3 _; rw [Nat.zero_add, List.nil_append] at hown3; obtain ⟨A3, q3, hv3⟩ := owns_form hown3; subst hv3; have HO3 := hide hown3; have HB3 := hide (Below.grown (Below.refl w2.heap.size w2) hg3 (Nat.le_refl _) (fun j hj => by cases hj)); clear hown3 hg3) | (go_at_call 28; have hcl := HIH.out (S ++ [r]) (U.set r (u + x)) o A4 (some ⟨g, 0, none⟩) q4 q1 w4 (H1.out.up (Below.to HBW.out HB4.out (Nat.le_refl _))) (Nods.of_own (by rw [List.length_append, List.length_singleton, show (S ++ [r]).map (fun (n : Nat) => Value.int .i64 n) = nvL S ++ [.int .i64 (r : Nat)] from nvL_snoc S r]; exact HO4.out)) (HI2.out.up HB4.out) (by simp; omega) (by rw [List.length_set]; exact hU) (by omega) HUS.out; rw [HRE.out] at hcl; simp only [List.length_append, List.length_singleton, List.length_set] at hcl; refine hcl.mono ?_; clear hcl; rintro e w6 ⟨rfl, hB6⟩; have HB6 := hide (Below.to (Below.to HBW.out HB4.out (Nat.le_refl _)) hB6 (Nat.le_refl _)); clear hB6))
            go_roundw
            case rel => exact ⟨r + 1, by go_num, by omega, fun j hj hj2 => by
                rcases Nat.lt_or_ge j r with h1 | h1
                · exact HNO.out j h1 hj2
                · rw [show j = r by omega, HT.out, HRC.out]; rfl, HB6.out⟩
            case measure => simp [intOf]; omega
end Go.Proofs.Ytehadoecnmfeoaa
/- Reels (the elder): walk of the whole. -/
namespace Go.Proofs.Ytehadoecnmfeoaa
open Go.RowKit
set_option linter.unusedVariables false
set_option linter.unusedSimpArgs false
set_option maxRecDepth 100000 in
theorem rwithin12_any (n lo hi : Int) (w : World) (b : Bool) (hb : btw n lo hi = b) : Calls Try.prog 27 #[.int .i64 n, .int .i64 lo, .int .i64 hi] w fun e w' => e = .returned (.bool b) ∧ w = w' := by
  subst hb
  by_cases h1 : lo ≤ n
  · have hr : btw n lo hi = decide (n ≤ hi) := by simp [btw, h1]
    have HR := hide hr
    have h1' : decide (lo ≤ n) = true := decide_eq_true h1
    clear hr
    by_cases h2 : n ≤ hi
    · go_enter Try.func27, Try.ntmps27
      go_wp2
      go_ret
      exact ⟨ret_bool (by rw [HR.out]; simp [h2]), rfl⟩
    · go_enter Try.func27, Try.ntmps27
      go_wp2
      go_ret
      exact ⟨ret_bool (by rw [HR.out]; simp [h2]), rfl⟩
  · have hr : btw n lo hi = false := by simp [btw, h1]
    have HR := hide hr
    clear hr
    go_enter Try.func27, Try.ntmps27
    go_wp2
    go_ret
    exact ⟨ret_bool (by rw [HR.out]), rfl⟩
theorem made_ints (N : Nat) : madeCells #[.int .i64 0] N = (((List.replicate N (0 : Int)).map (Value.int .i64)).toArray) := by
  apply Array.ext
  · simp [madeCells]
  · intro i h1 h2
    simp [madeCells, Nat.mod_one]
theorem rel_no {ps : List Int} {len : Int} (h : relB ps len = false) : relR ps len = [] ∧ relE ps len = 121 := by
  unfold relR relE
  rw [if_neg (by simp [h]), if_neg (by simp [h])]
  exact ⟨rfl, rfl⟩
theorem rel_yes {ps : List Int} {len : Int} (h : relB ps len = true) : relR ps len = relL ps len ∧ relE ps len = 0 := by
  unfold relR relE
  rw [if_pos h, if_pos h]
  exact ⟨rfl, rfl⟩
set_option maxRecDepth 100000 in
set_option maxHeartbeats 4000000 in
theorem rReels_any (ps : List Int) (len : Int) (A : Option Addr) (q : Nat) (w : World) (hm : ps.length ≤ maxLen) (h : Ints w w.heap.size (.slice A ps.length q) ps) :
    Calls Try.prog 9 #[.slice A ps.length q, .int .i64 len] w (RelP (relR ps len) (relE ps len) w) := by
  obtain ⟨i0, hi0, iz0, iz1, iz2⟩ := info_parts infoInt
  have H := hide h
  unfold maxLen at hm
  obtain ⟨Z, hZ⟩ : ∃ Z, relR ps len = Z := ⟨_, rfl⟩
  obtain ⟨er, her⟩ : ∃ Z, relE ps len = Z := ⟨_, rfl⟩
  rw [hZ, her]
  have HZ := hide hZ
  have HE := hide her
  clear h hZ her
  cases hw : btw len 1 1000000 with
  | false =>
    have hb : relB ps len = false := by unfold relB; rw [hw]; rfl
    obtain ⟨h1, h2⟩ := rel_no hb
    rw [HZ.out] at h1
    rw [HE.out] at h2
    subst h1 h2
    have HW := hide hw
    clear hw hb
    go_enter Try.func9, Try.ntmps9
    go_wp2_with (go_at_call 27; refine (rwithin12_any _ _ _ _ _ HW.out).mono ?_; rintro e w1 ⟨rfl, rfl⟩)
    go_ret2
    exact ⟨_, rfl, Sl.nil _ _ _ _, Below.refl _ _⟩
  | true =>
  have HW := hide hw
  by_cases hlen : ps.length ≤ 12
  case neg =>
    have hb : relB ps len = false := by unfold relB; rw [hw, decide_eq_false hlen]; rfl
    obtain ⟨h1, h2⟩ := rel_no hb
    rw [HZ.out] at h1
    rw [HE.out] at h2
    subst h1 h2
    have hgt : (12 : Int) < (ps.length : Int) := by omega
    clear hw hb
    go_enter Try.func9, Try.ntmps9
    go_wp2_with (go_at_call 27; refine (rwithin12_any _ _ _ _ _ HW.out).mono ?_; rintro e w1 ⟨rfl, rfl⟩)
    go_ret2
    exact ⟨_, rfl, Sl.nil _ _ _ _, Below.refl _ _⟩
  case pos =>
  have hgt : ¬ (12 : Int) < (ps.length : Int) := by omega
  obtain ⟨len1, len2⟩ := btw_iff.1 hw
  clear hw
  go_enter Try.func9, Try.ntmps9
  go_wp2_with (go_at_call 27; refine (rwithin12_any _ _ _ _ _ HW.out).mono ?_; rintro e w1 ⟨rfl, rfl⟩)
  go_loopw [6] (fun i wr => ∃ k : Nat, i = .int .i64 k ∧ k ≤ ps.length ∧ Hid (∀ j, j < k → btw (ps.getD j 0) 1 len = true) ∧ Hid (Below w.heap.size w wr)) (fun i _ => ps.length - (intOf i).toNat)
  case atStart => exact ⟨0, rfl, Nat.zero_le _, fun j hj => absurd hj (by omega), Below.refl _ _⟩
  case round =>
    obtain ⟨k, rfl, hk, HNO, HB0⟩ := hrel
    by_cases hkl : k < ps.length
    · obtain ⟨bp, offp, x, HX, hA, hbp, hq, ep⟩ := (H.out.up HB0.out).at7 hkl
      subst hA
      have is0 : (0 : Int) ≤ (k : Int) := by omega
      have is1 : (k : Int) < (ps.length : Int) := by omega
      have iq : (ps.length : Int) ≤ (q : Int) := by omega
      clear hq
      cases hx : btw x 1 len with
      | false =>
        have hb : relB ps len = false := by
          have h1 : ps.all (fun p => btw p 1 len) = false := by
            rw [List.all_eq_false]
            refine ⟨x, ?_, by simp [hx]⟩
            rw [← HX.out]
            exact getD_mem7 hkl
          unfold relB
          rw [h1, Bool.and_false]
        obtain ⟨h1, h2⟩ := rel_no hb
        rw [HZ.out] at h1
        rw [HE.out] at h2
        subst h1 h2
        have HXB := hide hx
        clear hx hb
        go_wp2_with (go_at_call 27; refine (rwithin12_any _ _ _ _ _ HXB.out).mono ?_; rintro e w1 ⟨rfl, rfl⟩)
        go_ret2
        exact ⟨_, rfl, Sl.nil _ _ _ _, HB0.out⟩
      | true =>
        have HXB := hide hx
        clear hx
        go_wp2_with (go_at_call 27; refine (rwithin12_any _ _ _ _ _ HXB.out).mono ?_; rintro e w1 ⟨rfl, rfl⟩)
        go_roundw
        case rel => exact ⟨k + 1, by go_num, by omega, fun j hj => by
            rcases Nat.lt_or_ge j k with h1 | h1
            · exact HNO.out j h1
            · rw [show j = k by omega, HX.out]; exact HXB.out, HB0.out⟩
        case measure => simp [intOf]; omega
    · have hke : k = ps.length := by omega
      subst hke
      have hall : ps.all (fun p => btw p 1 len) = true := by
        rw [List.all_eq_true]
        intro x hx
        obtain ⟨i, hi, rfl⟩ := List.mem_iff_getElem.1 hx
        have h1 := HNO.out i hi
        rw [List.getD_eq_getElem?_getD, List.getElem?_eq_getElem hi] at h1
        exact h1
      have hb : relB ps len = true := by
        unfold relB
        rw [HW.out, decide_eq_true hlen, hall]
        rfl
      obtain ⟨h1, h2⟩ := rel_yes hb
      have HSOME := hide (rel_some hb)
      rw [HZ.out] at h1
      rw [HE.out] at h2
      have hpr : ∀ p ∈ ps, 1 ≤ p ∧ p ≤ len := fun p hp => btw_iff.1 (List.all_eq_true.1 hall p hp)
      have HPR := hide hpr
      have HZZ := hide h1
      subst h2
      clear hall hb hpr h1
      go_wp2_with fail
      go_loopw [7, 8, 9] (fun i _ _ wr => ∃ k : Nat, i = .int .i64 k ∧ k ≤ ps.length ∧ Hid (∀ j, j < k → rlS j ps (fun _ => len) 0 = none) ∧ Hid (Below w.heap.size w wr)) (fun i _ _ _ => ps.length - (intOf i).toNat)
      case atStart => exact ⟨0, rfl, Nat.zero_le _, fun j hj => absurd hj (by omega), HB0.out⟩
      case round =>
        clear HNO
        obtain ⟨k, rfl, hk, HNO, HB⟩ := hrel
        have hmk : ∀ W : World, (Instr.makeSlice 22 (.int .i64 k) (.int .i64 k)).run Try.prog W = .ok (.slice (some ⟨W.heap.size, 0, none⟩) k k) (W.alloc (.cells (madeCells #[.int .i64 0] (k * 1)) 3)) := fun W => by
          have h1 := run_make (P := Try.prog) W 22 3 i0 (.int .i64 0) Try.underlying22 hi0 iz0 .i64 .i64 k k (by omega) (Int.le_refl _) (by rw [iz2]; omega) (by omega)
          rw [iz1] at h1
          simpa [Value.cells] using h1
        have hik : (k : Int) ≤ (ps.length : Int) := by omega
        obtain ⟨rc, hrc⟩ : ∃ rc, rlS k ps (fun _ => len) 0 = rc := ⟨_, rfl⟩
        have hre : rlS (List.replicate k (0 : Int)).length (ps.drop ([] : List Nat).length) (lefU len (List.replicate k 0)) 0 = rc := by
          rw [List.length_replicate, List.length_nil, List.drop_zero, ← hrc]
          refine rlS_congr ps fun i hi => ?_
          unfold lefU
          simp [List.getD_eq_getElem?_getD, List.getElem?_replicate, hi]
        have HRE := hide hre
        have HRC := hide hrc
        clear hre hrc
        have hcl := rreels_any ps len hlen HPR.out len2 A q ps.length [] (List.replicate k 0) 0 none (some ⟨wr.heap.size, 0, none⟩) 0 k (wr.alloc (.cells (madeCells #[.int .i64 0] (k * 1)) 3)) ((H.out.up HB.out).up (Below.allocT (Below.refl _ _) (Nat.le_refl _) _)) (Sl.nil _ _ _ _) (by have h9 := ints_box (l := List.replicate k (0 : Int)) (B := (wr.alloc (.cells (madeCells #[.int .i64 0] (k * 1)) 3)).heap.size) (b := wr.heap.size) (t := 3) (w := wr.alloc (.cells (madeCells #[.int .i64 0] (k * 1)) 3)) (by rw [← made_ints, Nat.mul_one]; exact heap_alloc_new _ _) (by simp); simpa using h9) (by simp) (by simp; omega) (by omega) (by intro u hu; rw [List.mem_replicate] at hu; rw [hu.2]; omega)
        rw [HRE.out] at hcl
        simp only [List.length_nil, List.length_replicate, Nat.mul_one] at hcl
        rw [show ((0 : Nat) : Int) = 0 from rfl] at hcl
        have HCL := hide hcl
        clear hcl
        cases rc with
        | some R' =>
          have hz := rel_at HNO.out HRC.out hk
          rw [← HZZ.out] at hz
          subst hz
          go_wp2_with (go_at_call 28; refine HCL.out.mono ?_; rintro e w6 ⟨v6, rfl, hn6, hB6⟩; have HN6 := hide hn6; have HB6 := hide (Below.to (Below.allocT HB.out (Nat.le_refl _) _) hB6 (Nat.le_refl _)); clear hn6 hB6)
          go_ret2
          exact ⟨v6, rfl, HN6.out, HB6.out⟩
        | none =>
          have hkn : k < ps.length := by
            rcases Nat.lt_or_ge k ps.length with h1 | h1
            · exact h1
            · exfalso
              have h2 := HSOME.out
              rw [show ps.length = k by omega, HRC.out] at h2
              cases h2
          go_wp2_with (go_at_call 28; refine HCL.out.mono ?_; rintro e w6 ⟨rfl, hB6⟩; have HB6 := hide (Below.to (Below.allocT HB.out (Nat.le_refl _) _) hB6 (Nat.le_refl _)); clear hB6)
          go_roundw
          case rel => exact ⟨k + 1, by go_num, by omega, fun j hj => by
              rcases Nat.lt_or_ge j k with h1 | h1
              · exact HNO.out j h1
              · rw [show j = k by omega]; exact HRC.out, HB6.out⟩
          case measure => simp [intOf]; omega
end Go.Proofs.Ytehadoecnmfeoaa

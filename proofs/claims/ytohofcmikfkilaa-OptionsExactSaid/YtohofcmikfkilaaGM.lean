/- Group M of this claim's texts: walks and plain laws. -/
import Derived.Test.YtohofcmikfkilaaRows
import Derived.Test.YtohofcmikfkilaaGH
import Derived.Test.YtohofcmikfkilaaGL
import Derived.Test.YtohofcmikfkilaaGG
import Derived.Test.YtohofcmikfkilaaGJ
/- Two formulas joined, and the same knots in general: walks. -/
namespace Go.Proofs.Ytohofcmikfkilaa
open Go.RowKit
set_option linter.unusedVariables false
set_option linter.unusedSimpArgs false
theorem Ints.flat2 {w : World} {B n cap : Nat} {A : Option Addr} {l : List Int} (h : Ints w B (.slice A n cap) l) : Reads w B 1 A l.length (l.map (Value.int .i64)) := by
  have h1 := Sl.form h
  obtain ⟨A', cap', he⟩ := h1
  injection he with e1 e2 e3
  subst e1 e2 e3
  have h2 := Sl.reads h (by omega)
  have e : Go.Proofs.Ytohofcmikfkilaa.flat l.length 1 (fun i _ => Value.int .i64 (l.getD i 0)) = l.map (Value.int .i64) := by
    apply List.ext_getElem
    · simp [flat_length]
    · intro i q1 q2
      have h3 := flat_get (n := l.length) (sz := 1) (f := fun i _ => Value.int .i64 (l.getD i 0)) (i := i) (j := 0) (by simpa using q2) (by omega)
      rw [Nat.mul_one, Nat.add_zero, List.getElem?_eq_getElem q1] at h3
      injection h3 with h3
      rw [h3]
      have q3 : i < l.length := by simpa using q2
      simp [q3]
  rwa [e] at h2
theorem one_ints {l : List Int} : ∀ u ∈ l.map (Value.int .i64), u.oneCell' = true := by
  intro u hu
  rw [List.mem_map] at hu
  obtain ⟨_, _, rfl⟩ := hu
  rfl
theorem ints_own {w : World} {base : Nat} {v : Value} {l : List Int} (h : w.ownsRow base 3 1 v l.length (l.map (Value.int .i64))) : Ints w w.heap.size v l :=
  Sl.of_owns h fun i j hi hj => by
    obtain rfl : j = 0 := by omega
    rw [Nat.mul_one, Nat.add_zero, List.getElem?_map]
    simp [hi]
theorem ints_own2 {w : World} {base n : Nat} {v : Value} {l : List Int} {xs : List Value} (h : w.ownsRow base 3 1 v n xs) (e1 : l.length = n) (e2 : xs = l.map (Value.int .i64)) : Ints w w.heap.size v l := by
  subst e1 e2
  exact ints_own h
theorem owns_built (w : World) (z : Int) : (w.alloc (.cells #[.int .i64 z] 3 (0, 0))).ownsRow w.heap.size 3 1 (.slice (some ⟨w.heap.size, 0, none⟩) 1 1) 1 [.int .i64 z] :=
  ⟨rfl, .inr ⟨w.heap.size, 1, #[.int .i64 z], rfl, Nat.le_refl _, heap_alloc_new w _, Nat.le_refl _, by unfold maxLen; omega, rfl, rfl⟩⟩
set_option maxRecDepth 100000 in
set_option maxHeartbeats 4000000 in
theorem two_any (z : Int) (f g : List Int) (fv gv : Value) (w : World) (hf : Ints w w.heap.size fv f) (hg : Ints w w.heap.size gv g) (hfl : f.length ≤ 1000) (hgl : g.length ≤ 1000) :
    Calls Try.prog 57 #[.int .i64 z, fv, gv] w fun e w' => ∃ v, e = .returned v ∧ w'.ownsRow w.heap.size 3 1 v (z :: f ++ g).length ((z :: f ++ g).map (Value.int .i64)) ∧ Below w.heap.size w w' := by
  obtain ⟨i1, hi1, jz0, jz1, jz2⟩ := info_parts infoInt
  obtain ⟨Af, capf, hfv⟩ := Sl.form hf
  obtain ⟨Ag, capg, hgv⟩ := Sl.form hg
  subst hfv hgv
  have HF := hide hf.flat2
  have HG := hide hg.flat2
  clear hf hg
  go_enter Try.func57, Try.ntmps57
  go_wp2_with (first | (at_builtin; refine wpList_append_any _ rfl (.tmp 8) (.tmp 9) _ rfl w.heap.size 3 i1 _ 1 8 Try.underlying35 hi1 jz0 jz1 jz2 rfl (by decide) _ 1 [.int .i64 z] rfl (owns_built w z) w.heap.size Af f.length capf (f.map (Value.int .i64)) rfl (HF.out.alloc (Nat.le_refl _) _) one_ints (by unfold maxLen; omega) (by omega) (by simp) ?_; intro v1 w1 hown1 hg1 _; obtain ⟨A1, cap1, hv1⟩ := owns_form hown1; subst hv1; have HOWN1 := hide hown1; have HB1 : Hid (Below w.heap.size w w1) := Below.grown (Below.allocT (Below.refl _ _) (Nat.le_refl _) _) hg1 (by simp) (fun j hj => by injection hj with hj; exact Nat.le_of_eq hj); clear hown1 hg1) | (at_builtin; go_must (refine wpList_append_any _ rfl (.tmp 10) (.tmp 11) _ rfl w.heap.size 3 i1 _ 1 8 Try.underlying35 hi1 jz0 jz1 jz2 rfl (by decide) (.slice A1 (1 + f.length) cap1) (1 + f.length) ([Value.int .i64 z] ++ f.map (Value.int .i64)) rfl HOWN1.out w.heap.size Ag g.length capg (g.map (Value.int .i64)) rfl (HG.out.below HB1.out) one_ints (by unfold maxLen; omega) (by omega) HB1.out.size ?_); intro v2 w2 hown2 hg2 _; have HOWN2 := hide hown2; have HB2 : Hid (Below w.heap.size w w2) := Below.grown HB1.out hg2 HB1.out.size (fun j hj => (HOWN1.out.lt j hj).1); clear hown2 hg2))
  go_ret
  have h2 : w2.ownsRow w.heap.size 3 1 v2 (z :: f ++ g).length ((z :: f ++ g).map (Value.int .i64)) := by
    rw [show (z :: f ++ g).length = 1 + f.length + g.length by simp; omega]
    simpa using HOWN2.out
  exact ⟨_, rfl, h2, HB2.out⟩
end Go.Proofs.Ytohofcmikfkilaa
/- A diagram that build has made: each variant leads to the formula's value in it. Plain laws. -/
namespace Go.Proofs.Ytohofcmikfkilaa
set_option linter.unusedVariables false
theorem getD_app {K L : List Kt} {i : Nat} (h : i < K.length) : (K ++ L).getD i Kt.z = K.getD i Kt.z := by
  simp [List.getD_eq_getElem?_getD, List.getElem?_append_left h]
theorem getD_last {K : List Kt} {k : Kt} : (K ++ [k]).getD K.length Kt.z = k := by
  simp [List.getD_eq_getElem?_getD]
theorem goB_app {K L : List Kt} {n : Nat} {o q : Int} (hn : n ≤ K.length) : goB (K ++ L) n o q = goB K n o q := by
  unfold goB
  by_cases h : 0 ≤ q ∧ q < n
  · rw [getD_app (by omega)]
  · have : (decide (0 ≤ q) && decide (q < (n : Int))) = false := by
      rw [Bool.eq_false_iff]
      intro e
      simp only [Bool.and_eq_true, decide_eq_true_eq] at e
      exact h e
    simp only [this, Bool.false_and]
theorem okB_app {N : Nat} {K L : List Kt} {i : Nat} (hi : i < K.length) : okB N (K ++ L) i = okB N K i := by
  unfold okB
  rw [getD_app hi, goB_app (Nat.le_of_lt hi), goB_app (Nat.le_of_lt hi)]
def GoodK (N : Nat) (K : List Kt) : Prop := ∀ i, i < K.length → okB N K i = true
theorem flw_fuel {N : Nat} {K : List Kt} (hK : GoodK N K) (v : List Bool) : ∀ (n : Nat) (r : Int) (n1 n2 : Nat), r < n → n ≤ n1 → n ≤ n2 → n ≤ K.length → flw K v n1 r = flw K v n2 r := by
  intro n
  induction n with
  | zero => intro r n1 n2 h _ _ _; rw [flw_neg _ _ _ (by omega), flw_neg _ _ _ (by omega)]
  | succ n ih =>
    intro r n1 n2 h h1 h2 h3
    by_cases hr : r < 0
    · rw [flw_neg _ _ _ hr, flw_neg _ _ _ hr]
    · obtain ⟨i, rfl⟩ : ∃ i : Nat, r = i := ⟨r.toNat, by omega⟩
      obtain ⟨m1, rfl⟩ : ∃ m, n1 = m + 1 := ⟨n1 - 1, by omega⟩
      obtain ⟨m2, rfl⟩ : ∃ m, n2 = m + 1 := ⟨n2 - 1, by omega⟩
      rw [flw_go _ _ _ (by omega), flw_go _ _ _ (by omega)]
      have := nxt_bd (v := v) (hK i (by omega))
      exact ih _ m1 m2 (by omega) (by omega) (by omega) (by omega)
theorem nxt_app {K L : List Kt} {v : List Bool} {i : Nat} (h : i < K.length) : nxt (K ++ L) v i = nxt K v i := by
  unfold nxt
  rw [Int.toNat_natCast, getD_app h]
theorem flw_app {N : Nat} {K L : List Kt} (hK : GoodK N K) (v : List Bool) : ∀ (n : Nat) (r : Int), r < K.length → flw (K ++ L) v n r = flw K v n r := by
  intro n
  induction n with
  | zero => intro r _; rfl
  | succ n ih =>
    intro r h
    by_cases hr : r < 0
    · rw [flw_neg _ _ _ hr, flw_neg _ _ _ hr]
    · obtain ⟨i, rfl⟩ : ∃ i : Nat, r = i := ⟨r.toNat, by omega⟩
      rw [flw_go _ _ _ (by omega), flw_go _ _ _ (by omega), nxt_app (by omega)]
      have := nxt_bd (v := v) (hK i (by omega))
      exact ih _ (by omega)
/-- A place that may stand below a choice of option t - 1. -/
def RefOk (K : List Kt) (t : Nat) (r : Int) : Prop := r = -1 ∨ r = -2 ∨ ∃ i : Nat, r = i ∧ i < K.length ∧ (t : Int) ≤ (K.getD i Kt.z).o
theorem RefOk.app {K L : List Kt} {t : Nat} {r : Int} (h : RefOk K t r) : RefOk (K ++ L) t r := by
  rcases h with h | h | ⟨i, h1, h2, h3⟩
  · exact .inl h
  · exact .inr (.inl h)
  · exact .inr (.inr ⟨i, h1, by simp; omega, by rw [getD_app h2]; exact h3⟩)
theorem RefOk.less {K : List Kt} {t t' : Nat} {r : Int} (h : RefOk K t r) (ht : t' ≤ t) : RefOk K t' r := by
  rcases h with h | h | ⟨i, h1, h2, h3⟩
  · exact .inl h
  · exact .inr (.inl h)
  · exact .inr (.inr ⟨i, h1, h2, by omega⟩)
theorem RefOk.lt {K : List Kt} {t : Nat} {r : Int} (h : RefOk K t r) : -2 ≤ r ∧ r < K.length := by
  rcases h with h | h | ⟨i, h1, h2, h3⟩ <;> omega
theorem RefOk.go {K : List Kt} {t : Nat} {r : Int} (h : RefOk K (t + 1) r) : goB K K.length t r = true := by
  unfold goB
  rcases h with h | h | ⟨i, h1, h2, h3⟩
  · simp [h]
  · simp [h]
  · subst h1
    have e1 : decide ((0 : Int) ≤ (i : Int)) = true := decide_eq_true (by omega)
    have e2 : decide ((i : Int) < (K.length : Int)) = true := decide_eq_true (by omega)
    have e3 : decide ((t : Int) < (K.getD i Kt.z).o) = true := decide_eq_true (by omega)
    rw [Int.toNat_natCast, e1, e2, e3]
    simp
structure BldOk (N : Nat) (g : List Bool → Bool) (d : Nat) (l : List Bool) (K K' : List Kt) (r : Int) : Prop where
  ext : ∃ L, K' = K ++ L
  good : GoodK N K'
  ref : RefOk K' l.length r
  val : ∀ y : List Bool, y.length = d → flw K' (l ++ y) K'.length r = if g (l ++ y) then -2 else -1
theorem at_len {l : List Bool} {b : Bool} {y : List Bool} : (l ++ [b] ++ y).getD l.length false = b := by
  simp [List.getD_eq_getElem?_getD]
theorem val_knot {N : Nat} {g : List Bool → Bool} {d : Nat} {l : List Bool} {K : List Kt} {lo hi : Int} {i : Nat} (hK : GoodK N K) (hi1 : i < K.length) (he : K.getD i Kt.z = ⟨l.length, lo, hi⟩)
    (hlo : ∀ y : List Bool, y.length = d → flw K (l ++ [false] ++ y) K.length lo = if g (l ++ [false] ++ y) then -2 else -1)
    (hhi : ∀ y : List Bool, y.length = d → flw K (l ++ [true] ++ y) K.length hi = if g (l ++ [true] ++ y) then -2 else -1)
    (y : List Bool) (hy : y.length = d + 1) : flw K (l ++ y) K.length i = if g (l ++ y) then -2 else -1 := by
  obtain ⟨b, y', rfl⟩ : ∃ b y', y = b :: y' := by
    cases y with
    | nil => simp at hy
    | cons b y' => exact ⟨b, y', rfl⟩
  have hy' : y'.length = d := by simpa using hy
  have e : l ++ b :: y' = l ++ [b] ++ y' := by simp
  rw [e]
  obtain ⟨n, hn⟩ : ∃ n, K.length = n + 1 := ⟨K.length - 1, by omega⟩
  have hb := nxt_bd (v := l ++ [b] ++ y') (hK i hi1)
  have h1 : flw K (l ++ [b] ++ y') K.length i = flw K (l ++ [b] ++ y') K.length (nxt K (l ++ [b] ++ y') i) := by
    rw [hn, flw_go _ _ _ (by omega)]
    exact flw_fuel hK _ i _ n (n + 1) (by omega) (by omega) (by omega) (by omega)
  rw [h1]
  unfold nxt
  rw [Int.toNat_natCast, he]
  dsimp only
  rw [Int.toNat_natCast, at_len]
  cases b with
  | false => exact hlo y' hy'
  | true => exact hhi y' hy'
theorem bld_ok {N : Nat} (g : List Bool → Bool) : ∀ (d : Nat) (l : List Bool) (K : List Kt), l.length + d = N → GoodK N K → BldOk N g d l K (bldF g d l K).1 (bldF g d l K).2 := by
  intro d
  induction d with
  | zero =>
    intro l K hl hK
    have e1 : bldF g 0 l K = (K, if g l then -2 else -1) := rfl
    rw [e1]
    refine ⟨⟨[], by simp⟩, hK, ?_, fun y hy => ?_⟩
    · show RefOk K l.length (if g l then -2 else -1)
      split
      · exact .inr (.inl rfl)
      · exact .inl rfl
    · obtain rfl : y = [] := List.eq_nil_of_length_eq_zero hy
      rw [List.append_nil]
      exact flw_neg _ _ _ (by dsimp only; split <;> omega)
  | succ d ih =>
    intro l K hl hK
    have ha := ih (l ++ [false]) K (by simp; omega) hK
    obtain ⟨⟨K1, lo⟩, h1⟩ : ∃ p, bldF g d (l ++ [false]) K = p := ⟨_, rfl⟩
    rw [h1] at ha
    have hb := ih (l ++ [true]) K1 (by simp; omega) ha.good
    obtain ⟨⟨K2, hi⟩, h2⟩ : ∃ p, bldF g d (l ++ [true]) K1 = p := ⟨_, rfl⟩
    rw [h2] at hb
    dsimp only at ha hb
    obtain ⟨L1, hL1⟩ := ha.ext
    obtain ⟨L2, hL2⟩ := hb.ext
    have hlo2 : RefOk K2 (l.length + 1) lo := by
      have := ha.ref
      rw [List.length_append] at this
      rw [hL2]
      exact this.app
    have hhi2 : RefOk K2 (l.length + 1) hi := by
      have := hb.ref
      rw [List.length_append] at this
      exact this
    have hle : K1.length ≤ K2.length := by rw [hL2]; simp
    have vlo : ∀ y : List Bool, y.length = d → flw K2 (l ++ [false] ++ y) K2.length lo = if g (l ++ [false] ++ y) then -2 else -1 := fun y hy => by
      rw [← ha.val y hy]
      have hlt := ha.ref.lt.2
      rw [flw_fuel hb.good _ K1.length lo K2.length K1.length hlt hle (Nat.le_refl _) hle]
      conv => lhs; rw [hL2]
      exact flw_app ha.good _ _ _ hlt
    have hext : ∃ L, K2 = K ++ L := ⟨L1 ++ L2, by rw [hL2, hL1, List.append_assoc]⟩
    by_cases he : lo = hi
    · rw [bldF_eq h1 h2 he]
      refine ⟨hext, hb.good, hlo2.less (by omega), fun y hy => ?_⟩
      obtain ⟨b, y', rfl⟩ : ∃ b y', y = b :: y' := by
        cases y with
        | nil => simp at hy
        | cons b y' => exact ⟨b, y', rfl⟩
      have e : l ++ b :: y' = l ++ [b] ++ y' := by simp
      rw [e]
      cases b with
      | false => exact vlo y' (by simpa using hy)
      | true => rw [he]; exact hb.val y' (by simpa using hy)
    · by_cases hx : ∃ i : Nat, i < K2.length ∧ K2.getD i Kt.z = ⟨l.length, lo, hi⟩ ∧ ∀ j, j < i → K2.getD j Kt.z ≠ ⟨l.length, lo, hi⟩
      · obtain ⟨i, hi1, hi2, hi3⟩ := hx
        rw [bldF_old h1 h2 he (idxI_at _ Kt.z K2 i (fun j hj => decide_eq_false (hi3 j hj)) hi1 (decide_eq_true hi2))]
        exact ⟨hext, hb.good, .inr (.inr ⟨i, rfl, hi1, by rw [hi2]; exact Int.le_refl _⟩), val_knot hb.good hi1 hi2 vlo hb.val⟩
      · have hno : ∀ n, ∀ j, j < n → j < K2.length → K2.getD j Kt.z ≠ ⟨l.length, lo, hi⟩ := by
          intro n
          induction n with
          | zero => intro j hj; omega
          | succ n ihn =>
            intro j hj hjl e
            rcases Nat.lt_or_ge j n with q | q
            · exact ihn j q hjl e
            · obtain rfl : j = n := by omega
              exact hx ⟨j, hjl, e, fun k hk => ihn k hk (by omega)⟩
        rw [bldF_new h1 h2 he (idxI_none _ Kt.z _ fun j hj => decide_eq_false (hno (j + 1) j (by omega) hj))]
        have hlen : (K2 ++ [(⟨l.length, lo, hi⟩ : Kt)]).length = K2.length + 1 := by simp
        have hg : GoodK N (K2 ++ [⟨l.length, lo, hi⟩]) := fun i hi1 => by
          rcases Nat.lt_or_ge i K2.length with q | q
          · rw [okB_app q]; exact hb.good i q
          · obtain rfl : i = K2.length := by omega
            unfold okB
            rw [getD_last, goB_app (Nat.le_refl _), goB_app (Nat.le_refl _)]
            dsimp only
            rw [hlo2.go, hhi2.go, decide_eq_true (show (0 : Int) ≤ (l.length : Int) by omega), decide_eq_true (show (l.length : Int) < (N : Int) by omega)]
            rfl
        have hmv : ∀ (v : List Bool) (r : Int), r < K2.length → flw (K2 ++ [⟨l.length, lo, hi⟩]) v (K2 ++ [(⟨l.length, lo, hi⟩ : Kt)]).length r = flw K2 v K2.length r := fun v r hr => by
          rw [flw_app hb.good _ _ _ hr]
          exact flw_fuel hb.good _ K2.length r _ _ hr (by omega) (Nat.le_refl _) (Nat.le_refl _)
        refine ⟨?_, hg, .inr (.inr ⟨K2.length, rfl, by dsimp only; omega, by rw [getD_last]; exact Int.le_refl _⟩), val_knot hg (by dsimp only; omega) getD_last (fun y hy => ?_) (fun y hy => ?_)⟩
        · obtain ⟨L, hL⟩ := hext
          exact ⟨L ++ [⟨l.length, lo, hi⟩], by rw [← List.append_assoc, ← hL]⟩
        · rw [hmv _ _ hlo2.lt.2]; exact vlo y hy
        · rw [hmv _ _ hhi2.lt.2]; exact hb.val y hy
theorem bld_congr (g g' : List Bool → Bool) : ∀ (d : Nat) (l : List Bool) (K : List Kt), (∀ y : List Bool, y.length = d → g (l ++ y) = g' (l ++ y)) → bldF g d l K = bldF g' d l K := by
  intro d
  induction d with
  | zero =>
    intro l K h
    have h0 := h [] rfl
    rw [List.append_nil] at h0
    show (K, if g l then (-2 : Int) else -1) = (K, if g' l then -2 else -1)
    rw [h0]
  | succ d ih =>
    intro l K h
    have h1 := ih (l ++ [false]) K fun y hy => by
      have := h (false :: y) (by simp [hy])
      simpa using this
    have h2 := fun K1 => ih (l ++ [true]) K1 fun y hy => by
      have := h (true :: y) (by simp [hy])
      simpa using this
    unfold bldF
    rw [h1, h2]
end Go.Proofs.Ytohofcmikfkilaa
/- Formulas joined by an operator; what two diagrams say: plain laws. -/
namespace Go.Proofs.Ytohofcmikfkilaa
set_option linter.unusedVariables false
theorem stp_app (v : Nat → Bool) (o : Int) (T S : List Bool) (h : arO o ≤ T.length) : stp v o (T ++ S) = stp v o T ++ S := by
  unfold arO at h
  unfold stp
  by_cases h1 : o = -1
  · simp [h1]
  by_cases h2 : o = -2
  · simp [h2]
  by_cases h3 : o = -3
  · simp only [h3, if_true] at h ⊢
    match T, h with
    | x :: T', _ => simp
  rw [if_neg h3] at h
  by_cases h4 : o = -4
  · simp only [h4, true_or, if_true] at h ⊢
    match T, h with
    | [], h => simp at h
    | [_], h => simp at h
    | x :: y :: T', _ => simp
  by_cases h5 : o = -5
  · simp only [h5, true_or, or_true, if_true] at h ⊢
    match T, h with
    | [], h => simp at h
    | [_], h => simp at h
    | x :: y :: T', _ => simp
  by_cases h6 : o = -6
  · simp only [h6, or_true, if_true] at h ⊢
    match T, h with
    | [], h => simp at h
    | [_], h => simp at h
    | x :: y :: T', _ => simp
  simp [h1, h2, h3, h4, h5, h6]
theorem foldr_app {N : Nat} (v : Nat → Bool) : ∀ (f : List Int) (w : Nat) (S : List Bool), vld N w f = true → f.foldr (stp v) S = evS v f ++ S
  | [], _, _, _ => rfl
  | o :: r, 0, S, h => by simp [vld] at h
  | o :: r, w + 1, S, h => by
    simp only [vld, Bool.and_eq_true, decide_eq_true_eq] at h
    have ih := foldr_app v r _ S h.2
    have hl := evS_len v r _ h.2
    rw [List.foldr_cons, ih, evS_cons, stp_app v o _ S (by omega)]
theorem evS_app {N : Nat} (v : Nat → Bool) (f g : List Int) (w : Nat) (h : vld N w f = true) : evS v (f ++ g) = evS v f ++ evS v g := by
  show (f ++ g).foldr (stp v) [] = _
  rw [List.foldr_append]
  exact foldr_app v f w _ h
theorem vld_app {N : Nat} : ∀ (f g : List Int) (w w2 : Nat), vld N w f = true → vld N w2 g = true → vld N (w + w2) (f ++ g) = true
  | [], g, 0, w2, _, h => by simpa using h
  | [], g, w + 1, w2, h, _ => by simp [vld] at h
  | o :: r, g, 0, w2, h, _ => by simp [vld] at h
  | o :: r, g, w + 1, w2, h, h2 => by
    simp only [vld, Bool.and_eq_true, decide_eq_true_eq] at h
    have ih := vld_app r g _ w2 h.2 h2
    rw [show w + 1 + w2 = w + w2 + 1 by omega, List.cons_append]
    simp only [vld, Bool.and_eq_true, decide_eq_true_eq]
    exact ⟨h.1, by rw [show w + w2 + arO o = w + arO o + w2 by omega]; exact ih⟩
theorem validF_vld {N : Nat} {f : List Int} (h : validF N f = true) : vld N 1 f = true := by
  simp only [validF, Bool.and_eq_true] at h
  exact h.1
theorem valid_two {N : Nat} {z : Int} {f g : List Int} (hz : z = -4 ∨ z = -5 ∨ z = -6) (hf : validF N f = true) (hg : validF N g = true) (h : f.length + g.length ≤ 90) : validF N (z :: f ++ g) = true := by
  have h1 := vld_app f g 1 1 (validF_vld hf) (validF_vld hg)
  simp only [validF, Bool.and_eq_true, decide_eq_true_eq, List.cons_append, vld]
  refine ⟨⟨⟨by omega, by omega⟩, ?_⟩, by simp; omega⟩
  have : arO z = 2 := by unfold arO; rcases hz with rfl | rfl | rfl <;> rfl
  rw [this]; exact h1
theorem valid_not {N : Nat} {f : List Int} (hf : validF N f = true) (h : f.length ≤ 99) : validF N (-3 :: f) = true := by
  simp only [validF, Bool.and_eq_true, decide_eq_true_eq, vld]
  exact ⟨⟨⟨by omega, by omega⟩, validF_vld hf⟩, by simp; omega⟩
theorem ev_two {N : Nat} (v : Nat → Bool) {z : Int} {f g : List Int} (hf : validF N f = true) (hg : validF N g = true) : evF1 v (z :: f ++ g) = (stp v z [evF1 v f, evF1 v g]).headD false := by
  unfold evF1
  rw [List.cons_append, evS_cons, evS_app v f g 1 (validF_vld hf), validF_one hf v, validF_one hg v]
  rfl
theorem ev_same {N : Nat} (v : Nat → Bool) {f g : List Int} (hf : validF N f = true) (hg : validF N g = true) : evF1 v (-6 :: f ++ g) = (evF1 v f == evF1 v g) := by rw [ev_two v hf hg]; rfl
theorem ev_and {N : Nat} (v : Nat → Bool) {f g : List Int} (hf : validF N f = true) (hg : validF N g = true) : evF1 v (-4 :: f ++ g) = (evF1 v f && evF1 v g) := by rw [ev_two v hf hg]; rfl
theorem ev_or {N : Nat} (v : Nat → Bool) {f g : List Int} (hf : validF N f = true) (hg : validF N g = true) : evF1 v (-5 :: f ++ g) = (evF1 v f || evF1 v g) := by rw [ev_two v hf hg]; rfl
theorem ev_not {N : Nat} (v : Nat → Bool) {f : List Int} (hf : validF N f = true) : evF1 v (-3 :: f) = !evF1 v f := by
  show (stp v (-3) (evS v f)).headD false = _
  rw [validF_one hf v]
  rfl
theorem errF_of {m : Mo} {f : List Int} (h : m.err = 0) (hf : validF m.opts.length f = true) : m.errF [f] = 0 := by
  unfold Mo.errF
  rw [if_neg (by simp [h]), if_neg (by simp [hf])]
theorem bldM_ok (m : Mo) (f : List Int) : BldOk m.opts.length (bldG m f) m.opts.length [] [] (bldM m f).1 (bldM m f).2 :=
  bld_ok (bldG m f) m.opts.length [] [] (by simp) (fun i hi => by simp at hi)
theorem bldM_at (m : Mo) (f : List Int) {y : List Bool} (hy : y.length = m.opts.length) : flw (bldM m f).1 y (bldM m f).1.length (bldM m f).2 = if bldG m f y then -2 else -1 := by
  have := (bldM_ok m f).val y hy
  simpa using this
/-- Equal diagrams: equal in all buildable variants. -/
theorem diag_same {m : Mo} {f g : List Int} (hf : validF m.opts.length f = true) (hg : validF m.opts.length g = true) : (whereF (allM m) (-3 :: (-6 :: f ++ g))).length = 0 ↔ bldM m f = bldM m g := by
  have hmem : ∀ y : List Bool, y ∈ allM m ↔ y.length = m.opts.length ∧ allF (vf y) m.rules = true := fun y => by
    unfold allM
    rw [List.mem_filter]
    constructor
    · rintro ⟨h1, h2⟩
      have := exts_len _ _ _ h1
      exact ⟨by simpa using this, h2⟩
    · rintro ⟨h1, h2⟩
      exact ⟨exts_all _ _ h1, h2⟩
  have hev : ∀ y, evF1 (vf y) (-3 :: (-6 :: f ++ g)) = !(evF1 (vf y) f == evF1 (vf y) g) := fun y => by
    show (stp (vf y) (-3) (evS (vf y) (-6 :: f ++ g))).headD false = _
    rw [List.cons_append, evS_cons, evS_app (vf y) f g 1 (validF_vld hf), validF_one hf, validF_one hg]
    rfl
  constructor
  · intro h
    have h0 := List.eq_nil_of_length_eq_zero h
    unfold whereF at h0
    rw [List.filter_eq_nil_iff] at h0
    refine bld_congr _ _ _ _ _ fun y hy => ?_
    rw [List.nil_append]
    by_cases hr : allF (vf y) m.rules = true
    · have h1 := h0 y ((hmem y).2 ⟨hy, hr⟩)
      rw [hev] at h1
      have h2 : evF1 (vf y) f = evF1 (vf y) g := by
        generalize evF1 (vf y) f = a at h1
        generalize evF1 (vf y) g = b at h1
        cases a <;> cases b <;> simp at h1 <;> rfl
      show (allF (vf y) m.rules && evF1 (vf y) f) = (allF (vf y) m.rules && evF1 (vf y) g)
      rw [h2]
    · have hr2 : allF (vf y) m.rules = false := by simpa using hr
      show (allF (vf y) m.rules && evF1 (vf y) f) = (allF (vf y) m.rules && evF1 (vf y) g)
      rw [hr2]; rfl
  · intro h
    rw [List.length_eq_zero_iff]
    unfold whereF
    rw [List.filter_eq_nil_iff]
    intro y hy
    obtain ⟨h1, h2⟩ := (hmem y).1 hy
    have a1 := bldM_at m f h1
    have a2 := bldM_at m g h1
    rw [h, a2] at a1
    have e : bldG m f y = bldG m g y := by
      generalize bldG m f y = a at a1
      generalize bldG m g y = b at a1
      cases a <;> cases b <;> simp at a1 <;> rfl
    have e1 : (allF (vf y) m.rules && evF1 (vf y) f) = (allF (vf y) m.rules && evF1 (vf y) g) := e
    rw [h2, Bool.true_and, Bool.true_and] at e1
    rw [hev, e1]
    simp
/-- Follow of the diagram that build makes. -/
theorem follow_diag {m : Mo} {f : List Int} {y : List Bool} (he : m.err = 0) (h : (bldM m f).1.length ≤ 2000) (hy : y.length = m.opts.length) : folE m (bldM m f).1 (bldM m f).2 y = 0 ∧ folB m (bldM m f).1 (bldM m f).2 y = (allF (vf y) m.rules && evF1 (vf y) f) := by
  have hb := bldM_ok m f
  have h3 := hb.ref.lt
  obtain ⟨h1, h2⟩ := fol_ok (v := y) he h (allB_yes hb.good) h3.1 h3.2 hy
  refine ⟨h1, ?_⟩
  rw [h2, bldM_at m f hy]
  show _ = bldG m f y
  cases bldG m f y <;> rfl
theorem dig_inv {m : Mo} {f : List Int} (h : digE m f = 0) : m.errF [f] = 0 ∧ (bldM m f).1.length ≤ 2000 ∧ digK m f = (bldM m f).1 ∧ digR m f = (bldM m f).2 := by
  have h1 : m.errF [f] = 0 := by
    by_cases h1 : m.errF [f] = 0
    · exact h1
    · rw [dig_err h1] at h; exact absurd h h1
  have h2 : (bldM m f).1.length ≤ 2000 := by
    by_cases h2 : 2000 < (bldM m f).1.length
    · rw [dig_many h1 h2] at h; omega
    · omega
  exact ⟨h1, h2, (dig_ok h1 h2).2⟩
theorem dig_cases {m : Mo} {f : List Int} (h : m.errF [f] = 0) : digE m f = 0 ∨ digE m f = 2 := by
  by_cases h2 : 2000 < (bldM m f).1.length
  · exact .inr (dig_many h h2)
  · exact .inl (dig_ok h (by omega)).1
theorem bui_is {m : Mo} {vs : List Bool} (h : m.err = 0) (h2 : vs.length = m.opts.length) : buiB m vs = allF (vf vs) m.rules := by
  cases ha : allF (vf vs) m.rules with
  | true => exact (bui_yes1 h h2 ha).2.1
  | false =>
    cases hb : buiB m vs with
    | false => rfl
    | true =>
      have := (bui_inv1 (bui_ok h h2).1 hb).2.2
      rw [ha] at this
      cases this
theorem bui_zero {m : Mo} {vs : List Bool} (h : buiE m vs = 0) : m.err = 0 ∧ vs.length = m.opts.length := by
  unfold buiE at h
  split at h
  · rename_i h1; exact absurd h h1
  · rename_i h1
    split at h
    · omega
    · rename_i h2
      exact ⟨by omega, by omega⟩
theorem asked_follow {m : Mo} {f : List Int} {vs : List Bool} (hd : digE m f = 0) (hb : buiE m vs = 0) : holE m f vs = 0 ∧ folE m (digK m f) (digR m f) vs = 0 ∧ folB m (digK m f) (digR m f) vs = (buiB m vs && holB m f vs) := by
  obtain ⟨h1, h2, h3, h4⟩ := dig_inv hd
  obtain ⟨h5, h6⟩ := bui_zero hb
  obtain ⟨h7, h8⟩ := hol_ok h1 h6
  obtain ⟨h9, h10⟩ := follow_diag h5 h2 h6
  rw [h3, h4, h8, bui_is h5 h6]
  exact ⟨h7, h9, h10⟩
theorem asked_same {m : Mo} {f g : List Int} (d1 : digE m f = 0) (d2 : digE m g = 0) (hf : f.length ≤ 40) (hg : g.length ≤ 40) : m.errF [-3 :: (-6 :: f ++ g)] = 0 ∧ ((cntE m (-3 :: (-6 :: f ++ g)) : Int) = 0 ↔ (digK m f = digK m g ∧ digR m f = digR m g)) := by
  obtain ⟨h1, h2, h3, h4⟩ := dig_inv d1
  obtain ⟨k1, k2, k3, k4⟩ := dig_inv d2
  have v1 := (Mo.okF h1).2 f (by simp)
  have v2 := (Mo.okF k1).2 g (by simp)
  have v3 : validF m.opts.length (-3 :: (-6 :: f ++ g)) = true := valid_not (valid_two (by omega) v1 v2 (by omega)) (by simp; omega)
  have he := errF_of (Mo.okF h1).1 v3
  refine ⟨he, ?_⟩
  rw [cnt_ok he, h3, h4, k3, k4]
  have := diag_same (m := m) v1 v2
  rw [show ((whereF (allM m) (-3 :: (-6 :: f ++ g))).length : Int) = 0 ↔ (whereF (allM m) (-3 :: (-6 :: f ++ g))).length = 0 by omega, this]
  exact Prod.ext_iff
end Go.Proofs.Ytohofcmikfkilaa
/- Whether two lists of knots are the same: walk. -/
namespace Go.Proofs.Ytohofcmikfkilaa
open Go.RowKit
set_option linter.unusedVariables false
set_option linter.unusedSimpArgs false
theorem kts_ext {K L : List Kt} (hl : K.length = L.length) (h : ∀ j, j < K.length → K.getD j Kt.z = L.getD j Kt.z) : K = L := by
  refine List.ext_getElem hl fun i h1 h2 => ?_
  have := h i h1
  simpa [List.getD_eq_getElem?_getD, List.getElem?_eq_getElem h1, List.getElem?_eq_getElem h2] using this
set_option maxRecDepth 100000 in
set_option maxHeartbeats 4000000 in
theorem sameKnots_any (K L : List Kt) (u v : Value) (w : World) (ha : Kts w w.heap.size u K) (hb : Kts w w.heap.size v L) (hl : K.length ≤ 1000000) (hl2 : L.length ≤ 1000000) :
    Calls Try.prog 36 #[u, v] w fun e w' => e = .returned (.bool (decide (K = L))) ∧ Below w.heap.size w w' := by
  obtain ⟨KK, hKK⟩ : ∃ x, x = K := ⟨_, rfl⟩
  subst hKK
  obtain ⟨A, b0, off, cap, rfl, hnc, hA, hc⟩ := ha
  obtain ⟨A', b1, off1, cap1, rfl, hnc1, hA1, hc1⟩ := hb
  have HC := hide hc
  have HC1 := hide hc1
  have HA := hide hA
  have HA1 := hide hA1
  clear hc hc1 hA hA1 hnc hnc1
  by_cases hll : (KK.length : Int) = (L.length : Int)
  · have hll2 : KK.length = L.length := by omega
    have HLL := hide hll2
    have gq : ((KK.length : Int) != (L.length : Int)) = false := by simpa using hll
    clear hll hll2
    go_enter Try.func36, Try.ntmps36
    go_wp2_with fail
    go_loopw [5] (fun i wr => ∃ k : Nat, k ≤ KK.length ∧ i = .int .i64 k ∧ Hid (Below w.heap.size w wr) ∧ Hid (∀ j, j < k → KK.getD j Kt.z = L.getD j Kt.z)) (fun i _ => KK.length - (intOf i).toNat)
    case atStart => exact ⟨0, Nat.zero_le _, rfl, Below.refl _ _, fun j hj => absurd hj (by omega)⟩
    case round =>
      obtain ⟨k, hk, rfl, hB, hno⟩ := hrel
      by_cases hlt : k < KK.length
      · obtain ⟨rfl, hbe, p0, p1, p2⟩ := kAt HA.out HC.out hlt
        obtain ⟨rfl, hbe1, r0, r1, r2⟩ := kAt (HA1.out) HC1.out (show k < L.length by have := HLL.out; omega)
        obtain ⟨ka, hka⟩ : ∃ x, KK.getD k Kt.z = x := ⟨_, rfl⟩
        obtain ⟨kb, hkb⟩ : ∃ x, L.getD k Kt.z = x := ⟨_, rfl⟩
        rw [hka] at p0 p1 p2
        rw [hkb] at r0 r1 r2
        have HKA := hide hka
        have HKB := hide hkb
        have q0 := (hB.out.cell (p := ⟨b0, off + k * 3, none⟩) hbe).trans p0
        have q1 := (hB.out.cell (p := ⟨b0, off + k * 3 + 1, none⟩) hbe).trans p1
        have q2 := (hB.out.cell (p := ⟨b0, off + k * 3 + 2, none⟩) hbe).trans p2
        have s0 := (hB.out.cell (p := ⟨b1, off1 + k * 3, none⟩) hbe1).trans r0
        have s1 := (hB.out.cell (p := ⟨b1, off1 + k * 3 + 1, none⟩) hbe1).trans r1
        have s2 := (hB.out.cell (p := ⟨b1, off1 + k * 3 + 2, none⟩) hbe1).trans r2
        have hs1 : b0 < wr.heap.size := Nat.lt_of_lt_of_le hbe hB.out.size
        have hs2 : b1 < wr.heap.size := Nat.lt_of_lt_of_le hbe1 hB.out.size
        have gi0 : (k : Int) < (KK.length : Int) := by omega
        have gi1 : (0 : Int) ≤ (k : Int) := by omega
        have gi2 : (k : Int) < (L.length : Int) := by have := HLL.out; omega
        have HBB := hide hB.out
        have HNO := hide hno.out
        clear p0 p1 p2 r0 r1 r2 hka hkb hB hno
        by_cases o1 : ka.o = kb.o
        · by_cases o2 : ka.l = kb.l
          · by_cases o3 : ka.h = kb.h
            · obtain rfl : ka = kb := Kt.ext' o1 o2 o3
              clear o1 o2 o3
              go_wp2_with fail
              refine wp_region_held_drew (S := (fun w' => Below wr.heap.size wr w')) (by kernel_rfl) ?_ (fun hHeld => ?_)
              · try dsimp only
                exact (by repeat (first | exact Below.refl _ _ | assumption | refine Below.drew ?_ | refine Below.drewN ?_ _ | refine Below.allocT ?_ (Nat.le_refl _) _ | refine Below.setCell ?_ (by simp <;> omega) _ | refine Below.to ?_ (by assumption) (Nat.le_refl _)))
              refine wpAnyH_take (i := 0) (v := ?v1_0) rfl (by kernel_rfl) (by kernel_rfl) (by kernel_rfl) (fun _ _ _ h => h) (Or.inl ⟨by rfl, ?y1_0⟩) (by assumption) ?r1_0
              case' y1_0 => (intro w hSw; (try dsimp only at hSw); (try have hlS := HLK.out _ hSw); obtain ⟨hcS, hfS⟩ := bcell hSw; clear hSw; go_simp; try with_reducible rfl)
              try simp only [Act.put, List.getElem_toArray, List.getElem_cons_succ, List.getElem_cons_zero, List.setIfInBounds_toArray, List.set_cons_zero, List.set_cons_succ]
              refine wpAnyH_take (i := 1) (v := ?v1_1) rfl (by kernel_rfl) (by kernel_rfl) (by kernel_rfl) (fun _ _ _ h => h) (Or.inl ⟨by rfl, ?y1_1⟩) (by assumption) ?r1_1
              case' y1_1 => (intro w hSw; (try dsimp only at hSw); (try have hlS := HLK.out _ hSw); obtain ⟨hcS, hfS⟩ := bcell hSw; clear hSw; go_simp; try with_reducible rfl)
              try simp only [Act.put, List.getElem_toArray, List.getElem_cons_succ, List.getElem_cons_zero, List.setIfInBounds_toArray, List.set_cons_zero, List.set_cons_succ]
              refine wpAnyH_take (i := 2) (v := ?v1_2) rfl (by kernel_rfl) (by kernel_rfl) (by kernel_rfl) (fun _ _ _ h => h) (Or.inl ⟨by rfl, ?y1_2⟩) (by assumption) ?r1_2
              case' y1_2 => (intro w hSw; (try dsimp only at hSw); (try have hlS := HLK.out _ hSw); obtain ⟨hcS, hfS⟩ := bcell hSw; clear hSw; go_simp; try with_reducible rfl)
              try simp only [Act.put, List.getElem_toArray, List.getElem_cons_succ, List.getElem_cons_zero, List.setIfInBounds_toArray, List.set_cons_zero, List.set_cons_succ]
              refine wpAnyH_take (i := 3) (v := ?v1_3) rfl (by kernel_rfl) (by kernel_rfl) (by kernel_rfl) (fun _ _ _ h => h) (Or.inl ⟨by rfl, ?y1_3⟩) (by assumption) ?r1_3
              case' y1_3 => (intro w hSw; (try dsimp only at hSw); (try have hlS := HLK.out _ hSw); obtain ⟨hcS, hfS⟩ := bcell hSw; clear hSw; go_simp; try with_reducible rfl)
              try simp only [Act.put, List.getElem_toArray, List.getElem_cons_succ, List.getElem_cons_zero, List.setIfInBounds_toArray, List.set_cons_zero, List.set_cons_succ]
              refine wpAnyH_take (i := 4) (v := ?v1_4) rfl (by kernel_rfl) (by kernel_rfl) (by kernel_rfl) (fun _ _ _ h => h) (Or.inl ⟨by rfl, ?y1_4⟩) (by assumption) ?r1_4
              case' y1_4 => (intro w hSw; (try dsimp only at hSw); (try have hlS := HLK.out _ hSw); obtain ⟨hcS, hfS⟩ := bcell hSw; clear hSw; go_simp; try with_reducible rfl)
              try simp only [Act.put, List.getElem_toArray, List.getElem_cons_succ, List.getElem_cons_zero, List.setIfInBounds_toArray, List.set_cons_zero, List.set_cons_succ]
              refine wpAnyH_take (i := 5) (v := ?v1_5) rfl (by kernel_rfl) (by kernel_rfl) (by kernel_rfl) (fun _ _ _ h => h) (Or.inl ⟨by rfl, ?y1_5⟩) (by assumption) ?r1_5
              case' y1_5 => (intro w hSw; (try dsimp only at hSw); (try have hlS := HLK.out _ hSw); obtain ⟨hcS, hfS⟩ := bcell hSw; clear hSw; go_simp; try with_reducible rfl)
              try simp only [Act.put, List.getElem_toArray, List.getElem_cons_succ, List.getElem_cons_zero, List.setIfInBounds_toArray, List.set_cons_zero, List.set_cons_succ]
              refine wpAnyH_take (i := 6) (v := ?v1_6) rfl (by kernel_rfl) (by kernel_rfl) (by kernel_rfl) (fun _ _ _ h => h) (Or.inl ⟨by rfl, ?y1_6⟩) (by assumption) ?r1_6
              case' y1_6 => (intro w hSw; (try dsimp only at hSw); (try have hlS := HLK.out _ hSw); obtain ⟨hcS, hfS⟩ := bcell hSw; clear hSw; go_simp; try with_reducible rfl)
              try simp only [Act.put, List.getElem_toArray, List.getElem_cons_succ, List.getElem_cons_zero, List.setIfInBounds_toArray, List.set_cons_zero, List.set_cons_succ]
              refine wpAnyH_take (i := 7) (v := ?v1_7) rfl (by kernel_rfl) (by kernel_rfl) (by kernel_rfl) (fun _ _ _ h => h) (Or.inl ⟨by rfl, ?y1_7⟩) (by assumption) ?r1_7
              case' y1_7 => (intro w hSw; (try dsimp only at hSw); (try have hlS := HLK.out _ hSw); obtain ⟨hcS, hfS⟩ := bcell hSw; clear hSw; go_simp; try with_reducible rfl)
              try simp only [Act.put, List.getElem_toArray, List.getElem_cons_succ, List.getElem_cons_zero, List.setIfInBounds_toArray, List.set_cons_zero, List.set_cons_succ]
              refine wpAnyH_take (i := 8) (v := ?v1_8) rfl (by kernel_rfl) (by kernel_rfl) (by kernel_rfl) (fun _ _ _ h => h) (Or.inl ⟨by rfl, ?y1_8⟩) (by assumption) ?r1_8
              case' y1_8 => (intro w hSw; (try dsimp only at hSw); (try have hlS := HLK.out _ hSw); obtain ⟨hcS, hfS⟩ := bcell hSw; clear hSw; go_simp; try with_reducible rfl)
              try simp only [Act.put, List.getElem_toArray, List.getElem_cons_succ, List.getElem_cons_zero, List.setIfInBounds_toArray, List.set_cons_zero, List.set_cons_succ]
              refine wpAnyH_done (by kernel_rfl) ?_ _
              go_wp2_with fail
              go_roundw
              case rel => exact ⟨k + 1, by omega, by go_num, Below.to HBB.out hHeld (Nat.le_refl _), fun j hj => by
                rcases Nat.lt_or_ge j k with h | h
                · exact HNO.out j h
                · obtain rfl : j = k := by omega
                  rw [HKA.out, HKB.out]⟩
              case measure => simp [intOf]; omega
            · have hne : decide (KK = L) = false := decide_eq_false fun e => o3 (by rw [← HKA.out, ← HKB.out, e])
              have HNE := hide hne
              clear hne
              go_wp2_with fail
              refine wp_region_held_drew (S := (fun w' => Below wr.heap.size wr w')) (by kernel_rfl) ?_ (fun hHeld => ?_)
              · try dsimp only
                exact (by repeat (first | exact Below.refl _ _ | assumption | refine Below.drew ?_ | refine Below.drewN ?_ _ | refine Below.allocT ?_ (Nat.le_refl _) _ | refine Below.setCell ?_ (by simp <;> omega) _ | refine Below.to ?_ (by assumption) (Nat.le_refl _)))
              refine wpAnyH_take (i := 0) (v := ?v2_0) rfl (by kernel_rfl) (by kernel_rfl) (by kernel_rfl) (fun _ _ _ h => h) (Or.inl ⟨by rfl, ?y2_0⟩) (by assumption) ?r2_0
              case' y2_0 => (intro w hSw; (try dsimp only at hSw); (try have hlS := HLK.out _ hSw); obtain ⟨hcS, hfS⟩ := bcell hSw; clear hSw; go_simp; try with_reducible rfl)
              try simp only [Act.put, List.getElem_toArray, List.getElem_cons_succ, List.getElem_cons_zero, List.setIfInBounds_toArray, List.set_cons_zero, List.set_cons_succ]
              refine wpAnyH_take (i := 1) (v := ?v2_1) rfl (by kernel_rfl) (by kernel_rfl) (by kernel_rfl) (fun _ _ _ h => h) (Or.inl ⟨by rfl, ?y2_1⟩) (by assumption) ?r2_1
              case' y2_1 => (intro w hSw; (try dsimp only at hSw); (try have hlS := HLK.out _ hSw); obtain ⟨hcS, hfS⟩ := bcell hSw; clear hSw; go_simp; try with_reducible rfl)
              try simp only [Act.put, List.getElem_toArray, List.getElem_cons_succ, List.getElem_cons_zero, List.setIfInBounds_toArray, List.set_cons_zero, List.set_cons_succ]
              refine wpAnyH_take (i := 2) (v := ?v2_2) rfl (by kernel_rfl) (by kernel_rfl) (by kernel_rfl) (fun _ _ _ h => h) (Or.inl ⟨by rfl, ?y2_2⟩) (by assumption) ?r2_2
              case' y2_2 => (intro w hSw; (try dsimp only at hSw); (try have hlS := HLK.out _ hSw); obtain ⟨hcS, hfS⟩ := bcell hSw; clear hSw; go_simp; try with_reducible rfl)
              try simp only [Act.put, List.getElem_toArray, List.getElem_cons_succ, List.getElem_cons_zero, List.setIfInBounds_toArray, List.set_cons_zero, List.set_cons_succ]
              refine wpAnyH_take (i := 3) (v := ?v2_3) rfl (by kernel_rfl) (by kernel_rfl) (by kernel_rfl) (fun _ _ _ h => h) (Or.inl ⟨by rfl, ?y2_3⟩) (by assumption) ?r2_3
              case' y2_3 => (intro w hSw; (try dsimp only at hSw); (try have hlS := HLK.out _ hSw); obtain ⟨hcS, hfS⟩ := bcell hSw; clear hSw; go_simp; try with_reducible rfl)
              try simp only [Act.put, List.getElem_toArray, List.getElem_cons_succ, List.getElem_cons_zero, List.setIfInBounds_toArray, List.set_cons_zero, List.set_cons_succ]
              refine wpAnyH_take (i := 4) (v := ?v2_4) rfl (by kernel_rfl) (by kernel_rfl) (by kernel_rfl) (fun _ _ _ h => h) (Or.inl ⟨by rfl, ?y2_4⟩) (by assumption) ?r2_4
              case' y2_4 => (intro w hSw; (try dsimp only at hSw); (try have hlS := HLK.out _ hSw); obtain ⟨hcS, hfS⟩ := bcell hSw; clear hSw; go_simp; try with_reducible rfl)
              try simp only [Act.put, List.getElem_toArray, List.getElem_cons_succ, List.getElem_cons_zero, List.setIfInBounds_toArray, List.set_cons_zero, List.set_cons_succ]
              refine wpAnyH_take (i := 5) (v := ?v2_5) rfl (by kernel_rfl) (by kernel_rfl) (by kernel_rfl) (fun _ _ _ h => h) (Or.inl ⟨by rfl, ?y2_5⟩) (by assumption) ?r2_5
              case' y2_5 => (intro w hSw; (try dsimp only at hSw); (try have hlS := HLK.out _ hSw); obtain ⟨hcS, hfS⟩ := bcell hSw; clear hSw; go_simp; try with_reducible rfl)
              try simp only [Act.put, List.getElem_toArray, List.getElem_cons_succ, List.getElem_cons_zero, List.setIfInBounds_toArray, List.set_cons_zero, List.set_cons_succ]
              refine wpAnyH_take (i := 6) (v := ?v2_6) rfl (by kernel_rfl) (by kernel_rfl) (by kernel_rfl) (fun _ _ _ h => h) (Or.inl ⟨by rfl, ?y2_6⟩) (by assumption) ?r2_6
              case' y2_6 => (intro w hSw; (try dsimp only at hSw); (try have hlS := HLK.out _ hSw); obtain ⟨hcS, hfS⟩ := bcell hSw; clear hSw; go_simp; try with_reducible rfl)
              try simp only [Act.put, List.getElem_toArray, List.getElem_cons_succ, List.getElem_cons_zero, List.setIfInBounds_toArray, List.set_cons_zero, List.set_cons_succ]
              refine wpAnyH_take (i := 7) (v := ?v2_7) rfl (by kernel_rfl) (by kernel_rfl) (by kernel_rfl) (fun _ _ _ h => h) (Or.inl ⟨by rfl, ?y2_7⟩) (by assumption) ?r2_7
              case' y2_7 => (intro w hSw; (try dsimp only at hSw); (try have hlS := HLK.out _ hSw); obtain ⟨hcS, hfS⟩ := bcell hSw; clear hSw; go_simp; try with_reducible rfl)
              try simp only [Act.put, List.getElem_toArray, List.getElem_cons_succ, List.getElem_cons_zero, List.setIfInBounds_toArray, List.set_cons_zero, List.set_cons_succ]
              refine wpAnyH_take (i := 8) (v := ?v2_8) rfl (by kernel_rfl) (by kernel_rfl) (by kernel_rfl) (fun _ _ _ h => h) (Or.inl ⟨by rfl, ?y2_8⟩) (by assumption) ?r2_8
              case' y2_8 => (intro w hSw; (try dsimp only at hSw); (try have hlS := HLK.out _ hSw); obtain ⟨hcS, hfS⟩ := bcell hSw; clear hSw; go_simp; try with_reducible rfl)
              try simp only [Act.put, List.getElem_toArray, List.getElem_cons_succ, List.getElem_cons_zero, List.setIfInBounds_toArray, List.set_cons_zero, List.set_cons_succ]
              refine wpAnyH_done (by kernel_rfl) ?_ _
              go_wp2_with fail
              go_ret
              exact ⟨ret_bool HNE.out.symm, Below.to HBB.out hHeld (Nat.le_refl _)⟩
          · have hne : decide (KK = L) = false := decide_eq_false fun e => o2 (by rw [← HKA.out, ← HKB.out, e])
            have HNE := hide hne
            clear hne
            go_wp2_with fail
            refine wp_region_held_drew (S := (fun w' => Below wr.heap.size wr w')) (by kernel_rfl) ?_ (fun hHeld => ?_)
            · try dsimp only
              exact (by repeat (first | exact Below.refl _ _ | assumption | refine Below.drew ?_ | refine Below.drewN ?_ _ | refine Below.allocT ?_ (Nat.le_refl _) _ | refine Below.setCell ?_ (by simp <;> omega) _ | refine Below.to ?_ (by assumption) (Nat.le_refl _)))
            refine wpAnyH_take (i := 0) (v := ?v3_0) rfl (by kernel_rfl) (by kernel_rfl) (by kernel_rfl) (fun _ _ _ h => h) (Or.inl ⟨by rfl, ?y3_0⟩) (by assumption) ?r3_0
            case' y3_0 => (intro w hSw; (try dsimp only at hSw); (try have hlS := HLK.out _ hSw); obtain ⟨hcS, hfS⟩ := bcell hSw; clear hSw; go_simp; try with_reducible rfl)
            try simp only [Act.put, List.getElem_toArray, List.getElem_cons_succ, List.getElem_cons_zero, List.setIfInBounds_toArray, List.set_cons_zero, List.set_cons_succ]
            refine wpAnyH_take (i := 1) (v := ?v3_1) rfl (by kernel_rfl) (by kernel_rfl) (by kernel_rfl) (fun _ _ _ h => h) (Or.inl ⟨by rfl, ?y3_1⟩) (by assumption) ?r3_1
            case' y3_1 => (intro w hSw; (try dsimp only at hSw); (try have hlS := HLK.out _ hSw); obtain ⟨hcS, hfS⟩ := bcell hSw; clear hSw; go_simp; try with_reducible rfl)
            try simp only [Act.put, List.getElem_toArray, List.getElem_cons_succ, List.getElem_cons_zero, List.setIfInBounds_toArray, List.set_cons_zero, List.set_cons_succ]
            refine wpAnyH_take (i := 2) (v := ?v3_2) rfl (by kernel_rfl) (by kernel_rfl) (by kernel_rfl) (fun _ _ _ h => h) (Or.inl ⟨by rfl, ?y3_2⟩) (by assumption) ?r3_2
            case' y3_2 => (intro w hSw; (try dsimp only at hSw); (try have hlS := HLK.out _ hSw); obtain ⟨hcS, hfS⟩ := bcell hSw; clear hSw; go_simp; try with_reducible rfl)
            try simp only [Act.put, List.getElem_toArray, List.getElem_cons_succ, List.getElem_cons_zero, List.setIfInBounds_toArray, List.set_cons_zero, List.set_cons_succ]
            refine wpAnyH_take (i := 3) (v := ?v3_3) rfl (by kernel_rfl) (by kernel_rfl) (by kernel_rfl) (fun _ _ _ h => h) (Or.inl ⟨by rfl, ?y3_3⟩) (by assumption) ?r3_3
            case' y3_3 => (intro w hSw; (try dsimp only at hSw); (try have hlS := HLK.out _ hSw); obtain ⟨hcS, hfS⟩ := bcell hSw; clear hSw; go_simp; try with_reducible rfl)
            try simp only [Act.put, List.getElem_toArray, List.getElem_cons_succ, List.getElem_cons_zero, List.setIfInBounds_toArray, List.set_cons_zero, List.set_cons_succ]
            refine wpAnyH_take (i := 4) (v := ?v3_4) rfl (by kernel_rfl) (by kernel_rfl) (by kernel_rfl) (fun _ _ _ h => h) (Or.inl ⟨by rfl, ?y3_4⟩) (by assumption) ?r3_4
            case' y3_4 => (intro w hSw; (try dsimp only at hSw); (try have hlS := HLK.out _ hSw); obtain ⟨hcS, hfS⟩ := bcell hSw; clear hSw; go_simp; try with_reducible rfl)
            try simp only [Act.put, List.getElem_toArray, List.getElem_cons_succ, List.getElem_cons_zero, List.setIfInBounds_toArray, List.set_cons_zero, List.set_cons_succ]
            refine wpAnyH_take (i := 5) (v := ?v3_5) rfl (by kernel_rfl) (by kernel_rfl) (by kernel_rfl) (fun _ _ _ h => h) (Or.inl ⟨by rfl, ?y3_5⟩) (by assumption) ?r3_5
            case' y3_5 => (intro w hSw; (try dsimp only at hSw); (try have hlS := HLK.out _ hSw); obtain ⟨hcS, hfS⟩ := bcell hSw; clear hSw; go_simp; try with_reducible rfl)
            try simp only [Act.put, List.getElem_toArray, List.getElem_cons_succ, List.getElem_cons_zero, List.setIfInBounds_toArray, List.set_cons_zero, List.set_cons_succ]
            refine wpAnyH_take (i := 6) (v := ?v3_6) rfl (by kernel_rfl) (by kernel_rfl) (by kernel_rfl) (fun _ _ _ h => h) (Or.inl ⟨by rfl, ?y3_6⟩) (by assumption) ?r3_6
            case' y3_6 => (intro w hSw; (try dsimp only at hSw); (try have hlS := HLK.out _ hSw); obtain ⟨hcS, hfS⟩ := bcell hSw; clear hSw; go_simp; try with_reducible rfl)
            try simp only [Act.put, List.getElem_toArray, List.getElem_cons_succ, List.getElem_cons_zero, List.setIfInBounds_toArray, List.set_cons_zero, List.set_cons_succ]
            refine wpAnyH_take (i := 7) (v := ?v3_7) rfl (by kernel_rfl) (by kernel_rfl) (by kernel_rfl) (fun _ _ _ h => h) (Or.inl ⟨by rfl, ?y3_7⟩) (by assumption) ?r3_7
            case' y3_7 => (intro w hSw; (try dsimp only at hSw); (try have hlS := HLK.out _ hSw); obtain ⟨hcS, hfS⟩ := bcell hSw; clear hSw; go_simp; try with_reducible rfl)
            try simp only [Act.put, List.getElem_toArray, List.getElem_cons_succ, List.getElem_cons_zero, List.setIfInBounds_toArray, List.set_cons_zero, List.set_cons_succ]
            refine wpAnyH_take (i := 8) (v := ?v3_8) rfl (by kernel_rfl) (by kernel_rfl) (by kernel_rfl) (fun _ _ _ h => h) (Or.inl ⟨by rfl, ?y3_8⟩) (by assumption) ?r3_8
            case' y3_8 => (intro w hSw; (try dsimp only at hSw); (try have hlS := HLK.out _ hSw); obtain ⟨hcS, hfS⟩ := bcell hSw; clear hSw; go_simp; try with_reducible rfl)
            try simp only [Act.put, List.getElem_toArray, List.getElem_cons_succ, List.getElem_cons_zero, List.setIfInBounds_toArray, List.set_cons_zero, List.set_cons_succ]
            refine wpAnyH_done (by kernel_rfl) ?_ _
            go_wp2_with fail
            go_ret
            exact ⟨ret_bool HNE.out.symm, Below.to HBB.out hHeld (Nat.le_refl _)⟩
        · have hne : decide (KK = L) = false := decide_eq_false fun e => o1 (by rw [← HKA.out, ← HKB.out, e])
          have HNE := hide hne
          clear hne
          go_wp2_with fail
          refine wp_region_held_drew (S := (fun w' => Below wr.heap.size wr w')) (by kernel_rfl) ?_ (fun hHeld => ?_)
          · try dsimp only
            exact (by repeat (first | exact Below.refl _ _ | assumption | refine Below.drew ?_ | refine Below.drewN ?_ _ | refine Below.allocT ?_ (Nat.le_refl _) _ | refine Below.setCell ?_ (by simp <;> omega) _ | refine Below.to ?_ (by assumption) (Nat.le_refl _)))
          refine wpAnyH_take (i := 0) (v := ?v4_0) rfl (by kernel_rfl) (by kernel_rfl) (by kernel_rfl) (fun _ _ _ h => h) (Or.inl ⟨by rfl, ?y4_0⟩) (by assumption) ?r4_0
          case' y4_0 => (intro w hSw; (try dsimp only at hSw); (try have hlS := HLK.out _ hSw); obtain ⟨hcS, hfS⟩ := bcell hSw; clear hSw; go_simp; try with_reducible rfl)
          try simp only [Act.put, List.getElem_toArray, List.getElem_cons_succ, List.getElem_cons_zero, List.setIfInBounds_toArray, List.set_cons_zero, List.set_cons_succ]
          refine wpAnyH_take (i := 1) (v := ?v4_1) rfl (by kernel_rfl) (by kernel_rfl) (by kernel_rfl) (fun _ _ _ h => h) (Or.inl ⟨by rfl, ?y4_1⟩) (by assumption) ?r4_1
          case' y4_1 => (intro w hSw; (try dsimp only at hSw); (try have hlS := HLK.out _ hSw); obtain ⟨hcS, hfS⟩ := bcell hSw; clear hSw; go_simp; try with_reducible rfl)
          try simp only [Act.put, List.getElem_toArray, List.getElem_cons_succ, List.getElem_cons_zero, List.setIfInBounds_toArray, List.set_cons_zero, List.set_cons_succ]
          refine wpAnyH_take (i := 2) (v := ?v4_2) rfl (by kernel_rfl) (by kernel_rfl) (by kernel_rfl) (fun _ _ _ h => h) (Or.inl ⟨by rfl, ?y4_2⟩) (by assumption) ?r4_2
          case' y4_2 => (intro w hSw; (try dsimp only at hSw); (try have hlS := HLK.out _ hSw); obtain ⟨hcS, hfS⟩ := bcell hSw; clear hSw; go_simp; try with_reducible rfl)
          try simp only [Act.put, List.getElem_toArray, List.getElem_cons_succ, List.getElem_cons_zero, List.setIfInBounds_toArray, List.set_cons_zero, List.set_cons_succ]
          refine wpAnyH_take (i := 3) (v := ?v4_3) rfl (by kernel_rfl) (by kernel_rfl) (by kernel_rfl) (fun _ _ _ h => h) (Or.inl ⟨by rfl, ?y4_3⟩) (by assumption) ?r4_3
          case' y4_3 => (intro w hSw; (try dsimp only at hSw); (try have hlS := HLK.out _ hSw); obtain ⟨hcS, hfS⟩ := bcell hSw; clear hSw; go_simp; try with_reducible rfl)
          try simp only [Act.put, List.getElem_toArray, List.getElem_cons_succ, List.getElem_cons_zero, List.setIfInBounds_toArray, List.set_cons_zero, List.set_cons_succ]
          refine wpAnyH_take (i := 4) (v := ?v4_4) rfl (by kernel_rfl) (by kernel_rfl) (by kernel_rfl) (fun _ _ _ h => h) (Or.inl ⟨by rfl, ?y4_4⟩) (by assumption) ?r4_4
          case' y4_4 => (intro w hSw; (try dsimp only at hSw); (try have hlS := HLK.out _ hSw); obtain ⟨hcS, hfS⟩ := bcell hSw; clear hSw; go_simp; try with_reducible rfl)
          try simp only [Act.put, List.getElem_toArray, List.getElem_cons_succ, List.getElem_cons_zero, List.setIfInBounds_toArray, List.set_cons_zero, List.set_cons_succ]
          refine wpAnyH_take (i := 5) (v := ?v4_5) rfl (by kernel_rfl) (by kernel_rfl) (by kernel_rfl) (fun _ _ _ h => h) (Or.inl ⟨by rfl, ?y4_5⟩) (by assumption) ?r4_5
          case' y4_5 => (intro w hSw; (try dsimp only at hSw); (try have hlS := HLK.out _ hSw); obtain ⟨hcS, hfS⟩ := bcell hSw; clear hSw; go_simp; try with_reducible rfl)
          try simp only [Act.put, List.getElem_toArray, List.getElem_cons_succ, List.getElem_cons_zero, List.setIfInBounds_toArray, List.set_cons_zero, List.set_cons_succ]
          refine wpAnyH_take (i := 6) (v := ?v4_6) rfl (by kernel_rfl) (by kernel_rfl) (by kernel_rfl) (fun _ _ _ h => h) (Or.inl ⟨by rfl, ?y4_6⟩) (by assumption) ?r4_6
          case' y4_6 => (intro w hSw; (try dsimp only at hSw); (try have hlS := HLK.out _ hSw); obtain ⟨hcS, hfS⟩ := bcell hSw; clear hSw; go_simp; try with_reducible rfl)
          try simp only [Act.put, List.getElem_toArray, List.getElem_cons_succ, List.getElem_cons_zero, List.setIfInBounds_toArray, List.set_cons_zero, List.set_cons_succ]
          refine wpAnyH_take (i := 7) (v := ?v4_7) rfl (by kernel_rfl) (by kernel_rfl) (by kernel_rfl) (fun _ _ _ h => h) (Or.inl ⟨by rfl, ?y4_7⟩) (by assumption) ?r4_7
          case' y4_7 => (intro w hSw; (try dsimp only at hSw); (try have hlS := HLK.out _ hSw); obtain ⟨hcS, hfS⟩ := bcell hSw; clear hSw; go_simp; try with_reducible rfl)
          try simp only [Act.put, List.getElem_toArray, List.getElem_cons_succ, List.getElem_cons_zero, List.setIfInBounds_toArray, List.set_cons_zero, List.set_cons_succ]
          refine wpAnyH_take (i := 8) (v := ?v4_8) rfl (by kernel_rfl) (by kernel_rfl) (by kernel_rfl) (fun _ _ _ h => h) (Or.inl ⟨by rfl, ?y4_8⟩) (by assumption) ?r4_8
          case' y4_8 => (intro w hSw; (try dsimp only at hSw); (try have hlS := HLK.out _ hSw); obtain ⟨hcS, hfS⟩ := bcell hSw; clear hSw; go_simp; try with_reducible rfl)
          try simp only [Act.put, List.getElem_toArray, List.getElem_cons_succ, List.getElem_cons_zero, List.setIfInBounds_toArray, List.set_cons_zero, List.set_cons_succ]
          refine wpAnyH_done (by kernel_rfl) ?_ _
          go_wp2_with fail
          go_ret
          exact ⟨ret_bool HNE.out.symm, Below.to HBB.out hHeld (Nat.le_refl _)⟩
      · obtain rfl : k = KK.length := by omega
        have gi0 : ¬ (KK.length : Int) < (KK.length : Int) := by omega
        have he : decide (KK = L) = true := decide_eq_true (kts_ext HLL.out hno.out)
        have HE := hide he
        clear he
        go_wp2_with fail
        go_ret
        exact ⟨ret_bool HE.out.symm, hB.out⟩
  · have hne : decide (KK = L) = false := decide_eq_false fun e => hll (by rw [e])
    have HNE := hide hne
    have gq : ((KK.length : Int) != (L.length : Int)) = true := by simpa using hll
    clear hll hne
    go_enter Try.func36, Try.ntmps36
    go_wp2_with fail
    go_ret
    exact ⟨ret_bool HNE.out.symm, (by repeat (first | exact Below.refl _ _ | assumption | refine Below.drew ?_ | refine Below.drewN ?_ _ | refine Below.allocT ?_ (Nat.le_refl _) _ | refine Below.setCell ?_ (by simp <;> omega) _ | refine Below.to ?_ (by assumption) (Nat.le_refl _)))⟩
end Go.Proofs.Ytohofcmikfkilaa

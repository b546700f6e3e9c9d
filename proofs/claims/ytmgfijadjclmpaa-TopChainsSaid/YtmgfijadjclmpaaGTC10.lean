/- Part 10 of this claim's texts: walks and plain laws. -/
import Derived.Test.YtmgfijadjclmpaaRows
import Derived.Test.YtmgfijadjclmpaaGTC8
import Derived.Test.YtmgfijadjclmpaaGTC9
import Derived.Deep.DeepMust
import Derived.Deep.RegionHeld3
import Derived.Deep.DrawnRows
import Derived.Test.YtmgfijadjclmpaaGTC2
/- before, up, and what the frames above take (load): walks. -/
namespace Go.Proofs.Ytmgfijadjclmpaa
open Go.RowKit
set_option linter.unusedVariables false
set_option linter.unusedSimpArgs false
def befB (l : List Fr) (i j : Nat) (ta tb : Int) : Bool := if i = j then decide (ta < tb) else decide ((l.getD i Fr.o).r < (l.getD j Fr.o).r)
set_option maxRecDepth 100000 in
set_option maxHeartbeats 2000000 in
theorem before_any (v : Value) (l : List Fr) (i j : Nat) (ta tb : Int) (w : World) (hm : l.length ≤ maxLen) (h : Frs w w.heap.size v l) (hi : i < l.length) (hj : j < l.length) :
    Calls Try.prog 21 #[v, .agg #[.int .i64 i, .int .i64 ta], .agg #[.int .i64 j, .int .i64 tb]] w fun e w' => e = .returned (.bool (befB l i j ta tb)) ∧ Below w.heap.size w w' := by
  unfold maxLen at hm
  obtain ⟨A, cap, rfl⟩ := h.form
  have H := hide h
  clear h
  by_cases hij : i = j
  · subst hij
    have hr : befB l i i ta tb = decide (ta < tb) := by unfold befB; rw [if_pos rfl]
    have hne : ((i : Int) != (i : Int)) = false := by simp
    rw [hr]
    clear hr
    go_enter Try.func21, Try.ntmps21
    go_upto_region 1 with (fail)
    generalize hw0 : World.alloc _ _ = w0
    obtain ⟨hb0, hb1, hB0, hs0⟩ := alloc2 hw0
    have c0 := cellOf hb0 0; have c1 := cellOf hb0 1
    have d0 := cellOf hb1 0; have d1 := cellOf hb1 1
    have hl0 := box_lt hb0
    have hl1 := box_lt hb1
    have HB0 := hide hB0
    clear hw0 hb0 hb1 hB0 hs0
    go_wp2
    go_ret
    exact ⟨rfl, HB0.out⟩
  · have hr : befB l i j ta tb = decide ((l.getD i Fr.o).r < (l.getD j Fr.o).r) := by unfold befB; rw [if_neg hij]
    have hne : ((i : Int) != (j : Int)) = true := by simp; omega
    obtain ⟨ra, hra⟩ : ∃ z, (l.getD i Fr.o).r = z := ⟨_, rfl⟩
    obtain ⟨rb, hrb⟩ : ∃ z, (l.getD j Fr.o).r = z := ⟨_, rfl⟩
    rw [hra, hrb] at hr
    rw [hr]
    have HRA := hide hra
    have HRB := hide hrb
    clear hra hrb
    go_enter Try.func21, Try.ntmps21
    go_upto_region 1 with (fail)
    generalize hw0 : World.alloc _ _ = w0
    obtain ⟨hb0, hb1, hB0, hs0⟩ := alloc2 hw0
    have c0 := cellOf hb0 0; have c1 := cellOf hb0 1
    have d0 := cellOf hb1 0; have d1 := cellOf hb1 1
    have hl0 := box_lt hb0
    have hl1 := box_lt hb1
    have HB0 := hide hB0
    have HF := hide (H.out.up hB0)
    obtain ⟨b, off, x, HX, hA, hbb, hq, e0, e1, e2, e3, e4⟩ := HF.out.at hi
    subst hA
    obtain ⟨b', off', y, HY, hA', hbb', hq', f0, f1, f2, f3, f4⟩ := HF.out.at hj
    injection hA' with hA'
    injection hA' with hA1 hA2 _
    subst hA1 hA2
    have hxa : x.r = ra := by rw [← HX.out]; exact HRA.out
    have hyb : y.r = rb := by rw [← HY.out]; exact HRB.out
    rw [hxa] at e4
    rw [hyb] at f4
    clear hxa hyb
    have ii0 : (0 : Int) ≤ (i : Int) := by omega
    have ii1 : (i : Int) < (l.length : Int) := by omega
    have jj0 : (0 : Int) ≤ (j : Int) := by omega
    have jj1 : (j : Int) < (l.length : Int) := by omega
    have iq : (l.length : Int) ≤ (cap : Int) := by omega
    clear hw0 hb0 hb1 hB0 hs0 hr e0 e1 e2 e3 f0 f1 f2 f3 hq hq' hij hi hj
    go_upto_region 2 with (fail)
    refine wp_region_held_drew (S := (fun w' => Below w0.heap.size w0 w')) (by kernel_rfl) ?_ (fun hHeld => ?_)
    · try dsimp only
      exact (by repeat (first | exact Below.refl _ _ | assumption | refine Below.drew ?_ | refine Below.drewN ?_ _ | refine Below.allocT ?_ (Nat.le_refl _) _ | refine Below.setCell ?_ (by simp <;> omega) _ | refine Below.to ?_ (by assumption) (Nat.le_refl _)))
    refine zT 0 rfl ?_
    refine zT 1 rfl ?_
    refine zT 2 rfl ?_
    refine zT 3 rfl ?_
    refine zT 4 rfl ?_
    refine zT 5 rfl ?_
    refine zT 6 rfl ?_
    refine zT 7 rfl ?_
    refine zT 8 rfl ?_
    refine zT 9 rfl ?_
    refine zT 10 rfl ?_
    refine zT 11 rfl ?_
    refine zT 12 rfl ?_
    refine zT 13 rfl ?_
    refine wpAnyH_done (by kernel_rfl) ?_ _
    go_wp2
    go_ret
    exact ⟨rfl, Below.to HB0.out hHeld (Nat.le_refl _)⟩
theorem upI_nonneg {n b : Int} (hn : 0 ≤ n) (hb : 1 ≤ b) : 0 ≤ upI n b := Int.ediv_nonneg (by omega) (by omega)
theorem upI_le {n b : Int} (hn : 0 ≤ n) (hb : 1 ≤ b) : upI n b ≤ n := by
  unfold upI
  rcases Int.lt_or_le 0 n with h2 | h2
  · refine Int.ediv_le_of_le_mul (by omega) ?_
    have h3 : 0 ≤ (n - 1) * (b - 1) := Int.mul_nonneg (by omega) (by omega)
    have e1 : (n - 1) * (b - 1) = n * b - n - b + 1 := by rw [Int.sub_mul, Int.mul_sub]; omega
    omega
  · have h4 : n = 0 := by omega
    subst h4
    have h5 : (0 + b - 1) / b = 0 := Int.ediv_eq_zero_of_lt (by omega) (by omega)
    rw [h5]
    exact Int.le_refl _
theorem upI_mono {n m b : Int} (h : n ≤ m) (hb : 1 ≤ b) : upI n b ≤ upI m b := Int.ediv_le_ediv (by omega) (by omega)
theorem divI_bd {n b : Int} (hn : 0 ≤ n) (hb : 1 ≤ b) : 0 ≤ n / b ∧ n / b ≤ n := ⟨Int.ediv_nonneg hn (by omega), Int.ediv_le_self _ hn⟩
set_option maxRecDepth 100000 in
theorem up_any (n b : Int) (w : World) (hn : 0 ≤ n) (hn1 : n ≤ 1000000000000) (hb : 1 ≤ b) (hb1 : b ≤ 1000000000000) :
    Calls Try.prog 55 #[.int .i64 n, .int .i64 b] w fun e w' => e = .returned (.int .i64 (upI n b)) ∧ w = w' := by
  have h0 := upI_nonneg hn hb
  have h1 := upI_le hn hb
  obtain ⟨u, hu⟩ : ∃ u, upI n b = u := ⟨_, rfl⟩
  have hq : Int.tdiv (n + b - 1) b = u := by rw [← hu]; exact Int.tdiv_eq_ediv_of_nonneg (by omega)
  rw [hu] at h0 h1 ⊢
  have w1 : IntKind.i64.wrap (n + b) = n + b := IntWalk.i64_in _ (by omega)
  have w2 : IntKind.i64.wrap (n + b - 1) = n + b - 1 := IntWalk.i64_in _ (by omega)
  have w3 : IntKind.i64.wrap u = u := IntWalk.i64_in _ (by omega)
  have hb0 : ¬ b = 0 := by omega
  have hb2 : (b == 0) = false := by simpa using hb0
  clear hu
  go_enter Try.func55, Try.ntmps55
  go_wp2
  go_ret
  exact ⟨rfl, rfl⟩
/-- A number in a box. -/
def IntBox (w : World) (b : Nat) (n : Int) : Prop := w.heap[b]? = some (.cells #[.int .i64 n] 3 (0, 0))
theorem IntBox.to {w w' : World} {b : Nat} {n : Int} (h : IntBox w b n) (hb : Below w.heap.size w w') : IntBox w' b n := box_to h hb
set_option maxRecDepth 100000 in
theorem many1_any (x : Fr) (t : Int) (tb : Nat) (w : World) (h : IntBox w tb t) (ht0 : 0 ≤ t) (ht1 : t ≤ 10000000) (hj0 : 0 ≤ x.j) (hj1 : x.j ≤ 100000) (he0 : 1 ≤ x.e) (he1 : x.e ≤ 100000) :
    Calls Try.prog 54 #[.agg #[.int .i64 x.s, .int .i64 x.e, .int .i64 x.j, .int .i64 x.d, .int .i64 x.r], .pointer (some ⟨tb, 0, none⟩)] w fun e w' => e = .returned (.int .i64 (upI (t + x.j) x.e)) ∧ Below w.heap.size w w' := by
  have hup := fun W => up_any (t + x.j) x.e W (by omega) (by omega) he0 (by omega)
  obtain ⟨u, hu⟩ : ∃ u, upI (t + x.j) x.e = u := ⟨_, rfl⟩
  rw [hu] at hup ⊢
  have HU := hide hup
  have H := hide h
  clear h hup hu
  go_enter Try.func54, Try.ntmps54
  go_upto_region 1 with (fail)
  generalize hw0 : World.alloc _ _ = w0
  obtain ⟨hb0, hB0, hs0⟩ := alloc1 hw0
  have c0 := cellOf hb0 0; have c1 := cellOf hb0 1; have c2 := cellOf hb0 2; have c3 := cellOf hb0 3; have c4 := cellOf hb0 4
  have hl0 := box_lt hb0
  have HB0 := hide hB0
  have t0 := cellOf (H.out.to hB0) 0
  have hl1 := box_lt (H.out.to hB0)
  clear hw0 hb0 hB0 hs0
  go_wp2_with (go_at_call 55; refine (HU.out _).mono ?_; rintro e w1 ⟨rfl, rfl⟩)
  go_ret
  exact ⟨rfl, HB0.out⟩
set_option maxRecDepth 100000 in
theorem many2_any (x : Fr) (t : Int) (tb : Nat) (w : World) (h : IntBox w tb t) (ht0 : 0 ≤ t) (ht1 : t ≤ 10000000) (hj0 : 0 ≤ x.j) (hj1 : x.j ≤ 100000) (he0 : 1 ≤ x.e) (he1 : x.e ≤ 100000) :
    Calls Try.prog 57 #[.agg #[.int .i64 x.s, .int .i64 x.e, .int .i64 x.j, .int .i64 x.d, .int .i64 x.r], .pointer (some ⟨tb, 0, none⟩)] w fun e w' => e = .returned (.int .i64 ((t + x.j) / x.e + 1)) ∧ Below w.heap.size w w' := by
  have hd := divI_bd (n := t + x.j) (b := x.e) (by omega) he0
  obtain ⟨u, hu⟩ : ∃ u, (t + x.j) / x.e = u := ⟨_, rfl⟩
  have hq : Int.tdiv (t + x.j) x.e = u := by rw [← hu]; exact Int.tdiv_eq_ediv_of_nonneg (by omega)
  rw [hu] at hd ⊢
  have hd0 := hd.1
  have hd1 := hd.2
  have w3 : IntKind.i64.wrap u = u := IntWalk.i64_in _ (by omega)
  have w4 : IntKind.i64.wrap (u + 1) = u + 1 := IntWalk.i64_in _ (by omega)
  have w5 : IntKind.i64.wrap (t + x.j) = t + x.j := IntWalk.i64_in _ (by omega)
  have hb0' : ¬ x.e = 0 := by omega
  have hb2 : (x.e == 0) = false := by simpa using hb0'
  have H := hide h
  clear h hu hd
  go_enter Try.func57, Try.ntmps57
  go_upto_region 1 with (fail)
  generalize hw0 : World.alloc _ _ = w0
  obtain ⟨hb0, hB0, hs0⟩ := alloc1 hw0
  have c0 := cellOf hb0 0; have c1 := cellOf hb0 1; have c2 := cellOf hb0 2; have c3 := cellOf hb0 3; have c4 := cellOf hb0 4
  have hl0 := box_lt hb0
  have HB0 := hide hB0
  have t0 := cellOf (H.out.to hB0) 0
  have hl1 := box_lt (H.out.to hB0)
  clear hw0 hb0 hB0 hs0
  go_wp2
  go_ret
  exact ⟨rfl, HB0.out⟩
/-- What the frames above take, if m says how often each comes. -/
def loadE (l : List Fr) (u : List Bool) (m : Nat → Int) : Nat → Int := sumI fun i => if u.getD i false then m i * (l.getD i Fr.o).s else 0
theorem loadE_bd {l : List Fr} {u : List Bool} {m : Nat → Int} (hs : ∀ i, i < l.length → 1 ≤ (l.getD i Fr.o).s ∧ (l.getD i Fr.o).s ≤ 1000) (hm : ∀ i, i < l.length → 0 ≤ m i ∧ m i ≤ 100000000) : ∀ {n : Nat}, n ≤ l.length → 0 ≤ loadE l u m n ∧ loadE l u m n ≤ 100000000000 * (n : Int)
  | 0, _ => ⟨Int.le_refl _, Int.le_refl _⟩
  | n + 1, hn => by
    have ih := loadE_bd (u := u) hs hm (n := n) (by omega)
    have h1 := hs n (by omega)
    have h2 := hm n (by omega)
    have h3 : loadE l u m (n + 1) = loadE l u m n + (if u.getD n false then m n * (l.getD n Fr.o).s else 0) := rfl
    have h4 : 0 ≤ m n * (l.getD n Fr.o).s := Int.mul_nonneg h2.1 (by omega)
    have h5 : m n * (l.getD n Fr.o).s ≤ 100000000 * 1000 := Int.mul_le_mul h2.2 h1.2 (by omega) (by omega)
    rw [h3]
    split <;> omega
set_option maxRecDepth 100000 in
set_option maxHeartbeats 4000000 in
theorem load1_any (l : List Fr) (u : List Bool) (m : Nat → Int) (c0 : Value) (A Au : Option Addr) (q qu lb ub : Nat) (w : World) (hul : u.length = l.length) (hlen : l.length ≤ 40)
    (hl : w.heap[lb]? = some (.cells #[.slice A l.length q] 22 (0, 0))) (hu : w.heap[ub]? = some (.cells #[.slice Au u.length qu] 78 (0, 0))) (h : Frs w w.heap.size (.slice A l.length q) l) (hb : Bos w w.heap.size (.slice Au u.length qu) u)
    (hs : ∀ i, i < l.length → 1 ≤ (l.getD i Fr.o).s ∧ (l.getD i Fr.o).s ≤ 1000) (hm : ∀ i, i < l.length → 0 ≤ m i ∧ m i ≤ 100000000)
    (hf : ∀ (i : Nat) (x : Fr) (W : World), i < l.length → l.getD i Fr.o = x → Below w.heap.size w W → Calls Try.prog 54 #[.agg #[.int .i64 x.s, .int .i64 x.e, .int .i64 x.j, .int .i64 x.d, .int .i64 x.r], c0] W fun e w' => e = .returned (.int .i64 (m i)) ∧ Below W.heap.size W w') :
    Calls Try.prog 51 #[.func (.func 54) #[] #[c0], .pointer (some ⟨lb, 0, none⟩), .pointer (some ⟨ub, 0, none⟩)] w fun e w' => e = .returned (.int .i64 (loadE l u m l.length)) ∧ Below w.heap.size w w' := by
  have H := hide h
  have HU := hide hb
  have HS := hide hs
  have HM := hide hm
  have HF := hide hf
  have HLB := hide hl
  have HUB := hide hu
  have y0 := cellOf hl 0
  have hy0 := box_lt hl
  have hcap := h.cap
  have HUL := hide hul
  clear h hb hs hm hf hl hu hul
  go_enter Try.func51, Try.ntmps51
  go_upto_region 2 with (fail)
  go_loopw [4, 5, 6, 9] (fun sv _ _ iv wr => ∃ (k : Nat) (s : Int), iv = .int .i64 k ∧ sv = .int .i64 s ∧ k ≤ l.length ∧ Hid (loadE l u m k = s) ∧ Hid (Below w.heap.size w wr)) (fun _ _ _ iv _ => l.length - (intOf iv).toNat)
  case atStart => exact ⟨0, 0, rfl, rfl, Nat.zero_le _, rfl, Below.refl _ _⟩
  case round =>
    obtain ⟨k, s, rfl, rfl, hk, HSM, HB⟩ := hrel
    by_cases hlt : k < l.length
    case neg =>
      have hlt1 : ¬ (k : Int) < (l.length : Int) := by omega
      have hkl : k = l.length := by omega
      have HE : Hid (loadE l u m l.length = s) := by rw [← hkl]; exact HSM
      clear y0 hkl
      go_wp2
      go_ret
      exact ⟨ret_int HE.out.symm, HB.out⟩
    case pos =>
      have hlt1 : (k : Int) < (l.length : Int) := by omega
      have ik0 : (0 : Int) ≤ (k : Int) := by omega
      have HR := hide ((H.out.below HB.out).more HB.out.size)
      obtain ⟨b, off, x, HX, rfl, hbb, hq, e0, e1, e2, e3, e4⟩ := HR.out.at hlt
      have ill : (l.length : Int) ≤ (q : Int) := by omega
      have hs1 := HS.out k hlt
      have hm1 := HM.out k hlt
      have hbd := loadE_bd (u := u) HS.out HM.out (n := k) (by omega)
      rw [HSM.out] at hbd
      rw [HX.out] at hs1
      obtain ⟨mk, hmk⟩ : ∃ z, m k = z := ⟨_, rfl⟩
      obtain ⟨p, hp⟩ : ∃ z, mk * x.s = z := ⟨_, rfl⟩
      have hp0 : 0 ≤ p := by rw [← hp, ← hmk]; exact Int.mul_nonneg hm1.1 (by omega)
      have hp1 : p ≤ 100000000 * 1000 := by rw [← hp, ← hmk]; exact Int.mul_le_mul hm1.2 hs1.2 (by omega) (by omega)
      have hs0' := hbd.1
      have hs1' : s ≤ 4000000000000 := by omega
      have w1 : IntKind.i64.wrap p = p := IntWalk.i64_in _ (by omega)
      have w2 : IntKind.i64.wrap (s + p) = s + p := IntWalk.i64_in _ (by omega)
      have hstep : loadE l u m (k + 1) = s + (if u.getD k false then p else 0) := by
        show loadE l u m k + (if u.getD k false then m k * (l.getD k Fr.o).s else 0) = _
        rw [HSM.out, HX.out, hmk, hp]
      have HSTEP := hide hstep
      have HMK := hide hmk
      have HP := hide hp
      clear hq hcap hs1 hm1 hbd hmk hstep y0 hy0
      go_upto_region 4 with (fail)
      generalize hw0 : World.alloc _ _ = w0
      obtain ⟨hb0, hB0, hs0⟩ := alloc1 hw0
      have c0 := cellOf hb0 0; have c1 := cellOf hb0 1; have c2 := cellOf hb0 2; have c3 := cellOf hb0 3; have c4 := cellOf hb0 4
      have hlb := box_lt hb0
      have HB0 := hide (Below.to HB.out hB0 (Nat.le_refl _))
      have HUB0 := hide (box_to HUB.out HB0.out)
      have z0 := cellOf HUB0.out 0
      have hz0 := box_lt HUB0.out
      obtain ⟨b2, off2, d, HD, hA2, hbb2, hq2, g0⟩ := (HU.out.up HB0.out).at (k := k) (by rw [HUL.out]; exact hlt)
      subst hA2
      have i2 : (k : Int) < (u.length : Int) := by rw [HUL.out]; omega
      have iq2 : (u.length : Int) ≤ (qu : Int) := by omega
      clear hw0 hb0 hB0 hs0 hq2 e0 e1 e2 e3 e4
      cases d with
      | true =>
        go_upto_region 5 with (fail)
        clear z0 hz0 g0 i2 iq2
        refine wp_region_held_drew (S := (fun w' => Below w0.heap.size w0 w')) (by kernel_rfl) ?_ (fun hHeld => ?_)
        · try dsimp only
          exact (by repeat (first | exact Below.refl _ _ | assumption | refine Below.drew ?_ | refine Below.drewN ?_ _ | refine Below.allocT ?_ (Nat.le_refl _) _ | refine Below.setCell ?_ (by simp <;> omega) _ | refine Below.to ?_ (by assumption) (Nat.le_refl _)))
        refine zT 0 rfl ?_
        refine zT 1 rfl ?_
        refine zT 2 rfl ?_
        refine zT 4 rfl ?_
        refine zT 5 rfl ?_
        refine wpAnyH_ready (rs := [3]) (by kernel_rfl) (by simp) ?_
        refine AllReadyH.cons rfl (fun K hK => ?_) AllReadyH.nil
        go_simp
        ((go_at_call 54; refine (HF.out k x _ hlt HX.out (Below.to HB0.out (by repeat (first | exact Below.refl _ _ | assumption | refine Below.drew ?_ | refine Below.drewN ?_ _ | refine Below.allocT ?_ (Nat.le_refl _) _ | refine Below.setCell ?_ (by simp <;> omega) _ | refine Below.to ?_ (by assumption) (Nat.le_refl _))) (Nat.le_refl _))).mono ?_; rw [HMK.out]; rintro e w5 ⟨rfl, hB5⟩))
        (try dsimp only)
        refine hK.out _ _ ?_ (fun hNext => ?_)
        · try dsimp only
          exact (by repeat (first | exact Below.refl _ _ | assumption | refine Below.drew ?_ | refine Below.drewN ?_ _ | refine Below.allocT ?_ (Nat.le_refl _) _ | refine Below.setCell ?_ (by simp <;> omega) _ | refine Below.to ?_ (by assumption) (Nat.le_refl _)))
        clear hK K hHeld
        have hHeld := hNext
        clear hNext
        (try dsimp only at hHeld)
        try simp only [zX]
        refine zT 6 rfl ?_
        refine zT 7 rfl ?_
        refine zT 8 rfl ?_
        refine wpAnyH_done (by kernel_rfl) ?_ _
        have HBz := hide (Below.to HB0.out hHeld (Nat.le_refl _))
        clear hHeld c0 c1 c2 c3 c4 hlb
        go_wp2_with fail
        go_roundw
        case rel => exact ⟨k + 1, s + p, by go_num, by go_num, by omega, by show _ = _; rw [HSTEP.out]; rw [HD.out, if_pos rfl], HBz.out⟩
        case measure => simp [intOf]; omega
      | false =>
        go_wp2
        go_roundw
        case rel => exact ⟨k + 1, s, by go_num, rfl, by omega, by show _ = _; rw [HSTEP.out]; rw [HD.out]; simp, HB0.out⟩
        case measure => simp [intOf]; omega
set_option maxRecDepth 100000 in
set_option maxHeartbeats 4000000 in
theorem load2_any (l : List Fr) (u : List Bool) (m : Nat → Int) (c0 : Value) (A Au : Option Addr) (q qu lb ub : Nat) (w : World) (hul : u.length = l.length) (hlen : l.length ≤ 40)
    (hl : w.heap[lb]? = some (.cells #[.slice A l.length q] 22 (0, 0))) (hu : w.heap[ub]? = some (.cells #[.slice Au u.length qu] 78 (0, 0))) (h : Frs w w.heap.size (.slice A l.length q) l) (hb : Bos w w.heap.size (.slice Au u.length qu) u)
    (hs : ∀ i, i < l.length → 1 ≤ (l.getD i Fr.o).s ∧ (l.getD i Fr.o).s ≤ 1000) (hm : ∀ i, i < l.length → 0 ≤ m i ∧ m i ≤ 100000000)
    (hf : ∀ (i : Nat) (x : Fr) (W : World), i < l.length → l.getD i Fr.o = x → Below w.heap.size w W → Calls Try.prog 57 #[.agg #[.int .i64 x.s, .int .i64 x.e, .int .i64 x.j, .int .i64 x.d, .int .i64 x.r], c0] W fun e w' => e = .returned (.int .i64 (m i)) ∧ Below W.heap.size W w') :
    Calls Try.prog 51 #[.func (.func 57) #[] #[c0], .pointer (some ⟨lb, 0, none⟩), .pointer (some ⟨ub, 0, none⟩)] w fun e w' => e = .returned (.int .i64 (loadE l u m l.length)) ∧ Below w.heap.size w w' := by
  have H := hide h
  have HU := hide hb
  have HS := hide hs
  have HM := hide hm
  have HF := hide hf
  have HLB := hide hl
  have HUB := hide hu
  have y0 := cellOf hl 0
  have hy0 := box_lt hl
  have hcap := h.cap
  have HUL := hide hul
  clear h hb hs hm hf hl hu hul
  go_enter Try.func51, Try.ntmps51
  go_upto_region 2 with (fail)
  go_loopw [4, 5, 6, 9] (fun sv _ _ iv wr => ∃ (k : Nat) (s : Int), iv = .int .i64 k ∧ sv = .int .i64 s ∧ k ≤ l.length ∧ Hid (loadE l u m k = s) ∧ Hid (Below w.heap.size w wr)) (fun _ _ _ iv _ => l.length - (intOf iv).toNat)
  case atStart => exact ⟨0, 0, rfl, rfl, Nat.zero_le _, rfl, Below.refl _ _⟩
  case round =>
    obtain ⟨k, s, rfl, rfl, hk, HSM, HB⟩ := hrel
    by_cases hlt : k < l.length
    case neg =>
      have hlt1 : ¬ (k : Int) < (l.length : Int) := by omega
      have hkl : k = l.length := by omega
      have HE : Hid (loadE l u m l.length = s) := by rw [← hkl]; exact HSM
      clear y0 hkl
      go_wp2
      go_ret
      exact ⟨ret_int HE.out.symm, HB.out⟩
    case pos =>
      have hlt1 : (k : Int) < (l.length : Int) := by omega
      have ik0 : (0 : Int) ≤ (k : Int) := by omega
      have HR := hide ((H.out.below HB.out).more HB.out.size)
      obtain ⟨b, off, x, HX, rfl, hbb, hq, e0, e1, e2, e3, e4⟩ := HR.out.at hlt
      have ill : (l.length : Int) ≤ (q : Int) := by omega
      have hs1 := HS.out k hlt
      have hm1 := HM.out k hlt
      have hbd := loadE_bd (u := u) HS.out HM.out (n := k) (by omega)
      rw [HSM.out] at hbd
      rw [HX.out] at hs1
      obtain ⟨mk, hmk⟩ : ∃ z, m k = z := ⟨_, rfl⟩
      obtain ⟨p, hp⟩ : ∃ z, mk * x.s = z := ⟨_, rfl⟩
      have hp0 : 0 ≤ p := by rw [← hp, ← hmk]; exact Int.mul_nonneg hm1.1 (by omega)
      have hp1 : p ≤ 100000000 * 1000 := by rw [← hp, ← hmk]; exact Int.mul_le_mul hm1.2 hs1.2 (by omega) (by omega)
      have hs0' := hbd.1
      have hs1' : s ≤ 4000000000000 := by omega
      have w1 : IntKind.i64.wrap p = p := IntWalk.i64_in _ (by omega)
      have w2 : IntKind.i64.wrap (s + p) = s + p := IntWalk.i64_in _ (by omega)
      have hstep : loadE l u m (k + 1) = s + (if u.getD k false then p else 0) := by
        show loadE l u m k + (if u.getD k false then m k * (l.getD k Fr.o).s else 0) = _
        rw [HSM.out, HX.out, hmk, hp]
      have HSTEP := hide hstep
      have HMK := hide hmk
      have HP := hide hp
      clear hq hcap hs1 hm1 hbd hmk hstep y0 hy0
      go_upto_region 4 with (fail)
      generalize hw0 : World.alloc _ _ = w0
      obtain ⟨hb0, hB0, hs0⟩ := alloc1 hw0
      have c0 := cellOf hb0 0; have c1 := cellOf hb0 1; have c2 := cellOf hb0 2; have c3 := cellOf hb0 3; have c4 := cellOf hb0 4
      have hlb := box_lt hb0
      have HB0 := hide (Below.to HB.out hB0 (Nat.le_refl _))
      have HUB0 := hide (box_to HUB.out HB0.out)
      have z0 := cellOf HUB0.out 0
      have hz0 := box_lt HUB0.out
      obtain ⟨b2, off2, d, HD, hA2, hbb2, hq2, g0⟩ := (HU.out.up HB0.out).at (k := k) (by rw [HUL.out]; exact hlt)
      subst hA2
      have i2 : (k : Int) < (u.length : Int) := by rw [HUL.out]; omega
      have iq2 : (u.length : Int) ≤ (qu : Int) := by omega
      clear hw0 hb0 hB0 hs0 hq2 e0 e1 e2 e3 e4
      cases d with
      | true =>
        go_upto_region 5 with (fail)
        clear z0 hz0 g0 i2 iq2
        refine wp_region_held_drew (S := (fun w' => Below w0.heap.size w0 w')) (by kernel_rfl) ?_ (fun hHeld => ?_)
        · try dsimp only
          exact (by repeat (first | exact Below.refl _ _ | assumption | refine Below.drew ?_ | refine Below.drewN ?_ _ | refine Below.allocT ?_ (Nat.le_refl _) _ | refine Below.setCell ?_ (by simp <;> omega) _ | refine Below.to ?_ (by assumption) (Nat.le_refl _)))
        refine zT 0 rfl ?_
        refine zT 1 rfl ?_
        refine zT 2 rfl ?_
        refine zT 4 rfl ?_
        refine zT 5 rfl ?_
        refine wpAnyH_ready (rs := [3]) (by kernel_rfl) (by simp) ?_
        refine AllReadyH.cons rfl (fun K hK => ?_) AllReadyH.nil
        go_simp
        ((go_at_call 57; refine (HF.out k x _ hlt HX.out (Below.to HB0.out (by repeat (first | exact Below.refl _ _ | assumption | refine Below.drew ?_ | refine Below.drewN ?_ _ | refine Below.allocT ?_ (Nat.le_refl _) _ | refine Below.setCell ?_ (by simp <;> omega) _ | refine Below.to ?_ (by assumption) (Nat.le_refl _))) (Nat.le_refl _))).mono ?_; rw [HMK.out]; rintro e w5 ⟨rfl, hB5⟩))
        (try dsimp only)
        refine hK.out _ _ ?_ (fun hNext => ?_)
        · try dsimp only
          exact (by repeat (first | exact Below.refl _ _ | assumption | refine Below.drew ?_ | refine Below.drewN ?_ _ | refine Below.allocT ?_ (Nat.le_refl _) _ | refine Below.setCell ?_ (by simp <;> omega) _ | refine Below.to ?_ (by assumption) (Nat.le_refl _)))
        clear hK K hHeld
        have hHeld := hNext
        clear hNext
        (try dsimp only at hHeld)
        try simp only [zX]
        refine zT 6 rfl ?_
        refine zT 7 rfl ?_
        refine zT 8 rfl ?_
        refine wpAnyH_done (by kernel_rfl) ?_ _
        have HBz := hide (Below.to HB0.out hHeld (Nat.le_refl _))
        clear hHeld c0 c1 c2 c3 c4 hlb
        go_wp2_with fail
        go_roundw
        case rel => exact ⟨k + 1, s + p, by go_num, by go_num, by omega, by show _ = _; rw [HSTEP.out]; rw [HD.out, if_pos rfl], HBz.out⟩
        case measure => simp [intOf]; omega
      | false =>
        go_wp2
        go_roundw
        case rel => exact ⟨k + 1, s, by go_num, rfl, by omega, by show _ = _; rw [HSTEP.out]; rw [HD.out]; simp, HB0.out⟩
        case measure => simp [intOf]; omega
end Go.Proofs.Ytmgfijadjclmpaa

/- Group L of this claim's texts: walks and plain laws. -/
import Derived.Test.YtohofcmikfkilaaRows
import Derived.Test.YtohofcmikfkilaaGG
import Derived.Test.YtohofcmikfkilaaGH
import Derived.Test.YtohofcmikfkilaaGK
import Derived.Laws.EntriesVeiled
/- A diagram in the order of a walk, and made by going through all variants: both are the same. Plain laws. -/
namespace Go.Proofs.Ytohofcmikfkilaa
set_option linter.unusedVariables false
theorem Kt.ext' {a b : Kt} (h1 : a.o = b.o) (h2 : a.l = b.l) (h3 : a.h = b.h) : a = b := by cases a; cases b; simp_all
instance : DecidableEq Kt := fun a b => if h : a.o = b.o ∧ a.l = b.l ∧ a.h = b.h then .isTrue (Kt.ext' h.1 h.2.1 h.2.2) else .isFalse fun e => h (by rw [e]; exact ⟨rfl, rfl, rfl⟩)
/-- What has been listed, and which nodes have a number. -/
structure DSt where
  out : List Kt
  num : Nat → Option Int
def DSt.start : DSt := ⟨[], putM (putM (fun _ => none) 0 (-1)) 1 (-2)⟩
def DSt.add (S : DSt) (n o : Nat) (lo hi : Int) : DSt := ⟨S.out ++ [⟨o, lo, hi⟩], putM S.num n S.out.length⟩
def visF (ks : List Kn) : Nat → Nat → DSt → DSt × Int
  | 0, n, S => (S, (S.num n).getD 0)
  | f + 1, n, S => match S.num n with
    | some x => (S, x)
    | none => ((visF ks f (highK ks n) (visF ks f (lowK ks n) S).1).1.add n (topK ks n) (visF ks f (lowK ks n) S).2 (visF ks f (highK ks n) (visF ks f (lowK ks n) S).1).2, (((visF ks f (highK ks n) (visF ks f (lowK ks n) S).1).1.out.length : Nat) : Int))
theorem visF_known {ks : List Kn} {f n : Nat} {S : DSt} {x : Int} (h : S.num n = some x) : visF ks f n S = (S, x) := by
  cases f with
  | zero => simp [visF, h]
  | succ f => simp [visF, h]
theorem visF_new {ks : List Kn} {f n : Nat} {S : DSt} (h : S.num n = none) : visF ks (f + 1) n S = ((visF ks f (highK ks n) (visF ks f (lowK ks n) S).1).1.add n (topK ks n) (visF ks f (lowK ks n) S).2 (visF ks f (highK ks n) (visF ks f (lowK ks n) S).1).2, (((visF ks f (highK ks n) (visF ks f (lowK ks n) S).1).1.out.length : Nat) : Int)) := by
  conv => lhs; unfold visF
  rw [h]
structure DInv (ks : List Kn) (S : DSt) : Prop where
  z : S.num 0 = some (-1)
  o : S.num 1 = some (-2)
  at_ : ∀ n x, 2 ≤ n → S.num n = some x → n < ks.length ∧ ∃ i : Nat, x = i ∧ i < S.out.length ∧ ∃ lo hi, S.num (lowK ks n) = some lo ∧ S.num (highK ks n) = some hi ∧ S.out.getD i Kt.z = ⟨topK ks n, lo, hi⟩
  inj : ∀ n n' x, S.num n = some x → S.num n' = some x → n = n'
  all : ∀ i, i < S.out.length → ∃ n, 2 ≤ n ∧ S.num n = some (i : Int)
theorem putM_self {m : Nat → Option Int} {n : Nat} {x : Int} : putM m n x n = some x := by simp [putM]
theorem putM_ne {m : Nat → Option Int} {n k : Nat} {x : Int} (h : k ≠ n) : putM m n x k = m k := by simp [putM, h]
theorem DInv.start (ks : List Kn) : DInv ks DSt.start := by
  have h2 : ∀ n x, 2 ≤ n → DSt.start.num n = some x → False := fun n x hn h => by
    have e : DSt.start.num n = none := by
      show putM (putM (fun _ => none) 0 (-1)) 1 (-2) n = none
      rw [putM_ne (by omega), putM_ne (by omega)]
    rw [e] at h
    cases h
  refine ⟨rfl, rfl, fun n x hn h => (h2 n x hn h).elim, fun n n' x h h' => ?_, fun i hi => by simp [DSt.start] at hi⟩
  have hn : n < 2 := by
    rcases Nat.lt_or_ge n 2 with q | q
    · exact q
    · exact (h2 n x q h).elim
  have hn' : n' < 2 := by
    rcases Nat.lt_or_ge n' 2 with q | q
    · exact q
    · exact (h2 n' x q h').elim
  have e0 : DSt.start.num 0 = some (-1) := rfl
  have e1 : DSt.start.num 1 = some (-2) := rfl
  rcases (by omega : n = 0 ∨ n = 1) with rfl | rfl <;> rcases (by omega : n' = 0 ∨ n' = 1) with rfl | rfl
  · rfl
  · rw [e0] at h; rw [e1] at h'; injection h with h; injection h' with h'; omega
  · rw [e1] at h; rw [e0] at h'; injection h with h; injection h' with h'; omega
  · rfl
theorem DInv.add {N : Nat} {ks : List Kn} (hw : WF N ks) {S : DSt} {n : Nat} {lo hi : Int} (h : DInv ks S) (h2 : 2 ≤ n) (hn : n < ks.length) (h0 : S.num n = none) (hl : S.num (lowK ks n) = some lo) (hh : S.num (highK ks n) = some hi) : DInv ks (S.add n (topK ks n) lo hi) := by
  have hnl := hw.low n h2 hn
  have hnh := hw.high n h2 hn
  have hlen : (S.add n (topK ks n) lo hi).out.length = S.out.length + 1 := by simp [DSt.add]
  have hnum : (S.add n (topK ks n) lo hi).num = putM S.num n S.out.length := rfl
  have hout : ∀ i, (S.add n (topK ks n) lo hi).out.getD i Kt.z = if i < S.out.length then S.out.getD i Kt.z else if i = S.out.length then ⟨topK ks n, lo, hi⟩ else Kt.z := fun i => getD_push
  have hlt : ∀ k x, S.num k = some x → k ≠ n := fun k x hk e => by rw [e, h0] at hk; cases hk
  have hbig : ∀ k, S.num k ≠ some (S.out.length : Int) := fun k hk => by
    rcases Nat.lt_or_ge k 2 with q | q
    · rcases (by omega : k = 0 ∨ k = 1) with rfl | rfl
      · rw [h.z] at hk; injection hk with hk; omega
      · rw [h.o] at hk; injection hk with hk; omega
    · obtain ⟨_, i, hi1, hi2, _⟩ := h.at_ k _ q hk
      omega
  refine ⟨?_, ?_, fun k x hk hx => ?_, fun k k' x hk hk' => ?_, fun i hi => ?_⟩
  · rw [hnum, putM_ne (by omega)]; exact h.z
  · rw [hnum, putM_ne (by omega)]; exact h.o
  · rw [hnum] at hx
    by_cases hkn : k = n
    · subst hkn
      rw [putM_self] at hx
      injection hx with hx
      refine ⟨hn, S.out.length, hx.symm, by omega, lo, hi, ?_, ?_, ?_⟩
      · rw [hnum, putM_ne (by omega)]; exact hl
      · rw [hnum, putM_ne (by omega)]; exact hh
      · rw [hout, if_neg (by omega), if_pos rfl]
    · rw [putM_ne hkn] at hx
      obtain ⟨q1, i, q2, q3, lo', hi', q4, q5, q6⟩ := h.at_ k x hk hx
      refine ⟨q1, i, q2, by omega, lo', hi', ?_, ?_, ?_⟩
      · rw [hnum, putM_ne (hlt _ _ q4)]; exact q4
      · rw [hnum, putM_ne (hlt _ _ q5)]; exact q5
      · rw [hout, if_pos q3]; exact q6
  · rw [hnum] at hk hk'
    by_cases hkn : k = n
    · subst hkn
      rw [putM_self] at hk
      injection hk with hk
      by_cases hkn' : k' = k
      · exact hkn'.symm
      · rw [putM_ne hkn', ← hk] at hk'
        exact absurd hk' (hbig _)
    · rw [putM_ne hkn] at hk
      by_cases hkn' : k' = n
      · subst hkn'
        rw [putM_self] at hk'
        injection hk' with hk'
        rw [← hk'] at hk
        exact absurd hk (hbig _)
      · rw [putM_ne hkn'] at hk'
        exact h.inj k k' x hk hk'
  · rw [hnum]
    by_cases hil : i < S.out.length
    · obtain ⟨k, hk, hk2⟩ := h.all i hil
      exact ⟨k, hk, by rw [putM_ne (hlt _ _ hk2)]; exact hk2⟩
    · have : i = S.out.length := by omega
      subst this
      exact ⟨n, h2, putM_self⟩
/-- What a visit leaves. -/
structure VisP (ks : List Kn) (n : Nat) (S : DSt) (r : DSt × Int) : Prop where
  inv : DInv ks r.1
  num : r.1.num n = some r.2
  mono : ∀ k x, S.num k = some x → r.1.num k = some x
  up : ∀ k, n < k → r.1.num k = S.num k
theorem visP {N : Nat} {ks : List Kn} (hw : WF N ks) : ∀ (f n : Nat) (S : DSt), DInv ks S → n < ks.length → n ≤ f → VisP ks n S (visF ks f n S) := by
  intro f
  induction f with
  | zero =>
    intro n S h hn hf
    obtain rfl : n = 0 := by omega
    rw [visF_known h.z]
    exact ⟨h, h.z, fun _ _ q => q, fun _ _ => rfl⟩
  | succ f ih =>
    intro n S h hn hf
    cases hx : S.num n with
    | some x =>
      rw [visF_known hx]
      exact ⟨h, hx, fun _ _ q => q, fun _ _ => rfl⟩
    | none =>
      have h2 : 2 ≤ n := by
        rcases Nat.lt_or_ge n 2 with q | q
        · rcases (by omega : n = 0 ∨ n = 1) with rfl | rfl
          · rw [h.z] at hx; cases hx
          · rw [h.o] at hx; cases hx
        · exact q
      have hnl := hw.low n h2 hn
      have hnh := hw.high n h2 hn
      have pa := ih (lowK ks n) S h (by omega) (by omega)
      have pb := ih (highK ks n) _ pa.inv (by omega) (by omega)
      rw [visF_new hx]
      have hb0 : (visF ks f (highK ks n) (visF ks f (lowK ks n) S).1).1.num n = none := by rw [pb.up n hnh, pa.up n hnl]; exact hx
      have hlo := pb.mono _ _ pa.num
      refine ⟨pb.inv.add hw h2 hn hb0 hlo pb.num, putM_self, fun k x hk => ?_, fun k hk => ?_⟩
      · show putM _ _ _ k = some x
        rw [putM_ne (fun e => by rw [e, hx] at hk; cases hk)]
        exact pb.mono _ _ (pa.mono _ _ hk)
      · show putM _ _ _ k = S.num k
        rw [putM_ne (by omega), pb.up k (by omega), pa.up k (by omega)]
/-- No other knot is the same. -/
theorem DInv.same {N : Nat} {ks : List Kn} (hw : WF N ks) {S : DSt} (h : DInv ks S) {m : Nat} {lo hi : Int} (h2 : 2 ≤ m) (hm : m < ks.length) (hl : S.num (lowK ks m) = some lo) (hh : S.num (highK ks m) = some hi) {j : Nat} (hj : j < S.out.length) (he : S.out.getD j Kt.z = ⟨topK ks m, lo, hi⟩) : S.num m = some (j : Int) := by
  obtain ⟨n, hn2, hn⟩ := h.all j hj
  obtain ⟨hn3, i, hi1, hi2, lo', hi', q1, q2, q3⟩ := h.at_ n _ hn2 hn
  obtain rfl : j = i := by omega
  rw [he] at q3
  injection q3 with e1 e2 e3
  subst e2 e3
  have k1 := h.inj _ _ _ hl q1
  have k2 := h.inj _ _ _ hh q2
  have k3 : topK ks m = topK ks n := by omega
  have : m = n := hw.inj m n h2 hm hn2 hn3 (Kn.ext' k3 k1 k2)
  rw [this]
  exact hn
def bldF (g : List Bool → Bool) : Nat → List Bool → List Kt → List Kt × Int
  | 0, l, K => (K, if g l then -2 else -1)
  | d + 1, l, K =>
    if (bldF g d (l ++ [false]) K).2 = (bldF g d (l ++ [true]) (bldF g d (l ++ [false]) K).1).2 then ((bldF g d (l ++ [true]) (bldF g d (l ++ [false]) K).1).1, (bldF g d (l ++ [false]) K).2)
    else if 0 ≤ idxI (fun x => decide (x = ⟨l.length, (bldF g d (l ++ [false]) K).2, (bldF g d (l ++ [true]) (bldF g d (l ++ [false]) K).1).2⟩)) (bldF g d (l ++ [true]) (bldF g d (l ++ [false]) K).1).1 then ((bldF g d (l ++ [true]) (bldF g d (l ++ [false]) K).1).1, idxI (fun x => decide (x = ⟨l.length, (bldF g d (l ++ [false]) K).2, (bldF g d (l ++ [true]) (bldF g d (l ++ [false]) K).1).2⟩)) (bldF g d (l ++ [true]) (bldF g d (l ++ [false]) K).1).1)
    else ((bldF g d (l ++ [true]) (bldF g d (l ++ [false]) K).1).1 ++ [⟨l.length, (bldF g d (l ++ [false]) K).2, (bldF g d (l ++ [true]) (bldF g d (l ++ [false]) K).1).2⟩], (((bldF g d (l ++ [true]) (bldF g d (l ++ [false]) K).1).1.length : Nat) : Int))
theorem bldF_eq {g : List Bool → Bool} {d : Nat} {l : List Bool} {K K1 K2 : List Kt} {lo hi : Int} (h1 : bldF g d (l ++ [false]) K = (K1, lo)) (h2 : bldF g d (l ++ [true]) K1 = (K2, hi)) (h : lo = hi) : bldF g (d + 1) l K = (K2, lo) := by
  unfold bldF
  rw [h1]
  simp only [h2]
  rw [if_pos h]
theorem bldF_old {g : List Bool → Bool} {d : Nat} {l : List Bool} {K K1 K2 : List Kt} {lo hi : Int} {i : Nat} (h1 : bldF g d (l ++ [false]) K = (K1, lo)) (h2 : bldF g d (l ++ [true]) K1 = (K2, hi)) (h : lo ≠ hi) (hi2 : idxI (fun x => decide (x = ⟨l.length, lo, hi⟩)) K2 = i) : bldF g (d + 1) l K = (K2, (i : Int)) := by
  unfold bldF
  rw [h1]
  simp only [h2]
  rw [if_neg h, if_pos (by rw [hi2]; omega), hi2]
theorem bldF_new {g : List Bool → Bool} {d : Nat} {l : List Bool} {K K1 K2 : List Kt} {lo hi : Int} (h1 : bldF g d (l ++ [false]) K = (K1, lo)) (h2 : bldF g d (l ++ [true]) K1 = (K2, hi)) (h : lo ≠ hi) (hi2 : idxI (fun x => decide (x = ⟨l.length, lo, hi⟩)) K2 = -1) : bldF g (d + 1) l K = (K2 ++ [⟨l.length, lo, hi⟩], (K2.length : Int)) := by
  unfold bldF
  rw [h1]
  simp only [h2]
  rw [if_neg h, if_neg (by rw [hi2]; omega)]
theorem bld_vis {N : Nat} {ks : List Kn} (hw : WF N ks) (g : List Bool → Bool) : ∀ (d : Nat) (l : List Bool) (m f : Nat) (S : DSt), DInv ks S → m < ks.length → m ≤ f → l.length + d = N → l.length ≤ topK ks m → (∀ y : List Bool, y.length = d → g (l ++ y) = ev ks (vf (l ++ y)) m) → bldF g d l S.out = ((visF ks f m S).1.out, (visF ks f m S).2) := by
  intro d
  induction d with
  | zero =>
    intro l m f S h hm hf hl ht hg
    have hg0 := hg [] rfl
    rw [List.append_nil] at hg0
    have h2 : m < 2 := by
      rcases Nat.lt_or_ge m 2 with q | q
      · exact q
      · have := hw.opt m q hm; omega
    rcases (by omega : m = 0 ∨ m = 1) with rfl | rfl
    · rw [visF_known h.z]
      have : g l = false := hg0
      simp [bldF, this]
    · rw [visF_known h.o]
      have : g l = true := hg0
      simp [bldF, this]
  | succ d ih =>
    intro l m f S h hm hf hl ht hg
    by_cases hlt : l.length < topK ks m
    · have p := visP hw f m S h hm hf
      have ha := ih (l ++ [false]) m f S h hm hf (by simp; omega) (by simp; omega) (fun y hy => by
        have := hg ([false] ++ y) (by simp; omega)
        rw [← List.append_assoc] at this
        exact this)
      have hb := ih (l ++ [true]) m f (visF ks f m S).1 p.inv hm hf (by simp; omega) (by simp; omega) (fun y hy => by
        have := hg ([true] ++ y) (by simp; omega)
        rw [← List.append_assoc] at this
        exact this)
      rw [visF_known p.num] at hb
      exact bldF_eq ha hb rfl
    · have hte : topK ks m = l.length := by omega
      have h2 : 2 ≤ m := two_of_top hw hte (by omega)
      obtain ⟨f', rfl⟩ : ∃ f', f = f' + 1 := ⟨f - 1, by omega⟩
      have hnl := hw.low m h2 hm
      have hnh := hw.high m h2 hm
      have htl := hw.topl m h2 hm
      have hth := hw.toph m h2 hm
      have pa := visP hw f' (lowK ks m) S h (by omega) (by omega)
      have pb := visP hw f' (highK ks m) _ pa.inv (by omega) (by omega)
      have ha := ih (l ++ [false]) (lowK ks m) f' S h (by omega) (by omega) (by simp; omega) (by simp; omega) (fun y hy => by
        have := hg ([false] ++ y) (by simp; omega)
        rw [← List.append_assoc, ev_step hw _ h2 hm, hte, vf_at l false y] at this
        exact this)
      have hb := ih (l ++ [true]) (highK ks m) f' (visF ks f' (lowK ks m) S).1 pa.inv (by omega) (by omega) (by simp; omega) (by simp; omega) (fun y hy => by
        have := hg ([true] ++ y) (by simp; omega)
        rw [← List.append_assoc, ev_step hw _ h2 hm, hte, vf_at l true y] at this
        exact this)
      have hlo := pb.mono _ _ pa.num
      have hne : (visF ks f' (lowK ks m) S).2 ≠ (visF ks f' (highK ks m) (visF ks f' (lowK ks m) S).1).2 := fun e => by
        have hq := pb.num
        rw [← e] at hq
        exact hw.ne m h2 hm (pb.inv.inj _ _ _ hlo hq)
      cases hx : S.num m with
      | some x =>
        obtain ⟨_, i, hxi, hil, lo, hi, q1, q2, q3⟩ := h.at_ m x h2 hx
        rw [visF_known hx]
        rw [visF_known q1] at ha hb hne
        rw [visF_known q2] at hb hne
        simp only at ha hb hne
        subst hxi
        refine bldF_old ha hb hne (idxI_at _ Kt.z S.out i (fun j hj => ?_) hil (by rw [q3, hte]; exact decide_eq_true rfl))
        refine decide_eq_false fun e => ?_
        have := h.same hw h2 hm q1 q2 (show j < S.out.length by omega) (by rw [hte]; exact e)
        rw [hx] at this
        injection this with this
        omega
      | none =>
        rw [visF_new hx]
        rw [hte]
        refine bldF_new ha hb hne (idxI_none _ Kt.z _ fun j hj => decide_eq_false fun e => ?_)
        have := pb.inv.same hw h2 hm hlo pb.num hj (by rw [hte]; exact e)
        rw [pb.up m hnh, pa.up m hnl, hx] at this
        cases this
end Go.Proofs.Ytohofcmikfkilaa
/- The knots of a diagram in order: walk of the visit. -/
namespace Go.Proofs.Ytohofcmikfkilaa
open Go.RowKit
set_option linter.unusedVariables false
set_option linter.unusedSimpArgs false
theorem visLen {N : Nat} {ks : List Kn} (hw : WF N ks) : ∀ (f n : Nat) (S : DSt), DInv ks S → n < ks.length → n ≤ f → (visF ks f n S).1.out.length + 1 ≤ S.out.length + 2 ^ (N - topK ks n) := by
  intro f
  induction f with
  | zero =>
    intro n S h hn hf
    obtain rfl : n = 0 := by omega
    rw [visF_known h.z]
    have := pow_pos2 (N - topK ks 0)
    simp only
    omega
  | succ f ih =>
    intro n S h hn hf
    cases hx : S.num n with
    | some x =>
      rw [visF_known hx]
      have := pow_pos2 (N - topK ks n)
      simp only
      omega
    | none =>
      have h2 : 2 ≤ n := by
        rcases Nat.lt_or_ge n 2 with q | q
        · rcases (by omega : n = 0 ∨ n = 1) with rfl | rfl
          · rw [h.z] at hx; cases hx
          · rw [h.o] at hx; cases hx
        · exact q
      have hnl := hw.low n h2 hn
      have hnh := hw.high n h2 hn
      have htl := hw.topl n h2 hn
      have hth := hw.toph n h2 hn
      have ho := hw.opt n h2 hn
      have pa := visP hw f (lowK ks n) S h (by omega) (by omega)
      have la := ih (lowK ks n) S h (by omega) (by omega)
      have lb := ih (highK ks n) _ pa.inv (by omega) (by omega)
      have e1 : 2 ^ (N - topK ks (lowK ks n)) ≤ 2 ^ (N - topK ks n - 1) := Nat.pow_le_pow_right (by omega) (by omega)
      have e2 : 2 ^ (N - topK ks (highK ks n)) ≤ 2 ^ (N - topK ks n - 1) := Nat.pow_le_pow_right (by omega) (by omega)
      have e3 : 2 ^ (N - topK ks n) = 2 * 2 ^ (N - topK ks n - 1) := by
        obtain ⟨d, hd⟩ : ∃ d, N - topK ks n = d + 1 := ⟨N - topK ks n - 1, by omega⟩
        rw [hd, Nat.pow_succ, Nat.add_sub_cancel]
        omega
      rw [visF_new hx]
      simp only [DSt.add, List.length_append, List.length_singleton]
      omega
theorem infoKnot : (Try.prog.info? 114).map (fun i => (i.zero, i.size, i.bytes)) = some (some (.agg #[.int .i64 0, .int .i64 0, .int .i64 0]), 3, 24) := by kernel_rfl
def ktsL (K : List Kt) : List Value := K.flatMap fun k => [.int .i64 k.o, .int .i64 k.l, .int .i64 k.h]
theorem ktsL_snoc (K : List Kt) (k : Kt) : ktsL (K ++ [k]) = ktsL K ++ [.int .i64 k.o, .int .i64 k.l, .int .i64 k.h] := by simp [ktsL]
theorem ktsL_len (K : List Kt) : (ktsL K).length = 3 * K.length := by
  induction K with
  | nil => rfl
  | cons k K ih =>
    show (ktsL K).length + 1 + 1 + 1 = 3 * (K.length + 1)
    omega
theorem ktsL_get : ∀ (K : List Kt) (i j : Nat), i < K.length → j < 3 → (ktsL K)[i * 3 + j]? = some (ktF (K.getD i Kt.z) j)
  | [], i, j, h, _ => by simp at h
  | k :: K, 0, j, _, hj => by
    have h : ktsL (k :: K) = [.int .i64 k.o, .int .i64 k.l, .int .i64 k.h] ++ ktsL K := rfl
    rw [h, Nat.zero_mul, Nat.zero_add, List.getElem?_append_left (by simpa using hj), List.getD_cons_zero]
    rcases (by omega : j = 0 ∨ j = 1 ∨ j = 2) with rfl | rfl | rfl <;> rfl
  | k :: K, i + 1, j, hi, hj => by
    have h : ktsL (k :: K) = [.int .i64 k.o, .int .i64 k.l, .int .i64 k.h] ++ ktsL K := rfl
    rw [h, List.getElem?_append_right (by simp; omega), List.getD_cons_succ, ← ktsL_get K i j (by simpa using hi) hj]
    congr 1
    simp
    omega
/-- Knots in a slice of the call's own. -/
def KStk (B : Nat) (w : World) (sv : Value) (K : List Kt) : Prop := w.ownsRow B 114 3 sv K.length (ktsL K)
theorem KStk.kts {B : Nat} {w : World} {sv : Value} {K : List Kt} (h : KStk B w sv K) : Kts w w.heap.size sv K := Sl.of_owns h fun i j hi hj => ktsL_get K i j hi hj
/-- The closure and what it has captured. -/
structure VAt (w : World) (F : Fo) (bn bt bv bo mb B : Nat) (S : DSt) (ov : Value) : Prop where
  n : w.heap[bn]? = some (.cells #[.map (some mb)] 112 (0, 0))
  t : w.heap[bt]? = some (.cells #[.pointer (some ⟨F.p, 0, none⟩)] 86 (0, 0))
  v : w.heap[bv]? = some (.cells #[.func (.func 106) #[] #[.pointer (some ⟨bn, 0, none⟩), .pointer (some ⟨bt, 0, none⟩), .pointer (some ⟨bv, 0, none⟩), .pointer (some ⟨bo, 0, none⟩)]] 122 (0, 0))
  o : w.heap[bo]? = some (.cells #[ov] 44 (0, 0))
  row : KStk B w ov S.out
  fo : FoAt w F
  map : MapIs Try.prog w 3 3 mb (S.out.length + 2) enN S.num
  nS : ¬ SF F bo ∧ ¬ SF F mb ∧ ∀ b, ov.ownBlock = some b → ¬ SF F b
  inv : DInv F.ks S
/-- What a visit changes. -/
def visS (bo mb : Nat) (ov : Value) (k : Nat) : Prop := k = bo ∨ k = mb ∨ ov.ownBlock = some k
def VisR (F : Fo) (f n bn bt bv bo mb B : Nat) (S : DSt) (ov : Value) (w : World) (e : Ending) (w' : World) : Prop :=
  ∃ ov', e = .returned (.int .i64 (visF F.ks f n S).2) ∧ VAt w' F bn bt bv bo mb B (visF F.ks f n S).1 ov' ∧ Keeps (visS bo mb ov) w w' ∧ (∀ k, ov'.ownBlock = some k → ov.ownBlock = some k ∨ w.heap.size ≤ k)
theorem VAt.below {w w' : World} {F : Fo} {bn bt bv bo mb B : Nat} {S : DSt} {ov : Value} (h : VAt w F bn bt bv bo mb B S ov) (hb : Below w.heap.size w w') : VAt w' F bn bt bv bo mb B S ov :=
  ⟨box_to h.n hb, box_to h.t hb, box_to h.v hb, box_to h.o hb, owns_below h.row hb, h.fo.below hb, h.map.same (hb.block _ h.map.lt), h.nS, h.inv⟩
theorem VAt.vis {w : World} {F : Fo} {bn bt bv bo mb B : Nat} {S : DSt} {ov : Value} (h : VAt w F bn bt bv bo mb B S ov) : ∀ k, visS bo mb ov k → k < w.heap.size := fun k hk => by
  rcases hk with rfl | rfl | hk
  · exact box_lt h.o
  · exact h.map.lt
  · exact (h.row.lt k hk).2
theorem KStk.shape {B : Nat} {w : World} {sv : Value} {K : List Kt} (h : KStk B w sv K) : ∃ A cap, sv = .slice A K.length cap ∧ K.length ≤ cap ∧ cap ≤ maxLen := by
  rcases h.2 with ⟨h1, h2⟩ | ⟨g, cap, cur, h1, _, _, h2, h3, _⟩
  · exact ⟨none, 0, by rw [h1, h2], by omega, by unfold maxLen; omega⟩
  · exact ⟨_, cap, h1, h2, h3⟩
theorem map_not {w : World} {α : Type} {k e b n : Nat} {enc : α → Value} {m : α → Option Int} {g t : Nat} {C : Array Value} (h : MapIs Try.prog w k e b n enc m) (hg : w.heap[g]? = some (.cells C t (0, 0))) : b ≠ g := by
  intro e
  obtain ⟨es, c, h1⟩ := h.obj
  rw [e, hg] at h1
  cases h1
theorem map_own {w : World} {α : Type} {k e b n : Nat} {enc : α → Value} {m : α → Option Int} {base et sz len : Nat} {v : Value} {xs : List Value} (h : MapIs Try.prog w k e b n enc m) (ho : w.ownsRow base et sz v len xs) : v.ownBlock ≠ some b := by
  intro hb
  obtain ⟨_, ⟨rfl, _⟩ | ⟨g, cap, cur, rfl, _, q1, _⟩⟩ := ho
  · cases hb
  · injection hb with hb
    simp only at hb
    subst hb
    exact map_not h q1 rfl
theorem cells_ne {w : World} {g1 g2 t1 t2 : Nat} {C1 C2 : Array Value} (h1 : w.heap[g1]? = some (.cells C1 t1 (0, 0))) (h2 : w.heap[g2]? = some (.cells C2 t2 (0, 0))) (hne : t1 ≠ t2) : g1 ≠ g2 := by
  intro e
  rw [e, h2] at h1
  injection h1 with h1
  injection h1 with _ h1
  exact hne h1.symm
set_option maxRecDepth 100000 in
set_option maxHeartbeats 8000000 in
theorem visit_any (F : Fo) (bn bt bv bo mb B : Nat) : ∀ (f n : Nat) (S : DSt) (ov : Value) (w : World), VAt w F bn bt bv bo mb B S ov → n < F.ks.length → n ≤ f → S.out.length + 2 ^ (F.N - topK F.ks n) ≤ 1000000 → B ≤ w.heap.size →
    Calls Try.prog 106 #[.int .i64 n, .pointer (some ⟨bn, 0, none⟩), .pointer (some ⟨bt, 0, none⟩), .pointer (some ⟨bv, 0, none⟩), .pointer (some ⟨bo, 0, none⟩)] w (VisR F f n bn bt bv bo mb B S ov w) := by
  obtain ⟨i0, hi0, iz0, iz1, iz2⟩ := info_parts infoKnot
  intro f
  induction f with
  | zero =>
    intro n S ov w h hn hf hsz hB
    obtain rfl : n = 0 := by omega
    have c0 := cellOf h.n 0
    obtain ⟨kl, hkl⟩ := enKey (n := 0) (by unfold I63; omega)
    have hlk : (Instr.lookup 112 (.map (some mb)) (.int .i64 0) true).run Try.prog w = .ok (.tuple #[.int .i64 (-1), .bool true]) w := by
      have h1 := h.map.look inLaw Try.underlying112 Try.underlying3 (zInt w) hkl
      rw [h.inv.z] at h1
      exact h1
    have hr := visF_known (ks := F.ks) (f := 0) h.inv.z
    have HR := hide hr
    have H := hide h
    clear h hr
    go_enter Try.func106, Try.ntmps106
    go_wp2_with fail
    go_ret
    refine ⟨ov, ?_, ?_, Keeps.refl _ _, fun k hk => .inl hk⟩
    · rw [HR.out]; rfl
    · rw [HR.out]; exact H.out
  | succ f ih =>
    intro n S ov w h hn hf hsz hB
    have c0 := cellOf h.n 0
    have hsm := h.fo.small
    obtain ⟨kl, hkl⟩ := enKey (n := n) (by unfold I63; omega)
    have hlk : (Instr.lookup 112 (.map (some mb)) (.int .i64 n) true).run Try.prog w = .ok (.tuple #[.int .i64 ((S.num n).getD 0), .bool (S.num n).isSome]) w := h.map.look inLaw Try.underlying112 Try.underlying3 (zInt w) hkl
    have H := hide h
    cases hx : S.num n with
    | some x =>
      rw [hx] at hlk
      have hr := visF_known (ks := F.ks) (f := f + 1) hx
      have HR := hide hr
      clear ih h hr hx
      go_enter Try.func106, Try.ntmps106
      go_wp2_with fail
      go_ret
      refine ⟨ov, ?_, ?_, Keeps.refl _ _, fun k hk => .inl hk⟩
      · rw [HR.out]; rfl
      · rw [HR.out]; exact H.out
    | none =>
      rw [hx] at hlk
      have HIH := hide ih
      have HX := hide hx
      have d0 := cellOf h.t 0
      have e0 := h.fo.cellS
      obtain ⟨f0, f1, f2⟩ := h.fo.knot hn
      have j0 : (n : Int) < (F.ks.length : Int) := by omega
      clear ih h hx
      go_enter Try.func106, Try.ntmps106
      go_upto_region 5 with (fail)
      generalize hw0 : World.alloc _ _ = w0
      obtain ⟨hb0, hB0, hs0⟩ := alloc1 hw0
      clear hw0
      have hw := H.out.fo.wf
      have h2 : 2 ≤ n := by
        rcases Nat.lt_or_ge n 2 with q | q
        · rcases (by omega : n = 0 ∨ n = 1) with rfl | rfl
          · have h1 := H.out.inv.z; rw [HX.out] at h1; cases h1
          · have h1 := H.out.inv.o; rw [HX.out] at h1; cases h1
        · exact q
      have hnl := hw.low n h2 hn
      have hnh := hw.high n h2 hn
      have htl := hw.topl n h2 hn
      have hth := hw.toph n h2 hn
      have hot := hw.opt n h2 hn
      have e3 : 2 ^ (F.N - topK F.ks n) = 2 * 2 ^ (F.N - topK F.ks n - 1) := by
        obtain ⟨d, hd⟩ : ∃ d, F.N - topK F.ks n = d + 1 := ⟨F.N - topK F.ks n - 1, by omega⟩
        rw [hd, Nat.pow_succ, Nat.add_sub_cancel]
        omega
      have e1 : 2 ^ (F.N - topK F.ks (lowK F.ks n)) ≤ 2 ^ (F.N - topK F.ks n - 1) := Nat.pow_le_pow_right (by omega) (by omega)
      have e2 : 2 ^ (F.N - topK F.ks (highK F.ks n)) ≤ 2 ^ (F.N - topK F.ks n - 1) := Nat.pow_le_pow_right (by omega) (by omega)
      have pa := visP hw f (lowK F.ks n) S H.out.inv (by omega) (by omega)
      have la := visLen hw f (lowK F.ks n) S H.out.inv (by omega) (by omega)
      have lb := visLen hw f (highK F.ks n) _ pa.inv (by omega) (by omega)
      have hV0 := H.out.below hB0
      have hnew := visF_new (ks := F.ks) (f := f) HX.out
      have pb := visP hw f (highK F.ks n) _ pa.inv (by omega) (by omega)
      have hlo := pb.mono _ _ pa.num
      have hhi := pb.num
      have hnone : (visF F.ks f (highK F.ks n) (visF F.ks f (lowK F.ks n) S).1).1.num n = none := by
        rw [pb.up n hnh, pa.up n hnl]
        exact HX.out
      have hi1 := HIH.out (lowK F.ks n) S ov w0 hV0 (by omega) (by omega) (by omega) (by omega)
      have hi2 := fun (ov1 : Value) (w1 : World) (hv1 : VAt w1 F bn bt bv bo mb B (visF F.ks f (lowK F.ks n) S).1 ov1) (hb1 : B ≤ w1.heap.size) => HIH.out (highK F.ks n) (visF F.ks f (lowK F.ks n) S).1 ov1 w1 hv1 (by omega) (by omega) (by omega) hb1
      obtain ⟨tp, htp⟩ : ∃ x, topK F.ks n = x := ⟨_, rfl⟩
      obtain ⟨lw, hlw⟩ : ∃ x, lowK F.ks n = x := ⟨_, rfl⟩
      obtain ⟨hg, hhg⟩ : ∃ x, highK F.ks n = x := ⟨_, rfl⟩
      obtain ⟨S1, hS1⟩ : ∃ x, (visF F.ks f lw S).1 = x := ⟨_, rfl⟩
      obtain ⟨x1, hx1⟩ : ∃ x, (visF F.ks f lw S).2 = x := ⟨_, rfl⟩
      obtain ⟨S2, hS2⟩ : ∃ x, (visF F.ks f hg S1).1 = x := ⟨_, rfl⟩
      obtain ⟨x2, hx2⟩ : ∃ x, (visF F.ks f hg S1).2 = x := ⟨_, rfl⟩
      have hlen2 : S2.out.length ≤ 1000000 := by
        rw [← hS2, ← hS1, ← hlw, ← hhg]
        omega
      rw [hlw, hhg] at hnew hnone hlo hhi
      rw [hS1] at hnew hnone hlo hhi
      rw [hS2] at hnew hnone hlo hhi
      rw [hx1] at hlo
      rw [hx2] at hhi
      have HLO := hide hlo
      have HHI := hide hhi
      have HTP := hide htp
      have HLW := hide hlw
      have HHG := hide hhg
      rw [hx1, hx2, htp] at hnew
      rw [hlw] at hi1
      rw [hhg, hlw, hS1] at hi2
      rw [htp, hlw, hhg] at hb0
      unfold VisR at hi1 hi2
      rw [hS1, hx1] at hi1
      rw [hS2, hx2] at hi2
      have HI1 := hide hi1
      have HI2 := hide hi2
      have HNEW := hide hnew
      have HNONE := hide hnone
      have HPA := hide pa
      have HKB := hide hb0
      have HV0 := hide hV0
      have HB0 := hide hB0
      have v0 := cellOf hV0.v 0
      have k1 := cellOf hb0 1
      have HS0 : Hid (w0.heap.size = w.heap.size + 1) := hs0
      rw [htp, hlw, hhg]
      clear hlo hhi pb hlk hkl f0 f1 f2 c0 d0 e0 hb0 hB0 hs0 hV0 hi1 hi2 hnew hnone pa la lb e1 e2 e3 hnl hnh htl hth hot hw htp hlw hhg hS1 hx1 hS2 hx2
      go_upto_region 6 with (go_at_call 106; refine HI1.out.mono ?_; rintro e w1 ⟨ov1, rfl, hv1, hk1, ho1⟩; have HV1 := hide hv1; have HK1 := hide hk1; have HO1 := hide ho1; have hkb1 := (hk1.block _ (box_lt HKB.out) (fun hs => by have := H.out.vis _ hs; omega)).trans HKB.out; have HKB1 := hide hkb1; have y0 := cellOf hkb1 2; have y1 := cellOf hv1.v 0; clear hv1 hk1 ho1 hkb1 v0 k1)
      have hw1z : w0.heap.size ≤ w1.heap.size := HK1.out.size
      have hb1 : B ≤ w1.heap.size := by have := HS0.out; omega
      have hi2 := HI2.out ov1 w1 HV1.out hb1
      have HI2' := hide hi2
      have HB1 := hide hb1
      have hns : ¬ visS bo mb ov1 w.heap.size := fun hs => by
        have h1 := H.out.vis
        rcases hs with hs | hs | hs
        · exact absurd (h1 _ (.inl hs)) (by omega)
        · exact absurd (h1 _ (.inr (.inl hs))) (by omega)
        · rcases HO1.out _ hs with q | q
          · exact absurd (h1 _ (.inr (.inr q))) (by omega)
          · have := HS0.out; omega
      have HNS := hide hns
      clear hi2 hw1z hb1 hns
      go_upto_region 7 with (go_at_call 106; refine HI2'.out.mono ?_; rintro e w2 ⟨ov2, rfl, hv2, hk2, ho2⟩; have HV2 := hide hv2; have HK2 := hide hk2; have HO2 := hide ho2; have hkb2 := (hk2.block _ (box_lt HKB1.out) HNS.out).trans HKB1.out; have HKB2 := hide hkb2; clear hv2 hk2 ho2 hkb2 y0 y1)
      obtain ⟨A2, cap2, hA2, hcp1, hcp2⟩ := HV2.out.row.shape
      subst hA2
      obtain ⟨q, hq⟩ : ∃ q, S2.out.length = q := ⟨_, rfl⟩
      have hrow2 := HV2.out.row
      unfold KStk at hrow2
      rw [hq] at hrow2 hlen2
      have z0 := cellOf HV2.out.o 0
      have z1 := cellOf HKB2.out 0
      rw [hq] at z0
      have HQ := hide hq
      have HROW2 := hide hrow2
      have hb2 : B ≤ w2.heap.size := Nat.le_trans HB1.out HK2.out.size
      have HB2 := hide hb2
      have hq6 : (q : Int) ≤ 1000000 := by omega
      clear hq hrow2 hcp1 hcp2 hb2
      go_upto_region 8 with (at_builtin; go_must (refine wpList_append_own_at _ rfl (.tmp 35) (.tmp 41) _ rfl B 114 i0 _ 3 24 Try.underlying44 hi0 iz0 iz1 iz2 rfl (by omega) _ _ _ rfl (HROW2.out.alloc _) ⟨w2.heap.size, 0, none⟩ 1 1 [.int .i64 (tp : Nat), .int .i64 x1, .int .i64 x2] rfl rfl (World.news_of_block (heap_alloc_new w2 _)) (by simp [Value.oneCell']) (by unfold maxLen; omega) (by omega) (by have h1 := HB2.out; simp; omega) ?_); intro v1 w3 hown1 hg1 _ hat1; obtain ⟨A3, cap3, hv1⟩ := owns_form hown1; subst hv1; have hob3 := ((hg1.block bo (by have := box_lt HV2.out.o; simp; omega) (fun e => owns_not HROW2.out HV2.out.o (by decide) e.symm)).trans (Below.heap_alloc _ _ _ (box_lt HV2.out.o))).trans HV2.out.o; have u0 := cellOf hob3 0; have u1 := unfrozenOf hob3 0; have HOB3 := hide hob3; have HOWN := hide hown1; have HG1 := hide hg1; have HAT := hide hat1; clear hob3 hown1 hg1 hat1)
      generalize hw4 : World.setCell _ _ _ = w4
      have hlt1 := box_lt HV2.out.o
      have hbo4 : w4.heap[bo]? = some (.cells #[.slice A3 (q + 1) cap3] 44 (0, 0)) := by
        rw [← hw4]; exact setCellOf HOB3.out _
      have hoth4 : ∀ b, b ≠ bo → w4.heap[b]? = w3.heap[b]? := fun b hb => by rw [← hw4]; exact Below.heap_setCell _ _ _ _ hb
      have hs4 : w4.heap.size = w3.heap.size := by rw [← hw4]; simp [World.setCell]
      have hoth3 : ∀ b, b < w2.heap.size → (Value.slice A2 q cap2).ownBlock ≠ some b → w3.heap[b]? = w2.heap[b]? := fun b hb hne => (HG1.out.block b (by simp; omega) (fun e => hne e.symm)).trans (Below.heap_alloc _ _ _ hb)
      have hk4 : Keeps (visS bo mb (.slice A2 q cap2)) w2 w4 := by
        have hka : Keeps (visS bo mb (.slice A2 q cap2)) w2 w3 := Keeps.trans (T := visS bo mb (.slice A2 q cap2)) ((Keeps.refl _ w2).alloc _) (Keeps.of_grown HG1.out (fun k hk => Or.inr (Or.inr hk))) (fun _ _ h => h)
        rw [← hw4]
        exact hka.setCell (.inl (Or.inl rfl)) _
      have hnS2 := HV2.out.nS
      rw [HQ.out] at hnS2
      have hbn : bn ≠ bo := cells_ne HV2.out.n HV2.out.o (by decide)
      have hbt : bt ≠ bo := cells_ne HV2.out.t HV2.out.o (by decide)
      have hbv : bv ≠ bo := cells_ne HV2.out.v HV2.out.o (by decide)
      have hmb : mb ≠ bo := map_not HV2.out.map HV2.out.o
      have hmo := map_own HV2.out.map HROW2.out
      have hn4 : w4.heap[bn]? = some (.cells #[.map (some mb)] 112 (0, 0)) := (hoth4 _ hbn).trans ((hoth3 _ (box_lt HV2.out.n) (owns_not HROW2.out HV2.out.n (by decide))).trans HV2.out.n)
      have ht4 : w4.heap[bt]? = some (.cells #[.pointer (some ⟨F.p, 0, none⟩)] 86 (0, 0)) := (hoth4 _ hbt).trans ((hoth3 _ (box_lt HV2.out.t) (owns_not HROW2.out HV2.out.t (by decide))).trans HV2.out.t)
      have hv4 := (hoth4 _ hbv).trans ((hoth3 _ (box_lt HV2.out.v) (owns_not HROW2.out HV2.out.v (by decide))).trans HV2.out.v)
      have hm4 : MapIs Try.prog w4 3 3 mb (S2.out.length + 2) enN S2.num := HV2.out.map.same ((hoth4 _ hmb).trans (hoth3 _ HV2.out.map.lt hmo))
      rw [HQ.out] at hm4
      have hr4 : w4.ownsRow B 114 3 (.slice A3 (q + 1) cap3) (q + 1) (ktsL S2.out ++ [.int .i64 (tp : Nat), .int .i64 x1, .int .i64 x2]) := ownsRow_same HOWN.out fun b hb => hoth4 b (fun e => owns_not HOWN.out HOB3.out (by decide) (by rw [← e]; exact hb))
      have hF4 : FoAt w4 F := HV2.out.fo.same fun k hk => (hoth4 _ (fun e => hnS2.1 (e ▸ hk))).trans (hoth3 _ (HV2.out.fo.slt hk) (fun e => hnS2.2.2 _ e hk))
      have HNS2 := hide hnS2
      have HB4 := hide hbo4
      have HN4 := hide hn4
      have HT4 := hide ht4
      have HV4 := hide hv4
      have HM4 := hide hm4
      have HR4 := hide hr4
      have HF4 := hide hF4
      have HK4 := hide hk4
      have y0 := cellOf hn4 0
      have y1 := cellOf hbo4 0
      have hcn : q + 2 < maxLen := by unfold maxLen; omega
      obtain ⟨kl2, hkl2⟩ := enKey (n := n) (by unfold I63; omega)
      have HKL := hide hkl2
      have hz63 : (Lit.int .i64 (q : Int)).wf = true := wf63 (by unfold I63; omega)
      have HZ63 := hide hz63
      have hqe : ((q : Int) + 1 - 1) = (q : Int) := by omega
      clear hnS2 hw4 hlt1 hbo4 hoth4 hs4 hoth3 hk4 hbn hbt hbv hmb hmo hn4 ht4 hv4 hm4 hr4 hF4 u0 u1 z0 z1 hkl2 hz63
      go_upto_region 9 with (at_mapUpdate; go_must (refine wpList_put _ rfl _ _ _ 112 rfl HM4.out inLaw Try.underlying112 Try.underlying3 enN_inj hcn n ⟨_, HKL.out⟩ (q : Int) HZ63.out rfl rfl rfl ?_); intro w5 hm5 hg5; have hbo5 := (hg5.block _ (box_lt HB4.out) (fun e => by injection e with e; exact map_not HM4.out HB4.out e.symm)).trans HB4.out; have o0 := cellOf hbo5 0; have HBO5 := hide hbo5; have HM5 := hide hm5; have HG5 := hide hg5; clear hbo5 hm5 hg5 y0 y1)
      go_wp2_with fail
      go_ret
      have hoth5 : ∀ b, b < w4.heap.size → b ≠ mb → w5.heap[b]? = w4.heap[b]? := fun b hb hne => HG5.out.block b hb (fun e => hne (by injection e))
      have hnotm : ∀ {g t : Nat} {C : Array Value}, w4.heap[g]? = some (.cells C t (0, 0)) → w5.heap[g]? = some (.cells C t (0, 0)) := fun hg => (hoth5 _ (box_lt hg) (fun e => map_not HM4.out hg e.symm)).trans hg
      have hk5 : Keeps (visS bo mb (.slice A2 q cap2)) w2 w5 := HK4.out.trans (T := visS bo mb (.slice A2 q cap2)) (Keeps.of_grown HG5.out (fun k hk => Or.inr (Or.inl (by injection hk with hk; exact hk.symm)))) (fun _ _ h => h)
      have hz1 := HK1.out.size
      have hz2 := HK2.out.size
      have hz0 := HS0.out
      have hown5 : ∀ k, (Value.slice A3 (q + 1) cap3).ownBlock = some k → (Value.slice A2 q cap2).ownBlock = some k ∨ w2.heap.size ≤ k := fun k hk => by
        rcases HAT.out with e | e
        · exact .inl (e.symm.trans hk)
        · rw [e] at hk
          injection hk with hk
          simp at hk
          exact .inr (by omega)
      have ho2 := HO2.out
      rw [HQ.out] at ho2
      refine ⟨.slice A3 (q + 1) cap3, ?_, ?_, ?_, fun k hk => ?_⟩
      · rw [HNEW.out, HQ.out]; rfl
      · rw [HNEW.out]
        refine ⟨hnotm HN4.out, hnotm HT4.out, hnotm HV4.out, HBO5.out, ?_, HF4.out.same fun k hk => hoth5 k (HF4.out.slt hk) (fun e => HNS2.out.2.1 (e ▸ hk)), ?_, ⟨HNS2.out.1, HNS2.out.2.1, fun b hb hs => ?_⟩, ?_⟩
        · show w5.ownsRow B 114 3 _ (S2.out ++ [(⟨(tp : Int), x1, x2⟩ : Kt)]).length (ktsL (S2.out ++ [(⟨(tp : Int), x1, x2⟩ : Kt)]))
          rw [List.length_append, HQ.out, ktsL_snoc]
          exact ownsRow_same HR4.out fun b hb => hoth5 b (HR4.out.lt b hb).2 (fun e => map_own HM4.out HR4.out (by rw [← e]; exact hb))
        · show MapIs Try.prog w5 3 3 mb ((S2.out ++ [(⟨(tp : Int), x1, x2⟩ : Kt)]).length + 2) enN (putM S2.num n (S2.out.length : Int))
          rw [List.length_append, HQ.out]
          exact HM5.out
        · rcases hown5 b hb with e | e
          · exact HNS2.out.2.2 b e hs
          · have := HV2.out.fo.slt hs
            omega
        · have h1 := HV2.out.inv.add H.out.fo.wf h2 hn HNONE.out (by rw [HLW.out]; exact HLO.out) (by rw [HHG.out]; exact HHI.out)
          rw [HTP.out] at h1
          exact h1
      · refine (((Keeps.of_below HB0.out).trans HK1.out (T := visS bo mb ov) (S := visS bo mb ov) (fun _ _ h => h)).trans HK2.out (fun i hi hs => ?_)).trans hk5 (fun i hi hs => ?_)
        · rcases hs with hs | hs | hs
          · exact .inl hs
          · exact .inr (.inl hs)
          · rcases HO1.out _ hs with e | e
            · exact .inr (.inr e)
            · omega
        · rcases hs with hs | hs | hs
          · exact .inl hs
          · exact .inr (.inl hs)
          · rcases ho2 _ hs with e | e
            · rcases HO1.out _ e with e | e
              · exact .inr (.inr e)
              · omega
            · omega
      · rcases hown5 k hk with e | e
        · rcases ho2 _ e with e | e
          · rcases HO1.out _ e with e | e
            · exact .inl e
            · exact .inr (by omega)
          · exact .inr (by omega)
        · exact .inr (by omega)
end Go.Proofs.Ytohofcmikfkilaa
/- The knots of a diagram in order, and Diagram: walks. -/
namespace Go.Proofs.Ytohofcmikfkilaa
open Go.RowKit
open Go.Maps (Keyed)
set_option linter.unusedVariables false
set_option linter.unusedSimpArgs false
/-- An entry of a map that is made with entries. -/
theorem wpList_ins {α : Type} [DecidableEq α] {P : Program} (w : World) {ops : Array Oper} {rest : List Oper} {o : Oper} {ac : Act} {Q : Exit → Act → World → Prop}
    (hg : o.guard = none) (om ox ov : Operand) (t : Nat) (hop : o.op = Op.insert t om ox ov) {k e b n : Nat} {enc : α → Value} {m : α → Option Int}
    (h : MapIs P w k e b n enc m) (K : Keyed P k) (ht : P.underlying t = some (.map k e)) (he : P.underlying e = some (.int .i64)) (hinj : ∀ a a', enc a = enc a' → a = a') (hn : n < maxLen) (a : α) (hkey : ∃ l, keyOf P k (enc a) = some l) (x : Int) (hx : (Lit.int .i64 x).wf = true)
    (h1 : ac.eval om = .map (some b)) (h2 : ac.eval ox = enc a) (h3 : ac.eval ov = .int .i64 x)
    (hK : ∀ w', MapIs P w' k e b (n + 1) enc (putM m a x) → w.grownBy w' (some b) → wpList P ops Q rest (ac.put o.dst undef) w') :
    wpList P ops Q (o :: rest) ac w := by
  obtain ⟨l, hkey⟩ := hkey
  refine wpList_plain hg fun K' hK' => ?_
  obtain ⟨w', hrun, r1, r2⟩ := h.put K ht he hinj hn hkey hx
  unfold Oper.wp
  simp [execOp, hop, h1, h2, h3, hrun, Result.andThen]
  exact hK' _ _ (hK w' r1 r2)
theorem results_cell_tmp {P : Program} {fn : Func} {p u : Tmp} {ty : TypeId} (h : fn.results = #[.cell p ty, .tmp u]) (tmps : Array Value) (w : World) :
    (results fn tmps).run P w = ((asAddr (tmps.getD p undef)).run P w).andThen fun a w₁ => ((loadVar ty a).run P w₁).andThen fun v w₂ => .ok (.tuple #[v, tmps.getD u undef]) w₂ := by
  simp only [results, h]
  simp [Sem.run_bind, Result.andThen]
  try (congr; done)
set_option maxRecDepth 100000 in
set_option maxHeartbeats 8000000 in
theorem knotsOf_any (F : Fo) (n : Nat) (w : World) (h : FoAt w F) (hn : n < F.ks.length) (hN : F.N ≤ 12) :
    Calls Try.prog 79 #[.pointer (some ⟨F.p, 0, none⟩), .int .i64 n] w fun e w' => ∃ v, e = .returned (.tuple #[v, .int .i64 (visF F.ks n n DSt.start).2]) ∧ KStk w.heap.size w' v (visF F.ks n n DSt.start).1.out ∧ Below w.heap.size w w' := by
  have hmm := @run_makeMap Try.prog
  have H := hide h
  obtain ⟨kl0, hkl0⟩ := enKey (n := 0) (by unfold I63; omega)
  obtain ⟨kl1, hkl1⟩ := enKey (n := 1) (by unfold I63; omega)
  have K0 := hide hkl0
  have K1 := hide hkl1
  clear h hkl0 hkl1
  go_enter Try.func79, Try.ntmps79
  go_upto_region 1 with (fail)
  generalize hw0 : World.alloc _ _ = w0
  obtain ⟨hb0, hb1, hB0, hs0⟩ := alloc2 hw0
  clear hw0
  have HT0 := hide hb0
  have HO0 := hide hb1
  have HB0 := hide hB0
  have HS0 : Hid (w0.heap.size = w.heap.size + 2) := hs0
  clear hb0 hb1 hB0 hs0
  go_upto_region 2 with (first | (refine wpList_ins _ rfl _ _ _ 112 rfl (MapIs.made Try.prog w0 3 3 enN) inLaw Try.underlying112 Try.underlying3 enN_inj (by unfold maxLen; omega) 0 ⟨_, K0.out⟩ (-1) (by decide) rfl rfl rfl ?_; intro w1 hm1 hg1; have HM1 := hide hm1; have HG1 := hide hg1; clear hm1 hg1) | (refine wpList_ins _ rfl _ _ _ 112 rfl HM1.out inLaw Try.underlying112 Try.underlying3 enN_inj (by unfold maxLen; omega) 1 ⟨_, K1.out⟩ (-2) (by decide) rfl rfl rfl ?_; intro w2 hm2 hg2; have HM2 := hide hm2; have HG2 := hide hg2; clear hm2 hg2))
  have hp0 : w0.heap.size < w1.heap.size := by have := HG1.out.size; simp at this; omega
  have hp2 : w1.heap.size ≤ w2.heap.size := HG2.out.size
  go_upto_region 4 with (fail)
  generalize hw3 : World.alloc _ _ = w3
  obtain ⟨hn3, hv3, hB3, hs3⟩ := alloc2 hw3
  clear hw3
  have hz0 := HS0.out
  have hmw := HM2.out.lt
  have hk1 : ∀ b, b < w0.heap.size → w1.heap[b]? = w0.heap[b]? := fun b hb => (HG1.out.block b (by simp; omega) (fun e => by injection e with e; omega)).trans (Below.heap_alloc _ _ _ hb)
  have hk2 : ∀ b, b < w0.heap.size → w2.heap[b]? = w1.heap[b]? := fun b hb => HG2.out.block b (by omega) (fun e => by injection e with e; omega)
  have hB02 : Below w0.heap.size w0 w2 := ⟨HG2.out.os.trans HG1.out.os, HG2.out.tape.trans HG1.out.tape, HG2.out.output.trans HG1.out.output, by omega, fun b hb => (hk2 b hb).trans (hk1 b hb)⟩
  have hB03 : Below w0.heap.size w0 w3 := hB02.trans (hB3.mono (by omega))
  have hBw3 : Below w.heap.size w w3 := Below.to HB0.out hB03 (Nat.le_refl _)
  have hva : VAt w3 F w2.heap.size w.heap.size (w2.heap.size + 1) (w.heap.size + 1) w0.heap.size w.heap.size DSt.start (.slice none 0 0) :=
    ⟨hn3, box_to HT0.out hB03, hv3, box_to HO0.out hB03, World.ownsRow_nil _ _ _ _, H.out.below hBw3, HM2.out.same (hB3.block _ hmw), ⟨fun hs => by have := H.out.slt hs; omega, fun hs => by have := H.out.slt hs; omega, fun b hb => (by cases hb)⟩, DInv.start _⟩
  have hp12 : 2 ^ (F.N - topK F.ks n) ≤ 2 ^ 12 := Nat.pow_le_pow_right (by omega) (by omega)
  have hvi := visit_any F w2.heap.size w.heap.size (w2.heap.size + 1) (w.heap.size + 1) w0.heap.size w.heap.size n n DSt.start (.slice none 0 0) w3 hva hn (Nat.le_refl _) (by simp [DSt.start]; omega) hBw3.size
  have x0 := cellOf hv3 0
  have HVI := hide hvi
  have HBW3 := hide hBw3
  have HVA := hide hva
  clear hn3 hv3 hB3 hs3 hmw hk1 hk2 hB02 hB03 hBw3 hva hvi hp12
  go_wp2_with (go_at_call 106; refine HVI.out.mono ?_; rintro e w4 ⟨ov4, rfl, hv4, hk4, ho4⟩; have HV4 := hide hv4; have HK4 := hide hk4; have HO4 := hide ho4; obtain ⟨A4, cap4, hA4, hc1, hc2⟩ := hv4.row.shape; subst hA4; have y0 := cellOf hv4.o 0; have y1 := unfrozenOf hv4.o 0; clear hv4 hk4 ho4 hc1 hc2 x0)
  generalize hw5 : World.setCell _ _ _ = w5
  obtain ⟨L, hL⟩ : ∃ L, (visF F.ks n n DSt.start).1.out.length = L := ⟨_, rfl⟩
  obtain ⟨x, hx⟩ : ∃ x, (visF F.ks n n DSt.start).2 = x := ⟨_, rfl⟩
  have hrow := HV4.out.row
  have hob := HV4.out.o
  unfold KStk at hrow ⊢
  rw [hL] at hrow hob hw5 ⊢
  rw [hx]
  have hoth : ∀ b, b ≠ w.heap.size + 1 → w5.heap[b]? = w4.heap[b]? := fun b hb => by rw [← hw5]; exact Below.heap_setCell _ _ _ _ hb
  have hob5 : w5.heap[w.heap.size + 1]? = some (.cells #[.slice A4 L cap4] 44 (0, 0)) := by
    rw [← hw5]; exact setCellOf hob _
  have hrow5 : w5.ownsRow w.heap.size 114 3 (.slice A4 L cap4) L (ktsL (visF F.ks n n DSt.start).1.out) := ownsRow_same hrow fun b hb => hoth b (fun e => owns_not hrow hob (by decide) (by rw [← e]; exact hb))
  have hB4 : Below w.heap.size w w4 := HBW3.out.trans (HK4.out.below HBW3.out.size (fun k hk => by
    rcases hk with hk | hk | hk
    · omega
    · have := HS0.out; omega
    · cases hk))
  have hB5 : Below w.heap.size w w5 := by
    rw [← hw5]
    exact hB4.setCell (by simp) _
  have z0 := cellOf hob5 0
  clear hw5 hoth hob hrow hB4 y0 y1 hob5
  refine bodyPost_ret (v := .tuple #[.slice A4 L cap4, .int .i64 x]) ?_ rfl ⟨_, rfl, hrow5, hB5⟩
  clear hrow5 hB5
  rw [results_cell_tmp rfl]
  go_simp
/-- The diagram of a formula in buildable variants. -/
def bldM (m : Mo) (f : List Int) : List Kt × Int := bldF (fun x => allF (vf x) m.rules && evF1 (vf x) f) m.opts.length [] []
/-- What Diagram returns. -/
def digE (m : Mo) (f : List Int) : Int := if m.errF [f] ≠ 0 then m.errF [f] else if 2000 < (bldM m f).1.length then 2 else 0
def digK (m : Mo) (f : List Int) : List Kt := if digE m f = 0 then (bldM m f).1 else []
def digR (m : Mo) (f : List Int) : Int := if digE m f = 0 then (bldM m f).2 else 0
theorem dig_bad {m : Mo} {f : List Int} {z : Int} (h : digE m f = z) (hz : z ≠ 0) : digK m f = [] ∧ digR m f = 0 := by unfold digK digR; rw [h, if_neg hz, if_neg hz]; exact ⟨rfl, rfl⟩
theorem dig_err {m : Mo} {f : List Int} (h : m.errF [f] ≠ 0) : digE m f = m.errF [f] := by unfold digE; rw [if_pos h]
theorem dig_many {m : Mo} {f : List Int} (h : m.errF [f] = 0) (h2 : 2000 < (bldM m f).1.length) : digE m f = 2 := by unfold digE; rw [if_neg (by simp [h]), if_pos h2]
theorem dig_ok {m : Mo} {f : List Int} (h : m.errF [f] = 0) (h2 : (bldM m f).1.length ≤ 2000) : digE m f = 0 ∧ digK m f = (bldM m f).1 ∧ digR m f = (bldM m f).2 := by
  have h1 : digE m f = 0 := by unfold digE; rw [if_neg (by simp [h]), if_neg (by omega)]
  refine ⟨h1, ?_, ?_⟩
  · unfold digK; rw [if_pos h1]
  · unfold digR; rw [if_pos h1]
def DigP (K : List Kt) (r er : Int) (w : World) (e : Ending) (w' : World) : Prop := ∃ v, e = .returned (.tuple #[v, .int .i64 r, .int .i64 er]) ∧ Kts w' w'.heap.size v K ∧ Below w.heap.size w w'
theorem DigP.bad {m : Mo} {f : List Int} {z : Int} {w w' : World} (h : digE m f = z) (hz : z ≠ 0) (hb : Below w.heap.size w w') : DigP (digK m f) (digR m f) (digE m f) w (.returned (.tuple #[.slice none 0 0, .int .i64 0, .int .i64 z])) w' := by
  obtain ⟨h1, h2⟩ := dig_bad h hz
  rw [h1, h2, h]
  exact ⟨_, rfl, Sl.nil _ _ _ _, hb⟩
set_option maxRecDepth 100000 in
set_option maxHeartbeats 4000000 in
theorem Diagram_any (m : Mo) (f : List Int) (ov rv fv : Value) (w : World) (hs : SizedM m) (hl : f.length ≤ maxLen) (h : MoAt w w.heap.size ov rv m) (hf : Ints w w.heap.size fv f) (hN : m.err = 0 → m.opts.length ≤ 12) :
    Calls Try.prog 34 #[.agg #[ov, rv], fv] w (DigP (digK m f) (digR m f) (digE m f) w) := by
  obtain ⟨A, cap, hov⟩ := Sl.form h.o
  obtain ⟨Ar, capr, hrv⟩ := h.r.form
  obtain ⟨Al, capl, hlv⟩ := Sl.form hf
  have H := hide h
  have HF := hide hf
  subst hov hrv hlv
  have hB2 : Below w.heap.size w ((w.alloc (.cells #[.slice A m.opts.length cap, .slice Ar m.rules.length capr] 25)).alloc (.cells #[.slice Al f.length capl] 35)) := (by repeat (first | exact Below.refl _ _ | assumption | refine Below.drew ?_ | refine Below.drewN ?_ _ | refine Below.allocT ?_ (Nat.le_refl _) _ | refine Below.setCell ?_ (by simp <;> omega) _ | refine Below.to ?_ (by assumption) (Nat.le_refl _)))
  by_cases he : m.errF [f] = 0
  · have HOK := hide (Mo.okF he)
    have hN2 := hN (Mo.okF he).1
    have hbe := begin_ok m [f] (.slice A m.opts.length cap) (.slice Ar m.rules.length capr) (.slice (some ⟨w.heap.size + 1, 0, none⟩) 1 1) _ hs (sized_one hl) (h.up hB2) (forms_one (heap_new _ _ _ (by simp)) (by simp) (hf.up hB2)) he hN2
    have HBE := hide hbe
    have HE := hide he
    clear h hf he hbe hB2 hN
    go_enter Try.func34, Try.ntmps34
    go_wp2_with (go_at_call 60; refine HBE.out.mono ?_; rintro e w1 ⟨F, n, rfl, r1⟩; have R1 : Hid (BegR m w w1 F n) := r1.of (by repeat (first | exact Below.refl _ _ | assumption | refine Below.drew ?_ | refine Below.drewN ?_ _ | refine Below.allocT ?_ (Nat.le_refl _) _ | refine Below.setCell ?_ (by simp <;> omega) _ | refine Below.to ?_ (by assumption) (Nat.le_refl _))); clear r1)
    refine (grow_beg R1.out hN2 R1.out.op (by omega) HF.out (HOK.out.2 f (by simp))).mono ?_
    rintro e w2 ⟨g, F2, rfl, r2, r3, hg, r4⟩
    have R2 := hide r2
    have R4 := hide r4
    have R3 := hide r3
    have hn2 : n < F2.ks.length := Nat.lt_of_lt_of_le R1.out.lt r3.st.le
    clear r2 r3 r4
    go_wp2_with fail
    refine (and_beg (l := [n, g]) R1.out hN2 R2.out (by omega) (by simp) (by intro x hx; simp at hx; rcases hx with rfl | rfl <;> assumption)).mono ?_
    rintro e w3 ⟨x, F3, rfl, r5, r6, hx, r7⟩
    have hN3 : F3.N = m.opts.length := r5.st.N.trans R1.out.N
    have hlow := r5.low R1.out
    have hkn := knotsOf_any F3 x w3 r5.st.here hx (by omega)
    rw [r5.st.p] at hkn
    have hbv := bld_vis r5.st.here.wf (fun x => allF (vf x) m.rules && evF1 (vf x) f) F3.N [] x x DSt.start (DInv.start _) hx (Nat.le_refl _) (by simp) (Nat.zero_le _) (fun y hy => by
      show (allF (vf ([] ++ y)) m.rules && evF1 (vf ([] ++ y)) f) = _
      rw [r7 (vf ([] ++ y)), List.all_cons, List.all_cons, List.all_nil, R4.out (vf ([] ++ y)), R3.out.st.ev R1.out.here.wf R1.out.lt, R1.out.ev (vf ([] ++ y)), Bool.and_true])
    rw [hN3] at hbv
    have hb1 : (visF F3.ks x x DSt.start).1.out = (bldM m f).1 := (congrArg Prod.fst hbv).symm
    have hb2 : (visF F3.ks x x DSt.start).2 = (bldM m f).2 := (congrArg Prod.snd hbv).symm
    rw [hb1, hb2] at hkn
    obtain ⟨K, hK⟩ : ∃ K, (bldM m f).1 = K := ⟨_, rfl⟩
    obtain ⟨r, hr⟩ : ∃ r, (bldM m f).2 = r := ⟨_, rfl⟩
    rw [hK, hr] at hkn
    have HKN := hide hkn
    have HLW := hide hlow
    have HK := hide hK
    have HR := hide hr
    clear r5 r6 r7 hN3 hlow hkn hbv hb1 hb2 hK hr
    by_cases h2000 : (2000 : Int) < (K.length : Int)
    · have hee := dig_many HE.out (by rw [HK.out]; omega)
      have HEE := hide hee
      clear hee
      go_wp2_with (go_at_call 79; refine HKN.out.mono ?_; rintro e w4 ⟨v4, rfl, hv4, hB4⟩; obtain ⟨A4, cap4, hA4, _, _⟩ := hv4.shape; subst hA4; have HB4 := hide hB4; clear hv4 hB4)
      go_ret3
      exact DigP.bad HEE.out (by omega) (Below.to HLW.out HB4.out (Nat.le_refl _))
    · obtain ⟨he1, he2, he3⟩ := dig_ok HE.out (by rw [HK.out]; omega)
      rw [HK.out] at he2
      rw [HR.out] at he3
      have HEE := hide (And.intro he1 (And.intro he2 he3))
      clear he1 he2 he3
      go_wp2_with (go_at_call 79; refine HKN.out.mono ?_; rintro e w4 ⟨v4, rfl, hv4, hB4⟩; obtain ⟨A4, cap4, hA4, _, _⟩ := hv4.shape; subst hA4; have HV4 := hide hv4.kts; have HB4 := hide hB4; clear hv4 hB4)
      go_ret3
      rw [HEE.out.1, HEE.out.2.1, HEE.out.2.2]
      exact ⟨_, rfl, HV4.out, Below.to HLW.out HB4.out (Nat.le_refl _)⟩
  · have hee := dig_err he
    have hbe := begin_err m [f] (.slice A m.opts.length cap) (.slice Ar m.rules.length capr) (.slice (some ⟨w.heap.size + 1, 0, none⟩) 1 1) _ hs (sized_one hl) (h.up hB2) (forms_one (heap_new _ _ _ (by simp)) (by simp) (hf.up hB2)) he
    have hne : (m.errF [f] != 0) = true := by simpa using he
    obtain ⟨z, hz⟩ : ∃ z, m.errF [f] = z := ⟨_, rfl⟩
    rw [hz] at hne hbe he hee
    have HZ0 := hide he
    have HEE := hide hee
    have HBE := hide hbe
    clear h hf hz he hbe hB2 hN hee
    go_enter Try.func34, Try.ntmps34
    go_wp2_with (go_at_call 60; refine HBE.out.mono ?_; rintro e w1 ⟨rfl, hB1⟩)
    go_ret3
    exact DigP.bad HEE.out HZ0.out (by repeat (first | exact Below.refl _ _ | assumption | refine Below.drew ?_ | refine Below.drewN ?_ _ | refine Below.allocT ?_ (Nat.le_refl _) _ | refine Below.setCell ?_ (by simp <;> omega) _ | refine Below.to ?_ (by assumption) (Nat.le_refl _)))
end Go.Proofs.Ytohofcmikfkilaa
/- A diagram made by going through all variants, as the elder program has it: walk of build. -/
namespace Go.Proofs.Ytohofcmikfkilaa
open Go.RowKit
set_option linter.unusedVariables false
set_option linter.unusedSimpArgs false
theorem bldLen (g : List Bool → Bool) : ∀ (d : Nat) (l : List Bool) (K : List Kt), (bldF g d l K).1.length + 1 ≤ K.length + 2 ^ d := by
  intro d
  induction d with
  | zero => intro l K; simp [bldF]
  | succ d ih =>
    intro l K
    have h1 := ih (l ++ [false]) K
    have h2 := ih (l ++ [true]) (bldF g d (l ++ [false]) K).1
    have h3 : 2 ^ (d + 1) = 2 * 2 ^ d := by rw [Nat.pow_succ, Nat.mul_comm]
    have h4 : 1 ≤ 2 ^ d := Nat.one_le_two_pow
    unfold bldF
    split
    · simp only; omega
    · split
      · simp only; omega
      · simp only [List.length_append, List.length_singleton]; omega
/-- What two statements of one call have made. -/
def bldR (w0 : World) (l : List Bool) (x : Bool) (j : Nat) (v : Value) (w : World) : Prop :=
  match j with
  | 3 => w.ownsRow w0.heap.size 4 1 v l.length (l.map Value.bool)
  | 4 => ∃ b, v = .slice (some ⟨b, 0, none⟩) 1 1 ∧ w0.heap.size ≤ b ∧ b < w.heap.size ∧ w.cell? ⟨b, 0, none⟩ = some (.bool x)
  | _ => True
theorem bldR_keep {w0 : World} {l : List Bool} {x : Bool} (j : Nat) {v : Value} {w w' : World} (hb : Below w.heap.size w w') (h : bldR w0 l x j v w) : bldR w0 l x j v w' := by
  unfold bldR at *
  split at h
  · exact owns_below h hb
  · obtain ⟨b, h1, h2, h3, h4⟩ := h
    exact ⟨b, h1, h2, Nat.lt_of_lt_of_le h3 hb.size, (hb.cell (p := ⟨b, 0, none⟩) h3).trans h4⟩
  · trivial
/-- What build returns. -/
def BldP (kv : Value) (B : Nat) (K : List Kt) (r : Int) (w : World) (e : Ending) (w' : World) : Prop :=
  ∃ kv', e = .returned (.tuple #[kv', .int .i64 r]) ∧ KStk B w' kv' K ∧ Keeps (fun b => kv.ownBlock = some b) w w' ∧ ∀ b, kv'.ownBlock = some b → kv.ownBlock = some b ∨ w.heap.size ≤ b
/-- Where a variant is buildable and the formula holds. -/
def bldG (m : Mo) (f : List Int) (x : List Bool) : Bool := allF (vf x) m.rules && evF1 (vf x) f
theorem Keeps.belowB {S : Nat → Prop} {w w' : World} {B : Nat} (h : Keeps S w w') (hB : B ≤ w.heap.size) (hS : ∀ k, S k → B ≤ k) : Below B w w' := h.below hB fun k hk => hS k hk
set_option maxRecDepth 100000 in
set_option maxHeartbeats 4000000 in
theorem build_leaf (m : Mo) (f : List Int) (he : m.err = 0) (hvf : validF m.opts.length f = true) (B : Nat) (l : List Bool) (K : List Kt) (ov rv fv bv kv : Value) (w : World) (hl : l.length = m.opts.length) (h : MoAt w B ov rv m) (hf : Ints w B fv f) (hv : Bols w w.heap.size bv l) (hk : KStk B w kv K) (hB : B ≤ w.heap.size) :
    Calls Try.prog 80 #[.agg #[ov, rv], fv, bv, kv] w (BldP kv B K (if bldG m f l then -2 else -1) w) := by
  obtain ⟨A, cap, hov⟩ := Sl.form h.o
  obtain ⟨Ar, capr, hrv⟩ := h.r.form
  obtain ⟨Al, capl, hlv⟩ := Sl.form hf
  obtain ⟨Av, capv, hvv⟩ := Sl.form hv
  obtain ⟨Ak, capk, hkv, _, _⟩ := hk.shape
  have H := hide h
  have HF := hide hf
  have HV := hide hv
  have HK := hide hk
  have hN := (Mo.ok he).1
  obtain ⟨r, hr⟩ : ∃ r : Int, (if bldG m f l then -2 else -1) = r := ⟨_, rfl⟩
  rw [hr]
  have HR := hide hr
  clear hr
  subst hov hrv hlv hvv hkv
  clear h hf hv hk
  go_enter Try.func80, Try.ntmps80
  go_upto_region 1 with (fail)
  generalize hw0 : World.alloc _ _ = w0
  obtain ⟨hb0, hB0, hs0⟩ := alloc1 hw0
  clear hw0
  have HX0 : Hid (MoBox w0 w.heap.size (.slice A m.opts.length cap) (.slice Ar m.rules.length capr)) := hb0
  have HB0 := hide hB0
  have c0 := cellOf hb0 0
  have c1 := cellOf hb0 1
  have e1 : ((l.length : Int) == (m.opts.length : Int)) = true := by simp; omega
  have hM0 : MoAt w0 w0.heap.size (.slice A m.opts.length cap) (.slice Ar m.rules.length capr) m := (H.out.more hB).up hB0
  have hfi := rfirst_any m l (.slice A m.opts.length cap) (.slice Ar m.rules.length capr) (.slice Av l.length capv) w0 hM0 (Sl.up HV.out hB0) he hl
  have htr := fun (w1 : World) (hb : Below w.heap.size w w1) => True_any f m.opts.length l (.slice Al f.length capl) (.slice Av l.length capv) w.heap.size w1 ((HF.out.more hB).below hb) (Sl.below HV.out hb) hl hvf
  have HFI := hide hfi
  have HTR := hide htr
  clear hb0 hB0 hs0 hM0 hfi htr hN hl
  cases ha : allF (vf l) m.rules with
  | false =>
    have hg : bldG m f l = false := by unfold bldG; rw [ha]; rfl
    have hz := fst_pos ha
    obtain ⟨z, hze⟩ : ∃ z, fstR l m.rules = z := ⟨_, rfl⟩
    rw [hze] at hz
    have HZ := hide hze
    have HG := hide hg
    have hz1 : ¬ z < 0 := by omega
    clear ha hg hze hz
    go_wp2_with (go_at_call 87; refine HFI.out.mono ?_; rw [HZ.out]; rintro e w1 ⟨rfl, hB1⟩; have HB1 : Hid (Below w.heap.size w w1) := Below.to HB0.out hB1 (Nat.le_refl _); clear hB1 c0 c1)
    go_ret2
    have hr := HR.out
    rw [HG.out] at hr
    subst hr
    exact ⟨_, rfl, owns_below HK.out HB1.out, Keeps.of_below HB1.out, fun b hb => .inl hb⟩
  | true =>
    have hze := fst_neg ha
    have hg : bldG m f l = evF1 (vf l) f := by unfold bldG; rw [ha]; rfl
    obtain ⟨y, hy⟩ : ∃ y, evF1 (vf l) f = y := ⟨_, rfl⟩
    rw [hy] at hg
    have HZ := hide hze
    have HG := hide hg
    have HY := hide hy
    clear ha hg hze hy
    cases y with
    | true =>
      go_wp2_with (first | (go_at_call 87; refine HFI.out.mono ?_; rw [HZ.out]; rintro e w1 ⟨rfl, hB1⟩; have HB1 : Hid (Below w.heap.size w w1) := Below.to HB0.out hB1 (Nat.le_refl _); clear hB1 c0 c1) | (go_at_call 66; refine (HTR.out _ HB1.out).mono ?_; rw [HY.out]; rintro e w2 ⟨rfl, rfl⟩))
      go_ret2
      have hr := HR.out
      rw [HG.out] at hr
      subst hr
      exact ⟨_, rfl, owns_below HK.out HB1.out, Keeps.of_below HB1.out, fun b hb => .inl hb⟩
    | false =>
      go_wp2_with (first | (go_at_call 87; refine HFI.out.mono ?_; rw [HZ.out]; rintro e w1 ⟨rfl, hB1⟩; have HB1 : Hid (Below w.heap.size w w1) := Below.to HB0.out hB1 (Nat.le_refl _); clear hB1 c0 c1) | (go_at_call 66; refine (HTR.out _ HB1.out).mono ?_; rw [HY.out]; rintro e w2 ⟨rfl, rfl⟩))
      go_ret2
      have hr := HR.out
      rw [HG.out] at hr
      subst hr
      exact ⟨_, rfl, owns_below HK.out HB1.out, Keeps.of_below HB1.out, fun b hb => .inl hb⟩
/-- What the call reads. -/
structure BAt (W : World) (b B : Nat) (m : Mo) (f : List Int) (l : List Bool) (ov rv fv bv : Value) : Prop where
  x : MoBox W b ov rv
  m : MoAt W B ov rv m
  f : Ints W B fv f
  v : Bols W W.heap.size bv l
theorem BAt.keep {W W' : World} {b B : Nat} {m : Mo} {f : List Int} {l : List Bool} {ov rv fv bv : Value} {S : Nat → Prop} (h : BAt W b B m f l ov rv fv bv) (hk : Keeps S W W') (hB : B ≤ W.heap.size) (hS : ∀ k, S k → B ≤ k) (hb : ¬ S b) (hv : ∀ k, 0 < l.length → bv.ownBlock = some k → ¬ S k) : BAt W' b B m f l ov rv fv bv :=
  ⟨(hk.block _ (box_lt h.x) hb).trans h.x, h.m.below (hk.below hB hS), h.f.below (hk.below hB hS), Sl.more (GRow.stay (enc := Value.bool) (z := false) h.v fun k hl hb' hlt => hk.block k hlt (hv k hl hb')) hk.size⟩
set_option maxRecDepth 100000 in
set_option maxHeartbeats 16000000 in
theorem build_any (m : Mo) (f : List Int) (he : m.err = 0) (hvf : validF m.opts.length f = true) (hN12 : m.opts.length ≤ 12) (B : Nat) : ∀ (d : Nat) (l : List Bool) (KK : List Kt) (ov rv fv bv kv : Value) (w : World), l.length + d = m.opts.length → MoAt w B ov rv m → Ints w B fv f → Bols w w.heap.size bv l → (∀ j, 0 < l.length → bv.ownBlock = some j → kv.ownBlock ≠ some j) → KStk B w kv KK → KK.length + 2 ^ d ≤ 1000000 → B ≤ w.heap.size →
    Calls Try.prog 80 #[.agg #[ov, rv], fv, bv, kv] w (BldP kv B (bldF (bldG m f) d l KK).1 (bldF (bldG m f) d l KK).2 w) := by
  obtain ⟨i0, hi0, iz0, iz1, iz2⟩ := info_parts infoKnot
  obtain ⟨i1, hi1, jz0, jz1, jz2⟩ := info_parts infoBool
  intro d
  induction d with
  | zero =>
    intro l KK ov rv fv bv kv w hl h hf hv hap hk hsz hB
    have e1 : bldF (bldG m f) 0 l KK = (KK, if bldG m f l then -2 else -1) := rfl
    rw [e1]
    exact build_leaf m f he hvf B l KK ov rv fv bv kv w (by omega) h hf hv hk hB
  | succ d ih =>
    intro l KK ov rv fv bv kv w hl h hf hv hap hk hsz hB
    obtain ⟨A, cap, hov⟩ := Sl.form h.o
    obtain ⟨Ar, capr, hrv⟩ := h.r.form
    obtain ⟨Al, capl, hlv⟩ := Sl.form hf
    obtain ⟨Av, capv, hvv⟩ := Sl.form hv
    obtain ⟨Ak, capk, hkv, _, _⟩ := hk.shape
    have hm10 := (Mo.ok he).1
    have e3 : 2 ^ (d + 1) = 2 * 2 ^ d := by rw [Nat.pow_succ, Nat.mul_comm]
    have hn1 := bldLen (bldG m f) d (l ++ [false]) KK
    obtain ⟨⟨K1, lo⟩, hE1⟩ : ∃ p, bldF (bldG m f) d (l ++ [false]) KK = p := ⟨_, rfl⟩
    have hn2 := bldLen (bldG m f) d (l ++ [true]) K1
    obtain ⟨⟨K2, hi⟩, hE2⟩ : ∃ p, bldF (bldG m f) d (l ++ [true]) K1 = p := ⟨_, rfl⟩
    rw [hE1] at hn1
    rw [hE2] at hn2
    dsimp only at hn1 hn2
    have hsz1 : KK.length + 2 ^ d ≤ 1000000 := by omega
    have hsz2 : K1.length + 2 ^ d ≤ 1000000 := by omega
    have hK2 : K2.length + 1 ≤ 1000000 := by omega
    have HSZ := hide (And.intro hsz1 hsz2)
    obtain ⟨R, hR⟩ : ∃ p, bldF (bldG m f) (d + 1) l KK = p := ⟨_, rfl⟩
    rw [hR]
    have HR := hide hR
    have HE1 := hide hE1
    have HE2 := hide hE2
    have HIH := hide ih
    have H := hide h
    have HF := hide hf
    have HV := hide hv
    have HAP := hide hap
    have HK := hide hk
    subst hov hrv hlv hvv hkv
    have HL : Hid (l.length + 1 + d = m.opts.length) := by show _ = _; omega
    have e1 : ((l.length : Int) == (m.opts.length : Int)) = false := by simp; omega
    have hl12 : l.length ≤ 12 := by omega
    clear ih h hf hv hap hk hR hE1 hE2 hl hm10 e3 hn1 hn2 hsz hsz1 hsz2
    go_enter Try.func80, Try.ntmps80
    go_upto_region 6 with (fail)
    generalize hw0 : World.alloc _ _ = w0
    obtain ⟨hb0, hB0, hs0⟩ := alloc1 hw0
    clear hw0
    have HB0 := hide hB0
    have BA0 : Hid (BAt w0 w.heap.size B m f l (.slice A m.opts.length cap) (.slice Ar m.rules.length capr) (.slice Al f.length capl) (.slice Av l.length capv)) := ⟨hb0, H.out.below (hB0.mono hB), HF.out.below (hB0.mono hB), Sl.up HV.out hB0⟩
    have HK0 : Hid (KStk B w0 (.slice Ak KK.length capk) KK) := owns_below HK.out hB0
    have hB0s : B ≤ w0.heap.size := Nat.le_trans hB hB0.size
    have HS0 : Hid (w0.heap.size = w.heap.size + 1) := hs0
    obtain ⟨hsz1, hsz2⟩ := HSZ.out
    clear hb0 hB0 hs0
    have hnk : ¬ ((Value.slice Ak KK.length capk).ownBlock = some w.heap.size) := fun e => absurd (HK.out.lt _ e).2 (by omega)
    have hap0 : Hid (∀ j, 0 < l.length → (Value.slice Av l.length capv).ownBlock = some j → (Value.slice Ak KK.length capk).ownBlock ≠ some j) := HAP.out
    have HVB : Hid (∀ W, Below w0.heap.size w0 W → Bols W W.heap.size (.slice Av l.length capv) l) := fun W hW => Sl.up BA0.out.v hW
    have HRC : Hid (∀ v W, W.ownsRow w0.heap.size 4 1 v (l.length + 1) (l.map Value.bool ++ [.bool false]) → Below w0.heap.size w0 W → Calls Try.prog 80 #[.agg #[.slice A m.opts.length cap, .slice Ar m.rules.length capr], .slice Al f.length capl, v, (Value.slice Ak KK.length capk)] W (BldP (Value.slice Ak KK.length capk) B K1 lo W)) := fun v W hown hW => by
      have h1 : W.ownsRow w0.heap.size 4 1 v (l ++ [false]).length ((l ++ [false]).map Value.bool) := by
        rw [List.length_append, List.map_append]
        exact hown
      have h2 := HIH.out (l ++ [false]) KK (.slice A m.opts.length cap) (.slice Ar m.rules.length capr) (.slice Al f.length capl) v (Value.slice Ak KK.length capk) W (by rw [List.length_append]; exact HL.out) (BA0.out.m.below (hW.mono hB0s)) (BA0.out.f.below (hW.mono hB0s)) (bols_of_own h1) (fun j _ hj hc => by
        have h3 := (hown.lt j hj).1
        have h4 := (HK0.out.lt j hc).2
        omega) (owns_below HK0.out hW) hsz1 (Nat.le_trans hB0s hW.size)
      rw [HE1.out] at h2
      exact h2
    have c0 := cellOf BA0.out.x 0
    have c1 := cellOf BA0.out.x 1
    have hbx : w.heap.size < w0.heap.size := box_lt BA0.out.x
    go_cut [3, 11] from 33 to 43 (fun kk ll wc => ll = .int .i64 lo ∧ Hid (KStk B wc kk K1 ∧ Keeps (fun j => (Value.slice Ak KK.length capk).ownBlock = some j) w0 wc ∧ ∀ j, kk.ownBlock = some j → (Value.slice Ak KK.length capk).ownBlock = some j ∨ w0.heap.size ≤ j))
    case first =>
      refine wp_region_held_drew (S := (fun w' => Keeps (fun j => (Value.slice Ak KK.length capk).ownBlock = some j) w0 w')) (by kernel_rfl) ?_ (fun hHeld => ?_)
      · try dsimp only
        (repeat (first | (with_reducible exact Keeps.refl _ _) | exact hKeep.out | exact hKeepS.out _ | assumption | (with_reducible refine Keeps.drew ?_) | (with_reducible refine Keeps.drewN ?_ _) | (with_reducible refine Keeps.alloc ?_ _) | (with_reducible refine Keeps.setCell ?_ (.inl (by first | exact .inl rfl | exact .inr rfl)) _)))
      refine wpAnyH_take (i := 0) (v := ?v37_1) rfl (by kernel_rfl) (by kernel_rfl) (by kernel_rfl) (fun _ _ _ h => h) (Or.inl ⟨by rfl, ?y37_1⟩) (by assumption) ?r37_1
      case' y37_1 => (intro w hSw; (try dsimp only at hSw); (try have hlS := HLK.out _ hSw); have hcS := kcell hSw; clear hSw; go_simp; try with_reducible rfl)
      try simp only [Act.put, List.getElem_toArray, List.getElem_cons_succ, List.getElem_cons_zero, List.setIfInBounds_toArray, List.set_cons_zero, List.set_cons_succ]
      refine wpAnyH_take (i := 1) (v := ?v37_2) rfl (by kernel_rfl) (by kernel_rfl) (by kernel_rfl) (fun _ _ _ h => h) (Or.inl ⟨by rfl, ?y37_2⟩) (by assumption) ?r37_2
      case' y37_2 => (intro w hSw; (try dsimp only at hSw); (try have hlS := HLK.out _ hSw); have hcS := kcell hSw; clear hSw; go_simp; try with_reducible rfl)
      try simp only [Act.put, List.getElem_toArray, List.getElem_cons_succ, List.getElem_cons_zero, List.setIfInBounds_toArray, List.set_cons_zero, List.set_cons_succ]
      refine wpAnyH_take (i := 2) (v := ?v37_3) rfl (by kernel_rfl) (by kernel_rfl) (by kernel_rfl) (fun _ _ _ h => h) (Or.inl ⟨by rfl, ?y37_3⟩) (by assumption) ?r37_3
      case' y37_3 => (intro w hSw; (try dsimp only at hSw); (try have hlS := HLK.out _ hSw); have hcS := kcell hSw; clear hSw; go_simp; try with_reducible rfl)
      try simp only [Act.put, List.getElem_toArray, List.getElem_cons_succ, List.getElem_cons_zero, List.setIfInBounds_toArray, List.set_cons_zero, List.set_cons_succ]
      refine wpAnyH_take (i := 6) (v := ?v37_4) rfl (by kernel_rfl) (by kernel_rfl) (by kernel_rfl) (fun _ _ _ h => h) (Or.inl ⟨by rfl, ?y37_4⟩) (by assumption) ?r37_4
      case' y37_4 => (intro w hSw; (try dsimp only at hSw); (try have hlS := HLK.out _ hSw); have hcS := kcell hSw; clear hSw; go_simp; try with_reducible rfl)
      try simp only [Act.put, List.getElem_toArray, List.getElem_cons_succ, List.getElem_cons_zero, List.setIfInBounds_toArray, List.set_cons_zero, List.set_cons_succ]
      refine wpAnyH_ready (rs := [3, 4]) (by kernel_rfl) (by simp) ?_
      refine (AllReadyH.cons rfl (fun K hK => ?o37_5_3) (AllReadyH.cons rfl (fun K hK => ?o37_5_4) AllReadyH.nil))
      case' o37_5_3 =>
        (first | (refine step_append_any _ (by rfl) _ (.tmp 36) _ (by rfl) w0.heap.size 4 i1 _ 1 1 Try.underlying29 hi1 jz0 jz1 jz2 (by rfl) (by omega) (.slice none 0 0) 0 [] (by rfl) (World.ownsRow_nil _ _ _ _) _ Av l.length capv (l.map Value.bool) (by rfl) ((HVB.out _ (by repeat (first | exact Below.refl _ _ | assumption | refine Below.drew ?_ | refine Below.drewN ?_ _ | refine Below.allocT ?_ (Nat.le_refl _) _ | refine Below.setCell ?_ (by simp <;> omega) _ | refine Below.to ?_ (by assumption) (Nat.le_refl _)))).flat) (by intro u hu; rw [List.mem_map] at hu; obtain ⟨_, _, rfl⟩ := hu; rfl) (by unfold maxLen; omega) (by omega) (by simp) ?_; intro v1 w1 hown1 hg1 _; rw [Nat.zero_add, List.nil_append] at hown1; obtain ⟨A1, cap1, hv1⟩ := owns_form hown1; subst hv1; have HB1 : Hid (Below w0.heap.size w0 w1) := Below.grown (by repeat (first | exact Below.refl _ _ | assumption | refine Below.drew ?_ | refine Below.drewN ?_ _ | refine Below.allocT ?_ (Nat.le_refl _) _ | refine Below.setCell ?_ (by simp <;> omega) _ | refine Below.to ?_ (by assumption) (Nat.le_refl _))) hg1 (by simp) (fun j hj => absurd (show (none : Option Nat) = some j from hj) (by simp)); (try have HN1 := hide ((hg1.block w0.heap.size (by simp) (fun e => absurd (show some _ = (none : Option Nat) from e) (by simp))).trans (heap_alloc_new w0.drew _))); have HOWN1 := hide hown1; have hKeep : Hid (Keeps (fun j => (Value.slice Ak KK.length capk).ownBlock = some j) w0 w1) := Keeps.of_below HB1.out; clear hown1 hg1) | (refine step_append_any _ (by rfl) (.tmp 37) (.tmp 38) _ (by rfl) w0.heap.size 4 i1 _ 1 1 Try.underlying29 hi1 jz0 jz1 jz2 (by rfl) (by omega) (.slice A1 l.length cap1) l.length (l.map Value.bool) (by rfl) (World.ownsRow.alloc (w := w1) HOWN1.out _) (w1.heap.size + 1) (some ⟨w1.heap.size, 0, none⟩) 1 1 [.bool false] (by rfl) ⟨rfl, fun _ => ⟨_, rfl, by simp, World.news_of_block (heap_alloc_new w1 _)⟩⟩ (by simp [Value.oneCell']) (by unfold maxLen; omega) (by omega) (by have := HB1.out.size; simp; omega) ?_; intro v2 w2 hown2 hg2 _; have HB2 : Hid (Below w0.heap.size w0 w2) := Below.grown (Below.allocT HB1.out (Nat.le_refl _) _) hg2 (by have := HB1.out.size; simp; omega) (fun j hj => (HOWN1.out.lt j hj).1); have HOWN2 := hide hown2; have hKeep : Hid (Keeps (fun j => (Value.slice Ak KK.length capk).ownBlock = some j) w0 w2) := Keeps.of_below HB2.out; clear hown2 hg2) | (refine step_append_any _ (by rfl) (.tmp 37) (.tmp 38) _ (by rfl) w0.heap.size 4 i1 _ 1 1 Try.underlying29 hi1 jz0 jz1 jz2 (by rfl) (by omega) (.slice A1 l.length cap1) l.length (l.map Value.bool) (by rfl) HOWN1.out w1.heap.size (some ⟨w0.heap.size, 0, none⟩) 1 1 [.bool false] (by rfl) ⟨rfl, fun _ => ⟨_, rfl, box_lt HN1.out, World.news_of_block HN1.out⟩⟩ (by simp [Value.oneCell']) (by unfold maxLen; omega) (by omega) HB1.out.size ?_; intro v2 w2 hown2 hg2 _; have HB2 : Hid (Below w0.heap.size w0 w2) := Below.grown HB1.out hg2 HB1.out.size (fun j hj => (HOWN1.out.lt j hj).1); have HOWN2 := hide hown2; have hKeep : Hid (Keeps (fun j => (Value.slice Ak KK.length capk).ownBlock = some j) w0 w2) := Keeps.of_below HB2.out; clear hown2 hg2))
        (try dsimp only)
        refine hK.out _ _ ?_ (fun hNext => ?_)
        · try dsimp only
          (repeat (first | (with_reducible exact Keeps.refl _ _) | exact hKeep.out | exact hKeepS.out _ | assumption | (with_reducible refine Keeps.drew ?_) | (with_reducible refine Keeps.drewN ?_ _) | (with_reducible refine Keeps.alloc ?_ _) | (with_reducible refine Keeps.setCell ?_ (.inl (by first | exact .inl rfl | exact .inr rfl)) _)))
        clear hK K hHeld
        have hHeld := hNext
        clear hNext
        (try dsimp only at hHeld)
        try simp only [Act.put, List.getElem_toArray, List.getElem_cons_succ, List.getElem_cons_zero, List.setIfInBounds_toArray, List.set_cons_zero, List.set_cons_succ]
        refine wpAnyH_ready (rs := [4]) (by kernel_rfl) (by simp) ?_
        refine (AllReadyH.cons rfl (fun K hK => ?_) AllReadyH.nil)
        go_simp
        refine hK.out _ _ ?_ (fun hNext => ?_)
        · try dsimp only
          (repeat (first | (with_reducible exact Keeps.refl _ _) | exact hKeep.out | exact hKeepS.out _ | assumption | (with_reducible refine Keeps.drew ?_) | (with_reducible refine Keeps.drewN ?_ _) | (with_reducible refine Keeps.alloc ?_ _) | (with_reducible refine Keeps.setCell ?_ (.inl (by first | exact .inl rfl | exact .inr rfl)) _)))
        clear hK K hHeld
        have hHeld := hNext
        clear hNext
        (try dsimp only at hHeld)
        try simp only [Act.put, List.getElem_toArray, List.getElem_cons_succ, List.getElem_cons_zero, List.setIfInBounds_toArray, List.set_cons_zero, List.set_cons_succ]
        refine wpAnyH_ready (rs := [5]) (by kernel_rfl) (by simp) ?_
        refine (AllReadyH.cons rfl (fun K hK => ?_) AllReadyH.nil)
        (first | (refine step_append_any _ (by rfl) _ (.tmp 36) _ (by rfl) w0.heap.size 4 i1 _ 1 1 Try.underlying29 hi1 jz0 jz1 jz2 (by rfl) (by omega) (.slice none 0 0) 0 [] (by rfl) (World.ownsRow_nil _ _ _ _) _ Av l.length capv (l.map Value.bool) (by rfl) ((HVB.out _ (by repeat (first | exact Below.refl _ _ | assumption | refine Below.drew ?_ | refine Below.drewN ?_ _ | refine Below.allocT ?_ (Nat.le_refl _) _ | refine Below.setCell ?_ (by simp <;> omega) _ | refine Below.to ?_ (by assumption) (Nat.le_refl _)))).flat) (by intro u hu; rw [List.mem_map] at hu; obtain ⟨_, _, rfl⟩ := hu; rfl) (by unfold maxLen; omega) (by omega) (by simp) ?_; intro v1 w1 hown1 hg1 _; rw [Nat.zero_add, List.nil_append] at hown1; obtain ⟨A1, cap1, hv1⟩ := owns_form hown1; subst hv1; have HB1 : Hid (Below w0.heap.size w0 w1) := Below.grown (by repeat (first | exact Below.refl _ _ | assumption | refine Below.drew ?_ | refine Below.drewN ?_ _ | refine Below.allocT ?_ (Nat.le_refl _) _ | refine Below.setCell ?_ (by simp <;> omega) _ | refine Below.to ?_ (by assumption) (Nat.le_refl _))) hg1 (by simp) (fun j hj => absurd (show (none : Option Nat) = some j from hj) (by simp)); (try have HN1 := hide ((hg1.block w0.heap.size (by simp) (fun e => absurd (show some _ = (none : Option Nat) from e) (by simp))).trans (heap_alloc_new w0.drew _))); have HOWN1 := hide hown1; have hKeep : Hid (Keeps (fun j => (Value.slice Ak KK.length capk).ownBlock = some j) w0 w1) := Keeps.of_below HB1.out; clear hown1 hg1) | (refine step_append_any _ (by rfl) (.tmp 37) (.tmp 38) _ (by rfl) w0.heap.size 4 i1 _ 1 1 Try.underlying29 hi1 jz0 jz1 jz2 (by rfl) (by omega) (.slice A1 l.length cap1) l.length (l.map Value.bool) (by rfl) (World.ownsRow.alloc (w := w1) HOWN1.out _) (w1.heap.size + 1) (some ⟨w1.heap.size, 0, none⟩) 1 1 [.bool false] (by rfl) ⟨rfl, fun _ => ⟨_, rfl, by simp, World.news_of_block (heap_alloc_new w1 _)⟩⟩ (by simp [Value.oneCell']) (by unfold maxLen; omega) (by omega) (by have := HB1.out.size; simp; omega) ?_; intro v2 w2 hown2 hg2 _; have HB2 : Hid (Below w0.heap.size w0 w2) := Below.grown (Below.allocT HB1.out (Nat.le_refl _) _) hg2 (by have := HB1.out.size; simp; omega) (fun j hj => (HOWN1.out.lt j hj).1); have HOWN2 := hide hown2; have hKeep : Hid (Keeps (fun j => (Value.slice Ak KK.length capk).ownBlock = some j) w0 w2) := Keeps.of_below HB2.out; clear hown2 hg2) | (refine step_append_any _ (by rfl) (.tmp 37) (.tmp 38) _ (by rfl) w0.heap.size 4 i1 _ 1 1 Try.underlying29 hi1 jz0 jz1 jz2 (by rfl) (by omega) (.slice A1 l.length cap1) l.length (l.map Value.bool) (by rfl) HOWN1.out w1.heap.size (some ⟨w0.heap.size, 0, none⟩) 1 1 [.bool false] (by rfl) ⟨rfl, fun _ => ⟨_, rfl, box_lt HN1.out, World.news_of_block HN1.out⟩⟩ (by simp [Value.oneCell']) (by unfold maxLen; omega) (by omega) HB1.out.size ?_; intro v2 w2 hown2 hg2 _; have HB2 : Hid (Below w0.heap.size w0 w2) := Below.grown HB1.out hg2 HB1.out.size (fun j hj => (HOWN1.out.lt j hj).1); have HOWN2 := hide hown2; have hKeep : Hid (Keeps (fun j => (Value.slice Ak KK.length capk).ownBlock = some j) w0 w2) := Keeps.of_below HB2.out; clear hown2 hg2))
        (try dsimp only)
        refine hK.out _ _ ?_ (fun hNext => ?_)
        · try dsimp only
          (repeat (first | (with_reducible exact Keeps.refl _ _) | exact hKeep.out | exact hKeepS.out _ | assumption | (with_reducible refine Keeps.drew ?_) | (with_reducible refine Keeps.drewN ?_ _) | (with_reducible refine Keeps.alloc ?_ _) | (with_reducible refine Keeps.setCell ?_ (.inl (by first | exact .inl rfl | exact .inr rfl)) _)))
        clear hK K hHeld
        have hHeld := hNext
        clear hNext
        (try dsimp only at hHeld)
        try simp only [Act.put, List.getElem_toArray, List.getElem_cons_succ, List.getElem_cons_zero, List.setIfInBounds_toArray, List.set_cons_zero, List.set_cons_succ]
        refine wpAnyH_ready (rs := [7]) (by kernel_rfl) (by simp) ?_
        refine (AllReadyH.cons rfl (fun K hK => ?_) AllReadyH.nil)
        go_simp
        ((go_at_call 80; refine (HRC.out _ _ HOWN2.out HB2.out).mono ?_; rintro e w3 ⟨kv3, rfl, hk3, hp3, ho3⟩; have hKeep : Hid (Keeps (fun j => (Value.slice Ak KK.length capk).ownBlock = some j) w0 w3) := (Keeps.of_below HB2.out).trans hp3 (fun _ _ h => h); have HK3 := hide hk3; have HO3 : Hid (∀ j, kv3.ownBlock = some j → (Value.slice Ak KK.length capk).ownBlock = some j ∨ w0.heap.size ≤ j) := fun j hj => (ho3 j hj).imp (fun h => h) (fun h => Nat.le_trans HB2.out.size h); clear hk3 hp3 ho3))
        (try dsimp only)
        refine hK.out _ _ ?_ (fun hNext => ?_)
        · try dsimp only
          (repeat (first | (with_reducible exact Keeps.refl _ _) | exact hKeep.out | exact hKeepS.out _ | assumption | (with_reducible refine Keeps.drew ?_) | (with_reducible refine Keeps.drewN ?_ _) | (with_reducible refine Keeps.alloc ?_ _) | (with_reducible refine Keeps.setCell ?_ (.inl (by first | exact .inl rfl | exact .inr rfl)) _)))
        clear hK K hHeld
        have hHeld := hNext
        clear hNext
        (try dsimp only at hHeld)
        try simp only [Act.put, List.getElem_toArray, List.getElem_cons_succ, List.getElem_cons_zero, List.setIfInBounds_toArray, List.set_cons_zero, List.set_cons_succ]
        refine wpAnyH_take (i := 8) (v := ?v37_9) rfl (by kernel_rfl) (by kernel_rfl) (by kernel_rfl) (fun _ _ _ h => h) (Or.inl ⟨by rfl, ?y37_9⟩) (by assumption) ?r37_9
        case' y37_9 => (intro w hSw; (try dsimp only at hSw); (try have hlS := HLK.out _ hSw); have hcS := kcell hSw; clear hSw; go_simp; try with_reducible rfl)
        try simp only [Act.put, List.getElem_toArray, List.getElem_cons_succ, List.getElem_cons_zero, List.setIfInBounds_toArray, List.set_cons_zero, List.set_cons_succ]
        refine wpAnyH_take (i := 9) (v := ?v37_10) rfl (by kernel_rfl) (by kernel_rfl) (by kernel_rfl) (fun _ _ _ h => h) (Or.inl ⟨by rfl, ?y37_10⟩) (by assumption) ?r37_10
        case' y37_10 => (intro w hSw; (try dsimp only at hSw); (try have hlS := HLK.out _ hSw); have hcS := kcell hSw; clear hSw; go_simp; try with_reducible rfl)
        try simp only [Act.put, List.getElem_toArray, List.getElem_cons_succ, List.getElem_cons_zero, List.setIfInBounds_toArray, List.set_cons_zero, List.set_cons_succ]
        refine wpAnyH_take (i := 10) (v := ?v37_11) rfl (by kernel_rfl) (by kernel_rfl) (by kernel_rfl) (fun _ _ _ h => h) (Or.inl ⟨by rfl, ?y37_11⟩) (by assumption) ?r37_11
        case' y37_11 => (intro w hSw; (try dsimp only at hSw); (try have hlS := HLK.out _ hSw); have hcS := kcell hSw; clear hSw; go_simp; try with_reducible rfl)
        try simp only [Act.put, List.getElem_toArray, List.getElem_cons_succ, List.getElem_cons_zero, List.setIfInBounds_toArray, List.set_cons_zero, List.set_cons_succ]
        refine wpAnyH_take (i := 11) (v := ?v37_12) rfl (by kernel_rfl) (by kernel_rfl) (by kernel_rfl) (fun _ _ _ h => h) (Or.inl ⟨by rfl, ?y37_12⟩) (by assumption) ?r37_12
        case' y37_12 => (intro w hSw; (try dsimp only at hSw); (try have hlS := HLK.out _ hSw); have hcS := kcell hSw; clear hSw; go_simp; try with_reducible rfl)
        try simp only [Act.put, List.getElem_toArray, List.getElem_cons_succ, List.getElem_cons_zero, List.setIfInBounds_toArray, List.set_cons_zero, List.set_cons_succ]
        refine wpAnyH_take (i := 12) (v := ?v37_13) rfl (by kernel_rfl) (by kernel_rfl) (by kernel_rfl) (fun _ _ _ h => h) (Or.inl ⟨by rfl, ?y37_13⟩) (by assumption) ?r37_13
        case' y37_13 => (intro w hSw; (try dsimp only at hSw); (try have hlS := HLK.out _ hSw); have hcS := kcell hSw; clear hSw; go_simp; try with_reducible rfl)
        try simp only [Act.put, List.getElem_toArray, List.getElem_cons_succ, List.getElem_cons_zero, List.setIfInBounds_toArray, List.set_cons_zero, List.set_cons_succ]
        refine wpAnyH_done (by kernel_rfl) ?_ _
      case' o37_5_4 =>
        go_simp
        refine hK.out _ _ ?_ (fun hNext => ?_)
        · try dsimp only
          (repeat (first | (with_reducible exact Keeps.refl _ _) | exact hKeep.out | exact hKeepS.out _ | assumption | (with_reducible refine Keeps.drew ?_) | (with_reducible refine Keeps.drewN ?_ _) | (with_reducible refine Keeps.alloc ?_ _) | (with_reducible refine Keeps.setCell ?_ (.inl (by first | exact .inl rfl | exact .inr rfl)) _)))
        clear hK K hHeld
        have hHeld := hNext
        clear hNext
        (try dsimp only at hHeld)
        try simp only [Act.put, List.getElem_toArray, List.getElem_cons_succ, List.getElem_cons_zero, List.setIfInBounds_toArray, List.set_cons_zero, List.set_cons_succ]
        refine wpAnyH_ready (rs := [3]) (by kernel_rfl) (by simp) ?_
        refine (AllReadyH.cons rfl (fun K hK => ?_) AllReadyH.nil)
        (first | (refine step_append_any _ (by rfl) _ (.tmp 36) _ (by rfl) w0.heap.size 4 i1 _ 1 1 Try.underlying29 hi1 jz0 jz1 jz2 (by rfl) (by omega) (.slice none 0 0) 0 [] (by rfl) (World.ownsRow_nil _ _ _ _) _ Av l.length capv (l.map Value.bool) (by rfl) ((HVB.out _ (by repeat (first | exact Below.refl _ _ | assumption | refine Below.drew ?_ | refine Below.drewN ?_ _ | refine Below.allocT ?_ (Nat.le_refl _) _ | refine Below.setCell ?_ (by simp <;> omega) _ | refine Below.to ?_ (by assumption) (Nat.le_refl _)))).flat) (by intro u hu; rw [List.mem_map] at hu; obtain ⟨_, _, rfl⟩ := hu; rfl) (by unfold maxLen; omega) (by omega) (by simp) ?_; intro v1 w1 hown1 hg1 _; rw [Nat.zero_add, List.nil_append] at hown1; obtain ⟨A1, cap1, hv1⟩ := owns_form hown1; subst hv1; have HB1 : Hid (Below w0.heap.size w0 w1) := Below.grown (by repeat (first | exact Below.refl _ _ | assumption | refine Below.drew ?_ | refine Below.drewN ?_ _ | refine Below.allocT ?_ (Nat.le_refl _) _ | refine Below.setCell ?_ (by simp <;> omega) _ | refine Below.to ?_ (by assumption) (Nat.le_refl _))) hg1 (by simp) (fun j hj => absurd (show (none : Option Nat) = some j from hj) (by simp)); (try have HN1 := hide ((hg1.block w0.heap.size (by simp) (fun e => absurd (show some _ = (none : Option Nat) from e) (by simp))).trans (heap_alloc_new w0.drew _))); have HOWN1 := hide hown1; have hKeep : Hid (Keeps (fun j => (Value.slice Ak KK.length capk).ownBlock = some j) w0 w1) := Keeps.of_below HB1.out; clear hown1 hg1) | (refine step_append_any _ (by rfl) (.tmp 37) (.tmp 38) _ (by rfl) w0.heap.size 4 i1 _ 1 1 Try.underlying29 hi1 jz0 jz1 jz2 (by rfl) (by omega) (.slice A1 l.length cap1) l.length (l.map Value.bool) (by rfl) (World.ownsRow.alloc (w := w1) HOWN1.out _) (w1.heap.size + 1) (some ⟨w1.heap.size, 0, none⟩) 1 1 [.bool false] (by rfl) ⟨rfl, fun _ => ⟨_, rfl, by simp, World.news_of_block (heap_alloc_new w1 _)⟩⟩ (by simp [Value.oneCell']) (by unfold maxLen; omega) (by omega) (by have := HB1.out.size; simp; omega) ?_; intro v2 w2 hown2 hg2 _; have HB2 : Hid (Below w0.heap.size w0 w2) := Below.grown (Below.allocT HB1.out (Nat.le_refl _) _) hg2 (by have := HB1.out.size; simp; omega) (fun j hj => (HOWN1.out.lt j hj).1); have HOWN2 := hide hown2; have hKeep : Hid (Keeps (fun j => (Value.slice Ak KK.length capk).ownBlock = some j) w0 w2) := Keeps.of_below HB2.out; clear hown2 hg2) | (refine step_append_any _ (by rfl) (.tmp 37) (.tmp 38) _ (by rfl) w0.heap.size 4 i1 _ 1 1 Try.underlying29 hi1 jz0 jz1 jz2 (by rfl) (by omega) (.slice A1 l.length cap1) l.length (l.map Value.bool) (by rfl) HOWN1.out w1.heap.size (some ⟨w0.heap.size, 0, none⟩) 1 1 [.bool false] (by rfl) ⟨rfl, fun _ => ⟨_, rfl, box_lt HN1.out, World.news_of_block HN1.out⟩⟩ (by simp [Value.oneCell']) (by unfold maxLen; omega) (by omega) HB1.out.size ?_; intro v2 w2 hown2 hg2 _; have HB2 : Hid (Below w0.heap.size w0 w2) := Below.grown HB1.out hg2 HB1.out.size (fun j hj => (HOWN1.out.lt j hj).1); have HOWN2 := hide hown2; have hKeep : Hid (Keeps (fun j => (Value.slice Ak KK.length capk).ownBlock = some j) w0 w2) := Keeps.of_below HB2.out; clear hown2 hg2))
        (try dsimp only)
        refine hK.out _ _ ?_ (fun hNext => ?_)
        · try dsimp only
          (repeat (first | (with_reducible exact Keeps.refl _ _) | exact hKeep.out | exact hKeepS.out _ | assumption | (with_reducible refine Keeps.drew ?_) | (with_reducible refine Keeps.drewN ?_ _) | (with_reducible refine Keeps.alloc ?_ _) | (with_reducible refine Keeps.setCell ?_ (.inl (by first | exact .inl rfl | exact .inr rfl)) _)))
        clear hK K hHeld
        have hHeld := hNext
        clear hNext
        (try dsimp only at hHeld)
        try simp only [Act.put, List.getElem_toArray, List.getElem_cons_succ, List.getElem_cons_zero, List.setIfInBounds_toArray, List.set_cons_zero, List.set_cons_succ]
        refine wpAnyH_ready (rs := [5]) (by kernel_rfl) (by simp) ?_
        refine (AllReadyH.cons rfl (fun K hK => ?_) AllReadyH.nil)
        (first | (refine step_append_any _ (by rfl) _ (.tmp 36) _ (by rfl) w0.heap.size 4 i1 _ 1 1 Try.underlying29 hi1 jz0 jz1 jz2 (by rfl) (by omega) (.slice none 0 0) 0 [] (by rfl) (World.ownsRow_nil _ _ _ _) _ Av l.length capv (l.map Value.bool) (by rfl) ((HVB.out _ (by repeat (first | exact Below.refl _ _ | assumption | refine Below.drew ?_ | refine Below.drewN ?_ _ | refine Below.allocT ?_ (Nat.le_refl _) _ | refine Below.setCell ?_ (by simp <;> omega) _ | refine Below.to ?_ (by assumption) (Nat.le_refl _)))).flat) (by intro u hu; rw [List.mem_map] at hu; obtain ⟨_, _, rfl⟩ := hu; rfl) (by unfold maxLen; omega) (by omega) (by simp) ?_; intro v1 w1 hown1 hg1 _; rw [Nat.zero_add, List.nil_append] at hown1; obtain ⟨A1, cap1, hv1⟩ := owns_form hown1; subst hv1; have HB1 : Hid (Below w0.heap.size w0 w1) := Below.grown (by repeat (first | exact Below.refl _ _ | assumption | refine Below.drew ?_ | refine Below.drewN ?_ _ | refine Below.allocT ?_ (Nat.le_refl _) _ | refine Below.setCell ?_ (by simp <;> omega) _ | refine Below.to ?_ (by assumption) (Nat.le_refl _))) hg1 (by simp) (fun j hj => absurd (show (none : Option Nat) = some j from hj) (by simp)); (try have HN1 := hide ((hg1.block w0.heap.size (by simp) (fun e => absurd (show some _ = (none : Option Nat) from e) (by simp))).trans (heap_alloc_new w0.drew _))); have HOWN1 := hide hown1; have hKeep : Hid (Keeps (fun j => (Value.slice Ak KK.length capk).ownBlock = some j) w0 w1) := Keeps.of_below HB1.out; clear hown1 hg1) | (refine step_append_any _ (by rfl) (.tmp 37) (.tmp 38) _ (by rfl) w0.heap.size 4 i1 _ 1 1 Try.underlying29 hi1 jz0 jz1 jz2 (by rfl) (by omega) (.slice A1 l.length cap1) l.length (l.map Value.bool) (by rfl) (World.ownsRow.alloc (w := w1) HOWN1.out _) (w1.heap.size + 1) (some ⟨w1.heap.size, 0, none⟩) 1 1 [.bool false] (by rfl) ⟨rfl, fun _ => ⟨_, rfl, by simp, World.news_of_block (heap_alloc_new w1 _)⟩⟩ (by simp [Value.oneCell']) (by unfold maxLen; omega) (by omega) (by have := HB1.out.size; simp; omega) ?_; intro v2 w2 hown2 hg2 _; have HB2 : Hid (Below w0.heap.size w0 w2) := Below.grown (Below.allocT HB1.out (Nat.le_refl _) _) hg2 (by have := HB1.out.size; simp; omega) (fun j hj => (HOWN1.out.lt j hj).1); have HOWN2 := hide hown2; have hKeep : Hid (Keeps (fun j => (Value.slice Ak KK.length capk).ownBlock = some j) w0 w2) := Keeps.of_below HB2.out; clear hown2 hg2) | (refine step_append_any _ (by rfl) (.tmp 37) (.tmp 38) _ (by rfl) w0.heap.size 4 i1 _ 1 1 Try.underlying29 hi1 jz0 jz1 jz2 (by rfl) (by omega) (.slice A1 l.length cap1) l.length (l.map Value.bool) (by rfl) HOWN1.out w1.heap.size (some ⟨w0.heap.size, 0, none⟩) 1 1 [.bool false] (by rfl) ⟨rfl, fun _ => ⟨_, rfl, box_lt HN1.out, World.news_of_block HN1.out⟩⟩ (by simp [Value.oneCell']) (by unfold maxLen; omega) (by omega) HB1.out.size ?_; intro v2 w2 hown2 hg2 _; have HB2 : Hid (Below w0.heap.size w0 w2) := Below.grown HB1.out hg2 HB1.out.size (fun j hj => (HOWN1.out.lt j hj).1); have HOWN2 := hide hown2; have hKeep : Hid (Keeps (fun j => (Value.slice Ak KK.length capk).ownBlock = some j) w0 w2) := Keeps.of_below HB2.out; clear hown2 hg2))
        (try dsimp only)
        refine hK.out _ _ ?_ (fun hNext => ?_)
        · try dsimp only
          (repeat (first | (with_reducible exact Keeps.refl _ _) | exact hKeep.out | exact hKeepS.out _ | assumption | (with_reducible refine Keeps.drew ?_) | (with_reducible refine Keeps.drewN ?_ _) | (with_reducible refine Keeps.alloc ?_ _) | (with_reducible refine Keeps.setCell ?_ (.inl (by first | exact .inl rfl | exact .inr rfl)) _)))
        clear hK K hHeld
        have hHeld := hNext
        clear hNext
        (try dsimp only at hHeld)
        try simp only [Act.put, List.getElem_toArray, List.getElem_cons_succ, List.getElem_cons_zero, List.setIfInBounds_toArray, List.set_cons_zero, List.set_cons_succ]
        refine wpAnyH_ready (rs := [7]) (by kernel_rfl) (by simp) ?_
        refine (AllReadyH.cons rfl (fun K hK => ?_) AllReadyH.nil)
        go_simp
        ((go_at_call 80; refine (HRC.out _ _ HOWN2.out HB2.out).mono ?_; rintro e w3 ⟨kv3, rfl, hk3, hp3, ho3⟩; have hKeep : Hid (Keeps (fun j => (Value.slice Ak KK.length capk).ownBlock = some j) w0 w3) := (Keeps.of_below HB2.out).trans hp3 (fun _ _ h => h); have HK3 := hide hk3; have HO3 : Hid (∀ j, kv3.ownBlock = some j → (Value.slice Ak KK.length capk).ownBlock = some j ∨ w0.heap.size ≤ j) := fun j hj => (ho3 j hj).imp (fun h => h) (fun h => Nat.le_trans HB2.out.size h); clear hk3 hp3 ho3))
        (try dsimp only)
        refine hK.out _ _ ?_ (fun hNext => ?_)
        · try dsimp only
          (repeat (first | (with_reducible exact Keeps.refl _ _) | exact hKeep.out | exact hKeepS.out _ | assumption | (with_reducible refine Keeps.drew ?_) | (with_reducible refine Keeps.drewN ?_ _) | (with_reducible refine Keeps.alloc ?_ _) | (with_reducible refine Keeps.setCell ?_ (.inl (by first | exact .inl rfl | exact .inr rfl)) _)))
        clear hK K hHeld
        have hHeld := hNext
        clear hNext
        (try dsimp only at hHeld)
        try simp only [Act.put, List.getElem_toArray, List.getElem_cons_succ, List.getElem_cons_zero, List.setIfInBounds_toArray, List.set_cons_zero, List.set_cons_succ]
        refine wpAnyH_take (i := 8) (v := ?v37_17) rfl (by kernel_rfl) (by kernel_rfl) (by kernel_rfl) (fun _ _ _ h => h) (Or.inl ⟨by rfl, ?y37_17⟩) (by assumption) ?r37_17
        case' y37_17 => (intro w hSw; (try dsimp only at hSw); (try have hlS := HLK.out _ hSw); have hcS := kcell hSw; clear hSw; go_simp; try with_reducible rfl)
        try simp only [Act.put, List.getElem_toArray, List.getElem_cons_succ, List.getElem_cons_zero, List.setIfInBounds_toArray, List.set_cons_zero, List.set_cons_succ]
        refine wpAnyH_take (i := 9) (v := ?v37_18) rfl (by kernel_rfl) (by kernel_rfl) (by kernel_rfl) (fun _ _ _ h => h) (Or.inl ⟨by rfl, ?y37_18⟩) (by assumption) ?r37_18
        case' y37_18 => (intro w hSw; (try dsimp only at hSw); (try have hlS := HLK.out _ hSw); have hcS := kcell hSw; clear hSw; go_simp; try with_reducible rfl)
        try simp only [Act.put, List.getElem_toArray, List.getElem_cons_succ, List.getElem_cons_zero, List.setIfInBounds_toArray, List.set_cons_zero, List.set_cons_succ]
        refine wpAnyH_take (i := 10) (v := ?v37_19) rfl (by kernel_rfl) (by kernel_rfl) (by kernel_rfl) (fun _ _ _ h => h) (Or.inl ⟨by rfl, ?y37_19⟩) (by assumption) ?r37_19
        case' y37_19 => (intro w hSw; (try dsimp only at hSw); (try have hlS := HLK.out _ hSw); have hcS := kcell hSw; clear hSw; go_simp; try with_reducible rfl)
        try simp only [Act.put, List.getElem_toArray, List.getElem_cons_succ, List.getElem_cons_zero, List.setIfInBounds_toArray, List.set_cons_zero, List.set_cons_succ]
        refine wpAnyH_take (i := 11) (v := ?v37_20) rfl (by kernel_rfl) (by kernel_rfl) (by kernel_rfl) (fun _ _ _ h => h) (Or.inl ⟨by rfl, ?y37_20⟩) (by assumption) ?r37_20
        case' y37_20 => (intro w hSw; (try dsimp only at hSw); (try have hlS := HLK.out _ hSw); have hcS := kcell hSw; clear hSw; go_simp; try with_reducible rfl)
        try simp only [Act.put, List.getElem_toArray, List.getElem_cons_succ, List.getElem_cons_zero, List.setIfInBounds_toArray, List.set_cons_zero, List.set_cons_succ]
        refine wpAnyH_take (i := 12) (v := ?v37_21) rfl (by kernel_rfl) (by kernel_rfl) (by kernel_rfl) (fun _ _ _ h => h) (Or.inl ⟨by rfl, ?y37_21⟩) (by assumption) ?r37_21
        case' y37_21 => (intro w hSw; (try dsimp only at hSw); (try have hlS := HLK.out _ hSw); have hcS := kcell hSw; clear hSw; go_simp; try with_reducible rfl)
        try simp only [Act.put, List.getElem_toArray, List.getElem_cons_succ, List.getElem_cons_zero, List.setIfInBounds_toArray, List.set_cons_zero, List.set_cons_succ]
        refine wpAnyH_done (by kernel_rfl) ?_ _
      all_goals
        go_wp2_with fail
        go_meet
        case rel => exact ⟨rfl, HK3.out, hKeep.out, HO3.out⟩
    case rest =>
      obtain ⟨rfl, hcc⟩ := hcut
      obtain ⟨kva, hkva⟩ : ∃ x, x = u3 := ⟨_, rfl⟩
      subst hkva
      obtain ⟨wa, hwa⟩ : ∃ x, x = wc := ⟨_, rfl⟩
      subst hwa
      have HKa : Hid (KStk B wa kva K1) := hcc.out.1
      have HPa : Hid (Keeps (fun j => (Value.slice Ak KK.length capk).ownBlock = some j) w0 wa) := hcc.out.2.1
      have HOa : Hid (∀ j, kva.ownBlock = some j → (Value.slice Ak KK.length capk).ownBlock = some j ∨ w0.heap.size ≤ j) := hcc.out.2.2
      have BAa : Hid (BAt wa w.heap.size B m f l (.slice A m.opts.length cap) (.slice Ar m.rules.length capr) (.slice Al f.length capl) (.slice Av l.length capv)) := BA0.out.keep HPa.out hB0s (fun k hk => (HK0.out.lt k hk).1) hnk (fun k hl0 hv hc => HAP.out k hl0 hv hc)
      have hBa : B ≤ wa.heap.size := Nat.le_trans hB0s HPa.out.size
      clear c0 c1 hnk hap0 HVB HRC hbx hcc
      go_upto_region 7 with (fail)
      have hnk : ¬ (kva.ownBlock = some w.heap.size) := fun e => by
        rcases HOa.out _ e with h | h
        · exact absurd (HK.out.lt _ h).2 (by omega)
        · have := box_lt BA0.out.x; omega
      have hap0 : Hid (∀ j, 0 < l.length → (Value.slice Av l.length capv).ownBlock = some j → kva.ownBlock ≠ some j) := fun j hl0 hj hc => by
        rcases HOa.out _ hc with h | h
        · exact HAP.out j hl0 hj h
        · obtain ⟨b', _, _, _, hlt', hob⟩ := GRow.block (enc := Value.bool) (z := false) BA0.out.v hl0
          rw [hob] at hj
          injection hj with hj
          omega
      have HVB : Hid (∀ W, Below wa.heap.size wa W → Bols W W.heap.size (.slice Av l.length capv) l) := fun W hW => Sl.up BAa.out.v hW
      have HRC : Hid (∀ v W, W.ownsRow wa.heap.size 4 1 v (l.length + 1) (l.map Value.bool ++ [.bool true]) → Below wa.heap.size wa W → Calls Try.prog 80 #[.agg #[.slice A m.opts.length cap, .slice Ar m.rules.length capr], .slice Al f.length capl, v, kva] W (BldP kva B K2 hi W)) := fun v W hown hW => by
        have h1 : W.ownsRow wa.heap.size 4 1 v (l ++ [true]).length ((l ++ [true]).map Value.bool) := by
          rw [List.length_append, List.map_append]
          exact hown
        have h2 := HIH.out (l ++ [true]) K1 (.slice A m.opts.length cap) (.slice Ar m.rules.length capr) (.slice Al f.length capl) v kva W (by rw [List.length_append]; exact HL.out) (BAa.out.m.below (hW.mono hBa)) (BAa.out.f.below (hW.mono hBa)) (bols_of_own h1) (fun j _ hj hc => by
          have h3 := (hown.lt j hj).1
          have h4 := (HKa.out.lt j hc).2
          omega) (owns_below HKa.out hW) hsz2 (Nat.le_trans hBa hW.size)
        rw [HE2.out] at h2
        exact h2
      have c0 := cellOf BAa.out.x 0
      have c1 := cellOf BAa.out.x 1
      have hbx : w.heap.size < wa.heap.size := box_lt BAa.out.x
      go_cut [3, 12] from 44 to 54 (fun kk ll wc => ll = .int .i64 hi ∧ Hid (KStk B wc kk K2 ∧ Keeps (fun j => kva.ownBlock = some j) wa wc ∧ ∀ j, kk.ownBlock = some j → kva.ownBlock = some j ∨ wa.heap.size ≤ j))
      case first =>
        refine wp_region_held_drew (S := (fun w' => Keeps (fun j => kva.ownBlock = some j) wa w')) (by kernel_rfl) ?_ (fun hHeld => ?_)
        · try dsimp only
          (repeat (first | (with_reducible exact Keeps.refl _ _) | exact hKeep.out | exact hKeepS.out _ | assumption | (with_reducible refine Keeps.drew ?_) | (with_reducible refine Keeps.drewN ?_ _) | (with_reducible refine Keeps.alloc ?_ _) | (with_reducible refine Keeps.setCell ?_ (.inl (by first | exact .inl rfl | exact .inr rfl)) _)))
        refine wpAnyH_take (i := 0) (v := ?v38_1) rfl (by kernel_rfl) (by kernel_rfl) (by kernel_rfl) (fun _ _ _ h => h) (Or.inl ⟨by rfl, ?y38_1⟩) (by assumption) ?r38_1
        case' y38_1 => (intro w hSw; (try dsimp only at hSw); (try have hlS := HLK.out _ hSw); have hcS := kcell hSw; clear hSw; go_simp; try with_reducible rfl)
        try simp only [Act.put, List.getElem_toArray, List.getElem_cons_succ, List.getElem_cons_zero, List.setIfInBounds_toArray, List.set_cons_zero, List.set_cons_succ]
        refine wpAnyH_take (i := 1) (v := ?v38_2) rfl (by kernel_rfl) (by kernel_rfl) (by kernel_rfl) (fun _ _ _ h => h) (Or.inl ⟨by rfl, ?y38_2⟩) (by assumption) ?r38_2
        case' y38_2 => (intro w hSw; (try dsimp only at hSw); (try have hlS := HLK.out _ hSw); have hcS := kcell hSw; clear hSw; go_simp; try with_reducible rfl)
        try simp only [Act.put, List.getElem_toArray, List.getElem_cons_succ, List.getElem_cons_zero, List.setIfInBounds_toArray, List.set_cons_zero, List.set_cons_succ]
        refine wpAnyH_take (i := 2) (v := ?v38_3) rfl (by kernel_rfl) (by kernel_rfl) (by kernel_rfl) (fun _ _ _ h => h) (Or.inl ⟨by rfl, ?y38_3⟩) (by assumption) ?r38_3
        case' y38_3 => (intro w hSw; (try dsimp only at hSw); (try have hlS := HLK.out _ hSw); have hcS := kcell hSw; clear hSw; go_simp; try with_reducible rfl)
        try simp only [Act.put, List.getElem_toArray, List.getElem_cons_succ, List.getElem_cons_zero, List.setIfInBounds_toArray, List.set_cons_zero, List.set_cons_succ]
        refine wpAnyH_take (i := 6) (v := ?v38_4) rfl (by kernel_rfl) (by kernel_rfl) (by kernel_rfl) (fun _ _ _ h => h) (Or.inl ⟨by rfl, ?y38_4⟩) (by assumption) ?r38_4
        case' y38_4 => (intro w hSw; (try dsimp only at hSw); (try have hlS := HLK.out _ hSw); have hcS := kcell hSw; clear hSw; go_simp; try with_reducible rfl)
        try simp only [Act.put, List.getElem_toArray, List.getElem_cons_succ, List.getElem_cons_zero, List.setIfInBounds_toArray, List.set_cons_zero, List.set_cons_succ]
        refine wpAnyH_ready (rs := [3, 4]) (by kernel_rfl) (by simp) ?_
        refine (AllReadyH.cons rfl (fun K hK => ?o38_5_3) (AllReadyH.cons rfl (fun K hK => ?o38_5_4) AllReadyH.nil))
        case' o38_5_3 =>
          (first | (refine step_append_any _ (by rfl) _ (.tmp 47) _ (by rfl) wa.heap.size 4 i1 _ 1 1 Try.underlying29 hi1 jz0 jz1 jz2 (by rfl) (by omega) (.slice none 0 0) 0 [] (by rfl) (World.ownsRow_nil _ _ _ _) _ Av l.length capv (l.map Value.bool) (by rfl) ((HVB.out _ (by repeat (first | exact Below.refl _ _ | assumption | refine Below.drew ?_ | refine Below.drewN ?_ _ | refine Below.allocT ?_ (Nat.le_refl _) _ | refine Below.setCell ?_ (by simp <;> omega) _ | refine Below.to ?_ (by assumption) (Nat.le_refl _)))).flat) (by intro u hu; rw [List.mem_map] at hu; obtain ⟨_, _, rfl⟩ := hu; rfl) (by unfold maxLen; omega) (by omega) (by simp) ?_; intro v1 w1 hown1 hg1 _; rw [Nat.zero_add, List.nil_append] at hown1; obtain ⟨A1, cap1, hv1⟩ := owns_form hown1; subst hv1; have HB1 : Hid (Below wa.heap.size wa w1) := Below.grown (by repeat (first | exact Below.refl _ _ | assumption | refine Below.drew ?_ | refine Below.drewN ?_ _ | refine Below.allocT ?_ (Nat.le_refl _) _ | refine Below.setCell ?_ (by simp <;> omega) _ | refine Below.to ?_ (by assumption) (Nat.le_refl _))) hg1 (by simp) (fun j hj => absurd (show (none : Option Nat) = some j from hj) (by simp)); (try have HN1 := hide ((hg1.block wa.heap.size (by simp) (fun e => absurd (show some _ = (none : Option Nat) from e) (by simp))).trans (heap_alloc_new wa.drew _))); have HOWN1 := hide hown1; have hKeep : Hid (Keeps (fun j => kva.ownBlock = some j) wa w1) := Keeps.of_below HB1.out; clear hown1 hg1) | (refine step_append_any _ (by rfl) (.tmp 48) (.tmp 49) _ (by rfl) wa.heap.size 4 i1 _ 1 1 Try.underlying29 hi1 jz0 jz1 jz2 (by rfl) (by omega) (.slice A1 l.length cap1) l.length (l.map Value.bool) (by rfl) (World.ownsRow.alloc (w := w1) HOWN1.out _) (w1.heap.size + 1) (some ⟨w1.heap.size, 0, none⟩) 1 1 [.bool true] (by rfl) ⟨rfl, fun _ => ⟨_, rfl, by simp, World.news_of_block (heap_alloc_new w1 _)⟩⟩ (by simp [Value.oneCell']) (by unfold maxLen; omega) (by omega) (by have := HB1.out.size; simp; omega) ?_; intro v2 w2 hown2 hg2 _; have HB2 : Hid (Below wa.heap.size wa w2) := Below.grown (Below.allocT HB1.out (Nat.le_refl _) _) hg2 (by have := HB1.out.size; simp; omega) (fun j hj => (HOWN1.out.lt j hj).1); have HOWN2 := hide hown2; have hKeep : Hid (Keeps (fun j => kva.ownBlock = some j) wa w2) := Keeps.of_below HB2.out; clear hown2 hg2) | (refine step_append_any _ (by rfl) (.tmp 48) (.tmp 49) _ (by rfl) wa.heap.size 4 i1 _ 1 1 Try.underlying29 hi1 jz0 jz1 jz2 (by rfl) (by omega) (.slice A1 l.length cap1) l.length (l.map Value.bool) (by rfl) HOWN1.out w1.heap.size (some ⟨wa.heap.size, 0, none⟩) 1 1 [.bool true] (by rfl) ⟨rfl, fun _ => ⟨_, rfl, box_lt HN1.out, World.news_of_block HN1.out⟩⟩ (by simp [Value.oneCell']) (by unfold maxLen; omega) (by omega) HB1.out.size ?_; intro v2 w2 hown2 hg2 _; have HB2 : Hid (Below wa.heap.size wa w2) := Below.grown HB1.out hg2 HB1.out.size (fun j hj => (HOWN1.out.lt j hj).1); have HOWN2 := hide hown2; have hKeep : Hid (Keeps (fun j => kva.ownBlock = some j) wa w2) := Keeps.of_below HB2.out; clear hown2 hg2))
          (try dsimp only)
          refine hK.out _ _ ?_ (fun hNext => ?_)
          · try dsimp only
            (repeat (first | (with_reducible exact Keeps.refl _ _) | exact hKeep.out | exact hKeepS.out _ | assumption | (with_reducible refine Keeps.drew ?_) | (with_reducible refine Keeps.drewN ?_ _) | (with_reducible refine Keeps.alloc ?_ _) | (with_reducible refine Keeps.setCell ?_ (.inl (by first | exact .inl rfl | exact .inr rfl)) _)))
          clear hK K hHeld
          have hHeld := hNext
          clear hNext
          (try dsimp only at hHeld)
          try simp only [Act.put, List.getElem_toArray, List.getElem_cons_succ, List.getElem_cons_zero, List.setIfInBounds_toArray, List.set_cons_zero, List.set_cons_succ]
          refine wpAnyH_ready (rs := [4]) (by kernel_rfl) (by simp) ?_
          refine (AllReadyH.cons rfl (fun K hK => ?_) AllReadyH.nil)
          go_simp
          refine hK.out _ _ ?_ (fun hNext => ?_)
          · try dsimp only
            (repeat (first | (with_reducible exact Keeps.refl _ _) | exact hKeep.out | exact hKeepS.out _ | assumption | (with_reducible refine Keeps.drew ?_) | (with_reducible refine Keeps.drewN ?_ _) | (with_reducible refine Keeps.alloc ?_ _) | (with_reducible refine Keeps.setCell ?_ (.inl (by first | exact .inl rfl | exact .inr rfl)) _)))
          clear hK K hHeld
          have hHeld := hNext
          clear hNext
          (try dsimp only at hHeld)
          try simp only [Act.put, List.getElem_toArray, List.getElem_cons_succ, List.getElem_cons_zero, List.setIfInBounds_toArray, List.set_cons_zero, List.set_cons_succ]
          refine wpAnyH_ready (rs := [5]) (by kernel_rfl) (by simp) ?_
          refine (AllReadyH.cons rfl (fun K hK => ?_) AllReadyH.nil)
          (first | (refine step_append_any _ (by rfl) _ (.tmp 47) _ (by rfl) wa.heap.size 4 i1 _ 1 1 Try.underlying29 hi1 jz0 jz1 jz2 (by rfl) (by omega) (.slice none 0 0) 0 [] (by rfl) (World.ownsRow_nil _ _ _ _) _ Av l.length capv (l.map Value.bool) (by rfl) ((HVB.out _ (by repeat (first | exact Below.refl _ _ | assumption | refine Below.drew ?_ | refine Below.drewN ?_ _ | refine Below.allocT ?_ (Nat.le_refl _) _ | refine Below.setCell ?_ (by simp <;> omega) _ | refine Below.to ?_ (by assumption) (Nat.le_refl _)))).flat) (by intro u hu; rw [List.mem_map] at hu; obtain ⟨_, _, rfl⟩ := hu; rfl) (by unfold maxLen; omega) (by omega) (by simp) ?_; intro v1 w1 hown1 hg1 _; rw [Nat.zero_add, List.nil_append] at hown1; obtain ⟨A1, cap1, hv1⟩ := owns_form hown1; subst hv1; have HB1 : Hid (Below wa.heap.size wa w1) := Below.grown (by repeat (first | exact Below.refl _ _ | assumption | refine Below.drew ?_ | refine Below.drewN ?_ _ | refine Below.allocT ?_ (Nat.le_refl _) _ | refine Below.setCell ?_ (by simp <;> omega) _ | refine Below.to ?_ (by assumption) (Nat.le_refl _))) hg1 (by simp) (fun j hj => absurd (show (none : Option Nat) = some j from hj) (by simp)); (try have HN1 := hide ((hg1.block wa.heap.size (by simp) (fun e => absurd (show some _ = (none : Option Nat) from e) (by simp))).trans (heap_alloc_new wa.drew _))); have HOWN1 := hide hown1; have hKeep : Hid (Keeps (fun j => kva.ownBlock = some j) wa w1) := Keeps.of_below HB1.out; clear hown1 hg1) | (refine step_append_any _ (by rfl) (.tmp 48) (.tmp 49) _ (by rfl) wa.heap.size 4 i1 _ 1 1 Try.underlying29 hi1 jz0 jz1 jz2 (by rfl) (by omega) (.slice A1 l.length cap1) l.length (l.map Value.bool) (by rfl) (World.ownsRow.alloc (w := w1) HOWN1.out _) (w1.heap.size + 1) (some ⟨w1.heap.size, 0, none⟩) 1 1 [.bool true] (by rfl) ⟨rfl, fun _ => ⟨_, rfl, by simp, World.news_of_block (heap_alloc_new w1 _)⟩⟩ (by simp [Value.oneCell']) (by unfold maxLen; omega) (by omega) (by have := HB1.out.size; simp; omega) ?_; intro v2 w2 hown2 hg2 _; have HB2 : Hid (Below wa.heap.size wa w2) := Below.grown (Below.allocT HB1.out (Nat.le_refl _) _) hg2 (by have := HB1.out.size; simp; omega) (fun j hj => (HOWN1.out.lt j hj).1); have HOWN2 := hide hown2; have hKeep : Hid (Keeps (fun j => kva.ownBlock = some j) wa w2) := Keeps.of_below HB2.out; clear hown2 hg2) | (refine step_append_any _ (by rfl) (.tmp 48) (.tmp 49) _ (by rfl) wa.heap.size 4 i1 _ 1 1 Try.underlying29 hi1 jz0 jz1 jz2 (by rfl) (by omega) (.slice A1 l.length cap1) l.length (l.map Value.bool) (by rfl) HOWN1.out w1.heap.size (some ⟨wa.heap.size, 0, none⟩) 1 1 [.bool true] (by rfl) ⟨rfl, fun _ => ⟨_, rfl, box_lt HN1.out, World.news_of_block HN1.out⟩⟩ (by simp [Value.oneCell']) (by unfold maxLen; omega) (by omega) HB1.out.size ?_; intro v2 w2 hown2 hg2 _; have HB2 : Hid (Below wa.heap.size wa w2) := Below.grown HB1.out hg2 HB1.out.size (fun j hj => (HOWN1.out.lt j hj).1); have HOWN2 := hide hown2; have hKeep : Hid (Keeps (fun j => kva.ownBlock = some j) wa w2) := Keeps.of_below HB2.out; clear hown2 hg2))
          (try dsimp only)
          refine hK.out _ _ ?_ (fun hNext => ?_)
          · try dsimp only
            (repeat (first | (with_reducible exact Keeps.refl _ _) | exact hKeep.out | exact hKeepS.out _ | assumption | (with_reducible refine Keeps.drew ?_) | (with_reducible refine Keeps.drewN ?_ _) | (with_reducible refine Keeps.alloc ?_ _) | (with_reducible refine Keeps.setCell ?_ (.inl (by first | exact .inl rfl | exact .inr rfl)) _)))
          clear hK K hHeld
          have hHeld := hNext
          clear hNext
          (try dsimp only at hHeld)
          try simp only [Act.put, List.getElem_toArray, List.getElem_cons_succ, List.getElem_cons_zero, List.setIfInBounds_toArray, List.set_cons_zero, List.set_cons_succ]
          refine wpAnyH_ready (rs := [7]) (by kernel_rfl) (by simp) ?_
          refine (AllReadyH.cons rfl (fun K hK => ?_) AllReadyH.nil)
          go_simp
          ((go_at_call 80; refine (HRC.out _ _ HOWN2.out HB2.out).mono ?_; rintro e w3 ⟨kv3, rfl, hk3, hp3, ho3⟩; have hKeep : Hid (Keeps (fun j => kva.ownBlock = some j) wa w3) := (Keeps.of_below HB2.out).trans hp3 (fun _ _ h => h); have HK3 := hide hk3; have HO3 : Hid (∀ j, kv3.ownBlock = some j → kva.ownBlock = some j ∨ wa.heap.size ≤ j) := fun j hj => (ho3 j hj).imp (fun h => h) (fun h => Nat.le_trans HB2.out.size h); clear hk3 hp3 ho3))
          (try dsimp only)
          refine hK.out _ _ ?_ (fun hNext => ?_)
          · try dsimp only
            (repeat (first | (with_reducible exact Keeps.refl _ _) | exact hKeep.out | exact hKeepS.out _ | assumption | (with_reducible refine Keeps.drew ?_) | (with_reducible refine Keeps.drewN ?_ _) | (with_reducible refine Keeps.alloc ?_ _) | (with_reducible refine Keeps.setCell ?_ (.inl (by first | exact .inl rfl | exact .inr rfl)) _)))
          clear hK K hHeld
          have hHeld := hNext
          clear hNext
          (try dsimp only at hHeld)
          try simp only [Act.put, List.getElem_toArray, List.getElem_cons_succ, List.getElem_cons_zero, List.setIfInBounds_toArray, List.set_cons_zero, List.set_cons_succ]
          refine wpAnyH_take (i := 8) (v := ?v38_9) rfl (by kernel_rfl) (by kernel_rfl) (by kernel_rfl) (fun _ _ _ h => h) (Or.inl ⟨by rfl, ?y38_9⟩) (by assumption) ?r38_9
          case' y38_9 => (intro w hSw; (try dsimp only at hSw); (try have hlS := HLK.out _ hSw); have hcS := kcell hSw; clear hSw; go_simp; try with_reducible rfl)
          try simp only [Act.put, List.getElem_toArray, List.getElem_cons_succ, List.getElem_cons_zero, List.setIfInBounds_toArray, List.set_cons_zero, List.set_cons_succ]
          refine wpAnyH_take (i := 9) (v := ?v38_10) rfl (by kernel_rfl) (by kernel_rfl) (by kernel_rfl) (fun _ _ _ h => h) (Or.inl ⟨by rfl, ?y38_10⟩) (by assumption) ?r38_10
          case' y38_10 => (intro w hSw; (try dsimp only at hSw); (try have hlS := HLK.out _ hSw); have hcS := kcell hSw; clear hSw; go_simp; try with_reducible rfl)
          try simp only [Act.put, List.getElem_toArray, List.getElem_cons_succ, List.getElem_cons_zero, List.setIfInBounds_toArray, List.set_cons_zero, List.set_cons_succ]
          refine wpAnyH_take (i := 10) (v := ?v38_11) rfl (by kernel_rfl) (by kernel_rfl) (by kernel_rfl) (fun _ _ _ h => h) (Or.inl ⟨by rfl, ?y38_11⟩) (by assumption) ?r38_11
          case' y38_11 => (intro w hSw; (try dsimp only at hSw); (try have hlS := HLK.out _ hSw); have hcS := kcell hSw; clear hSw; go_simp; try with_reducible rfl)
          try simp only [Act.put, List.getElem_toArray, List.getElem_cons_succ, List.getElem_cons_zero, List.setIfInBounds_toArray, List.set_cons_zero, List.set_cons_succ]
          refine wpAnyH_take (i := 11) (v := ?v38_12) rfl (by kernel_rfl) (by kernel_rfl) (by kernel_rfl) (fun _ _ _ h => h) (Or.inl ⟨by rfl, ?y38_12⟩) (by assumption) ?r38_12
          case' y38_12 => (intro w hSw; (try dsimp only at hSw); (try have hlS := HLK.out _ hSw); have hcS := kcell hSw; clear hSw; go_simp; try with_reducible rfl)
          try simp only [Act.put, List.getElem_toArray, List.getElem_cons_succ, List.getElem_cons_zero, List.setIfInBounds_toArray, List.set_cons_zero, List.set_cons_succ]
          refine wpAnyH_take (i := 12) (v := ?v38_13) rfl (by kernel_rfl) (by kernel_rfl) (by kernel_rfl) (fun _ _ _ h => h) (Or.inl ⟨by rfl, ?y38_13⟩) (by assumption) ?r38_13
          case' y38_13 => (intro w hSw; (try dsimp only at hSw); (try have hlS := HLK.out _ hSw); have hcS := kcell hSw; clear hSw; go_simp; try with_reducible rfl)
          try simp only [Act.put, List.getElem_toArray, List.getElem_cons_succ, List.getElem_cons_zero, List.setIfInBounds_toArray, List.set_cons_zero, List.set_cons_succ]
          refine wpAnyH_done (by kernel_rfl) ?_ _
        case' o38_5_4 =>
          go_simp
          refine hK.out _ _ ?_ (fun hNext => ?_)
          · try dsimp only
            (repeat (first | (with_reducible exact Keeps.refl _ _) | exact hKeep.out | exact hKeepS.out _ | assumption | (with_reducible refine Keeps.drew ?_) | (with_reducible refine Keeps.drewN ?_ _) | (with_reducible refine Keeps.alloc ?_ _) | (with_reducible refine Keeps.setCell ?_ (.inl (by first | exact .inl rfl | exact .inr rfl)) _)))
          clear hK K hHeld
          have hHeld := hNext
          clear hNext
          (try dsimp only at hHeld)
          try simp only [Act.put, List.getElem_toArray, List.getElem_cons_succ, List.getElem_cons_zero, List.setIfInBounds_toArray, List.set_cons_zero, List.set_cons_succ]
          refine wpAnyH_ready (rs := [3]) (by kernel_rfl) (by simp) ?_
          refine (AllReadyH.cons rfl (fun K hK => ?_) AllReadyH.nil)
          (first | (refine step_append_any _ (by rfl) _ (.tmp 47) _ (by rfl) wa.heap.size 4 i1 _ 1 1 Try.underlying29 hi1 jz0 jz1 jz2 (by rfl) (by omega) (.slice none 0 0) 0 [] (by rfl) (World.ownsRow_nil _ _ _ _) _ Av l.length capv (l.map Value.bool) (by rfl) ((HVB.out _ (by repeat (first | exact Below.refl _ _ | assumption | refine Below.drew ?_ | refine Below.drewN ?_ _ | refine Below.allocT ?_ (Nat.le_refl _) _ | refine Below.setCell ?_ (by simp <;> omega) _ | refine Below.to ?_ (by assumption) (Nat.le_refl _)))).flat) (by intro u hu; rw [List.mem_map] at hu; obtain ⟨_, _, rfl⟩ := hu; rfl) (by unfold maxLen; omega) (by omega) (by simp) ?_; intro v1 w1 hown1 hg1 _; rw [Nat.zero_add, List.nil_append] at hown1; obtain ⟨A1, cap1, hv1⟩ := owns_form hown1; subst hv1; have HB1 : Hid (Below wa.heap.size wa w1) := Below.grown (by repeat (first | exact Below.refl _ _ | assumption | refine Below.drew ?_ | refine Below.drewN ?_ _ | refine Below.allocT ?_ (Nat.le_refl _) _ | refine Below.setCell ?_ (by simp <;> omega) _ | refine Below.to ?_ (by assumption) (Nat.le_refl _))) hg1 (by simp) (fun j hj => absurd (show (none : Option Nat) = some j from hj) (by simp)); (try have HN1 := hide ((hg1.block wa.heap.size (by simp) (fun e => absurd (show some _ = (none : Option Nat) from e) (by simp))).trans (heap_alloc_new wa.drew _))); have HOWN1 := hide hown1; have hKeep : Hid (Keeps (fun j => kva.ownBlock = some j) wa w1) := Keeps.of_below HB1.out; clear hown1 hg1) | (refine step_append_any _ (by rfl) (.tmp 48) (.tmp 49) _ (by rfl) wa.heap.size 4 i1 _ 1 1 Try.underlying29 hi1 jz0 jz1 jz2 (by rfl) (by omega) (.slice A1 l.length cap1) l.length (l.map Value.bool) (by rfl) (World.ownsRow.alloc (w := w1) HOWN1.out _) (w1.heap.size + 1) (some ⟨w1.heap.size, 0, none⟩) 1 1 [.bool true] (by rfl) ⟨rfl, fun _ => ⟨_, rfl, by simp, World.news_of_block (heap_alloc_new w1 _)⟩⟩ (by simp [Value.oneCell']) (by unfold maxLen; omega) (by omega) (by have := HB1.out.size; simp; omega) ?_; intro v2 w2 hown2 hg2 _; have HB2 : Hid (Below wa.heap.size wa w2) := Below.grown (Below.allocT HB1.out (Nat.le_refl _) _) hg2 (by have := HB1.out.size; simp; omega) (fun j hj => (HOWN1.out.lt j hj).1); have HOWN2 := hide hown2; have hKeep : Hid (Keeps (fun j => kva.ownBlock = some j) wa w2) := Keeps.of_below HB2.out; clear hown2 hg2) | (refine step_append_any _ (by rfl) (.tmp 48) (.tmp 49) _ (by rfl) wa.heap.size 4 i1 _ 1 1 Try.underlying29 hi1 jz0 jz1 jz2 (by rfl) (by omega) (.slice A1 l.length cap1) l.length (l.map Value.bool) (by rfl) HOWN1.out w1.heap.size (some ⟨wa.heap.size, 0, none⟩) 1 1 [.bool true] (by rfl) ⟨rfl, fun _ => ⟨_, rfl, box_lt HN1.out, World.news_of_block HN1.out⟩⟩ (by simp [Value.oneCell']) (by unfold maxLen; omega) (by omega) HB1.out.size ?_; intro v2 w2 hown2 hg2 _; have HB2 : Hid (Below wa.heap.size wa w2) := Below.grown HB1.out hg2 HB1.out.size (fun j hj => (HOWN1.out.lt j hj).1); have HOWN2 := hide hown2; have hKeep : Hid (Keeps (fun j => kva.ownBlock = some j) wa w2) := Keeps.of_below HB2.out; clear hown2 hg2))
          (try dsimp only)
          refine hK.out _ _ ?_ (fun hNext => ?_)
          · try dsimp only
            (repeat (first | (with_reducible exact Keeps.refl _ _) | exact hKeep.out | exact hKeepS.out _ | assumption | (with_reducible refine Keeps.drew ?_) | (with_reducible refine Keeps.drewN ?_ _) | (with_reducible refine Keeps.alloc ?_ _) | (with_reducible refine Keeps.setCell ?_ (.inl (by first | exact .inl rfl | exact .inr rfl)) _)))
          clear hK K hHeld
          have hHeld := hNext
          clear hNext
          (try dsimp only at hHeld)
          try simp only [Act.put, List.getElem_toArray, List.getElem_cons_succ, List.getElem_cons_zero, List.setIfInBounds_toArray, List.set_cons_zero, List.set_cons_succ]
          refine wpAnyH_ready (rs := [5]) (by kernel_rfl) (by simp) ?_
          refine (AllReadyH.cons rfl (fun K hK => ?_) AllReadyH.nil)
          (first | (refine step_append_any _ (by rfl) _ (.tmp 47) _ (by rfl) wa.heap.size 4 i1 _ 1 1 Try.underlying29 hi1 jz0 jz1 jz2 (by rfl) (by omega) (.slice none 0 0) 0 [] (by rfl) (World.ownsRow_nil _ _ _ _) _ Av l.length capv (l.map Value.bool) (by rfl) ((HVB.out _ (by repeat (first | exact Below.refl _ _ | assumption | refine Below.drew ?_ | refine Below.drewN ?_ _ | refine Below.allocT ?_ (Nat.le_refl _) _ | refine Below.setCell ?_ (by simp <;> omega) _ | refine Below.to ?_ (by assumption) (Nat.le_refl _)))).flat) (by intro u hu; rw [List.mem_map] at hu; obtain ⟨_, _, rfl⟩ := hu; rfl) (by unfold maxLen; omega) (by omega) (by simp) ?_; intro v1 w1 hown1 hg1 _; rw [Nat.zero_add, List.nil_append] at hown1; obtain ⟨A1, cap1, hv1⟩ := owns_form hown1; subst hv1; have HB1 : Hid (Below wa.heap.size wa w1) := Below.grown (by repeat (first | exact Below.refl _ _ | assumption | refine Below.drew ?_ | refine Below.drewN ?_ _ | refine Below.allocT ?_ (Nat.le_refl _) _ | refine Below.setCell ?_ (by simp <;> omega) _ | refine Below.to ?_ (by assumption) (Nat.le_refl _))) hg1 (by simp) (fun j hj => absurd (show (none : Option Nat) = some j from hj) (by simp)); (try have HN1 := hide ((hg1.block wa.heap.size (by simp) (fun e => absurd (show some _ = (none : Option Nat) from e) (by simp))).trans (heap_alloc_new wa.drew _))); have HOWN1 := hide hown1; have hKeep : Hid (Keeps (fun j => kva.ownBlock = some j) wa w1) := Keeps.of_below HB1.out; clear hown1 hg1) | (refine step_append_any _ (by rfl) (.tmp 48) (.tmp 49) _ (by rfl) wa.heap.size 4 i1 _ 1 1 Try.underlying29 hi1 jz0 jz1 jz2 (by rfl) (by omega) (.slice A1 l.length cap1) l.length (l.map Value.bool) (by rfl) (World.ownsRow.alloc (w := w1) HOWN1.out _) (w1.heap.size + 1) (some ⟨w1.heap.size, 0, none⟩) 1 1 [.bool true] (by rfl) ⟨rfl, fun _ => ⟨_, rfl, by simp, World.news_of_block (heap_alloc_new w1 _)⟩⟩ (by simp [Value.oneCell']) (by unfold maxLen; omega) (by omega) (by have := HB1.out.size; simp; omega) ?_; intro v2 w2 hown2 hg2 _; have HB2 : Hid (Below wa.heap.size wa w2) := Below.grown (Below.allocT HB1.out (Nat.le_refl _) _) hg2 (by have := HB1.out.size; simp; omega) (fun j hj => (HOWN1.out.lt j hj).1); have HOWN2 := hide hown2; have hKeep : Hid (Keeps (fun j => kva.ownBlock = some j) wa w2) := Keeps.of_below HB2.out; clear hown2 hg2) | (refine step_append_any _ (by rfl) (.tmp 48) (.tmp 49) _ (by rfl) wa.heap.size 4 i1 _ 1 1 Try.underlying29 hi1 jz0 jz1 jz2 (by rfl) (by omega) (.slice A1 l.length cap1) l.length (l.map Value.bool) (by rfl) HOWN1.out w1.heap.size (some ⟨wa.heap.size, 0, none⟩) 1 1 [.bool true] (by rfl) ⟨rfl, fun _ => ⟨_, rfl, box_lt HN1.out, World.news_of_block HN1.out⟩⟩ (by simp [Value.oneCell']) (by unfold maxLen; omega) (by omega) HB1.out.size ?_; intro v2 w2 hown2 hg2 _; have HB2 : Hid (Below wa.heap.size wa w2) := Below.grown HB1.out hg2 HB1.out.size (fun j hj => (HOWN1.out.lt j hj).1); have HOWN2 := hide hown2; have hKeep : Hid (Keeps (fun j => kva.ownBlock = some j) wa w2) := Keeps.of_below HB2.out; clear hown2 hg2))
          (try dsimp only)
          refine hK.out _ _ ?_ (fun hNext => ?_)
          · try dsimp only
            (repeat (first | (with_reducible exact Keeps.refl _ _) | exact hKeep.out | exact hKeepS.out _ | assumption | (with_reducible refine Keeps.drew ?_) | (with_reducible refine Keeps.drewN ?_ _) | (with_reducible refine Keeps.alloc ?_ _) | (with_reducible refine Keeps.setCell ?_ (.inl (by first | exact .inl rfl | exact .inr rfl)) _)))
          clear hK K hHeld
          have hHeld := hNext
          clear hNext
          (try dsimp only at hHeld)
          try simp only [Act.put, List.getElem_toArray, List.getElem_cons_succ, List.getElem_cons_zero, List.setIfInBounds_toArray, List.set_cons_zero, List.set_cons_succ]
          refine wpAnyH_ready (rs := [7]) (by kernel_rfl) (by simp) ?_
          refine (AllReadyH.cons rfl (fun K hK => ?_) AllReadyH.nil)
          go_simp
          ((go_at_call 80; refine (HRC.out _ _ HOWN2.out HB2.out).mono ?_; rintro e w3 ⟨kv3, rfl, hk3, hp3, ho3⟩; have hKeep : Hid (Keeps (fun j => kva.ownBlock = some j) wa w3) := (Keeps.of_below HB2.out).trans hp3 (fun _ _ h => h); have HK3 := hide hk3; have HO3 : Hid (∀ j, kv3.ownBlock = some j → kva.ownBlock = some j ∨ wa.heap.size ≤ j) := fun j hj => (ho3 j hj).imp (fun h => h) (fun h => Nat.le_trans HB2.out.size h); clear hk3 hp3 ho3))
          (try dsimp only)
          refine hK.out _ _ ?_ (fun hNext => ?_)
          · try dsimp only
            (repeat (first | (with_reducible exact Keeps.refl _ _) | exact hKeep.out | exact hKeepS.out _ | assumption | (with_reducible refine Keeps.drew ?_) | (with_reducible refine Keeps.drewN ?_ _) | (with_reducible refine Keeps.alloc ?_ _) | (with_reducible refine Keeps.setCell ?_ (.inl (by first | exact .inl rfl | exact .inr rfl)) _)))
          clear hK K hHeld
          have hHeld := hNext
          clear hNext
          (try dsimp only at hHeld)
          try simp only [Act.put, List.getElem_toArray, List.getElem_cons_succ, List.getElem_cons_zero, List.setIfInBounds_toArray, List.set_cons_zero, List.set_cons_succ]
          refine wpAnyH_take (i := 8) (v := ?v38_17) rfl (by kernel_rfl) (by kernel_rfl) (by kernel_rfl) (fun _ _ _ h => h) (Or.inl ⟨by rfl, ?y38_17⟩) (by assumption) ?r38_17
          case' y38_17 => (intro w hSw; (try dsimp only at hSw); (try have hlS := HLK.out _ hSw); have hcS := kcell hSw; clear hSw; go_simp; try with_reducible rfl)
          try simp only [Act.put, List.getElem_toArray, List.getElem_cons_succ, List.getElem_cons_zero, List.setIfInBounds_toArray, List.set_cons_zero, List.set_cons_succ]
          refine wpAnyH_take (i := 9) (v := ?v38_18) rfl (by kernel_rfl) (by kernel_rfl) (by kernel_rfl) (fun _ _ _ h => h) (Or.inl ⟨by rfl, ?y38_18⟩) (by assumption) ?r38_18
          case' y38_18 => (intro w hSw; (try dsimp only at hSw); (try have hlS := HLK.out _ hSw); have hcS := kcell hSw; clear hSw; go_simp; try with_reducible rfl)
          try simp only [Act.put, List.getElem_toArray, List.getElem_cons_succ, List.getElem_cons_zero, List.setIfInBounds_toArray, List.set_cons_zero, List.set_cons_succ]
          refine wpAnyH_take (i := 10) (v := ?v38_19) rfl (by kernel_rfl) (by kernel_rfl) (by kernel_rfl) (fun _ _ _ h => h) (Or.inl ⟨by rfl, ?y38_19⟩) (by assumption) ?r38_19
          case' y38_19 => (intro w hSw; (try dsimp only at hSw); (try have hlS := HLK.out _ hSw); have hcS := kcell hSw; clear hSw; go_simp; try with_reducible rfl)
          try simp only [Act.put, List.getElem_toArray, List.getElem_cons_succ, List.getElem_cons_zero, List.setIfInBounds_toArray, List.set_cons_zero, List.set_cons_succ]
          refine wpAnyH_take (i := 11) (v := ?v38_20) rfl (by kernel_rfl) (by kernel_rfl) (by kernel_rfl) (fun _ _ _ h => h) (Or.inl ⟨by rfl, ?y38_20⟩) (by assumption) ?r38_20
          case' y38_20 => (intro w hSw; (try dsimp only at hSw); (try have hlS := HLK.out _ hSw); have hcS := kcell hSw; clear hSw; go_simp; try with_reducible rfl)
          try simp only [Act.put, List.getElem_toArray, List.getElem_cons_succ, List.getElem_cons_zero, List.setIfInBounds_toArray, List.set_cons_zero, List.set_cons_succ]
          refine wpAnyH_take (i := 12) (v := ?v38_21) rfl (by kernel_rfl) (by kernel_rfl) (by kernel_rfl) (fun _ _ _ h => h) (Or.inl ⟨by rfl, ?y38_21⟩) (by assumption) ?r38_21
          case' y38_21 => (intro w hSw; (try dsimp only at hSw); (try have hlS := HLK.out _ hSw); have hcS := kcell hSw; clear hSw; go_simp; try with_reducible rfl)
          try simp only [Act.put, List.getElem_toArray, List.getElem_cons_succ, List.getElem_cons_zero, List.setIfInBounds_toArray, List.set_cons_zero, List.set_cons_succ]
          refine wpAnyH_done (by kernel_rfl) ?_ _
        all_goals
          go_wp2_with fail
          go_meet
          case rel => exact ⟨rfl, HK3.out, hKeep.out, HO3.out⟩
      case rest =>
        obtain ⟨rfl, hcc⟩ := hcut
        obtain ⟨kvb, hkvb⟩ : ∃ x, x = u3 := ⟨_, rfl⟩
        subst hkvb
        obtain ⟨wb, hwb⟩ : ∃ x, x = wc := ⟨_, rfl⟩
        subst hwb
        have HKb : Hid (KStk B wb kvb K2) := hcc.out.1
        have HPb : Hid (Keeps (fun j => kva.ownBlock = some j) wa wb) := hcc.out.2.1
        have HOb : Hid (∀ j, kvb.ownBlock = some j → kva.ownBlock = some j ∨ wa.heap.size ≤ j) := hcc.out.2.2
        have HPw : Hid (Keeps (fun j => (Value.slice Ak KK.length capk).ownBlock = some j) w wb) := ((Keeps.of_below HB0.out).trans HPa.out (T := fun j => (Value.slice Ak KK.length capk).ownBlock = some j) (fun _ _ h => h)).trans HPb.out (fun i hi hs => by
          rcases HOa.out i hs with h | h
          · exact h
          · have := HS0.out; omega)
        have HOw : Hid (∀ j, kvb.ownBlock = some j → (Value.slice Ak KK.length capk).ownBlock = some j ∨ w.heap.size ≤ j) := fun j hj => by
          have := HS0.out
          rcases HOb.out j hj with h | h
          · rcases HOa.out j h with h | h
            · exact .inl h
            · exact .inr (by omega)
          · have := HPa.out.size
            exact .inr (by omega)
        have hBb : B ≤ wb.heap.size := Nat.le_trans hBa HPb.out.size
        obtain ⟨Ab, capb, hAb, hcb1, hcb2⟩ := HKb.out.shape
        subst hAb
        clear c0 c1 hnk hap0 HVB HRC hbx hcc
        by_cases hlh : lo = hi
        · have hRe : R = (K2, lo) := HR.out.symm.trans (bldF_eq HE1.out HE2.out hlh)
          have HRE := hide hRe
          have hne : (lo == hi) = true := by simpa using hlh
          clear hlh hRe
          go_wp2_with fail
          go_ret2
          rw [HRE.out]
          exact ⟨_, rfl, HKb.out, HPw.out, HOw.out⟩
        have hne : (lo == hi) = false := by simpa using hlh
        have HLH := hide hlh
        clear hlh
        go_upto_region 11 with (fail)
        generalize hw4 : World.alloc _ _ = w4
        obtain ⟨hb4, hB4, hs4⟩ := alloc1 hw4
        clear hw4
        have HKN := hide hb4
        have HB4 := hide hB4
        have hrw4 : KStk B w4 (.slice Ab K2.length capb) K2 := owns_below HKb.out hB4
        have HK4 := hide hrw4
        obtain ⟨Ae, be, offe, cape, hAe, hnce, hA, hc⟩ := hrw4.kts
        injection hAe with hAe _ hCe
        subst hAe hCe
        have HA := hide hA
        have HC := hide hc
        have hl4 := box_lt hb4
        clear hb4 hB4 hs4 hrw4 hA hc hnce
        go_wp2
        go_loopw [14] (fun i wr => ∃ k : Nat, k ≤ K2.length ∧ i = .int .i64 k ∧ Hid (Below w4.heap.size w4 wr) ∧ Hid (∀ j, j < k → K2.getD j Kt.z ≠ ⟨l.length, lo, hi⟩)) (fun i _ => K2.length - (intOf i).toNat)
        case atStart => exact ⟨0, Nat.zero_le _, rfl, Below.refl _ _, fun j hj => absurd hj (by omega)⟩
        case round =>
          obtain ⟨k, hk, rfl, hB5, hno⟩ := hrel
          have hzb := box_to HKN.out hB5.out
          have z0 := cellOf hzb 0
          have z1 := cellOf hzb 1
          have z2 := cellOf hzb 2
          have hlz := box_lt hzb
          have HZB := hide hzb
          clear hzb
          by_cases hlt : k < K2.length
          · obtain ⟨rfl, hbe, p0, p1, p2⟩ := kAt HA.out HC.out hlt
            have q0 := (hB5.out.cell (p := ⟨be, offe + k * 3, none⟩) hbe).trans p0
            have q1 := (hB5.out.cell (p := ⟨be, offe + k * 3 + 1, none⟩) hbe).trans p1
            have q2 := (hB5.out.cell (p := ⟨be, offe + k * 3 + 2, none⟩) hbe).trans p2
            have hber : be < wr.heap.size := Nat.lt_of_lt_of_le hbe hB5.out.size
            have gi0 : (k : Int) < (K2.length : Int) := by omega
            have gi1 : (0 : Int) ≤ (k : Int) := by omega
            obtain ⟨kn, hkn⟩ : ∃ x, K2.getD k Kt.z = x := ⟨_, rfl⟩
            have HKX := hide hkn
            rw [hkn] at q0 q1 q2
            clear p0 p1 p2 hkn
            go_wp2_with fail
            have HB5 := hide hB5.out
            have HNO := hide hno.out
            clear hno
            by_cases o1 : kn.o = (l.length : Int)
            · by_cases o2 : kn.l = lo
              · by_cases o3 : kn.h = hi
                · have hRe : R = (K2, (k : Int)) := HR.out.symm.trans (bldF_old HE1.out HE2.out HLH.out (idxI_at _ Kt.z K2 k (fun j hj => decide_eq_false (HNO.out j hj)) hlt (by rw [HKX.out]; exact decide_eq_true (Kt.ext' o1 o2 o3))))
                  have HRE := hide hRe
                  clear hRe
                  refine wp_region_held_drew (S := (fun w' => Below wr.heap.size wr w')) (by kernel_rfl) ?_ (fun hHeld => ?_)
                  · try dsimp only
                    exact (by repeat (first | exact Below.refl _ _ | assumption | refine Below.drew ?_ | refine Below.drewN ?_ _ | refine Below.allocT ?_ (Nat.le_refl _) _ | refine Below.setCell ?_ (by simp <;> omega) _ | refine Below.to ?_ (by assumption) (Nat.le_refl _)))
                  refine wpAnyH_take (i := 0) (v := ?v39_0) rfl (by kernel_rfl) (by kernel_rfl) (by kernel_rfl) (fun _ _ _ h => h) (Or.inl ⟨by rfl, ?y39_0⟩) (by assumption) ?r39_0
                  case' y39_0 => (intro w hSw; (try dsimp only at hSw); (try have hlS := HLK.out _ hSw); obtain ⟨hcS, hfS⟩ := bcell hSw; clear hSw; go_simp; try with_reducible rfl)
                  try simp only [Act.put, List.getElem_toArray, List.getElem_cons_succ, List.getElem_cons_zero, List.setIfInBounds_toArray, List.set_cons_zero, List.set_cons_succ]
                  refine wpAnyH_take (i := 1) (v := ?v39_1) rfl (by kernel_rfl) (by kernel_rfl) (by kernel_rfl) (fun _ _ _ h => h) (Or.inl ⟨by rfl, ?y39_1⟩) (by assumption) ?r39_1
                  case' y39_1 => (intro w hSw; (try dsimp only at hSw); (try have hlS := HLK.out _ hSw); obtain ⟨hcS, hfS⟩ := bcell hSw; clear hSw; go_simp; try with_reducible rfl)
                  try simp only [Act.put, List.getElem_toArray, List.getElem_cons_succ, List.getElem_cons_zero, List.setIfInBounds_toArray, List.set_cons_zero, List.set_cons_succ]
                  refine wpAnyH_take (i := 2) (v := ?v39_2) rfl (by kernel_rfl) (by kernel_rfl) (by kernel_rfl) (fun _ _ _ h => h) (Or.inl ⟨by rfl, ?y39_2⟩) (by assumption) ?r39_2
                  case' y39_2 => (intro w hSw; (try dsimp only at hSw); (try have hlS := HLK.out _ hSw); obtain ⟨hcS, hfS⟩ := bcell hSw; clear hSw; go_simp; try with_reducible rfl)
                  try simp only [Act.put, List.getElem_toArray, List.getElem_cons_succ, List.getElem_cons_zero, List.setIfInBounds_toArray, List.set_cons_zero, List.set_cons_succ]
                  refine wpAnyH_take (i := 3) (v := ?v39_3) rfl (by kernel_rfl) (by kernel_rfl) (by kernel_rfl) (fun _ _ _ h => h) (Or.inl ⟨by rfl, ?y39_3⟩) (by assumption) ?r39_3
                  case' y39_3 => (intro w hSw; (try dsimp only at hSw); (try have hlS := HLK.out _ hSw); obtain ⟨hcS, hfS⟩ := bcell hSw; clear hSw; go_simp; try with_reducible rfl)
                  try simp only [Act.put, List.getElem_toArray, List.getElem_cons_succ, List.getElem_cons_zero, List.setIfInBounds_toArray, List.set_cons_zero, List.set_cons_succ]
                  refine wpAnyH_take (i := 4) (v := ?v39_4) rfl (by kernel_rfl) (by kernel_rfl) (by kernel_rfl) (fun _ _ _ h => h) (Or.inl ⟨by rfl, ?y39_4⟩) (by assumption) ?r39_4
                  case' y39_4 => (intro w hSw; (try dsimp only at hSw); (try have hlS := HLK.out _ hSw); obtain ⟨hcS, hfS⟩ := bcell hSw; clear hSw; go_simp; try with_reducible rfl)
                  try simp only [Act.put, List.getElem_toArray, List.getElem_cons_succ, List.getElem_cons_zero, List.setIfInBounds_toArray, List.set_cons_zero, List.set_cons_succ]
                  refine wpAnyH_take (i := 5) (v := ?v39_5) rfl (by kernel_rfl) (by kernel_rfl) (by kernel_rfl) (fun _ _ _ h => h) (Or.inl ⟨by rfl, ?y39_5⟩) (by assumption) ?r39_5
                  case' y39_5 => (intro w hSw; (try dsimp only at hSw); (try have hlS := HLK.out _ hSw); obtain ⟨hcS, hfS⟩ := bcell hSw; clear hSw; go_simp; try with_reducible rfl)
                  try simp only [Act.put, List.getElem_toArray, List.getElem_cons_succ, List.getElem_cons_zero, List.setIfInBounds_toArray, List.set_cons_zero, List.set_cons_succ]
                  refine wpAnyH_done (by kernel_rfl) ?_ _
                  go_wp2_with fail
                  go_ret2
                  rw [HRE.out]
                  have hBz : Below w4.heap.size w4 _ := Below.to HB5.out hHeld (Nat.le_refl _)
                  exact ⟨_, rfl, owns_below HK4.out hBz, HPw.out.trans (Keeps.of_below (Below.to HB4.out hBz (Nat.le_refl _))) (T := fun j => (Value.slice Ak KK.length capk).ownBlock = some j) (fun _ _ h => h), HOw.out⟩
                · have HNE : Hid (¬ kn.h = hi) := o3
                  refine wp_region_held_drew (S := (fun w' => Below wr.heap.size wr w')) (by kernel_rfl) ?_ (fun hHeld => ?_)
                  · try dsimp only
                    exact (by repeat (first | exact Below.refl _ _ | assumption | refine Below.drew ?_ | refine Below.drewN ?_ _ | refine Below.allocT ?_ (Nat.le_refl _) _ | refine Below.setCell ?_ (by simp <;> omega) _ | refine Below.to ?_ (by assumption) (Nat.le_refl _)))
                  refine wpAnyH_take (i := 0) (v := ?v40_0) rfl (by kernel_rfl) (by kernel_rfl) (by kernel_rfl) (fun _ _ _ h => h) (Or.inl ⟨by rfl, ?y40_0⟩) (by assumption) ?r40_0
                  case' y40_0 => (intro w hSw; (try dsimp only at hSw); (try have hlS := HLK.out _ hSw); obtain ⟨hcS, hfS⟩ := bcell hSw; clear hSw; go_simp; try with_reducible rfl)
                  try simp only [Act.put, List.getElem_toArray, List.getElem_cons_succ, List.getElem_cons_zero, List.setIfInBounds_toArray, List.set_cons_zero, List.set_cons_succ]
                  refine wpAnyH_take (i := 1) (v := ?v40_1) rfl (by kernel_rfl) (by kernel_rfl) (by kernel_rfl) (fun _ _ _ h => h) (Or.inl ⟨by rfl, ?y40_1⟩) (by assumption) ?r40_1
                  case' y40_1 => (intro w hSw; (try dsimp only at hSw); (try have hlS := HLK.out _ hSw); obtain ⟨hcS, hfS⟩ := bcell hSw; clear hSw; go_simp; try with_reducible rfl)
                  try simp only [Act.put, List.getElem_toArray, List.getElem_cons_succ, List.getElem_cons_zero, List.setIfInBounds_toArray, List.set_cons_zero, List.set_cons_succ]
                  refine wpAnyH_take (i := 2) (v := ?v40_2) rfl (by kernel_rfl) (by kernel_rfl) (by kernel_rfl) (fun _ _ _ h => h) (Or.inl ⟨by rfl, ?y40_2⟩) (by assumption) ?r40_2
                  case' y40_2 => (intro w hSw; (try dsimp only at hSw); (try have hlS := HLK.out _ hSw); obtain ⟨hcS, hfS⟩ := bcell hSw; clear hSw; go_simp; try with_reducible rfl)
                  try simp only [Act.put, List.getElem_toArray, List.getElem_cons_succ, List.getElem_cons_zero, List.setIfInBounds_toArray, List.set_cons_zero, List.set_cons_succ]
                  refine wpAnyH_take (i := 3) (v := ?v40_3) rfl (by kernel_rfl) (by kernel_rfl) (by kernel_rfl) (fun _ _ _ h => h) (Or.inl ⟨by rfl, ?y40_3⟩) (by assumption) ?r40_3
                  case' y40_3 => (intro w hSw; (try dsimp only at hSw); (try have hlS := HLK.out _ hSw); obtain ⟨hcS, hfS⟩ := bcell hSw; clear hSw; go_simp; try with_reducible rfl)
                  try simp only [Act.put, List.getElem_toArray, List.getElem_cons_succ, List.getElem_cons_zero, List.setIfInBounds_toArray, List.set_cons_zero, List.set_cons_succ]
                  refine wpAnyH_take (i := 4) (v := ?v40_4) rfl (by kernel_rfl) (by kernel_rfl) (by kernel_rfl) (fun _ _ _ h => h) (Or.inl ⟨by rfl, ?y40_4⟩) (by assumption) ?r40_4
                  case' y40_4 => (intro w hSw; (try dsimp only at hSw); (try have hlS := HLK.out _ hSw); obtain ⟨hcS, hfS⟩ := bcell hSw; clear hSw; go_simp; try with_reducible rfl)
                  try simp only [Act.put, List.getElem_toArray, List.getElem_cons_succ, List.getElem_cons_zero, List.setIfInBounds_toArray, List.set_cons_zero, List.set_cons_succ]
                  refine wpAnyH_take (i := 5) (v := ?v40_5) rfl (by kernel_rfl) (by kernel_rfl) (by kernel_rfl) (fun _ _ _ h => h) (Or.inl ⟨by rfl, ?y40_5⟩) (by assumption) ?r40_5
                  case' y40_5 => (intro w hSw; (try dsimp only at hSw); (try have hlS := HLK.out _ hSw); obtain ⟨hcS, hfS⟩ := bcell hSw; clear hSw; go_simp; try with_reducible rfl)
                  try simp only [Act.put, List.getElem_toArray, List.getElem_cons_succ, List.getElem_cons_zero, List.setIfInBounds_toArray, List.set_cons_zero, List.set_cons_succ]
                  refine wpAnyH_done (by kernel_rfl) ?_ _
                  go_wp2_with fail
                  go_roundw
                  case rel => exact ⟨k + 1, by omega, by go_num, Below.to HB5.out hHeld (Nat.le_refl _), fun j hj => by
                    rcases Nat.lt_or_ge j k with h | h
                    · exact HNO.out j h
                    · obtain rfl : j = k := by omega
                      rw [HKX.out]
                      exact fun e => HNE.out (by rw [e])⟩
                  case measure => simp [intOf]; omega
              · have HNE : Hid (¬ kn.l = lo) := o2
                refine wp_region_held_drew (S := (fun w' => Below wr.heap.size wr w')) (by kernel_rfl) ?_ (fun hHeld => ?_)
                · try dsimp only
                  exact (by repeat (first | exact Below.refl _ _ | assumption | refine Below.drew ?_ | refine Below.drewN ?_ _ | refine Below.allocT ?_ (Nat.le_refl _) _ | refine Below.setCell ?_ (by simp <;> omega) _ | refine Below.to ?_ (by assumption) (Nat.le_refl _)))
                refine wpAnyH_take (i := 0) (v := ?v41_0) rfl (by kernel_rfl) (by kernel_rfl) (by kernel_rfl) (fun _ _ _ h => h) (Or.inl ⟨by rfl, ?y41_0⟩) (by assumption) ?r41_0
                case' y41_0 => (intro w hSw; (try dsimp only at hSw); (try have hlS := HLK.out _ hSw); obtain ⟨hcS, hfS⟩ := bcell hSw; clear hSw; go_simp; try with_reducible rfl)
                try simp only [Act.put, List.getElem_toArray, List.getElem_cons_succ, List.getElem_cons_zero, List.setIfInBounds_toArray, List.set_cons_zero, List.set_cons_succ]
                refine wpAnyH_take (i := 1) (v := ?v41_1) rfl (by kernel_rfl) (by kernel_rfl) (by kernel_rfl) (fun _ _ _ h => h) (Or.inl ⟨by rfl, ?y41_1⟩) (by assumption) ?r41_1
                case' y41_1 => (intro w hSw; (try dsimp only at hSw); (try have hlS := HLK.out _ hSw); obtain ⟨hcS, hfS⟩ := bcell hSw; clear hSw; go_simp; try with_reducible rfl)
                try simp only [Act.put, List.getElem_toArray, List.getElem_cons_succ, List.getElem_cons_zero, List.setIfInBounds_toArray, List.set_cons_zero, List.set_cons_succ]
                refine wpAnyH_take (i := 2) (v := ?v41_2) rfl (by kernel_rfl) (by kernel_rfl) (by kernel_rfl) (fun _ _ _ h => h) (Or.inl ⟨by rfl, ?y41_2⟩) (by assumption) ?r41_2
                case' y41_2 => (intro w hSw; (try dsimp only at hSw); (try have hlS := HLK.out _ hSw); obtain ⟨hcS, hfS⟩ := bcell hSw; clear hSw; go_simp; try with_reducible rfl)
                try simp only [Act.put, List.getElem_toArray, List.getElem_cons_succ, List.getElem_cons_zero, List.setIfInBounds_toArray, List.set_cons_zero, List.set_cons_succ]
                refine wpAnyH_take (i := 3) (v := ?v41_3) rfl (by kernel_rfl) (by kernel_rfl) (by kernel_rfl) (fun _ _ _ h => h) (Or.inl ⟨by rfl, ?y41_3⟩) (by assumption) ?r41_3
                case' y41_3 => (intro w hSw; (try dsimp only at hSw); (try have hlS := HLK.out _ hSw); obtain ⟨hcS, hfS⟩ := bcell hSw; clear hSw; go_simp; try with_reducible rfl)
                try simp only [Act.put, List.getElem_toArray, List.getElem_cons_succ, List.getElem_cons_zero, List.setIfInBounds_toArray, List.set_cons_zero, List.set_cons_succ]
                refine wpAnyH_take (i := 4) (v := ?v41_4) rfl (by kernel_rfl) (by kernel_rfl) (by kernel_rfl) (fun _ _ _ h => h) (Or.inl ⟨by rfl, ?y41_4⟩) (by assumption) ?r41_4
                case' y41_4 => (intro w hSw; (try dsimp only at hSw); (try have hlS := HLK.out _ hSw); obtain ⟨hcS, hfS⟩ := bcell hSw; clear hSw; go_simp; try with_reducible rfl)
                try simp only [Act.put, List.getElem_toArray, List.getElem_cons_succ, List.getElem_cons_zero, List.setIfInBounds_toArray, List.set_cons_zero, List.set_cons_succ]
                refine wpAnyH_take (i := 5) (v := ?v41_5) rfl (by kernel_rfl) (by kernel_rfl) (by kernel_rfl) (fun _ _ _ h => h) (Or.inl ⟨by rfl, ?y41_5⟩) (by assumption) ?r41_5
                case' y41_5 => (intro w hSw; (try dsimp only at hSw); (try have hlS := HLK.out _ hSw); obtain ⟨hcS, hfS⟩ := bcell hSw; clear hSw; go_simp; try with_reducible rfl)
                try simp only [Act.put, List.getElem_toArray, List.getElem_cons_succ, List.getElem_cons_zero, List.setIfInBounds_toArray, List.set_cons_zero, List.set_cons_succ]
                refine wpAnyH_done (by kernel_rfl) ?_ _
                go_wp2_with fail
                go_roundw
                case rel => exact ⟨k + 1, by omega, by go_num, Below.to HB5.out hHeld (Nat.le_refl _), fun j hj => by
                  rcases Nat.lt_or_ge j k with h | h
                  · exact HNO.out j h
                  · obtain rfl : j = k := by omega
                    rw [HKX.out]
                    exact fun e => HNE.out (by rw [e])⟩
                case measure => simp [intOf]; omega
            · have HNE : Hid (¬ kn.o = (l.length : Int)) := o1
              refine wp_region_held_drew (S := (fun w' => Below wr.heap.size wr w')) (by kernel_rfl) ?_ (fun hHeld => ?_)
              · try dsimp only
                exact (by repeat (first | exact Below.refl _ _ | assumption | refine Below.drew ?_ | refine Below.drewN ?_ _ | refine Below.allocT ?_ (Nat.le_refl _) _ | refine Below.setCell ?_ (by simp <;> omega) _ | refine Below.to ?_ (by assumption) (Nat.le_refl _)))
              refine wpAnyH_take (i := 0) (v := ?v42_0) rfl (by kernel_rfl) (by kernel_rfl) (by kernel_rfl) (fun _ _ _ h => h) (Or.inl ⟨by rfl, ?y42_0⟩) (by assumption) ?r42_0
              case' y42_0 => (intro w hSw; (try dsimp only at hSw); (try have hlS := HLK.out _ hSw); obtain ⟨hcS, hfS⟩ := bcell hSw; clear hSw; go_simp; try with_reducible rfl)
              try simp only [Act.put, List.getElem_toArray, List.getElem_cons_succ, List.getElem_cons_zero, List.setIfInBounds_toArray, List.set_cons_zero, List.set_cons_succ]
              refine wpAnyH_take (i := 1) (v := ?v42_1) rfl (by kernel_rfl) (by kernel_rfl) (by kernel_rfl) (fun _ _ _ h => h) (Or.inl ⟨by rfl, ?y42_1⟩) (by assumption) ?r42_1
              case' y42_1 => (intro w hSw; (try dsimp only at hSw); (try have hlS := HLK.out _ hSw); obtain ⟨hcS, hfS⟩ := bcell hSw; clear hSw; go_simp; try with_reducible rfl)
              try simp only [Act.put, List.getElem_toArray, List.getElem_cons_succ, List.getElem_cons_zero, List.setIfInBounds_toArray, List.set_cons_zero, List.set_cons_succ]
              refine wpAnyH_take (i := 2) (v := ?v42_2) rfl (by kernel_rfl) (by kernel_rfl) (by kernel_rfl) (fun _ _ _ h => h) (Or.inl ⟨by rfl, ?y42_2⟩) (by assumption) ?r42_2
              case' y42_2 => (intro w hSw; (try dsimp only at hSw); (try have hlS := HLK.out _ hSw); obtain ⟨hcS, hfS⟩ := bcell hSw; clear hSw; go_simp; try with_reducible rfl)
              try simp only [Act.put, List.getElem_toArray, List.getElem_cons_succ, List.getElem_cons_zero, List.setIfInBounds_toArray, List.set_cons_zero, List.set_cons_succ]
              refine wpAnyH_take (i := 3) (v := ?v42_3) rfl (by kernel_rfl) (by kernel_rfl) (by kernel_rfl) (fun _ _ _ h => h) (Or.inl ⟨by rfl, ?y42_3⟩) (by assumption) ?r42_3
              case' y42_3 => (intro w hSw; (try dsimp only at hSw); (try have hlS := HLK.out _ hSw); obtain ⟨hcS, hfS⟩ := bcell hSw; clear hSw; go_simp; try with_reducible rfl)
              try simp only [Act.put, List.getElem_toArray, List.getElem_cons_succ, List.getElem_cons_zero, List.setIfInBounds_toArray, List.set_cons_zero, List.set_cons_succ]
              refine wpAnyH_take (i := 4) (v := ?v42_4) rfl (by kernel_rfl) (by kernel_rfl) (by kernel_rfl) (fun _ _ _ h => h) (Or.inl ⟨by rfl, ?y42_4⟩) (by assumption) ?r42_4
              case' y42_4 => (intro w hSw; (try dsimp only at hSw); (try have hlS := HLK.out _ hSw); obtain ⟨hcS, hfS⟩ := bcell hSw; clear hSw; go_simp; try with_reducible rfl)
              try simp only [Act.put, List.getElem_toArray, List.getElem_cons_succ, List.getElem_cons_zero, List.setIfInBounds_toArray, List.set_cons_zero, List.set_cons_succ]
              refine wpAnyH_take (i := 5) (v := ?v42_5) rfl (by kernel_rfl) (by kernel_rfl) (by kernel_rfl) (fun _ _ _ h => h) (Or.inl ⟨by rfl, ?y42_5⟩) (by assumption) ?r42_5
              case' y42_5 => (intro w hSw; (try dsimp only at hSw); (try have hlS := HLK.out _ hSw); obtain ⟨hcS, hfS⟩ := bcell hSw; clear hSw; go_simp; try with_reducible rfl)
              try simp only [Act.put, List.getElem_toArray, List.getElem_cons_succ, List.getElem_cons_zero, List.setIfInBounds_toArray, List.set_cons_zero, List.set_cons_succ]
              refine wpAnyH_done (by kernel_rfl) ?_ _
              go_wp2_with fail
              go_roundw
              case rel => exact ⟨k + 1, by omega, by go_num, Below.to HB5.out hHeld (Nat.le_refl _), fun j hj => by
                rcases Nat.lt_or_ge j k with h | h
                · exact HNO.out j h
                · obtain rfl : j = k := by omega
                  rw [HKX.out]
                  exact fun e => HNE.out (by rw [e])⟩
              case measure => simp [intOf]; omega
          · obtain rfl : k = K2.length := by omega
            have hrow : wr.ownsRow B 114 3 (.slice Ab K2.length capb) K2.length (ktsL K2) := owns_below HK4.out hB5.out
            have HROW := hide hrow
            have hRe : R = (K2 ++ [⟨l.length, lo, hi⟩], (K2.length : Int)) := HR.out.symm.trans (bldF_new HE1.out HE2.out HLH.out (idxI_none _ Kt.z _ fun j hj => decide_eq_false (hno.out j hj)))
            have HRE := hide hRe
            have hBr : B ≤ wr.heap.size := by have := HB4.out.size; have := hB5.out.size; omega
            have HBR := hide hBr
            have gi0 : ¬ (K2.length : Int) < (K2.length : Int) := by omega
            clear hrow hRe hBr
            go_wp2_with (at_builtin; go_must (refine wpList_append_own_at _ rfl (.tmp 78) (.tmp 80) _ rfl B 114 i0 _ 3 24 Try.underlying44 hi0 iz0 iz1 iz2 rfl (by omega) _ _ _ rfl (HROW.out.alloc _) ⟨wr.heap.size, 0, none⟩ 1 1 [.int .i64 l.length, .int .i64 lo, .int .i64 hi] rfl rfl (World.news_of_block (heap_alloc_new wr _)) (by simp [Value.oneCell']) (by unfold maxLen; omega) (by omega) (by have h1 := HBR.out; simp; omega) ?_); intro v6 w6 hown6 hg6 _ hat6; obtain ⟨A6, cap6, hv6⟩ := owns_form hown6; subst hv6; have HOWN6 := hide hown6; have HG6 := hide hg6; have HAT6 := hide hat6; clear hown6 hg6 hat6)
            go_ret2
            rw [HRE.out]
            have hBz : Below w.heap.size w wb → True := fun _ => trivial
            refine ⟨_, rfl, ?_, ?_, fun j hj => ?_⟩
            · show World.ownsRow _ B 114 3 _ (K2 ++ [(⟨(l.length : Int), lo, hi⟩ : Kt)]).length (ktsL (K2 ++ [(⟨(l.length : Int), lo, hi⟩ : Kt)]))
              rw [List.length_append, ktsL_snoc]
              exact HOWN6.out
            · have h1 : Keeps (fun j => (Value.slice Ak KK.length capk).ownBlock = some j) w wr := HPw.out.trans (Keeps.of_below (Below.to HB4.out hB5.out (Nat.le_refl _))) (T := fun j => (Value.slice Ak KK.length capk).ownBlock = some j) (fun _ _ h => h)
              exact (h1.alloc _).trans (Keeps.of_grown HG6.out (fun k hk => hk)) (fun i hi hs => by
                rcases HOw.out i hs with h | h
                · exact h
                · omega)
            · rcases HAT6.out with e | e
              · exact HOw.out j (e.symm.trans hj)
              · have hj : (Value.slice A6 (K2.length + 1) cap6).ownBlock = some j := hj
                rw [e] at hj
                injection hj with hj
                simp at hj
                have := HPw.out.size
                have := HB4.out.size
                have := hB5.out.size
                exact .inr (by omega)
end Go.Proofs.Ytohofcmikfkilaa
/- Diagram as the elder program has it: walk. -/
namespace Go.Proofs.Ytohofcmikfkilaa
open Go.RowKit
set_option linter.unusedVariables false
set_option linter.unusedSimpArgs false
theorem DigP.of {m : Mo} {f : List Int} {x r : Int} {K : List Kt} {v : Value} {w w' : World} (h : digE m f = x ∧ digK m f = K ∧ digR m f = r) (hk : Kts w' w'.heap.size v K) (hb : Below w.heap.size w w') : DigP (digK m f) (digR m f) (digE m f) w (.returned (.tuple #[v, .int .i64 r, .int .i64 x])) w' := by
  rw [h.1, h.2.1, h.2.2]
  exact ⟨_, rfl, hk, hb⟩
set_option maxRecDepth 100000 in
set_option maxHeartbeats 4000000 in
theorem rDiagram_any (m : Mo) (f : List Int) (ov rv fv : Value) (w : World) (hs : SizedM m) (hl : f.length ≤ maxLen) (h : MoAt w w.heap.size ov rv m) (hf : Ints w w.heap.size fv f) (hN : m.err = 0 → m.opts.length ≤ 12) :
    Calls Try.prog 35 #[.agg #[ov, rv], fv] w (DigP (digK m f) (digR m f) (digE m f) w) := by
  obtain ⟨A, cap, hov⟩ := Sl.form h.o
  obtain ⟨Ar, capr, hrv⟩ := h.r.form
  obtain ⟨Al, capl, hlv⟩ := Sl.form hf
  have H := hide h
  have HF := hide hf
  have HS := hide hs
  subst hov hrv hlv
  clear h hf hs
  go_enter Try.func35, Try.ntmps35
  go_upto_region 1 with (fail)
  generalize hw0 : World.alloc _ _ = w0
  obtain ⟨hb0, hB0, hs0⟩ := alloc1 hw0
  clear hw0
  have HX0 : Hid (MoBox w0 w.heap.size (.slice A m.opts.length cap) (.slice Ar m.rules.length capr)) := hb0
  have HB0 := hide hB0
  have c0 := cellOf hb0 0
  have c1 := cellOf hb0 1
  have hck := rCheckFormula_any m f (.slice A m.opts.length cap) (.slice Ar m.rules.length capr) (.slice Al f.length capl) w0 HS.out hl (H.out.up hB0) (HF.out.up hB0)
  have HCK := hide hck
  clear hb0 hB0 hs0 hck
  by_cases he : m.errF [f] = 0
  · have HE := hide he
    have HOK := hide (Mo.okF he)
    have hN2 := hN (Mo.okF he).1
    have hp12 : 2 ^ m.opts.length ≤ 2 ^ 12 := Nat.pow_le_pow_right (by omega) hN2
    have hp13 : 2 ^ m.opts.length ≤ 1000000 := Nat.le_trans hp12 (by decide)
    have HP := hide hp13
    have hval : validF m.opts.length f = true := (Mo.okF he).2 f (by simp)
    obtain ⟨K, hK⟩ : ∃ K, (bldM m f).1 = K := ⟨_, rfl⟩
    obtain ⟨r, hr⟩ : ∃ r, (bldM m f).2 = r := ⟨_, rfl⟩
    have hbl := fun (w1 : World) (hm1 : MoAt w1 w1.heap.size (.slice A m.opts.length cap) (.slice Ar m.rules.length capr) m) (hf1 : Ints w1 w1.heap.size (.slice Al f.length capl) f) => build_any m f (Mo.okF he).1 hval hN2 w1.heap.size m.opts.length [] [] (.slice A m.opts.length cap) (.slice Ar m.rules.length capr) (.slice Al f.length capl) (.slice none 0 0) (.slice none 0 0) w1 (by simp) hm1 hf1 (Sl.nil _ _ _ _) (fun j hj => absurd hj (by simp)) (World.ownsRow_nil _ _ _ _) (by simpa using hp13) (Nat.le_refl _)
    have e1 : (bldF (bldG m f) m.opts.length [] []).1 = K := hK
    have e2 : (bldF (bldG m f) m.opts.length [] []).2 = r := hr
    rw [e1, e2] at hbl
    have HBL := hide hbl
    have HK := hide hK
    have HR := hide hr
    clear he hN hp12 hp13 hval hK hr hbl e1 e2 hN2
    go_upto_region 4 with (go_at_call 27; refine HCK.out.mono ?_; rw [HE.out]; rintro e w1 ⟨rfl, hB1⟩; have hbx := box_to HX0.out hB1; have d0 := cellOf hbx 0; have d1 := cellOf hbx 1; have HB1 : Hid (Below w.heap.size w w1) := Below.to HB0.out hB1 (Nat.le_refl _); clear hbx hB1 c0 c1)
    by_cases h2000 : (2000 : Int) < (K.length : Int)
    · have hee := dig_many HE.out (by rw [HK.out]; omega)
      have HEE := hide hee
      clear hee
      go_wp2_with (go_at_call 80; refine (HBL.out _ (H.out.up HB1.out) (HF.out.up HB1.out)).mono ?_; rintro e w2 ⟨kv, rfl, hk2, hp2, _⟩; obtain ⟨A2, cap2, hA2, _, _⟩ := hk2.shape; subst hA2; have HB2 : Hid (Below w1.heap.size w1 w2) := hp2.below (Nat.le_refl _) (fun k hk => absurd (show (none : Option Nat) = some k from hk) (by simp)); clear hk2 hp2)
      go_ret3
      exact DigP.bad HEE.out (by omega) (Below.to HB1.out HB2.out (Nat.le_refl _))
    · have hok := dig_ok HE.out (by rw [HK.out]; omega)
      rw [HK.out, HR.out] at hok
      have HEE := hide hok
      clear hok
      go_wp2_with (go_at_call 80; refine (HBL.out _ (H.out.up HB1.out) (HF.out.up HB1.out)).mono ?_; rintro e w2 ⟨kv, rfl, hk2, hp2, _⟩; obtain ⟨A2, cap2, hA2, _, _⟩ := hk2.shape; subst hA2; have HK2 := hide hk2.kts; have HB2 : Hid (Below w1.heap.size w1 w2) := hp2.below (Nat.le_refl _) (fun k hk => absurd (show (none : Option Nat) = some k from hk) (by simp)); clear hk2 hp2)
      go_ret3
      exact DigP.of HEE.out HK2.out (Below.to HB1.out HB2.out (Nat.le_refl _))
  · have hee := dig_err he
    have hne : (m.errF [f] != 0) = true := by simpa using he
    obtain ⟨z, hz⟩ : ∃ z, m.errF [f] = z := ⟨_, rfl⟩
    rw [hz] at he hne hee
    have HZ := hide hz
    have HZ0 := hide he
    have HEE := hide hee
    clear he hz hN hee
    go_wp2_with (go_at_call 27; refine HCK.out.mono ?_; rw [HZ.out]; rintro e w1 ⟨rfl, hB1⟩)
    go_ret3
    exact DigP.bad HEE.out HZ0.out (Below.to HB0.out hB1 (Nat.le_refl _))
end Go.Proofs.Ytohofcmikfkilaa
/- The same knots: walk. -/
namespace Go.Proofs.Ytohofcmikfkilaa
open Go.RowKit
set_option linter.unusedVariables false
set_option linter.unusedSimpArgs false
set_option maxRecDepth 100000 in
set_option maxHeartbeats 4000000 in
theorem sameKnotsEq_any (K : List Kt) (u v : Value) (w : World) (ha : Kts w w.heap.size u K) (hb : Kts w w.heap.size v K) (hl : K.length ≤ 1000000) :
    Calls Try.prog 36 #[u, v] w fun e w' => e = .returned (.bool true) ∧ Below w.heap.size w w' := by
  obtain ⟨kk, hkk⟩ : ∃ x, K = x := ⟨_, rfl⟩
  subst hkk
  obtain ⟨KK, hKK⟩ : ∃ x, x = K := ⟨_, rfl⟩
  subst hKK
  obtain ⟨A, b0, off, cap, rfl, hnc, hA, hc⟩ := ha
  obtain ⟨A', b1, off1, cap1, rfl, hnc1, hA1, hc1⟩ := hb
  have HC := hide hc
  have HC1 := hide hc1
  have HA := hide hA
  have HA1 := hide hA1
  clear hc hc1 hA hA1 hnc hnc1
  go_enter Try.func36, Try.ntmps36
  go_wp2
  go_loopw [5] (fun i wr => ∃ k : Nat, k ≤ KK.length ∧ i = .int .i64 k ∧ Hid (Below w.heap.size w wr)) (fun i _ => KK.length - (intOf i).toNat)
  case atStart => exact ⟨0, Nat.zero_le _, rfl, Below.refl _ _⟩
  case round =>
    obtain ⟨k, hk, rfl, hB⟩ := hrel
    by_cases hlt : k < KK.length
    · obtain ⟨rfl, hbe, p0, p1, p2⟩ := kAt HA.out HC.out hlt
      obtain ⟨rfl, hbe1, r0, r1, r2⟩ := kAt HA1.out HC1.out hlt
      obtain ⟨kn, hkn⟩ : ∃ x, KK.getD k Kt.z = x := ⟨_, rfl⟩
      rw [hkn] at p0 p1 p2 r0 r1 r2
      have q0 := (hB.out.cell (p := ⟨b0, off + k * 3, none⟩) hbe).trans p0
      have q1 := (hB.out.cell (p := ⟨b0, off + k * 3 + 1, none⟩) hbe).trans p1
      have q2 := (hB.out.cell (p := ⟨b0, off + k * 3 + 2, none⟩) hbe).trans p2
      have s0 := (hB.out.cell (p := ⟨b1, off1 + k * 3, none⟩) hbe1).trans r0
      have s1 := (hB.out.cell (p := ⟨b1, off1 + k * 3 + 1, none⟩) hbe1).trans r1
      have s2 := (hB.out.cell (p := ⟨b1, off1 + k * 3 + 2, none⟩) hbe1).trans r2
      have hs1 : b0 < wr.heap.size := Nat.lt_of_lt_of_le hbe hB.out.size
      have hs2 : b1 < wr.heap.size := Nat.lt_of_lt_of_le hbe1 hB.out.size
      have gi0 : (k : Int) < (KK.length : Int) := by omega
      have gi1 : (0 : Int) ≤ (k : Int) := by omega
      have HBB := hide hB.out
      clear p0 p1 p2 r0 r1 r2 hkn hB
      go_wp2_with fail
      refine wp_region_held_drew (S := (fun w' => Below wr.heap.size wr w')) (by kernel_rfl) ?_ (fun hHeld => ?_)
      · try dsimp only
        exact (by repeat (first | exact Below.refl _ _ | assumption | refine Below.drew ?_ | refine Below.drewN ?_ _ | refine Below.allocT ?_ (Nat.le_refl _) _ | refine Below.setCell ?_ (by simp <;> omega) _ | refine Below.to ?_ (by assumption) (Nat.le_refl _)))
      refine wpAnyH_take (i := 0) (v := ?v43_0) rfl (by kernel_rfl) (by kernel_rfl) (by kernel_rfl) (fun _ _ _ h => h) (Or.inl ⟨by rfl, ?y43_0⟩) (by assumption) ?r43_0
      case' y43_0 => (intro w hSw; (try dsimp only at hSw); (try have hlS := HLK.out _ hSw); obtain ⟨hcS, hfS⟩ := bcell hSw; clear hSw; go_simp; try with_reducible rfl)
      try simp only [Act.put, List.getElem_toArray, List.getElem_cons_succ, List.getElem_cons_zero, List.setIfInBounds_toArray, List.set_cons_zero, List.set_cons_succ]
      refine wpAnyH_take (i := 1) (v := ?v43_1) rfl (by kernel_rfl) (by kernel_rfl) (by kernel_rfl) (fun _ _ _ h => h) (Or.inl ⟨by rfl, ?y43_1⟩) (by assumption) ?r43_1
      case' y43_1 => (intro w hSw; (try dsimp only at hSw); (try have hlS := HLK.out _ hSw); obtain ⟨hcS, hfS⟩ := bcell hSw; clear hSw; go_simp; try with_reducible rfl)
      try simp only [Act.put, List.getElem_toArray, List.getElem_cons_succ, List.getElem_cons_zero, List.setIfInBounds_toArray, List.set_cons_zero, List.set_cons_succ]
      refine wpAnyH_take (i := 2) (v := ?v43_2) rfl (by kernel_rfl) (by kernel_rfl) (by kernel_rfl) (fun _ _ _ h => h) (Or.inl ⟨by rfl, ?y43_2⟩) (by assumption) ?r43_2
      case' y43_2 => (intro w hSw; (try dsimp only at hSw); (try have hlS := HLK.out _ hSw); obtain ⟨hcS, hfS⟩ := bcell hSw; clear hSw; go_simp; try with_reducible rfl)
      try simp only [Act.put, List.getElem_toArray, List.getElem_cons_succ, List.getElem_cons_zero, List.setIfInBounds_toArray, List.set_cons_zero, List.set_cons_succ]
      refine wpAnyH_take (i := 3) (v := ?v43_3) rfl (by kernel_rfl) (by kernel_rfl) (by kernel_rfl) (fun _ _ _ h => h) (Or.inl ⟨by rfl, ?y43_3⟩) (by assumption) ?r43_3
      case' y43_3 => (intro w hSw; (try dsimp only at hSw); (try have hlS := HLK.out _ hSw); obtain ⟨hcS, hfS⟩ := bcell hSw; clear hSw; go_simp; try with_reducible rfl)
      try simp only [Act.put, List.getElem_toArray, List.getElem_cons_succ, List.getElem_cons_zero, List.setIfInBounds_toArray, List.set_cons_zero, List.set_cons_succ]
      refine wpAnyH_take (i := 4) (v := ?v43_4) rfl (by kernel_rfl) (by kernel_rfl) (by kernel_rfl) (fun _ _ _ h => h) (Or.inl ⟨by rfl, ?y43_4⟩) (by assumption) ?r43_4
      case' y43_4 => (intro w hSw; (try dsimp only at hSw); (try have hlS := HLK.out _ hSw); obtain ⟨hcS, hfS⟩ := bcell hSw; clear hSw; go_simp; try with_reducible rfl)
      try simp only [Act.put, List.getElem_toArray, List.getElem_cons_succ, List.getElem_cons_zero, List.setIfInBounds_toArray, List.set_cons_zero, List.set_cons_succ]
      refine wpAnyH_take (i := 5) (v := ?v43_5) rfl (by kernel_rfl) (by kernel_rfl) (by kernel_rfl) (fun _ _ _ h => h) (Or.inl ⟨by rfl, ?y43_5⟩) (by assumption) ?r43_5
      case' y43_5 => (intro w hSw; (try dsimp only at hSw); (try have hlS := HLK.out _ hSw); obtain ⟨hcS, hfS⟩ := bcell hSw; clear hSw; go_simp; try with_reducible rfl)
      try simp only [Act.put, List.getElem_toArray, List.getElem_cons_succ, List.getElem_cons_zero, List.setIfInBounds_toArray, List.set_cons_zero, List.set_cons_succ]
      refine wpAnyH_take (i := 6) (v := ?v43_6) rfl (by kernel_rfl) (by kernel_rfl) (by kernel_rfl) (fun _ _ _ h => h) (Or.inl ⟨by rfl, ?y43_6⟩) (by assumption) ?r43_6
      case' y43_6 => (intro w hSw; (try dsimp only at hSw); (try have hlS := HLK.out _ hSw); obtain ⟨hcS, hfS⟩ := bcell hSw; clear hSw; go_simp; try with_reducible rfl)
      try simp only [Act.put, List.getElem_toArray, List.getElem_cons_succ, List.getElem_cons_zero, List.setIfInBounds_toArray, List.set_cons_zero, List.set_cons_succ]
      refine wpAnyH_take (i := 7) (v := ?v43_7) rfl (by kernel_rfl) (by kernel_rfl) (by kernel_rfl) (fun _ _ _ h => h) (Or.inl ⟨by rfl, ?y43_7⟩) (by assumption) ?r43_7
      case' y43_7 => (intro w hSw; (try dsimp only at hSw); (try have hlS := HLK.out _ hSw); obtain ⟨hcS, hfS⟩ := bcell hSw; clear hSw; go_simp; try with_reducible rfl)
      try simp only [Act.put, List.getElem_toArray, List.getElem_cons_succ, List.getElem_cons_zero, List.setIfInBounds_toArray, List.set_cons_zero, List.set_cons_succ]
      refine wpAnyH_take (i := 8) (v := ?v43_8) rfl (by kernel_rfl) (by kernel_rfl) (by kernel_rfl) (fun _ _ _ h => h) (Or.inl ⟨by rfl, ?y43_8⟩) (by assumption) ?r43_8
      case' y43_8 => (intro w hSw; (try dsimp only at hSw); (try have hlS := HLK.out _ hSw); obtain ⟨hcS, hfS⟩ := bcell hSw; clear hSw; go_simp; try with_reducible rfl)
      try simp only [Act.put, List.getElem_toArray, List.getElem_cons_succ, List.getElem_cons_zero, List.setIfInBounds_toArray, List.set_cons_zero, List.set_cons_succ]
      refine wpAnyH_done (by kernel_rfl) ?_ _
      go_wp2_with fail
      go_roundw
      case rel => exact ⟨k + 1, by omega, by go_num, Below.to HBB.out hHeld (Nat.le_refl _)⟩
      case measure => simp [intOf]; omega
    · obtain rfl : k = KK.length := by omega
      have gi0 : ¬ (KK.length : Int) < (KK.length : Int) := by omega
      go_wp2_with fail
      go_ret
      exact ⟨rfl, hB.out⟩
end Go.Proofs.Ytohofcmikfkilaa

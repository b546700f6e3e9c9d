/- Part 24 of this claim's texts: walks and plain laws. -/
import Derived.Test.YtmabfnddedffoaaRows
import Derived.Test.YtmabfnddedffoaaGLC23
import Derived.Test.YtmabfnddedffoaaGLC18
import Derived.OwnWalk
import Derived.Deep.DeepMust
import Derived.Deep.RegionHeld3
import Derived.Deep.DrawnRows
import Derived.Test.YtmabfnddedffoaaGLC12
/- The value of a formula as the elder program has it: walk. -/
namespace Go.Proofs.Ytmabfnddedffoaa
open Go.RowKit
set_option linter.unusedVariables false
set_option linter.unusedSimpArgs false
/-- What eval tells of the term at place p. -/
def EvR (N : Nat) (v : Nat → Bool) (f : List Int) (p c : Nat) (x : Bool) (q : Nat) : Prop :=
  p < q ∧ q ≤ f.length ∧ vld N c (f.drop q) = true ∧ evS v (f.drop p) = x :: evS v (f.drop q)
theorem vld_ne {N c p : Nat} {f : List Int} (h : vld N (c + 1) (f.drop p) = true) : p < f.length := by
  rcases Nat.lt_or_ge p f.length with h1 | h1
  · exact h1
  · rw [List.drop_eq_nil_of_le h1] at h
    simp [vld] at h
theorem EvR.leaf {N c p : Nat} {v : Nat → Bool} {f : List Int} {o : Int} {x : Bool} (hd : f.drop p = o :: f.drop (p + 1)) (h : vld N (c + 1) (f.drop p) = true) (ha : arO o = 0) (hs : ∀ S, stp v o S = x :: S) : EvR N v f p c x (p + 1) := by
  have hp := vld_ne h
  rw [hd] at h
  simp only [vld, Bool.and_eq_true, ha, Nat.add_zero] at h
  refine ⟨by omega, by omega, h.2, ?_⟩
  rw [hd, evS_cons, hs]
theorem EvR.one {N c p q : Nat} {v : Nat → Bool} {f : List Int} {x : Bool} (hd : f.drop p = -3 :: f.drop (p + 1)) (h : EvR N v f (p + 1) c x q) : EvR N v f p c (!x) q := by
  obtain ⟨h1, h2, h3, h4⟩ := h
  refine ⟨by omega, h2, h3, ?_⟩
  rw [hd, evS_cons, h4]
  rfl
theorem EvR.two {N c p q r : Nat} {v : Nat → Bool} {f : List Int} {x y z : Bool} {o : Int} (hd : f.drop p = o :: f.drop (p + 1)) (h : EvR N v f (p + 1) (c + 1) x q) (k : EvR N v f q c y r) (hs : ∀ S, stp v o (x :: y :: S) = z :: S) : EvR N v f p c z r := by
  obtain ⟨h1, h2, h3, h4⟩ := h
  obtain ⟨k1, k2, k3, k4⟩ := k
  refine ⟨by omega, k2, k3, ?_⟩
  rw [hd, evS_cons, h4, k4, hs]
theorem vld_next {N c p : Nat} {f : List Int} {o : Int} (hd : f.drop p = o :: f.drop (p + 1)) (h : vld N (c + 1) (f.drop p) = true) : vld N (c + arO o) (f.drop (p + 1)) = true ∧ -6 ≤ o ∧ o < N := by
  rw [hd] at h
  simp only [vld, Bool.and_eq_true, decide_eq_true_eq] at h
  exact ⟨h.2, h.1.1, h.1.2⟩
def EvP (N : Nat) (v : Nat → Bool) (f : List Int) (p c : Nat) (w : World) (e : Ending) (W : World) : Prop := ∃ (x : Bool) (q : Nat), e = .returned (.tuple #[.bool x, .int .i64 (q : Nat)]) ∧ EvR N v f p c x q ∧ w = W
set_option maxRecDepth 100000 in
set_option maxHeartbeats 4000000 in
theorem eval_any (f : List Int) (N : Nat) (vs : List Bool) (fv vv : Value) (B : Nat) (w : World) (hm : f.length ≤ 1000) (hf : Ints w B fv f) (hv : Bols w B vv vs) (hN : vs.length = N) :
    ∀ (n p c : Nat), f.length - p ≤ n → vld N (c + 1) (f.drop p) = true → Calls Try.prog 154 #[fv, .int .i64 p, vv] w (EvP N (vf vs) f p c w) := by
  obtain ⟨A, b, off, cap, rfl, hnc, hA, hc⟩ := hf
  obtain ⟨Av, bv, offv, capv, rfl, hncv, hAv, hcv⟩ := hv
  have HC := hide hc
  have HA := hide hA
  have HCV := hide hcv
  have HAV := hide hAv
  have HN := hide hN
  clear hc hA hcv hAv hN
  intro n
  induction n with
  | zero =>
    intro p c h1 h2
    have := vld_ne h2
    omega
  | succ n ih =>
    intro p c hn hvl
    have hp := vld_ne hvl
    obtain ⟨rfl, hb⟩ : A = some ⟨b, off, none⟩ ∧ b < B := by
      rcases HA.out with h | h
      · exact h
      · omega
    obtain ⟨o, ho⟩ : ∃ o, f.getD p 0 = o := ⟨_, rfl⟩
    have c0 : w.cell? ⟨b, off + p, none⟩ = some (.int .i64 o) := by
      have h1 := HC.out p 0 hp (by omega)
      rw [Nat.mul_one, Nat.add_zero] at h1
      rw [← ho]; exact h1
    have hd : f.drop p = o :: f.drop (p + 1) := by rw [drop_getD hp, ho]
    obtain ⟨hnx, hlo, hhi⟩ := vld_next hd hvl
    have i0 : (0 : Int) ≤ (p : Int) := by omega
    have i1 : (p : Int) < (f.length : Int) := by omega
    have HD := hide hd
    have HVL := hide hvl
    have HNX := hide hnx
    have IH := hide ih
    clear hd hvl hnx ih ho
    by_cases h0 : 0 ≤ o
    · obtain ⟨t, rfl⟩ := Int.eq_ofNat_of_zero_le h0
      have ht : t < vs.length := by have := HN.out; omega
      obtain ⟨rfl, hbv⟩ : Av = some ⟨bv, offv, none⟩ ∧ bv < B := by
        rcases HAV.out with h | h
        · exact h
        · omega
      obtain ⟨x, hx⟩ : ∃ x, vs.getD t false = x := ⟨_, rfl⟩
      have c1 : w.cell? ⟨bv, offv + t, none⟩ = some (.bool x) := by
        have h1 := HCV.out t 0 ht (by omega)
        rw [Nat.mul_one, Nat.add_zero] at h1
        rw [← hx]; exact h1
      have d0 : decide ((0 : Int) ≤ (t : Int)) = true := by simp
      have j1 : (t : Int) < (vs.length : Int) := by omega
      have HR : Hid (EvR N (vf vs) f p c x (p + 1)) := EvR.leaf HD.out HVL.out (by unfold arO; (repeat' split) <;> omega) (fun S => by
        unfold stp
        rw [if_neg (by omega), if_neg (by omega), if_neg (by omega), if_neg (by omega), if_neg (by omega), if_neg (by omega), Int.toNat_natCast, ← hx]; rfl)
      clear hx
      go_enter Try.func154, Try.ntmps154
      go_wp2_with fail
      go_ret2
      exact ⟨x, p + 1, rfl, HR.out, rfl⟩
    have d0 : decide (0 ≤ o) = false := by simp; omega
    by_cases h1 : o = -1
    · subst h1
      have HR : Hid (EvR N (vf vs) f p c true (p + 1)) := EvR.leaf HD.out HVL.out rfl (fun S => rfl)
      go_enter Try.func154, Try.ntmps154
      go_wp2_with fail
      go_ret2
      exact ⟨true, p + 1, rfl, HR.out, rfl⟩
    by_cases h2 : o = -2
    · subst h2
      have HR : Hid (EvR N (vf vs) f p c false (p + 1)) := EvR.leaf HD.out HVL.out rfl (fun S => rfl)
      go_enter Try.func154, Try.ntmps154
      go_wp2_with fail
      go_ret2
      exact ⟨false, p + 1, rfl, HR.out, rfl⟩
    by_cases h3 : o = -3
    · subst h3
      have hih := IH.out (p + 1) c (by omega) HNX.out
      have HIH := hide hih
      clear hih
      go_enter Try.func154, Try.ntmps154
      go_wp2_with (go_at_call 154; refine HIH.out.mono ?_; rintro e w1 ⟨x, q, rfl, hr, rfl⟩; have HR := hide hr; clear hr)
      go_ret2
      exact ⟨!x, q, rfl, EvR.one HD.out HR.out, rfl⟩
    have ha : arO o = 2 := by unfold arO; (repeat' split) <;> omega
    have hih := IH.out (p + 1) (c + 1) (by omega) (by have := HNX.out; rw [ha] at this; exact this)
    have HIH := hide hih
    have e1 : (o == -1) = false := by simpa using h1
    have e2 : (o == -2) = false := by simpa using h2
    have e3 : (o == -3) = false := by simpa using h3
    clear hih ha
    go_enter Try.func154, Try.ntmps154
    go_upto_region 9 with (go_at_call 154; refine HIH.out.mono ?_; rintro e w1 ⟨x, q, rfl, hr, rfl⟩; have HR := hide hr; clear hr)
    have hih := IH.out q c (by have := HR.out.1; omega) HR.out.2.2.1
    have HIH2 := hide hih
    clear hih
    go_upto_region 10 with (go_at_call 154; refine HIH2.out.mono ?_; rintro e w1 ⟨y, r, rfl, hr2, rfl⟩; have HR2 := hide hr2; clear hr2)
    rcases (by omega : o = -4 ∨ o = -5 ∨ o = -6) with rfl | rfl | rfl
    · have HT : Hid (EvR N (vf vs) f p c (x && y) r) := EvR.two HD.out HR.out HR2.out (fun S => rfl)
      cases x
      · go_wp2_with fail
        go_ret2
        exact ⟨_, r, rfl, HT.out, rfl⟩
      · go_wp2_with fail
        go_ret2
        exact ⟨_, r, rfl, HT.out, rfl⟩
    · have HT : Hid (EvR N (vf vs) f p c (x || y) r) := EvR.two HD.out HR.out HR2.out (fun S => rfl)
      cases x
      · go_wp2_with fail
        go_ret2
        exact ⟨_, r, rfl, HT.out, rfl⟩
      · go_wp2_with fail
        go_ret2
        exact ⟨_, r, rfl, HT.out, rfl⟩
    · have HT : Hid (EvR N (vf vs) f p c (x == y) r) := EvR.two HD.out HR.out HR2.out (fun S => rfl)
      go_wp2_with fail
      go_ret2
      exact ⟨_, r, rfl, HT.out, rfl⟩
theorem evF1_of {N q c : Nat} {v : Nat → Bool} {f : List Int} {x : Bool} (h : EvR N v f 0 c x q) : x = evF1 v f := by
  have h4 := h.2.2.2
  rw [List.drop_zero] at h4
  unfold evF1
  rw [h4]; rfl
end Go.Proofs.Ytmabfnddedffoaa
/- A formula's value as the elder program has it: walk. -/
namespace Go.Proofs.Ytmabfnddedffoaa
open Go.RowKit
set_option linter.unusedVariables false
set_option linter.unusedSimpArgs false
set_option maxRecDepth 100000 in
set_option maxHeartbeats 2000000 in
theorem True_any (f : List Int) (N : Nat) (vs : List Bool) (fv vv : Value) (B : Nat) (w : World) (hf : Ints w B fv f) (hv : Bols w B vv vs) (hN : vs.length = N) (hok : validF N f = true) :
    Calls Try.prog 127 #[fv, vv] w fun e W => e = .returned (.bool (evF1 (vf vs) f)) ∧ w = W := by
  unfold validF at hok
  simp only [Bool.and_eq_true, decide_eq_true_eq] at hok
  obtain ⟨A, cap, hfv⟩ := Sl.form hf
  obtain ⟨Av, capv, hvv⟩ := Sl.form hv
  have he := eval_any f N vs fv vv B w (by omega) hf hv hN f.length 0 0 (by omega) (by rw [List.drop_zero]; exact hok.1)
  have he2 : Calls Try.prog 154 #[fv, .int .i64 0, vv] w fun e W => ∃ (x : Option Bool) (q : Nat), e = .returned (.tuple #[.bool (evF1 (vf vs) f), .int .i64 (q : Nat)]) ∧ w = W :=
    he.mono fun e W hh => by
      obtain ⟨x, q, h1, h2, h3⟩ := hh
      exact ⟨none, q, by rw [h1, evF1_of h2], h3⟩
  have HE := hide he2
  subst hfv hvv
  clear he he2 hf hv hok hN
  go_enter Try.func127, Try.ntmps127
  go_wp2_with (go_at_call 154; refine HE.out.mono ?_; rintro e w1 ⟨_, q, rfl, rfl⟩)
  go_ret
  exact ⟨rfl, rfl⟩
end Go.Proofs.Ytmabfnddedffoaa
/- Holds and Buildable as the elder program has them: walks. -/
namespace Go.Proofs.Ytmabfnddedffoaa
open Go.RowKit
set_option linter.unusedVariables false
set_option linter.unusedSimpArgs false
/-- What Holds returns. -/
def holE (m : Mo) (f : List Int) (vs : List Bool) : Int := if m.errF [f] ≠ 0 then m.errF [f] else if vs.length ≠ m.opts.length then 1 else 0
def holB (m : Mo) (f : List Int) (vs : List Bool) : Bool := if holE m f vs = 0 then evF1 (vf vs) f else false
/-- The first rule that does not hold. -/
def fstR (vs : List Bool) (rules : List (List Int)) : Int := idxI (fun f => !evF1 (vf vs) f) rules
set_option maxRecDepth 100000 in
set_option maxHeartbeats 4000000 in
theorem rfirst_any (m : Mo) (vs : List Bool) (ov rv vv : Value) (w : World) (h : MoAt w w.heap.size ov rv m) (hv : Bols w w.heap.size vv vs) (he : m.err = 0) (hn : vs.length = m.opts.length) :
    Calls Try.prog 125 #[.agg #[ov, rv], vv] w fun e w' => e = .returned (.int .i64 (fstR vs m.rules)) ∧ Below w.heap.size w w' := by
  obtain ⟨A, cap, hov⟩ := Sl.form h.o
  obtain ⟨Av, capv, hvv⟩ := Sl.form hv
  have hok := (Mo.ok he).2.2.2
  have h60 := (Mo.ok he).2.1
  obtain ⟨fvs, ⟨Al, bl, offl, capl, rfl, hncl, hAl, hcl⟩, hfi⟩ := h.r
  have HAL := hide hAl
  have HCL := hide hcl
  have HFI := hide hfi
  have HV := hide hv
  have HOK := hide hok
  have HN := hide hn
  subst hov hvv
  clear h hv he hn hok hAl hcl hfi
  go_enter Try.func125, Try.ntmps125
  go_upto_region 1 with (fail)
  generalize hw0 : World.alloc _ _ = w0
  obtain ⟨hb0, hB0, hs0⟩ := alloc1 hw0
  clear hw0
  have HX0 : Hid (MoBox w0 w.heap.size (.slice A m.opts.length cap) (.slice Al m.rules.length capl)) := hb0
  have HB0 := hide hB0
  have c0 := cellOf hb0 0
  have c1 := cellOf hb0 1
  have hlt0 := box_lt hb0
  clear hb0 hB0 hs0
  go_wp2_with fail
  go_loop [5] (fun i => ∃ t : Nat, t ≤ m.rules.length ∧ i = .int .i64 t ∧ Hid (∀ j, j < t → (fun f => !evF1 (vf vs) f) (m.rules.getD j []) = false)) (fun i => m.rules.length - (intOf i).toNat)
  case atStart => exact ⟨0, Nat.zero_le _, rfl, fun j hj => by omega⟩
  case round =>
    obtain ⟨t, ht, rfl, hall⟩ := hrel
    by_cases htl : t < m.rules.length
    · obtain ⟨rfl, hbb⟩ : Al = some ⟨bl, offl, none⟩ ∧ bl < w.heap.size := by
        rcases HAL.out with h | h
        · exact h
        · omega
      obtain ⟨f, hfe⟩ : ∃ f, m.rules.getD t [] = f := ⟨_, rfl⟩
      have hfm : f ∈ m.rules := by rw [← hfe]; exact getD_mem htl
      have hin : Ints w w.heap.size (fvs t) f := by have := HFI.out t htl; rwa [hfe] at this
      obtain ⟨Af, capf, hff⟩ := Sl.form hin
      have q0 : w0.cell? ⟨bl, offl + t, none⟩ = some (.slice Af f.length capf) := by
        have h1 := HCL.out t 0 htl (by omega)
        rw [Nat.mul_one, Nat.add_zero, hff] at h1
        exact (HB0.out.cell (p := ⟨bl, offl + t, none⟩) hbb).trans h1
      have lb : bl < w0.heap.size := Nat.lt_of_lt_of_le hbb HB0.out.size
      rw [hff] at hin
      have htr := True_any f m.opts.length vs (.slice Af f.length capf) (.slice Av vs.length capv) w.heap.size w0 (hin.below HB0.out) (Sl.below HV.out HB0.out) HN.out (HOK.out f hfm)
      have it0 : (0 : Int) ≤ (t : Int) := by omega
      have it2 : (t : Int) < (m.rules.length : Int) := by omega
      have HFE := hide hfe
      cases hx : evF1 (vf vs) f with
      | true =>
        rw [hx] at htr
        have HTR := hide htr
        have HX := hide hx
        clear hfm hin hff htr hx hfe
        go_wp2_with (go_at_call 127; refine HTR.out.mono ?_; rintro e w2 ⟨rfl, rfl⟩)
        go_round
        case rel => exact ⟨t + 1, by omega, by go_num, fun j hj => by
            rcases Nat.lt_or_ge j t with h | h
            · exact hall.out j h
            · rw [show j = t from by omega, HFE.out]; simp only [HX.out]; rfl⟩
        case measure => simp [intOf]; omega
      | false =>
        rw [hx] at htr
        have HTR := hide htr
        have hid : fstR vs m.rules = t := idxI_at _ [] m.rules t hall.out htl (by rw [hfe]; simp only [hx]; rfl)
        have HID := hide hid
        clear hfm hin hff htr hx hfe hid
        go_wp2_with (go_at_call 127; refine HTR.out.mono ?_; rintro e w2 ⟨rfl, rfl⟩)
        go_ret
        exact ⟨ret_int HID.out.symm, HB0.out⟩
    · have hid : fstR vs m.rules = -1 := idxI_none _ [] m.rules (fun j hj => hall.out j (by omega))
      have HID := hide hid
      clear hid
      go_wp2_with fail
      go_ret
      exact ⟨ret_int HID.out.symm, HB0.out⟩
end Go.Proofs.Ytmabfnddedffoaa
/- Buildable as the elder program has it: walk. -/
namespace Go.Proofs.Ytmabfnddedffoaa
open Go.RowKit
set_option linter.unusedVariables false
set_option linter.unusedSimpArgs false
/-- What Buildable returns. -/
def buiE (m : Mo) (vs : List Bool) : Int := if m.err ≠ 0 then m.err else if vs.length ≠ m.opts.length then 1 else 0
def buiR (m : Mo) (vs : List Bool) : Int := if buiE m vs = 0 then fstR vs m.rules else 0
def buiB (m : Mo) (vs : List Bool) : Bool := if buiE m vs = 0 then decide (fstR vs m.rules < 0) else false
end Go.Proofs.Ytmabfnddedffoaa
/- A stack of Bools. -/
namespace Go.Proofs.Ytmabfnddedffoaa
open Go.RowKit
set_option linter.unusedVariables false
set_option linter.unusedSimpArgs false
/-- The slice is a stack of its own above block B. -/
def BStk (B : Nat) (w : World) (sv : Value) (S : List Bool) : Prop := w.ownsRow B 4 1 sv S.length (S.map Value.bool)
theorem BStk.below {B : Nat} {w w' : World} {sv : Value} {S : List Bool} (h : BStk B w sv S) (hb : Below w.heap.size w w') : BStk B w' sv S := owns_below h hb
theorem BStk.shape {B : Nat} {w : World} {sv : Value} {S : List Bool} (h : BStk B w sv S) : ∃ A cap, sv = .slice A S.length cap ∧ S.length ≤ cap ∧ cap ≤ maxLen := by
  rcases h.2 with ⟨h1, h2⟩ | ⟨g, cap, cur, h1, _, _, h2, h3, _⟩
  · exact ⟨none, 0, by rw [h1, h2], by omega, by unfold maxLen; omega⟩
  · exact ⟨_, cap, h1, h2, h3⟩
theorem BStk.cells {B : Nat} {w : World} {A : Option Addr} {n cap : Nat} {S : List Bool} (h : BStk B w (.slice A n cap) S) (hn : 0 < S.length) : ∃ g, A = some ⟨g, 0, none⟩ ∧ g < w.heap.size ∧ ∀ i, i < S.length → w.cell? ⟨g, i, none⟩ = some (.bool (S.getD i false)) := by
  obtain ⟨g, cap', hv, _, hl⟩ := World.ownsRow.form h hn
  injection hv with h1 h2 h3
  subst h1
  refine ⟨g, rfl, hl, fun i hi => ?_⟩
  have := World.ownsRow.cells (g := g) h rfl i (.bool (S.getD i false)) (by simp [hi])
  have he : (⟨g, 0, none⟩ : Addr).add i = ⟨g, i, none⟩ := by
    unfold Addr.add
    split
    · rename_i h0; rw [h0]
    · rw [Nat.zero_add]
  rwa [he] at this
theorem BStk.cut {B : Nat} {w : World} {A : Option Addr} {n cap : Nat} {S : List Bool} (h : BStk B w (.slice A n cap) S) {r : Nat} (hr : r ≤ S.length) : w.ownsRow B 4 1 (.slice A r cap) r ((S.take r).map Value.bool) := by
  obtain ⟨h1, ⟨h2, h3⟩ | ⟨g, cap', cur, h2, h3, h4, h5, h6, h7, h8⟩⟩ := h
  · injection h2 with e1 e2 e3
    subst e1 e3
    obtain rfl : r = 0 := by omega
    exact ⟨by simp, .inl ⟨rfl, rfl⟩⟩
  · injection h2 with e1 e2 e3
    subst e1 e3
    refine ⟨by simp; omega, .inr ⟨g, cap, cur, rfl, h3, h4, by omega, h6, h7, ?_⟩⟩
    rw [List.map_take, ← h8, List.take_take, Nat.mul_one, Nat.mul_one, Nat.min_eq_left hr]
end Go.Proofs.Ytmabfnddedffoaa
/- Whether a formula holds: walk. -/
namespace Go.Proofs.Ytmabfnddedffoaa
open Go.RowKit
set_option linter.unusedVariables false
set_option linter.unusedSimpArgs false
def BopP (v : Nat → Bool) (o : Int) (S : List Bool) (w : World) (x : Value) (wx : World) : Prop := ∃ y : Bool, x = .bool y ∧ Below w.heap.size w wx ∧ stp v o S.reverse = y :: S.reverse.drop (arO o)
end Go.Proofs.Ytmabfnddedffoaa
/- Holds: walk. -/
namespace Go.Proofs.Ytmabfnddedffoaa
open Go.RowKit
set_option linter.unusedVariables false
set_option linter.unusedSimpArgs false
end Go.Proofs.Ytmabfnddedffoaa
/- Buildable: walk. -/
namespace Go.Proofs.Ytmabfnddedffoaa
open Go.RowKit
set_option linter.unusedVariables false
set_option linter.unusedSimpArgs false
end Go.Proofs.Ytmabfnddedffoaa
/- The variants of a model in order, by number. Plain laws. -/
namespace Go.Proofs.Ytmabfnddedffoaa
set_option linter.unusedVariables false
/-- The variant with a number. -/
def bitsN : Nat → Nat → List Bool
  | 0, _ => []
  | k + 1, n => decide (n / 2 ^ k % 2 = 1) :: bitsN k n
theorem bitsN_len : ∀ k n, (bitsN k n).length = k
  | 0, _ => rfl
  | k + 1, n => by simp [bitsN, bitsN_len k n]
theorem bitsN_get : ∀ (k n i : Nat), i < k → (bitsN k n).getD i false = decide (n / 2 ^ (k - 1 - i) % 2 = 1)
  | k + 1, n, 0, _ => by simp [bitsN]
  | k + 1, n, i + 1, h => by
    have := bitsN_get k n i (by omega)
    rw [show k + 1 - 1 - (i + 1) = k - 1 - i by omega, ← this]
    simp [bitsN]
theorem bitsN_add : ∀ (k K n : Nat), k ≤ K → bitsN k (2 ^ K + n) = bitsN k n
  | 0, K, n, _ => rfl
  | k + 1, K, n, h => by
    have ih := bitsN_add k K n (by omega)
    have e : (2 ^ K + n) / 2 ^ k % 2 = n / 2 ^ k % 2 := by
      obtain ⟨d, rfl⟩ : ∃ d, K = k + (d + 1) := ⟨K - k - 1, by omega⟩
      rw [Nat.pow_add, Nat.pow_succ, show 2 ^ k * (2 ^ d * 2) + n = n + 2 ^ k * (2 ^ d * 2) by omega, Nat.add_mul_div_left _ _ (Nat.two_pow_pos k)]
      omega
    simp only [bitsN, ih, e]
theorem exts_bits : ∀ k, exts k [] = (List.range (2 ^ k)).map (bitsN k)
  | 0 => rfl
  | k + 1 => by
    have h1 : exts (k + 1) [] = exts k [false] ++ exts k [true] := rfl
    rw [h1, exts_nil k [false], exts_nil k [true], exts_bits k, show 2 ^ (k + 1) = 2 ^ k + 2 ^ k by omega, List.range_add, List.map_append, List.map_map, List.map_map, List.map_map]
    congr 1
    · refine List.map_congr_left fun n hn => ?_
      rw [List.mem_range] at hn
      show [false] ++ bitsN k n = bitsN (k + 1) n
      simp [bitsN, Nat.div_eq_of_lt hn]
    · refine List.map_congr_left fun n hn => ?_
      rw [List.mem_range] at hn
      show [true] ++ bitsN k n = bitsN (k + 1) (2 ^ k + n)
      have e : (2 ^ k + n) / 2 ^ k = 1 := by
        rw [Nat.add_div_left _ (Nat.two_pow_pos k), Nat.div_eq_of_lt hn]
      simp [bitsN, e, bitsN_add k k n (Nat.le_refl _)]
/-- The buildable ones of the first n variants. -/
def varsN (m : Mo) (n : Nat) : List (List Bool) := ((List.range n).map (bitsN m.opts.length)).filter fun x => allF (vf x) m.rules
theorem varsN_yes {m : Mo} {n : Nat} (h : allF (vf (bitsN m.opts.length n)) m.rules = true) : varsN m (n + 1) = varsN m n ++ [bitsN m.opts.length n] := by
  simp [varsN, List.range_succ, List.filter_append, h]
theorem varsN_no {m : Mo} {n : Nat} (h : allF (vf (bitsN m.opts.length n)) m.rules = false) : varsN m (n + 1) = varsN m n := by
  simp [varsN, List.range_succ, List.filter_append, h]
/-- The buildable variants. -/
def allM (m : Mo) : List (List Bool) := (exts m.opts.length []).filter fun x => allF (vf x) m.rules
theorem varsN_all (m : Mo) : varsN m (2 ^ m.opts.length) = allM m := by
  unfold varsN allM
  rw [exts_bits]
theorem varsN_le (m : Mo) (n : Nat) : (varsN m n).length ≤ n := by
  unfold varsN
  refine Nat.le_trans (List.length_filter_le _ _) ?_
  simp
theorem allM_le (m : Mo) : (allM m).length ≤ 2 ^ m.opts.length := by
  rw [← varsN_all]; exact varsN_le _ _
theorem allM_len {m : Mo} {x : List Bool} (h : x ∈ allM m) : x.length = m.opts.length := by
  unfold allM at h
  rw [List.mem_filter] at h
  have := exts_len _ _ _ h.1
  simpa using this
theorem satM_all (m : Mo) (p : (Nat → Bool) → Bool) : satM m p = (allM m).filter fun x => p (vf x) := by
  unfold satM allM
  rw [List.filter_filter]
  exact List.filter_congr fun x _ => by rw [Bool.and_comm]
theorem satM_true (m : Mo) : satM m (fun _ => true) = allM m := by
  unfold satM allM
  exact List.filter_congr fun x _ => by simp
/-- Those of some variants in which a formula holds. -/
def whereF (l : List (List Bool)) (f : List Int) : List (List Bool) := l.filter fun x => evF1 (vf x) f
theorem whereF_yes {l : List (List Bool)} {f : List Int} {k : Nat} (hk : k < l.length) (h : evF1 (vf (l.getD k [])) f = true) : whereF (l.take (k + 1)) f = whereF (l.take k) f ++ [l.getD k []] := by
  rw [take_getD (z := []) hk]
  generalize l.getD k [] = x at h ⊢
  simp [whereF, List.filter_append, h]
theorem whereF_no {l : List (List Bool)} {f : List Int} {k : Nat} (hk : k < l.length) (h : evF1 (vf (l.getD k [])) f = false) : whereF (l.take (k + 1)) f = whereF (l.take k) f := by
  rw [take_getD (z := []) hk]
  generalize l.getD k [] = x at h ⊢
  simp [whereF, List.filter_append, h]
theorem whereF_le (l : List (List Bool)) (f : List Int) : (whereF l f).length ≤ l.length := List.length_filter_le _ _
theorem whereF_mem {l : List (List Bool)} {f : List Int} {x : List Bool} (h : x ∈ whereF l f) : x ∈ l := (List.mem_filter.1 h).1
end Go.Proofs.Ytmabfnddedffoaa
/- Lists of rows in memory, and a list of rows that is being made. -/
namespace Go.Proofs.Ytmabfnddedffoaa
open Go.RowKit
set_option linter.unusedVariables false
set_option linter.unusedSimpArgs false
section
variable {α : Type} (enc : α → Value) (z : α)
/-- The slice v holds the list l, below block B. -/
def GRow (w : World) (B : Nat) (v : Value) (l : List α) : Prop := Sl w B 1 v l.length (fun j _ => enc (l.getD j z))
/-- The slice v holds rows, below block B. -/
def GRows (w : World) (B : Nat) (v : Value) (L : List (List α)) : Prop := ∃ fv : Nat → Value, Sl w B 1 v L.length (fun i _ => fv i) ∧ ∀ i, i < L.length → GRow enc z w B (fv i) (L.getD i [])
/-- A list of rows that is being made: its own block lies from block B on, no row lies in it, and none in X. -/
structure GS (e : Nat) (X : Nat → Prop) (B : Nat) (w : World) (sv : Value) (L : List (List α)) (vs : List Value) : Prop where
  len : vs.length = L.length
  own : w.ownsRow B e 1 sv L.length vs
  nx : ∀ b, sv.ownBlock = some b → ¬ X b
  row : ∀ i, i < L.length → GRow enc z w w.heap.size (vs.getD i undef) (L.getD i [])
  ap : ∀ i, i < L.length → 0 < (L.getD i []).length → ∀ b, (vs.getD i undef).ownBlock = some b → ¬ X b ∧ sv.ownBlock ≠ some b
def GStk (e : Nat) (X : Nat → Prop) (B : Nat) (w : World) (sv : Value) (L : List (List α)) : Prop := ∃ vs, GS enc z e X B w sv L vs
variable {enc z}
theorem GRow.below {w w' : World} {B : Nat} {v : Value} {l : List α} (h : GRow enc z w B v l) (hb : Below B w w') : GRow enc z w' B v l := Sl.below h hb
theorem GRow.more {w : World} {B B' : Nat} {v : Value} {l : List α} (h : GRow enc z w B v l) (hB : B ≤ B') : GRow enc z w B' v l := Sl.more h hB
theorem GRow.up {w w' : World} {v : Value} {l : List α} (h : GRow enc z w w.heap.size v l) (hb : Below w.heap.size w w') : GRow enc z w' w'.heap.size v l := Sl.up h hb
theorem GRow.form {w : World} {B : Nat} {v : Value} {l : List α} (h : GRow enc z w B v l) : ∃ A cap, v = .slice A l.length cap := Sl.form h
/-- A row that is not empty lies in a block that there is. -/
theorem GRow.block {w : World} {B : Nat} {v : Value} {l : List α} (h : GRow enc z w B v l) (hl : 0 < l.length) : ∃ b off cap, v = .slice (some ⟨b, off, none⟩) l.length cap ∧ b < B ∧ v.ownBlock = some b := by
  obtain ⟨A, b, off, cap, rfl, _, hA, _⟩ := h
  rcases hA with ⟨rfl, hb⟩ | h0
  · exact ⟨b, off, cap, rfl, hb, rfl⟩
  · omega
/-- A row stays where its block stays. -/
theorem GRow.stay {w w' : World} {B : Nat} {v : Value} {l : List α} (h : GRow enc z w B v l) (hs : ∀ b, 0 < l.length → v.ownBlock = some b → b < B → w'.heap[b]? = w.heap[b]?) : GRow enc z w' B v l := by
  obtain ⟨A, b, off, cap, rfl, hn, hA, hc⟩ := h
  refine ⟨A, b, off, cap, rfl, hn, hA, fun i j hi hj => ?_⟩
  rcases hA with ⟨rfl, hb⟩ | h0
  · have := hs b (by omega) rfl hb
    exact (World.cell?_of_block (a := ⟨b, off + (i * 1 + j), none⟩) this).trans (hc i j hi hj)
  · omega
theorem GRows.below {w w' : World} {B : Nat} {v : Value} {L : List (List α)} (h : GRows enc z w B v L) (hb : Below B w w') : GRows enc z w' B v L := by
  obtain ⟨fv, h1, h2⟩ := h
  exact ⟨fv, h1.below hb, fun i hi => (h2 i hi).below hb⟩
theorem GRows.more {w : World} {B B' : Nat} {v : Value} {L : List (List α)} (h : GRows enc z w B v L) (hB : B ≤ B') : GRows enc z w B' v L := by
  obtain ⟨fv, h1, h2⟩ := h
  exact ⟨fv, h1.more hB, fun i hi => (h2 i hi).more hB⟩
theorem GRows.up {w w' : World} {v : Value} {L : List (List α)} (h : GRows enc z w w.heap.size v L) (hb : Below w.heap.size w w') : GRows enc z w' w'.heap.size v L := (h.below hb).more hb.size
theorem GRows.form {w : World} {B : Nat} {v : Value} {L : List (List α)} (h : GRows enc z w B v L) : ∃ A cap, v = .slice A L.length cap := by
  obtain ⟨fv, h1, _⟩ := h
  exact Sl.form h1
theorem GRows.take {w : World} {B : Nat} {A : Option Addr} {n cap k : Nat} {L : List (List α)} (h : GRows enc z w B (.slice A n cap) L) (hk : k ≤ L.length) : GRows enc z w B (.slice A k cap) (L.take k) := by
  obtain ⟨fv, ⟨A1, b, off, cap1, hv, hn, hA, hc⟩, h2⟩ := h
  injection hv with e1 e2 e3
  subst e1 e3
  have hl : (L.take k).length = k := by simp; omega
  refine ⟨fv, ⟨A, b, off, cap, by rw [hl], by omega, by rw [hl]; rcases hA with h | h; exact .inl h; exact .inr (by omega), fun i j hi hj => hc i j (by omega) hj⟩, fun i hi => ?_⟩
  have h3 := h2 i (by omega)
  rw [show (L.take k).getD i [] = L.getD i [] by rw [List.getD_eq_getElem?_getD, List.getElem?_take_of_lt (by omega), ← List.getD_eq_getElem?_getD]]
  exact h3
theorem GRows.nil (w : World) (B : Nat) : GRows enc z w B (.slice none 0 0) [] := ⟨fun _ => undef, Sl.nil _ _ _ _, fun i hi => by simp at hi⟩
theorem GStk.nil {e : Nat} {X : Nat → Prop} (w : World) (B : Nat) : GStk enc z e X B w (.slice none 0 0) [] :=
  ⟨[], rfl, World.ownsRow_nil w B e 1, fun b hb => (by cases hb), fun i hi => by simp at hi, fun i hi => by simp at hi⟩
theorem GStk.form {e : Nat} {X : Nat → Prop} {B : Nat} {w : World} {sv : Value} {L : List (List α)} (h : GStk enc z e X B w sv L) : ∃ A cap, sv = .slice A L.length cap ∧ L.length ≤ cap ∧ cap ≤ maxLen := by
  obtain ⟨vs, h⟩ := h
  rcases h.own.2 with ⟨h1, h2⟩ | ⟨g, cap, cur, h1, _, _, h2, h3, _⟩
  · exact ⟨none, 0, by rw [h1, h2], by omega, by unfold maxLen; omega⟩
  · exact ⟨_, cap, h1, h2, h3⟩
theorem GStk.lt {e : Nat} {X : Nat → Prop} {B : Nat} {w : World} {sv : Value} {L : List (List α)} (h : GStk enc z e X B w sv L) : ∀ b, sv.ownBlock = some b → B ≤ b ∧ b < w.heap.size := by
  obtain ⟨vs, h⟩ := h
  exact h.own.lt
theorem ownsRow_same {w w' : World} {base e size n : Nat} {v : Value} {xs : List Value} (h : w.ownsRow base e size v n xs) (hs : ∀ b, v.ownBlock = some b → w'.heap[b]? = w.heap[b]?) : w'.ownsRow base e size v n xs := by
  obtain ⟨h1, h2 | ⟨g, cap, cur, rfl, h4, h5, h6⟩⟩ := h
  · exact ⟨h1, .inl h2⟩
  · exact ⟨h1, .inr ⟨g, cap, cur, rfl, h4, (hs g rfl).trans h5, h6⟩⟩
theorem GS.step {e : Nat} {S X X' : Nat → Prop} {B : Nat} {w w' : World} {sv : Value} {L : List (List α)} {vs : List Value} (h : GS enc z e X B w sv L vs) (hk : Keeps S w w') (hS : ∀ b, b < w.heap.size → S b → X b) (hX : ∀ b, b < w.heap.size → X' b → X b) : GS enc z e X' B w' sv L vs := by
  refine ⟨h.len, ownsRow_same h.own fun b hb => hk.block b (h.own.lt b hb).2 fun hs => h.nx b hb (hS b (h.own.lt b hb).2 hs), fun b hb hx => h.nx b hb (hX b (h.own.lt b hb).2 hx), fun i hi => ?_, fun i hi hl b hb => ?_⟩
  · exact ((h.row i hi).stay fun b hl hb hlt => hk.block b hlt fun hs => (h.ap i hi hl b hb).1 (hS b hlt hs)).more hk.size
  · obtain ⟨b', _, _, _, hlt, hob⟩ := (h.row i hi).block hl
    rw [hob] at hb
    injection hb with hb
    subst hb
    have h3 := h.ap i hi hl b' hob
    exact ⟨fun hx => h3.1 (hX b' hlt hx), h3.2⟩
theorem GStk.step {e : Nat} {S X X' : Nat → Prop} {B : Nat} {w w' : World} {sv : Value} {L : List (List α)} (h : GStk enc z e X B w sv L) (hk : Keeps S w w') (hS : ∀ b, b < w.heap.size → S b → X b) (hX : ∀ b, b < w.heap.size → X' b → X b) : GStk enc z e X' B w' sv L := by
  obtain ⟨vs, h⟩ := h
  exact ⟨vs, h.step hk hS hX⟩
theorem GS.below {e : Nat} {X : Nat → Prop} {B : Nat} {w w' : World} {sv : Value} {L : List (List α)} {vs : List Value} (h : GS enc z e X B w sv L vs) (hb : Below w.heap.size w w') : GS enc z e X B w' sv L vs :=
  h.step (S := fun _ => False) (Keeps.of_below hb) (fun _ _ h => h.elim) (fun _ _ h => h)
theorem GStk.below {e : Nat} {X : Nat → Prop} {B : Nat} {w w' : World} {sv : Value} {L : List (List α)} (h : GStk enc z e X B w sv L) (hb : Below w.heap.size w w') : GStk enc z e X B w' sv L :=
  h.step (S := fun _ => False) (Keeps.of_below hb) (fun _ _ h => h.elim) (fun _ _ h => h)
theorem GStk.base {e : Nat} {X : Nat → Prop} {B B' : Nat} {w : World} {sv : Value} {L : List (List α)} (h : GStk enc z e X B w sv L) (hB : B' ≤ B) : GStk enc z e X B' w sv L := by
  obtain ⟨vs, h⟩ := h
  exact ⟨vs, h.len, owns_base h.own hB, h.nx, h.row, h.ap⟩
theorem GStk.rows {e : Nat} {X : Nat → Prop} {B : Nat} {w : World} {sv : Value} {L : List (List α)} (h : GStk enc z e X B w sv L) : GRows enc z w w.heap.size sv L := by
  obtain ⟨vs, h⟩ := h
  refine ⟨fun i => vs.getD i undef, Sl.of_owns h.own fun i j hi hj => ?_, h.row⟩
  obtain rfl : j = 0 := by omega
  have := h.len
  have hi2 : i < vs.length := by omega
  rw [Nat.mul_one, Nat.add_zero]
  simp [hi2]
theorem getD_push {β : Type} {l : List β} {x d : β} {i : Nat} : (l ++ [x]).getD i d = if i < l.length then l.getD i d else if i = l.length then x else d := by
  split
  · rename_i h
    rw [List.getD_eq_getElem?_getD, List.getElem?_append_left h, ← List.getD_eq_getElem?_getD]
  · rename_i h
    split
    · rename_i h2
      subst h2
      simp
    · rw [List.getD_eq_getElem?_getD, List.getElem?_eq_none (by simp; omega)]
      rfl
/-- One more row. -/
theorem GS.push {e : Nat} {X : Nat → Prop} {B : Nat} {w w1 : World} {A : Option Addr} {n cap : Nat} {L : List (List α)} {vs : List Value} {rv v1 : Value} {l : List α} {o : Obj} (h : GS enc z e X B w (.slice A n cap) L vs) (hr : GRow enc z w w.heap.size rv l)
    (hrx : 0 < l.length → ∀ b, rv.ownBlock = some b → ¬ X b ∧ (Value.slice A n cap).ownBlock ≠ some b) (hXw : ∀ b, X b → b < w.heap.size)
    (hown : w1.ownsRow B e 1 v1 (L.length + 1) (vs ++ [rv])) (hg : (w.alloc o).grownBy w1 (Value.slice A n cap).ownBlock)
    (hat : v1.ownBlock = (Value.slice A n cap).ownBlock ∨ v1.ownBlock = some (w.alloc o).heap.size) :
    GStk enc z e X B w1 v1 (L ++ [l]) ∧ Keeps (fun i => (Value.slice A n cap).ownBlock = some i) w w1 := by
  have hk : Keeps (fun i => (Value.slice A n cap).ownBlock = some i) w w1 := Keeps.trans ((Keeps.refl _ w).alloc o) (Keeps.of_grown hg (fun k hk => hk)) (fun _ _ h => h)
  have hvl := h.len
  have hsz := hk.size
  have hall : ∀ i, i < (L ++ [l]).length → GRow enc z w w.heap.size ((vs ++ [rv]).getD i undef) ((L ++ [l]).getD i []) ∧ (0 < ((L ++ [l]).getD i []).length → ∀ b, ((vs ++ [rv]).getD i undef).ownBlock = some b → ¬ X b ∧ (Value.slice A n cap).ownBlock ≠ some b) := by
    intro i hi
    rw [getD_push, getD_push, hvl]
    by_cases h1 : i < L.length
    · rw [if_pos h1, if_pos h1]
      exact ⟨h.row i h1, h.ap i h1⟩
    · have : i = L.length := by simp at hi; omega
      rw [if_neg h1, if_pos this, if_neg h1, if_pos this]
      exact ⟨hr, hrx⟩
  refine ⟨⟨vs ++ [rv], by simp [hvl], by rw [List.length_append]; exact hown, fun b hb hx => ?_, fun i hi => ?_, fun i hi hl b hb => ?_⟩, hk⟩
  · rcases hat with h1 | h1
    · exact h.nx b (h1.symm.trans hb) hx
    · rw [h1] at hb
      injection hb with hb
      have := hXw b hx
      simp at hb
      omega
  · obtain ⟨q1, q2⟩ := hall i hi
    exact (q1.stay fun b hl hb hlt => hk.block b hlt fun hs => (q2 hl b hb).2 hs).more hsz
  · obtain ⟨q1, q2⟩ := hall i hi
    obtain ⟨b', _, _, _, hlt, hob⟩ := q1.block hl
    have hbb : b = b' := by rw [hob] at hb; injection hb with hb; exact hb.symm
    subst hbb
    refine ⟨(q2 hl b hob).1, fun hv => ?_⟩
    rcases hat with h1 | h1
    · exact (q2 hl b hob).2 (h1.symm.trans hv)
    · rw [h1] at hv
      injection hv with hv
      simp at hv
      omega
end
/-- Variants. -/
abbrev Vars (w : World) (B : Nat) (v : Value) (L : List (List Bool)) : Prop := GRows Value.bool false w B v L
abbrev VStk (X : Nat → Prop) (B : Nat) (w : World) (sv : Value) (L : List (List Bool)) : Prop := GStk Value.bool false 38 X B w sv L
theorem infoBools : (Try.prog.info? 38).map (fun i => (i.zero, i.size, i.bytes)) = some (some (.slice none 0 0), 1, 24) := by kernel_rfl
theorem infoForm : (Try.prog.info? 66).map (fun i => (i.zero, i.size, i.bytes)) = some (some (.slice none 0 0), 1, 24) := by kernel_rfl
end Go.Proofs.Ytmabfnddedffoaa

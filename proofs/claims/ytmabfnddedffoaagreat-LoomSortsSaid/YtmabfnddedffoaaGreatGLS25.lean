/- Part 25 of this claim's texts: walks and plain laws. -/
import Derived.Test.YtmabfnddedffoaaGreatRows
import Derived.Test.YtmabfnddedffoaaGreatGLS24
import Derived.Test.YtmabfnddedffoaaGreatGLS19
import Derived.OwnWalk
import Derived.Deep.DeepMust
import Derived.Deep.RegionHeld3
import Derived.Deep.DrawnRows
import Derived.Test.YtmabfnddedffoaaGreatGLS3
/- The value of a formula as the elder program has it: walk. -/
namespace Go.Proofs.YtmabfnddedffoaaGreat
open Go.RowKit
set_option linter.unusedVariables false
set_option linter.unusedSimpArgs false
/-- What eval tells of the term at place p. -/
def EvR (N : Nat) (v : Nat → Bool) (f : List Int) (p c : Nat) (x : Bool) (q : Nat) : Prop :=
  p < q ∧ q ≤ f.length ∧ vld N c (f.drop q) = true ∧ evS v (f.drop p) = x :: evS v (f.drop q)
theorem vld_ne {N c p : Nat} {f : List Int} (h : vld N (c + 1) (f.drop p) = true) : p < f.length := by
  rcases Nat.lt_or_ge p f.length with h1 | h1
  · exact h1
  · rw [List.drop_eq_nil_of_le h1] at h
    simp [vld] at h
theorem EvR.leaf {N c p : Nat} {v : Nat → Bool} {f : List Int} {o : Int} {x : Bool} (hd : f.drop p = o :: f.drop (p + 1)) (h : vld N (c + 1) (f.drop p) = true) (ha : arO o = 0) (hs : ∀ S, stp v o S = x :: S) : EvR N v f p c x (p + 1) := by
  have hp := vld_ne h
  rw [hd] at h
  simp only [vld, Bool.and_eq_true, ha, Nat.add_zero] at h
  refine ⟨by omega, by omega, h.2, ?_⟩
  rw [hd, evS_cons, hs]
theorem EvR.one {N c p q : Nat} {v : Nat → Bool} {f : List Int} {x : Bool} (hd : f.drop p = -3 :: f.drop (p + 1)) (h : EvR N v f (p + 1) c x q) : EvR N v f p c (!x) q := by
  obtain ⟨h1, h2, h3, h4⟩ := h
  refine ⟨by omega, h2, h3, ?_⟩
  rw [hd, evS_cons, h4]
  rfl
theorem EvR.two {N c p q r : Nat} {v : Nat → Bool} {f : List Int} {x y z : Bool} {o : Int} (hd : f.drop p = o :: f.drop (p + 1)) (h : EvR N v f (p + 1) (c + 1) x q) (k : EvR N v f q c y r) (hs : ∀ S, stp v o (x :: y :: S) = z :: S) : EvR N v f p c z r := by
  obtain ⟨h1, h2, h3, h4⟩ := h
  obtain ⟨k1, k2, k3, k4⟩ := k
  refine ⟨by omega, k2, k3, ?_⟩
  rw [hd, evS_cons, h4, k4, hs]
theorem vld_next {N c p : Nat} {f : List Int} {o : Int} (hd : f.drop p = o :: f.drop (p + 1)) (h : vld N (c + 1) (f.drop p) = true) : vld N (c + arO o) (f.drop (p + 1)) = true ∧ -6 ≤ o ∧ o < N := by
  rw [hd] at h
  simp only [vld, Bool.and_eq_true, decide_eq_true_eq] at h
  exact ⟨h.2, h.1.1, h.1.2⟩
def EvP (N : Nat) (v : Nat → Bool) (f : List Int) (p c : Nat) (w : World) (e : Ending) (W : World) : Prop := ∃ (x : Bool) (q : Nat), e = .returned (.tuple #[.bool x, .int .i64 (q : Nat)]) ∧ EvR N v f p c x q ∧ w = W
set_option maxRecDepth 100000 in
set_option maxHeartbeats 4000000 in
theorem eval_any (f : List Int) (N : Nat) (vs : List Bool) (fv vv : Value) (B : Nat) (w : World) (hm : f.length ≤ 1000) (hf : Ints w B fv f) (hv : Bols w B vv vs) (hN : vs.length = N) :
    ∀ (n p c : Nat), f.length - p ≤ n → vld N (c + 1) (f.drop p) = true → Calls Tryz.prog 93 #[fv, .int .i64 p, vv] w (EvP N (vf vs) f p c w) := by
  obtain ⟨A, b, off, cap, rfl, hnc, hA, hc⟩ := hf
  obtain ⟨Av, bv, offv, capv, rfl, hncv, hAv, hcv⟩ := hv
  have HC := hide hc
  have HA := hide hA
  have HCV := hide hcv
  have HAV := hide hAv
  have HN := hide hN
  clear hc hA hcv hAv hN
  intro n
  induction n with
  | zero =>
    intro p c h1 h2
    have := vld_ne h2
    omega
  | succ n ih =>
    intro p c hn hvl
    have hp := vld_ne hvl
    obtain ⟨rfl, hb⟩ : A = some ⟨b, off, none⟩ ∧ b < B := by
      rcases HA.out with h | h
      · exact h
      · omega
    obtain ⟨o, ho⟩ : ∃ o, f.getD p 0 = o := ⟨_, rfl⟩
    have c0 : w.cell? ⟨b, off + p, none⟩ = some (.int .i64 o) := by
      have h1 := HC.out p 0 hp (by omega)
      rw [Nat.mul_one, Nat.add_zero] at h1
      rw [← ho]; exact h1
    have hd : f.drop p = o :: f.drop (p + 1) := by rw [drop_getD hp, ho]
    obtain ⟨hnx, hlo, hhi⟩ := vld_next hd hvl
    have i0 : (0 : Int) ≤ (p : Int) := by omega
    have i1 : (p : Int) < (f.length : Int) := by omega
    have HD := hide hd
    have HVL := hide hvl
    have HNX := hide hnx
    have IH := hide ih
    clear hd hvl hnx ih ho
    by_cases h0 : 0 ≤ o
    · obtain ⟨t, rfl⟩ := Int.eq_ofNat_of_zero_le h0
      have ht : t < vs.length := by have := HN.out; omega
      obtain ⟨rfl, hbv⟩ : Av = some ⟨bv, offv, none⟩ ∧ bv < B := by
        rcases HAV.out with h | h
        · exact h
        · omega
      obtain ⟨x, hx⟩ : ∃ x, vs.getD t false = x := ⟨_, rfl⟩
      have c1 : w.cell? ⟨bv, offv + t, none⟩ = some (.bool x) := by
        have h1 := HCV.out t 0 ht (by omega)
        rw [Nat.mul_one, Nat.add_zero] at h1
        rw [← hx]; exact h1
      have d0 : decide ((0 : Int) ≤ (t : Int)) = true := by simp
      have j1 : (t : Int) < (vs.length : Int) := by omega
      have HR : Hid (EvR N (vf vs) f p c x (p + 1)) := EvR.leaf HD.out HVL.out (by unfold arO; (repeat' split) <;> omega) (fun S => by
        unfold stp
        rw [if_neg (by omega), if_neg (by omega), if_neg (by omega), if_neg (by omega), if_neg (by omega), if_neg (by omega), Int.toNat_natCast, ← hx]; rfl)
      clear hx
      go_enter Tryz.func93, Tryz.ntmps93
      go_wp2_with fail
      go_ret2
      exact ⟨x, p + 1, rfl, HR.out, rfl⟩
    have d0 : decide (0 ≤ o) = false := by simp; omega
    by_cases h1 : o = -1
    · subst h1
      have HR : Hid (EvR N (vf vs) f p c true (p + 1)) := EvR.leaf HD.out HVL.out rfl (fun S => rfl)
      go_enter Tryz.func93, Tryz.ntmps93
      go_wp2_with fail
      go_ret2
      exact ⟨true, p + 1, rfl, HR.out, rfl⟩
    by_cases h2 : o = -2
    · subst h2
      have HR : Hid (EvR N (vf vs) f p c false (p + 1)) := EvR.leaf HD.out HVL.out rfl (fun S => rfl)
      go_enter Tryz.func93, Tryz.ntmps93
      go_wp2_with fail
      go_ret2
      exact ⟨false, p + 1, rfl, HR.out, rfl⟩
    by_cases h3 : o = -3
    · subst h3
      have hih := IH.out (p + 1) c (by omega) HNX.out
      have HIH := hide hih
      clear hih
      go_enter Tryz.func93, Tryz.ntmps93
      go_wp2_with (go_at_call 93; refine HIH.out.mono ?_; rintro e w1 ⟨x, q, rfl, hr, rfl⟩; have HR := hide hr; clear hr)
      go_ret2
      exact ⟨!x, q, rfl, EvR.one HD.out HR.out, rfl⟩
    have ha : arO o = 2 := by unfold arO; (repeat' split) <;> omega
    have hih := IH.out (p + 1) (c + 1) (by omega) (by have := HNX.out; rw [ha] at this; exact this)
    have HIH := hide hih
    have e1 : (o == -1) = false := by simpa using h1
    have e2 : (o == -2) = false := by simpa using h2
    have e3 : (o == -3) = false := by simpa using h3
    clear hih ha
    go_enter Tryz.func93, Tryz.ntmps93
    go_upto_region 9 with (go_at_call 93; refine HIH.out.mono ?_; rintro e w1 ⟨x, q, rfl, hr, rfl⟩; have HR := hide hr; clear hr)
    have hih := IH.out q c (by have := HR.out.1; omega) HR.out.2.2.1
    have HIH2 := hide hih
    clear hih
    go_upto_region 10 with (go_at_call 93; refine HIH2.out.mono ?_; rintro e w1 ⟨y, r, rfl, hr2, rfl⟩; have HR2 := hide hr2; clear hr2)
    rcases (by omega : o = -4 ∨ o = -5 ∨ o = -6) with rfl | rfl | rfl
    · have HT : Hid (EvR N (vf vs) f p c (x && y) r) := EvR.two HD.out HR.out HR2.out (fun S => rfl)
      cases x
      · go_wp2_with fail
        go_ret2
        exact ⟨_, r, rfl, HT.out, rfl⟩
      · go_wp2_with fail
        go_ret2
        exact ⟨_, r, rfl, HT.out, rfl⟩
    · have HT : Hid (EvR N (vf vs) f p c (x || y) r) := EvR.two HD.out HR.out HR2.out (fun S => rfl)
      cases x
      · go_wp2_with fail
        go_ret2
        exact ⟨_, r, rfl, HT.out, rfl⟩
      · go_wp2_with fail
        go_ret2
        exact ⟨_, r, rfl, HT.out, rfl⟩
    · have HT : Hid (EvR N (vf vs) f p c (x == y) r) := EvR.two HD.out HR.out HR2.out (fun S => rfl)
      go_wp2_with fail
      go_ret2
      exact ⟨_, r, rfl, HT.out, rfl⟩
theorem evF1_of {N q c : Nat} {v : Nat → Bool} {f : List Int} {x : Bool} (h : EvR N v f 0 c x q) : x = evF1 v f := by
  have h4 := h.2.2.2
  rw [List.drop_zero] at h4
  unfold evF1
  rw [h4]; rfl
end Go.Proofs.YtmabfnddedffoaaGreat
/- A formula's value as the elder program has it: walk. -/
namespace Go.Proofs.YtmabfnddedffoaaGreat
open Go.RowKit
set_option linter.unusedVariables false
set_option linter.unusedSimpArgs false
set_option maxRecDepth 100000 in
set_option maxHeartbeats 2000000 in
theorem True_any (f : List Int) (N : Nat) (vs : List Bool) (fv vv : Value) (B : Nat) (w : World) (hf : Ints w B fv f) (hv : Bols w B vv vs) (hN : vs.length = N) (hok : validF N f = true) :
    Calls Tryz.prog 65 #[fv, vv] w fun e W => e = .returned (.bool (evF1 (vf vs) f)) ∧ w = W := by
  unfold validF at hok
  simp only [Bool.and_eq_true, decide_eq_true_eq] at hok
  obtain ⟨A, cap, hfv⟩ := Sl.form hf
  obtain ⟨Av, capv, hvv⟩ := Sl.form hv
  have he := eval_any f N vs fv vv B w (by omega) hf hv hN f.length 0 0 (by omega) (by rw [List.drop_zero]; exact hok.1)
  have he2 : Calls Tryz.prog 93 #[fv, .int .i64 0, vv] w fun e W => ∃ (x : Option Bool) (q : Nat), e = .returned (.tuple #[.bool (evF1 (vf vs) f), .int .i64 (q : Nat)]) ∧ w = W :=
    he.mono fun e W hh => by
      obtain ⟨x, q, h1, h2, h3⟩ := hh
      exact ⟨none, q, by rw [h1, evF1_of h2], h3⟩
  have HE := hide he2
  subst hfv hvv
  clear he he2 hf hv hok hN
  go_enter Tryz.func65, Tryz.ntmps65
  go_wp2_with (go_at_call 93; refine HE.out.mono ?_; rintro e w1 ⟨_, q, rfl, rfl⟩)
  go_ret
  exact ⟨rfl, rfl⟩
end Go.Proofs.YtmabfnddedffoaaGreat
/- Holds and Buildable as the elder program has them: walks. -/
namespace Go.Proofs.YtmabfnddedffoaaGreat
open Go.RowKit
set_option linter.unusedVariables false
set_option linter.unusedSimpArgs false
/-- What Holds returns. -/
def holE (m : Mo) (f : List Int) (vs : List Bool) : Int := if m.errF [f] ≠ 0 then m.errF [f] else if vs.length ≠ m.opts.length then 1 else 0
def holB (m : Mo) (f : List Int) (vs : List Bool) : Bool := if holE m f vs = 0 then evF1 (vf vs) f else false
theorem hol_err {m : Mo} {f : List Int} {vs : List Bool} (h : m.errF [f] ≠ 0) : holE m f vs = m.errF [f] ∧ holB m f vs = false := by
  have h1 : holE m f vs = m.errF [f] := by unfold holE; rw [if_pos h]
  exact ⟨h1, by unfold holB; rw [h1, if_neg h]⟩
theorem hol_arg {m : Mo} {f : List Int} {vs : List Bool} (h : m.errF [f] = 0) (h2 : vs.length ≠ m.opts.length) : holE m f vs = 1 ∧ holB m f vs = false := by
  have h1 : holE m f vs = 1 := by unfold holE; rw [if_neg (by simp [h]), if_pos h2]
  exact ⟨h1, by unfold holB; rw [h1, if_neg (by omega)]⟩
theorem hol_ok {m : Mo} {f : List Int} {vs : List Bool} (h : m.errF [f] = 0) (h2 : vs.length = m.opts.length) : holE m f vs = 0 ∧ holB m f vs = evF1 (vf vs) f := by
  have h1 : holE m f vs = 0 := by unfold holE; rw [if_neg (by simp [h]), if_neg (by simp [h2])]
  exact ⟨h1, by unfold holB; rw [if_pos h1]⟩
/-- The first rule that does not hold. -/
def fstR (vs : List Bool) (rules : List (List Int)) : Int := idxI (fun f => !evF1 (vf vs) f) rules
set_option maxRecDepth 100000 in
set_option maxHeartbeats 4000000 in
theorem rHolds_any (m : Mo) (f : List Int) (vs : List Bool) (ov rv fv vv : Value) (w : World) (hs : SizedM m) (hl : f.length ≤ maxLen) (h : MoAt w w.heap.size ov rv m) (hf : Ints w w.heap.size fv f) (hv : Bols w w.heap.size vv vs) :
    Calls Tryz.prog 69 #[.agg #[ov, rv], fv, vv] w fun e w' => e = .returned (.tuple #[.bool (holB m f vs), .int .i64 (holE m f vs)]) ∧ Below w.heap.size w w' := by
  obtain ⟨A, cap, hov⟩ := Sl.form h.o
  obtain ⟨Ar, capr, hrv⟩ := h.r.form
  obtain ⟨Al, capl, hlv⟩ := Sl.form hf
  obtain ⟨Av, capv, hvv⟩ := Sl.form hv
  have H := hide h
  have HF := hide hf
  have HV := hide hv
  have HS := hide hs
  subst hov hrv hlv hvv
  clear h hf hv hs
  go_enter Tryz.func69, Tryz.ntmps69
  go_upto_region 1 with (fail)
  generalize hw0 : World.alloc _ _ = w0
  obtain ⟨hb0, hB0, hs0⟩ := alloc1 hw0
  clear hw0
  have HX0 : Hid (MoBox w0 w.heap.size (.slice A m.opts.length cap) (.slice Ar m.rules.length capr)) := hb0
  have HB0 := hide hB0
  have c0 := cellOf hb0 0
  have c1 := cellOf hb0 1
  have hck := rCheckFormula_any m f (.slice A m.opts.length cap) (.slice Ar m.rules.length capr) (.slice Al f.length capl) w0 HS.out hl (H.out.up hB0) (HF.out.up hB0)
  have HCK := hide hck
  clear hb0 hB0 hs0 hck
  by_cases he : m.errF [f] = 0
  · have HE := hide he
    go_upto_region 4 with (go_at_call 61; refine HCK.out.mono ?_; rw [HE.out]; rintro e w1 ⟨rfl, hB1⟩; have hbx := box_to HX0.out hB1; have d0 := cellOf hbx 0; have d1 := cellOf hbx 1; have HB1 : Hid (Below w.heap.size w w1) := Below.to HB0.out hB1 (Nat.le_refl _); clear hbx hB1 c0 c1)
    by_cases hn : vs.length = m.opts.length
    · obtain ⟨h1, h2⟩ := hol_ok he hn
      have e1 : ((vs.length : Int) != (m.opts.length : Int)) = false := by simp; omega
      have ht := True_any f m.opts.length vs (.slice Al f.length capl) (.slice Av vs.length capv) w.heap.size w1 (HF.out.below HB1.out) (Sl.below HV.out HB1.out) hn ((Mo.okF he).2 f (by simp))
      have HT := hide ht
      have H1 := hide h1
      have H2 := hide h2
      clear ht h1 h2 he hn
      go_wp2_with (go_at_call 65; refine HT.out.mono ?_; rintro e w2 ⟨rfl, rfl⟩)
      go_ret2
      exact ⟨by rw [H1.out, H2.out]; rfl, HB1.out⟩
    · obtain ⟨h1, h2⟩ := hol_arg he hn
      have e1 : ((vs.length : Int) != (m.opts.length : Int)) = true := by simp; omega
      have H1 := hide h1
      have H2 := hide h2
      clear h1 h2 he hn
      go_wp2_with fail
      go_ret2
      exact ⟨by rw [H1.out, H2.out]; rfl, HB1.out⟩
  · obtain ⟨h1, h2⟩ := hol_err (vs := vs) he
    obtain ⟨z, hz⟩ : ∃ z, m.errF [f] = z := ⟨_, rfl⟩
    rw [hz] at he h1
    have hz1 : (z != 0) = true := by simpa using he
    have HZ := hide hz
    have H1 := hide h1
    have H2 := hide h2
    clear he hz h1 h2
    go_wp2_with (go_at_call 61; refine HCK.out.mono ?_; rw [HZ.out]; rintro e w1 ⟨rfl, hB1⟩)
    go_ret2
    exact ⟨by rw [H1.out, H2.out]; rfl, Below.to HB0.out hB1 (Nat.le_refl _)⟩
set_option maxRecDepth 100000 in
set_option maxHeartbeats 4000000 in
theorem rfirst_any (m : Mo) (vs : List Bool) (ov rv vv : Value) (w : World) (h : MoAt w w.heap.size ov rv m) (hv : Bols w w.heap.size vv vs) (he : m.err = 0) (hn : vs.length = m.opts.length) :
    Calls Tryz.prog 92 #[.agg #[ov, rv], vv] w fun e w' => e = .returned (.int .i64 (fstR vs m.rules)) ∧ Below w.heap.size w w' := by
  obtain ⟨A, cap, hov⟩ := Sl.form h.o
  obtain ⟨Av, capv, hvv⟩ := Sl.form hv
  have hok := (Mo.ok he).2.2.2
  have h60 := (Mo.ok he).2.1
  obtain ⟨fvs, ⟨Al, bl, offl, capl, rfl, hncl, hAl, hcl⟩, hfi⟩ := h.r
  have HAL := hide hAl
  have HCL := hide hcl
  have HFI := hide hfi
  have HV := hide hv
  have HOK := hide hok
  have HN := hide hn
  subst hov hvv
  clear h hv he hn hok hAl hcl hfi
  go_enter Tryz.func92, Tryz.ntmps92
  go_upto_region 1 with (fail)
  generalize hw0 : World.alloc _ _ = w0
  obtain ⟨hb0, hB0, hs0⟩ := alloc1 hw0
  clear hw0
  have HX0 : Hid (MoBox w0 w.heap.size (.slice A m.opts.length cap) (.slice Al m.rules.length capl)) := hb0
  have HB0 := hide hB0
  have c0 := cellOf hb0 0
  have c1 := cellOf hb0 1
  have hlt0 := box_lt hb0
  clear hb0 hB0 hs0
  go_wp2_with fail
  go_loop [5] (fun i => ∃ t : Nat, t ≤ m.rules.length ∧ i = .int .i64 t ∧ Hid (∀ j, j < t → (fun f => !evF1 (vf vs) f) (m.rules.getD j []) = false)) (fun i => m.rules.length - (intOf i).toNat)
  case atStart => exact ⟨0, Nat.zero_le _, rfl, fun j hj => by omega⟩
  case round =>
    obtain ⟨t, ht, rfl, hall⟩ := hrel
    by_cases htl : t < m.rules.length
    · obtain ⟨rfl, hbb⟩ : Al = some ⟨bl, offl, none⟩ ∧ bl < w.heap.size := by
        rcases HAL.out with h | h
        · exact h
        · omega
      obtain ⟨f, hfe⟩ : ∃ f, m.rules.getD t [] = f := ⟨_, rfl⟩
      have hfm : f ∈ m.rules := by rw [← hfe]; exact getD_mem htl
      have hin : Ints w w.heap.size (fvs t) f := by have := HFI.out t htl; rwa [hfe] at this
      obtain ⟨Af, capf, hff⟩ := Sl.form hin
      have q0 : w0.cell? ⟨bl, offl + t, none⟩ = some (.slice Af f.length capf) := by
        have h1 := HCL.out t 0 htl (by omega)
        rw [Nat.mul_one, Nat.add_zero, hff] at h1
        exact (HB0.out.cell (p := ⟨bl, offl + t, none⟩) hbb).trans h1
      have lb : bl < w0.heap.size := Nat.lt_of_lt_of_le hbb HB0.out.size
      rw [hff] at hin
      have htr := True_any f m.opts.length vs (.slice Af f.length capf) (.slice Av vs.length capv) w.heap.size w0 (hin.below HB0.out) (Sl.below HV.out HB0.out) HN.out (HOK.out f hfm)
      have it0 : (0 : Int) ≤ (t : Int) := by omega
      have it2 : (t : Int) < (m.rules.length : Int) := by omega
      have HFE := hide hfe
      cases hx : evF1 (vf vs) f with
      | true =>
        rw [hx] at htr
        have HTR := hide htr
        have HX := hide hx
        clear hfm hin hff htr hx hfe
        go_wp2_with (go_at_call 65; refine HTR.out.mono ?_; rintro e w2 ⟨rfl, rfl⟩)
        go_round
        case rel => exact ⟨t + 1, by omega, by go_num, fun j hj => by
            rcases Nat.lt_or_ge j t with h | h
            · exact hall.out j h
            · rw [show j = t from by omega, HFE.out]; simp only [HX.out]; rfl⟩
        case measure => simp [intOf]; omega
      | false =>
        rw [hx] at htr
        have HTR := hide htr
        have hid : fstR vs m.rules = t := idxI_at _ [] m.rules t hall.out htl (by rw [hfe]; simp only [hx]; rfl)
        have HID := hide hid
        clear hfm hin hff htr hx hfe hid
        go_wp2_with (go_at_call 65; refine HTR.out.mono ?_; rintro e w2 ⟨rfl, rfl⟩)
        go_ret
        exact ⟨ret_int HID.out.symm, HB0.out⟩
    · have hid : fstR vs m.rules = -1 := idxI_none _ [] m.rules (fun j hj => hall.out j (by omega))
      have HID := hide hid
      clear hid
      go_wp2_with fail
      go_ret
      exact ⟨ret_int HID.out.symm, HB0.out⟩
end Go.Proofs.YtmabfnddedffoaaGreat
/- Buildable as the elder program has it: walk. -/
namespace Go.Proofs.YtmabfnddedffoaaGreat
open Go.RowKit
set_option linter.unusedVariables false
set_option linter.unusedSimpArgs false
/-- What Buildable returns. -/
def buiE (m : Mo) (vs : List Bool) : Int := if m.err ≠ 0 then m.err else if vs.length ≠ m.opts.length then 1 else 0
def buiR (m : Mo) (vs : List Bool) : Int := if buiE m vs = 0 then fstR vs m.rules else 0
def buiB (m : Mo) (vs : List Bool) : Bool := if buiE m vs = 0 then decide (fstR vs m.rules < 0) else false
end Go.Proofs.YtmabfnddedffoaaGreat
/- A stack of Bools. -/
namespace Go.Proofs.YtmabfnddedffoaaGreat
open Go.RowKit
set_option linter.unusedVariables false
set_option linter.unusedSimpArgs false
/-- The slice is a stack of its own above block B. -/
def BStk (B : Nat) (w : World) (sv : Value) (S : List Bool) : Prop := w.ownsRow B 4 1 sv S.length (S.map Value.bool)
theorem BStk.below {B : Nat} {w w' : World} {sv : Value} {S : List Bool} (h : BStk B w sv S) (hb : Below w.heap.size w w') : BStk B w' sv S := owns_below h hb
theorem BStk.shape {B : Nat} {w : World} {sv : Value} {S : List Bool} (h : BStk B w sv S) : ∃ A cap, sv = .slice A S.length cap ∧ S.length ≤ cap ∧ cap ≤ maxLen := by
  rcases h.2 with ⟨h1, h2⟩ | ⟨g, cap, cur, h1, _, _, h2, h3, _⟩
  · exact ⟨none, 0, by rw [h1, h2], by omega, by unfold maxLen; omega⟩
  · exact ⟨_, cap, h1, h2, h3⟩
theorem BStk.cells {B : Nat} {w : World} {A : Option Addr} {n cap : Nat} {S : List Bool} (h : BStk B w (.slice A n cap) S) (hn : 0 < S.length) : ∃ g, A = some ⟨g, 0, none⟩ ∧ g < w.heap.size ∧ ∀ i, i < S.length → w.cell? ⟨g, i, none⟩ = some (.bool (S.getD i false)) := by
  obtain ⟨g, cap', hv, _, hl⟩ := World.ownsRow.form h hn
  injection hv with h1 h2 h3
  subst h1
  refine ⟨g, rfl, hl, fun i hi => ?_⟩
  have := World.ownsRow.cells (g := g) h rfl i (.bool (S.getD i false)) (by simp [hi])
  have he : (⟨g, 0, none⟩ : Addr).add i = ⟨g, i, none⟩ := by
    unfold Addr.add
    split
    · rename_i h0; rw [h0]
    · rw [Nat.zero_add]
  rwa [he] at this
theorem BStk.cut {B : Nat} {w : World} {A : Option Addr} {n cap : Nat} {S : List Bool} (h : BStk B w (.slice A n cap) S) {r : Nat} (hr : r ≤ S.length) : w.ownsRow B 4 1 (.slice A r cap) r ((S.take r).map Value.bool) := by
  obtain ⟨h1, ⟨h2, h3⟩ | ⟨g, cap', cur, h2, h3, h4, h5, h6, h7, h8⟩⟩ := h
  · injection h2 with e1 e2 e3
    subst e1 e3
    obtain rfl : r = 0 := by omega
    exact ⟨by simp, .inl ⟨rfl, rfl⟩⟩
  · injection h2 with e1 e2 e3
    subst e1 e3
    refine ⟨by simp; omega, .inr ⟨g, cap, cur, rfl, h3, h4, by omega, h6, h7, ?_⟩⟩
    rw [List.map_take, ← h8, List.take_take, Nat.mul_one, Nat.mul_one, Nat.min_eq_left hr]
theorem brev_top {S : List Bool} {p : Nat} (h : S.length = p + 1) : S.reverse = S.getD p false :: (S.take p).reverse := by
  have : S = S.take p ++ [S.getD p false] := by
    have h1 := List.take_succ_eq_append_getElem (l := S) (i := p) (by omega)
    rw [List.take_of_length_le (by omega)] at h1
    rw [List.getD_eq_getElem?_getD, List.getElem?_eq_getElem (by omega)]
    exact h1
  conv => lhs; rw [this]
  simp
theorem brev_top2 {S : List Bool} {p : Nat} (h : S.length = p + 2) : S.reverse = S.getD (p + 1) false :: S.getD p false :: (S.take p).reverse := by
  rw [brev_top h, brev_top (S := S.take (p + 1)) (p := p) (by simp; omega), List.take_take, Nat.min_eq_left (by omega)]
  congr 2
  simp [List.getD_eq_getElem?_getD]
end Go.Proofs.YtmabfnddedffoaaGreat
/- Whether a formula holds: walk. -/
namespace Go.Proofs.YtmabfnddedffoaaGreat
open Go.RowKit
set_option linter.unusedVariables false
set_option linter.unusedSimpArgs false
def BopP (v : Nat → Bool) (o : Int) (S : List Bool) (w : World) (x : Value) (wx : World) : Prop := ∃ y : Bool, x = .bool y ∧ Below w.heap.size w wx ∧ stp v o S.reverse = y :: S.reverse.drop (arO o)
set_option maxRecDepth 100000 in
set_option maxHeartbeats 4000000 in
theorem holds_any (f : List Int) (N : Nat) (vs : List Bool) (fv vv : Value) (w : World) (hv : validF N f = true) (hf : Ints w w.heap.size fv f) (hb : Bols w w.heap.size vv vs) (hN : vs.length = N) :
    Calls Tryz.prog 94 #[fv, vv] w fun e w' => e = .returned (.bool (evF1 (vf vs) f)) ∧ Below w.heap.size w w' := by
  obtain ⟨i0, hi0, hz0, hz1, hz2⟩ := info_parts infoBool
  obtain ⟨p1, p2⟩ := validF_pos hv
  obtain ⟨A, b, off, cap, rfl, hnc, hA, hc⟩ := hf
  obtain ⟨Av, bv, offv, capv, rfl, hncv, hAv, hcv⟩ := hb
  obtain ⟨rfl, hbb⟩ : A = some ⟨b, off, none⟩ ∧ b < w.heap.size := by
    rcases hA with h | h
    · exact h
    · omega
  have HC := hide hc
  have HCV := hide hcv
  have HAV := hide hAv
  have HV := hide hv
  have HN := hide hN
  clear hv hc hcv hA hAv hN
  have hlen : (f.length : Int) ≤ 100 := by omega
  have hnil : Hid (([] : List Bool).reverse = evS (vf vs) (f.drop f.length)) := by
    show ([] : List Bool).reverse = _
    rw [List.drop_length]; rfl
  go_enter Tryz.func94, Tryz.ntmps94
  go_wp2
  go_loopw [5, 6] (fun sv i wr => ∃ (j : Nat) (S : List Bool), j ≤ f.length ∧ i = .int .i64 ((j : Int) - 1) ∧ Hid (BStk w.heap.size wr sv S) ∧ Hid (Below w.heap.size w wr) ∧ Hid (S.reverse = evS (vf vs) (f.drop j))) (fun _ i _ => (intOf i + 1).toNat)
  case atStart => exact ⟨f.length, [], Nat.le_refl _, by go_num, World.ownsRow_nil w w.heap.size 4 1, Below.refl _ _, hnil⟩
  case round =>
    obtain ⟨j, S, hj, rfl, hS, hB, hev⟩ := hrel
    match j, hj, hev with
    | 0, _, hev =>
      have hS1 : S.length = 1 := by
        have h1 := hev.out
        rw [List.drop_zero, validF_one HV.out] at h1
        have := congrArg List.length h1
        simpa using this
      obtain ⟨A1, cap1, rfl, hcap1, hcap2⟩ := hS.out.shape
      obtain ⟨g, rfl, hg1, hg3⟩ := hS.out.cells (by omega)
      have x0 := hg3 0 (by omega)
      have hk0 : (0 : Int) < (S.length : Int) := by omega
      have hk1 : 0 < S.length := by omega
      have HS1 := hide hS1
      obtain ⟨x, hx⟩ : ∃ x, S.getD 0 false = x := ⟨_, rfl⟩
      rw [hx] at x0
      have HX := hide hx
      clear hg3 hS1 hx
      go_wp2_with fail
      go_ret
      refine ⟨ret_bool ?_, hB.out⟩
      have h1 := hev.out
      rw [List.drop_zero, validF_one HV.out, brev_top (p := 0) HS1.out, HX.out] at h1
      injection h1
    | q + 1, hj, hev =>
      have hq : ((q + 1 : Nat) : Int) - 1 = (q : Int) := by omega
      rw [hq]
      clear hq
      obtain ⟨o, ho⟩ : ∃ o, f.getD q 0 = o := ⟨_, rfl⟩
      obtain ⟨w1, _, hv2, hlo, hhi⟩ := vld_at (by have := HV.out; simp only [validF, Bool.and_eq_true] at this; exact this.1) (show q < f.length by omega)
      rw [ho] at hv2 hlo hhi
      have hSn : S.length = w1 + arO o := by
        have h1 := evS_len (vf vs) _ _ hv2
        rw [← hev.out, List.length_reverse] at h1
        exact h1
      have c0 : wr.cell? ⟨b, off + q, none⟩ = some (.int .i64 o) := by
        have h1 := HC.out q 0 (by omega) (by omega)
        rw [Nat.mul_one, Nat.add_zero, ho] at h1
        exact (hB.out.cell (p := ⟨b, off + q, none⟩) hbb).trans h1
      have hwr := hB.out.size
      have hbw : b < wr.heap.size := by omega
      obtain ⟨A1, cap1, rfl, hcap1, hcap2⟩ := hS.out.shape
      have hS100 : S.length ≤ 100 := by
        have h1 := vld_le _ _ hv2
        rw [List.length_drop] at h1
        omega
      have HOQ := hide ho
      have HSN := hide hSn
      have HV2 := hide hv2
      have gi0 : (0 : Int) ≤ (q : Int) := by omega
      have gi1 : (q : Int) < (f.length : Int) := by omega
      have gi2 : (0 : Int) ≤ (S.length : Int) := by omega
      have gi3 : (S.length : Int) ≤ 100 := by omega
      clear ho hSn hv2
      go_upto_block 2 with (fail)
      go_cut [7] from 12 to 81 (fun x wx => BopP (vf vs) o S wr x wx)
      case first =>
        by_cases o1 : o = -1
        · subst o1
          go_wp2_with fail
          go_meet
          exact ⟨true, rfl, Below.refl _ _, rfl⟩
        by_cases o2 : o = -2
        · subst o2
          go_wp2_with fail
          go_meet
          exact ⟨false, rfl, Below.refl _ _, rfl⟩
        by_cases o3 : o = -3
        · subst o3
          obtain ⟨p, hp⟩ : ∃ p, S.length = p + 1 := ⟨w1, HSN.out⟩
          obtain ⟨g, rfl, hg1, hg3⟩ := hS.out.cells (by omega)
          have x0 := hg3 p (by omega)
          obtain ⟨x, hx⟩ : ∃ x, S.getD p false = x := ⟨_, rfl⟩
          rw [hx] at x0
          have HX := hide hx
          have HP := hide hp
          have k0 : (1 : Int) ≤ (S.length : Int) := by omega
          have k1 : ((S.length : Int) - 1).toNat = p := by omega
          clear hx hg3 hp
          go_wp2_with fail
          go_meet
          exact ⟨!x, rfl, Below.refl _ _, by rw [brev_top HP.out, HX.out]; rfl⟩
        by_cases o456 : o = -4 ∨ o = -5 ∨ o = -6
        · obtain ⟨p, hp⟩ : ∃ p, S.length = p + 2 := ⟨w1, by
            have := HSN.out
            unfold arO at this
            rw [if_neg o3, if_pos o456] at this
            exact this⟩
          obtain ⟨g, rfl, hg1, hg3⟩ := hS.out.cells (by omega)
          have x0 := hg3 (p + 1) (by omega)
          have y0 := hg3 p (by omega)
          obtain ⟨x, hx⟩ : ∃ x, S.getD (p + 1) false = x := ⟨_, rfl⟩
          obtain ⟨y, hy⟩ : ∃ y, S.getD p false = y := ⟨_, rfl⟩
          rw [hx] at x0
          rw [hy] at y0
          have HXY := hide (And.intro hx hy)
          have HP := hide hp
          have k0 : (1 : Int) ≤ (S.length : Int) := by omega
          have k1 : ((S.length : Int) - 1).toNat = p + 1 := by omega
          have k2 : (2 : Int) ≤ (S.length : Int) := by omega
          have k3 : ((S.length : Int) - 2).toNat = p := by omega
          have k4 : IntKind.i64.wrap ((S.length : Int) - 1) = (S.length : Int) - 1 := IntWalk.i64_in _ (by omega)
          have k5 : IntKind.i64.wrap ((S.length : Int) - 2) = (S.length : Int) - 2 := IntWalk.i64_in _ (by omega)
          have k6 : (S.length : Int) - 1 < (S.length : Int) := by omega
          have k7 : (S.length : Int) - 2 < (S.length : Int) := by omega
          clear hx hy hg3 hp o1 o2 o3
          rcases o456 with rfl | rfl | rfl
          · have HT : Hid (stp (vf vs) (-4) S.reverse = (x && y) :: S.reverse.drop (arO (-4))) := by show _ = _; rw [brev_top2 HP.out, HXY.out.1, HXY.out.2]; rfl
            cases x
            · go_wp2_with fail
              go_meet
              exact ⟨_, rfl, Below.refl _ _, HT.out⟩
            · go_wp2_with fail
              go_meet
              exact ⟨_, rfl, Below.refl _ _, HT.out⟩
          · have HT : Hid (stp (vf vs) (-5) S.reverse = (x || y) :: S.reverse.drop (arO (-5))) := by show _ = _; rw [brev_top2 HP.out, HXY.out.1, HXY.out.2]; rfl
            cases x
            · go_wp2_with fail
              go_meet
              exact ⟨_, rfl, Below.refl _ _, HT.out⟩
            · go_wp2_with fail
              go_meet
              exact ⟨_, rfl, Below.refl _ _, HT.out⟩
          · have HT : Hid (stp (vf vs) (-6) S.reverse = (x == y) :: S.reverse.drop (arO (-6))) := by show _ = _; rw [brev_top2 HP.out, HXY.out.1, HXY.out.2]; rfl
            go_wp2_with fail
            refine wp_region_held_drew (S := (fun w' => Below wr.heap.size wr w')) (by kernel_rfl) ?_ (fun hHeld => ?_)
            · try dsimp only
              exact (by repeat (first | exact Below.refl _ _ | assumption | refine Below.drew ?_ | refine Below.drewN ?_ _ | refine Below.allocT ?_ (Nat.le_refl _) _ | refine Below.setCell ?_ (by simp <;> omega) _ | refine Below.to ?_ (by assumption) (Nat.le_refl _)))
            refine zT 0 rfl ?_
            try simp only [zX]
            refine zT 1 rfl ?_
            try simp only [zX]
            refine zT 2 rfl ?_
            try simp only [zX]
            refine zT 3 rfl ?_
            try simp only [zX]
            refine zT 4 rfl ?_
            try simp only [zX]
            refine zT 5 rfl ?_
            try simp only [zX]
            refine zT 6 rfl ?_
            try simp only [zX]
            refine zT 7 rfl ?_
            try simp only [zX]
            refine zT 8 rfl ?_
            try simp only [zX]
            refine zT 9 rfl ?_
            try simp only [zX]
            refine zT 10 rfl ?_
            try simp only [zX]
            refine zT 11 rfl ?_
            try simp only [zX]
            refine wpAnyH_done (by kernel_rfl) ?_ _
            go_wp2_with fail
            go_meet
            exact ⟨_, rfl, hHeld, HT.out⟩
        have o7 : 0 ≤ o := by omega
        have k1 : (o == -1) = false := by simpa using o1
        have k2 : (o == -2) = false := by simpa using o2
        have k3 : (o == -3) = false := by simpa using o3
        have k4 : (o == -4) = false := by simp; omega
        have k5 : (o == -5) = false := by simp; omega
        have k6 : (o == -6) = false := by simp; omega
        obtain ⟨t, rfl⟩ : ∃ x : Nat, o = (x : Int) := ⟨o.toNat, by omega⟩
        have ht : t < vs.length := by have := HN.out; omega
        obtain ⟨rfl, hbv⟩ : Av = some ⟨bv, offv, none⟩ ∧ bv < w.heap.size := by
          rcases HAV.out with h | h
          · exact h
          · omega
        obtain ⟨x, hx⟩ : ∃ x, vs.getD t false = x := ⟨_, rfl⟩
        have cv : wr.cell? ⟨bv, offv + t, none⟩ = some (.bool x) := by
          have h1 := HCV.out t 0 ht (by omega)
          rw [Nat.mul_one, Nat.add_zero] at h1
          rw [← hx]
          exact (hB.out.cell (p := ⟨bv, offv + t, none⟩) hbv).trans h1
        have j1 : (t : Int) < (vs.length : Int) := by omega
        have HT : Hid (stp (vf vs) (t : Int) S.reverse = x :: S.reverse.drop (arO (t : Int))) := by
          show _ = _
          unfold stp arO
          rw [if_neg (by omega), if_neg (by omega), if_neg (by omega), if_neg (by omega), if_neg (by omega), if_neg (by omega), if_neg (by omega), if_neg (by omega), Int.toNat_natCast, ← hx]
          rfl
        clear hx o1 o2 o3 o456
        go_wp2_with fail
        go_meet
        exact ⟨x, rfl, Below.refl _ _, HT.out⟩
      case rest =>
        obtain ⟨y, rfl, hBc, hstp⟩ := hcut
        obtain ⟨r, hrn⟩ : ∃ r, S.length = r + arO o := ⟨w1, HSN.out⟩
        have HSTP := hide hstp
        have hcut := (hS.out.below hBc).cut (r := r) (by omega)
        have HBC : Hid (Below w.heap.size w wc) := Below.to hB.out hBc (Nat.le_refl _)
        have d0 : wc.cell? ⟨b, off + q, none⟩ = some (.int .i64 o) := (hBc.cell (p := ⟨b, off + q, none⟩) hbw).trans c0
        have hbc : b < wc.heap.size := Nat.lt_of_lt_of_le hbw hBc.size
        have hr1 : (S.length : Int) - (arO o : Int) = (r : Int) := by omega
        have hr2 : (r : Int) ≤ 100 := by omega
        have hr3 : r ≤ cap1 := by omega
        have hr4 : (r : Int) ≤ (cap1 : Int) := by omega
        have hcap3 : (cap1 : Int) ≤ 9223372036854775807 := by have := hcap2; unfold maxLen at this; omega
        have hwc : w.heap.size ≤ wc.heap.size := HBC.out.size
        have HCUT := hide hcut
        have HRN := hide hrn
        have gi4 : (arO o : Int) ≤ 2 := by unfold arO; split; omega; split <;> omega
        have hlo1 : ∀ i, (Value.slice A1 r cap1).ownBlock = some i → w.heap.size ≤ i := fun i hi => (World.ownsRow.lt hcut i hi).1
        have HLO := hide hlo1
        clear hcut hrn c0 hstp hBc hlo1
        go_wp2_with (first | (go_at_call 85; refine (operands_any _ _).mono ?_; rintro e w2 ⟨rfl, rfl⟩) | (at_builtin; go_must (refine wpList_append_own_at _ rfl (.tmp 90) (.tmp 92) _ rfl w.heap.size 4 i0 _ 1 1 Tryz.underlying32 hi0 hz0 hz1 hz2 rfl (by omega) _ _ _ rfl (HCUT.out.alloc _) ⟨wc.heap.size, 0, none⟩ 1 1 [.bool y] rfl rfl (World.news_of_block (heap_alloc_new wc _)) (by simp [Value.oneCell']) (by unfold maxLen; omega) (by omega) (by simp; omega) ?_); intro v1 w1 hown1 hg1 _ hat1; have HOWN := hide hown1; have HG1 := hide hg1; have HAT := hide hat1; clear hown1 hg1 hat1))
        have hown2 : BStk w.heap.size w1 v1 (S.take r ++ [y]) := by
          have h1 := HOWN.out
          have h2 : (S.take r ++ [y]).length = r + 1 := by simp; omega
          unfold BStk
          rw [h2, List.map_append]
          exact h1
        have hkeep : Keeps (fun i => (Value.slice A1 r cap1).ownBlock = some i) wc w1 :=
          Keeps.trans ((Keeps.refl _ wc).alloc _) (Keeps.of_grown HG1.out (fun k hk => hk)) (fun _ _ h => h)
        have hb2 : Below w.heap.size w w1 := HBC.out.trans (hkeep.below (B := w.heap.size) hwc (fun k hk => HLO.out k hk))
        have HOW2 := hide hown2
        have HB2 := hide hb2
        clear hown2 hkeep hb2
        go_wp2_with fail
        go_roundw
        case rel =>
          refine ⟨q, S.take r ++ [y], by omega, by go_num, HOW2.out, HB2.out, ?_⟩
          have hq1 : q < f.length := by omega
          show (S.take r ++ [y]).reverse = _
          rw [drop_getD hq1, evS_cons, HOQ.out, ← hev.out, HSTP.out, List.reverse_append]
          show [y] ++ _ = _
          rw [List.singleton_append]
          congr 1
          rw [List.drop_reverse]
          have : S.length - arO o = r := by have := HRN.out; omega
          rw [this]
        case measure => simp [intOf]
end Go.Proofs.YtmabfnddedffoaaGreat

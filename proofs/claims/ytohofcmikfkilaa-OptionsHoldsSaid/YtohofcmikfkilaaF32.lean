/- Holds and Buildable as the elder program has them: walks. -/
import Derived.Test.YtohofcmikfkilaaRows
import Derived.Test.YtohofcmikfkilaaF31
import Derived.Test.YtohofcmikfkilaaF24
import Derived.OwnWalk
namespace Go.Proofs.Ytohofcmikfkilaa
open Go.RowKit
set_option linter.unusedVariables false
set_option linter.unusedSimpArgs false
/-- What Holds returns. -/
def holE (m : Mo) (f : List Int) (vs : List Bool) : Int := if m.errF [f] ≠ 0 then m.errF [f] else if vs.length ≠ m.opts.length then 1 else 0
def holB (m : Mo) (f : List Int) (vs : List Bool) : Bool := if holE m f vs = 0 then evF1 (vf vs) f else false
theorem hol_err {m : Mo} {f : List Int} {vs : List Bool} (h : m.errF [f] ≠ 0) : holE m f vs = m.errF [f] ∧ holB m f vs = false := by
  have h1 : holE m f vs = m.errF [f] := by unfold holE; rw [if_pos h]
  exact ⟨h1, by unfold holB; rw [h1, if_neg h]⟩
theorem hol_arg {m : Mo} {f : List Int} {vs : List Bool} (h : m.errF [f] = 0) (h2 : vs.length ≠ m.opts.length) : holE m f vs = 1 ∧ holB m f vs = false := by
  have h1 : holE m f vs = 1 := by unfold holE; rw [if_neg (by simp [h]), if_pos h2]
  exact ⟨h1, by unfold holB; rw [h1, if_neg (by omega)]⟩
theorem hol_ok {m : Mo} {f : List Int} {vs : List Bool} (h : m.errF [f] = 0) (h2 : vs.length = m.opts.length) : holE m f vs = 0 ∧ holB m f vs = evF1 (vf vs) f := by
  have h1 : holE m f vs = 0 := by unfold holE; rw [if_neg (by simp [h]), if_neg (by simp [h2])]
  exact ⟨h1, by unfold holB; rw [if_pos h1]⟩
/-- The first rule that does not hold. -/
def fstR (vs : List Bool) (rules : List (List Int)) : Int := idxI (fun f => !evF1 (vf vs) f) rules
set_option maxRecDepth 100000 in
set_option maxHeartbeats 4000000 in
theorem rHolds_any (m : Mo) (f : List Int) (vs : List Bool) (ov rv fv vv : Value) (w : World) (hs : SizedM m) (hl : f.length ≤ maxLen) (h : MoAt w w.heap.size ov rv m) (hf : Ints w w.heap.size fv f) (hv : Bols w w.heap.size vv vs) :
    Calls Try.prog 46 #[.agg #[ov, rv], fv, vv] w fun e w' => e = .returned (.tuple #[.bool (holB m f vs), .int .i64 (holE m f vs)]) ∧ Below w.heap.size w w' := by
  obtain ⟨A, cap, hov⟩ := Sl.form h.o
  obtain ⟨Ar, capr, hrv⟩ := h.r.form
  obtain ⟨Al, capl, hlv⟩ := Sl.form hf
  obtain ⟨Av, capv, hvv⟩ := Sl.form hv
  have H := hide h
  have HF := hide hf
  have HV := hide hv
  have HS := hide hs
  subst hov hrv hlv hvv
  clear h hf hv hs
  go_enter Try.func46, Try.ntmps46
  go_upto_region 1 with (fail)
  generalize hw0 : World.alloc _ _ = w0
  obtain ⟨hb0, hB0, hs0⟩ := alloc1 hw0
  clear hw0
  have HX0 : Hid (MoBox w0 w.heap.size (.slice A m.opts.length cap) (.slice Ar m.rules.length capr)) := hb0
  have HB0 := hide hB0
  have c0 := cellOf hb0 0
  have c1 := cellOf hb0 1
  have hck := rCheckFormula_any m f (.slice A m.opts.length cap) (.slice Ar m.rules.length capr) (.slice Al f.length capl) w0 HS.out hl (H.out.up hB0) (HF.out.up hB0)
  have HCK := hide hck
  clear hb0 hB0 hs0 hck
  by_cases he : m.errF [f] = 0
  · have HE := hide he
    go_upto_region 4 with (go_at_call 27; refine HCK.out.mono ?_; rw [HE.out]; rintro e w1 ⟨rfl, hB1⟩; have hbx := box_to HX0.out hB1; have d0 := cellOf hbx 0; have d1 := cellOf hbx 1; have HB1 : Hid (Below w.heap.size w w1) := Below.to HB0.out hB1 (Nat.le_refl _); clear hbx hB1 c0 c1)
    by_cases hn : vs.length = m.opts.length
    · obtain ⟨h1, h2⟩ := hol_ok he hn
      have e1 : ((vs.length : Int) != (m.opts.length : Int)) = false := by simp; omega
      have ht := True_any f m.opts.length vs (.slice Al f.length capl) (.slice Av vs.length capv) w.heap.size w1 (HF.out.below HB1.out) (Sl.below HV.out HB1.out) hn ((Mo.okF he).2 f (by simp))
      have HT := hide ht
      have H1 := hide h1
      have H2 := hide h2
      clear ht h1 h2 he hn
      go_wp2_with (go_at_call 66; refine HT.out.mono ?_; rintro e w2 ⟨rfl, rfl⟩)
      go_ret2
      exact ⟨by rw [H1.out, H2.out]; rfl, HB1.out⟩
    · obtain ⟨h1, h2⟩ := hol_arg he hn
      have e1 : ((vs.length : Int) != (m.opts.length : Int)) = true := by simp; omega
      have H1 := hide h1
      have H2 := hide h2
      clear h1 h2 he hn
      go_wp2_with fail
      go_ret2
      exact ⟨by rw [H1.out, H2.out]; rfl, HB1.out⟩
  · obtain ⟨h1, h2⟩ := hol_err (vs := vs) he
    obtain ⟨z, hz⟩ : ∃ z, m.errF [f] = z := ⟨_, rfl⟩
    rw [hz] at he h1
    have hz1 : (z != 0) = true := by simpa using he
    have HZ := hide hz
    have H1 := hide h1
    have H2 := hide h2
    clear he hz h1 h2
    go_wp2_with (go_at_call 27; refine HCK.out.mono ?_; rw [HZ.out]; rintro e w1 ⟨rfl, hB1⟩)
    go_ret2
    exact ⟨by rw [H1.out, H2.out]; rfl, Below.to HB0.out hB1 (Nat.le_refl _)⟩
set_option maxRecDepth 100000 in
set_option maxHeartbeats 4000000 in
theorem rfirst_any (m : Mo) (vs : List Bool) (ov rv vv : Value) (w : World) (h : MoAt w w.heap.size ov rv m) (hv : Bols w w.heap.size vv vs) (he : m.err = 0) (hn : vs.length = m.opts.length) :
    Calls Try.prog 87 #[.agg #[ov, rv], vv] w fun e w' => e = .returned (.int .i64 (fstR vs m.rules)) ∧ Below w.heap.size w w' := by
  obtain ⟨A, cap, hov⟩ := Sl.form h.o
  obtain ⟨Av, capv, hvv⟩ := Sl.form hv
  have hok := (Mo.ok he).2.2.2
  have h60 := (Mo.ok he).2.1
  obtain ⟨fvs, ⟨Al, bl, offl, capl, rfl, hncl, hAl, hcl⟩, hfi⟩ := h.r
  have HAL := hide hAl
  have HCL := hide hcl
  have HFI := hide hfi
  have HV := hide hv
  have HOK := hide hok
  have HN := hide hn
  subst hov hvv
  clear h hv he hn hok hAl hcl hfi
  go_enter Try.func87, Try.ntmps87
  go_upto_region 1 with (fail)
  generalize hw0 : World.alloc _ _ = w0
  obtain ⟨hb0, hB0, hs0⟩ := alloc1 hw0
  clear hw0
  have HX0 : Hid (MoBox w0 w.heap.size (.slice A m.opts.length cap) (.slice Al m.rules.length capl)) := hb0
  have HB0 := hide hB0
  have c0 := cellOf hb0 0
  have c1 := cellOf hb0 1
  have hlt0 := box_lt hb0
  clear hb0 hB0 hs0
  go_wp2_with fail
  go_loop [5] (fun i => ∃ t : Nat, t ≤ m.rules.length ∧ i = .int .i64 t ∧ Hid (∀ j, j < t → (fun f => !evF1 (vf vs) f) (m.rules.getD j []) = false)) (fun i => m.rules.length - (intOf i).toNat)
  case atStart => exact ⟨0, Nat.zero_le _, rfl, fun j hj => by omega⟩
  case round =>
    obtain ⟨t, ht, rfl, hall⟩ := hrel
    by_cases htl : t < m.rules.length
    · obtain ⟨rfl, hbb⟩ : Al = some ⟨bl, offl, none⟩ ∧ bl < w.heap.size := by
        rcases HAL.out with h | h
        · exact h
        · omega
      obtain ⟨f, hfe⟩ : ∃ f, m.rules.getD t [] = f := ⟨_, rfl⟩
      have hfm : f ∈ m.rules := by rw [← hfe]; exact getD_mem htl
      have hin : Ints w w.heap.size (fvs t) f := by have := HFI.out t htl; rwa [hfe] at this
      obtain ⟨Af, capf, hff⟩ := Sl.form hin
      have q0 : w0.cell? ⟨bl, offl + t, none⟩ = some (.slice Af f.length capf) := by
        have h1 := HCL.out t 0 htl (by omega)
        rw [Nat.mul_one, Nat.add_zero, hff] at h1
        exact (HB0.out.cell (p := ⟨bl, offl + t, none⟩) hbb).trans h1
      have lb : bl < w0.heap.size := Nat.lt_of_lt_of_le hbb HB0.out.size
      rw [hff] at hin
      have htr := True_any f m.opts.length vs (.slice Af f.length capf) (.slice Av vs.length capv) w.heap.size w0 (hin.below HB0.out) (Sl.below HV.out HB0.out) HN.out (HOK.out f hfm)
      have it0 : (0 : Int) ≤ (t : Int) := by omega
      have it2 : (t : Int) < (m.rules.length : Int) := by omega
      have HFE := hide hfe
      cases hx : evF1 (vf vs) f with
      | true =>
        rw [hx] at htr
        have HTR := hide htr
        have HX := hide hx
        clear hfm hin hff htr hx hfe
        go_wp2_with (go_at_call 66; refine HTR.out.mono ?_; rintro e w2 ⟨rfl, rfl⟩)
        go_round
        case rel => exact ⟨t + 1, by omega, by go_num, fun j hj => by
            rcases Nat.lt_or_ge j t with h | h
            · exact hall.out j h
            · rw [show j = t from by omega, HFE.out]; simp only [HX.out]; rfl⟩
        case measure => simp [intOf]; omega
      | false =>
        rw [hx] at htr
        have HTR := hide htr
        have hid : fstR vs m.rules = t := idxI_at _ [] m.rules t hall.out htl (by rw [hfe]; simp only [hx]; rfl)
        have HID := hide hid
        clear hfm hin hff htr hx hfe hid
        go_wp2_with (go_at_call 66; refine HTR.out.mono ?_; rintro e w2 ⟨rfl, rfl⟩)
        go_ret
        exact ⟨ret_int HID.out.symm, HB0.out⟩
    · have hid : fstR vs m.rules = -1 := idxI_none _ [] m.rules (fun j hj => hall.out j (by omega))
      have HID := hide hid
      clear hid
      go_wp2_with fail
      go_ret
      exact ⟨ret_int HID.out.symm, HB0.out⟩
end Go.Proofs.Ytohofcmikfkilaa

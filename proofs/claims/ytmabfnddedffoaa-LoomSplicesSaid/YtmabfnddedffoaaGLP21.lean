/- Part 21 of this claim's texts: walks and plain laws. -/
import Derived.Test.YtmabfnddedffoaaRows
import Derived.Test.YtmabfnddedffoaaGLP20
import Derived.Test.YtmabfnddedffoaaGLP13
/- CheckFormula: walks. -/
namespace Go.Proofs.Ytmabfnddedffoaa
open Go.RowKit
set_option linter.unusedVariables false
set_option linter.unusedSimpArgs false
set_option maxRecDepth 100000 in
set_option maxHeartbeats 2000000 in
theorem rCheckFormula_any (m : Mo) (f : List Int) (ov rv fv : Value) (w : World) (hs : SizedM m) (hl : f.length ≤ maxLen) (h : MoAt w w.heap.size ov rv m) (hf : Ints w w.heap.size fv f) :
    Calls Try.prog 79 #[.agg #[ov, rv], fv] w fun e w' => e = .returned (.int .i64 (m.errF [f])) ∧ Below w.heap.size w w' := by
  obtain ⟨A, cap, hov⟩ := Sl.form h.o
  obtain ⟨Ar, capr, hrv⟩ := h.r.form
  obtain ⟨Al, capl, hlv⟩ := Sl.form hf
  have H := hide h
  have HF := hide hf
  have HS := hide hs
  subst hov hrv hlv
  clear h hf hs
  go_enter Try.func79, Try.ntmps79
  go_upto_region 1 with (fail)
  generalize hw0 : World.alloc _ _ = w0
  obtain ⟨hb0, hB0, hs0⟩ := alloc1 hw0
  clear hw0
  have HX0 : Hid (MoBox w0 w.heap.size (.slice A m.opts.length cap) (.slice Ar m.rules.length capr)) := hb0
  have HB0 := hide hB0
  have c0 := cellOf hb0 0
  have c1 := cellOf hb0 1
  have hck := rCheckModel_any m (.slice A m.opts.length cap) (.slice Ar m.rules.length capr) w0 HS.out (H.out.up hB0)
  have HCK := hide hck
  clear hb0 hB0 hs0 hck
  by_cases he : m.err = 0
  · have HE := hide he
    clear he
    go_upto_region 4 with (go_at_call 74; refine HCK.out.mono ?_; rw [HE.out]; rintro e w1 ⟨rfl, hB1⟩; have hbx := box_to HX0.out hB1; have d0 := cellOf hbx 0; have d1 := cellOf hbx 1; have HB1 : Hid (Below w.heap.size w w1) := Below.to HB0.out hB1 (Nat.le_refl _); clear hbx hB1 c0 c1)
    have hv := rValid_any f m.opts.length (.slice Al f.length capl) w.heap.size w1 hl (HF.out.below HB1.out)
    have HV := hide hv
    clear hv
    cases hvf : validF m.opts.length f with
    | true =>
      have HVF := hide hvf
      have hef : m.errF [f] = 0 := by rw [Mo.errF_ok HE.out, List.all_cons, HVF.out]; rfl
      have HEF := hide hef
      clear hvf hef
      go_wp2_with (go_at_call 135; refine HV.out.mono ?_; rw [HVF.out]; rintro e w2 ⟨rfl, rfl⟩)
      go_ret
      exact ⟨ret_int HEF.out.symm, HB1.out⟩
    | false =>
      have HVF := hide hvf
      have hef : m.errF [f] = 11 := by rw [Mo.errF_ok HE.out, List.all_cons, HVF.out]; rfl
      have HEF := hide hef
      clear hvf hef
      go_wp2_with (go_at_call 135; refine HV.out.mono ?_; rw [HVF.out]; rintro e w2 ⟨rfl, rfl⟩)
      go_ret
      exact ⟨ret_int HEF.out.symm, HB1.out⟩
  · obtain ⟨z, hz⟩ : ∃ z, m.err = z := ⟨_, rfl⟩
    rw [hz] at he
    have hz1 : (z != 0) = true := by simpa using he
    have hef : m.errF [f] = z := by rw [Mo.errF_err (by rw [hz]; exact he), hz]
    have HEF := hide hef
    have HZ := hide hz
    clear he hz hef
    go_wp2_with (go_at_call 74; refine HCK.out.mono ?_; rw [HZ.out]; rintro e w1 ⟨rfl, hB1⟩)
    go_ret
    exact ⟨ret_int HEF.out.symm, Below.to HB0.out hB1 (Nat.le_refl _)⟩
set_option maxRecDepth 100000 in
set_option maxHeartbeats 2000000 in
theorem CheckFormula_any (m : Mo) (f : List Int) (ov rv fv : Value) (w : World) (hs : SizedM m) (hl : f.length ≤ maxLen) (h : MoAt w w.heap.size ov rv m) (hf : Ints w w.heap.size fv f) :
    Calls Try.prog 73 #[.agg #[ov, rv], fv] w fun e w' => e = .returned (.int .i64 (m.errF [f])) ∧ Below w.heap.size w w' := by
  obtain ⟨A, cap, hov⟩ := Sl.form h.o
  obtain ⟨Ar, capr, hrv⟩ := h.r.form
  obtain ⟨Al, capl, hlv⟩ := Sl.form hf
  have H := hide h
  have HF := hide hf
  have HS := hide hs
  subst hov hrv hlv
  clear h hf hs
  go_enter Try.func73, Try.ntmps73
  go_upto_region 1 with (fail)
  generalize hw0 : World.alloc _ _ = w0
  obtain ⟨hb0, hB0, hs0⟩ := alloc1 hw0
  clear hw0
  have HB0 := hide hB0
  have c0 := cellOf hb0 0
  have c1 := cellOf hb0 1
  have hB2 : Below w.heap.size w (w0.alloc (.cells #[.slice Al f.length capl] 66 (0, 0))) := Below.allocT hB0 (Nat.le_refl _) _
  have hck := check_any m [f] (.slice A m.opts.length cap) (.slice Ar m.rules.length capr) (.slice (some ⟨w0.heap.size, 0, none⟩) 1 1) _ HS.out (sized_one hl) (H.out.up hB2) (forms_one (heap_new _ _ _ rfl) (by simp) (HF.out.up hB2))
  have HCK := hide hck
  have HB2 := hide hB2
  clear hb0 hB0 hs0 hck hB2
  go_wp2_with (go_at_call 133; refine HCK.out.mono ?_; rintro e w1 ⟨rfl, hB1⟩)
  go_ret
  exact ⟨rfl, Below.to HB2.out hB1 (Nat.le_refl _)⟩
end Go.Proofs.Ytmabfnddedffoaa

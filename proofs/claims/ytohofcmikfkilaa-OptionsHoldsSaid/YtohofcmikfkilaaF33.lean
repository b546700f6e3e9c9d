/- Buildable as the elder program has it: walk. -/
import Derived.Test.YtohofcmikfkilaaRows
import Derived.Test.YtohofcmikfkilaaF32
namespace Go.Proofs.Ytohofcmikfkilaa
open Go.RowKit
set_option linter.unusedVariables false
set_option linter.unusedSimpArgs false
/-- What Buildable returns. -/
def buiE (m : Mo) (vs : List Bool) : Int := if m.err ≠ 0 then m.err else if vs.length ≠ m.opts.length then 1 else 0
def buiR (m : Mo) (vs : List Bool) : Int := if buiE m vs = 0 then fstR vs m.rules else 0
def buiB (m : Mo) (vs : List Bool) : Bool := if buiE m vs = 0 then decide (fstR vs m.rules < 0) else false
theorem bui_bad {m : Mo} {vs : List Bool} {z : Int} (h : buiE m vs = z) (hz : z ≠ 0) : buiR m vs = 0 ∧ buiB m vs = false := by
  constructor
  · unfold buiR; rw [h, if_neg hz]
  · unfold buiB; rw [h, if_neg hz]
theorem bui_ok {m : Mo} {vs : List Bool} (h : m.err = 0) (h2 : vs.length = m.opts.length) : buiE m vs = 0 ∧ buiR m vs = fstR vs m.rules ∧ buiB m vs = decide (fstR vs m.rules < 0) := by
  have h1 : buiE m vs = 0 := by unfold buiE; rw [if_neg (by simp [h]), if_neg (by simp [h2])]
  exact ⟨h1, by unfold buiR; rw [if_pos h1], by unfold buiB; rw [if_pos h1]⟩
set_option maxRecDepth 100000 in
set_option maxHeartbeats 4000000 in
theorem rBuildable_any (m : Mo) (vs : List Bool) (ov rv vv : Value) (w : World) (hs : SizedM m) (h : MoAt w w.heap.size ov rv m) (hv : Bols w w.heap.size vv vs) :
    Calls Try.prog 48 #[.agg #[ov, rv], vv] w fun e w' => e = .returned (.tuple #[.int .i64 (buiR m vs), .bool (buiB m vs), .int .i64 (buiE m vs)]) ∧ Below w.heap.size w w' := by
  obtain ⟨A, cap, hov⟩ := Sl.form h.o
  obtain ⟨Ar, capr, hrv⟩ := h.r.form
  obtain ⟨Av, capv, hvv⟩ := Sl.form hv
  have H := hide h
  have HV := hide hv
  have HS := hide hs
  subst hov hrv hvv
  clear h hv hs
  go_enter Try.func48, Try.ntmps48
  go_upto_region 1 with (fail)
  generalize hw0 : World.alloc _ _ = w0
  obtain ⟨hb0, hB0, hs0⟩ := alloc1 hw0
  clear hw0
  have HX0 : Hid (MoBox w0 w.heap.size (.slice A m.opts.length cap) (.slice Ar m.rules.length capr)) := hb0
  have HB0 := hide hB0
  have c0 := cellOf hb0 0
  have c1 := cellOf hb0 1
  have hck := rCheckModel_any m (.slice A m.opts.length cap) (.slice Ar m.rules.length capr) w0 HS.out (H.out.up hB0)
  have HCK := hide hck
  clear hb0 hB0 hs0 hck
  by_cases he : m.err = 0
  · have HE := hide he
    go_upto_region 4 with (go_at_call 25; refine HCK.out.mono ?_; rw [HE.out]; rintro e w1 ⟨rfl, hB1⟩; have hbx := box_to HX0.out hB1; have d0 := cellOf hbx 0; have d1 := cellOf hbx 1; have HB1 : Hid (Below w.heap.size w w1) := Below.to HB0.out hB1 (Nat.le_refl _); clear hbx hB1 c0 c1)
    by_cases hn : vs.length = m.opts.length
    · obtain ⟨h1, h2, h3⟩ := bui_ok he hn
      have e1 : ((vs.length : Int) != (m.opts.length : Int)) = false := by simp; omega
      have hf := rfirst_any m vs (.slice A m.opts.length cap) (.slice Ar m.rules.length capr) (.slice Av vs.length capv) w1 (H.out.up HB1.out) (Sl.up HV.out HB1.out) he hn
      obtain ⟨z, hz⟩ : ∃ z, fstR vs m.rules = z := ⟨_, rfl⟩
      rw [hz] at hf h2 h3
      have HF := hide hf
      have H1 := hide h1
      have H2 := hide h2
      have H3 := hide h3
      clear hf h1 h2 h3 he hn hz
      go_wp2_with (go_at_call 87; refine HF.out.mono ?_; rintro e w2 ⟨rfl, hB2⟩)
      go_ret3
      exact ⟨by rw [H1.out, H2.out, H3.out]; rfl, Below.to HB1.out hB2 (Nat.le_refl _)⟩
    · have h1 : buiE m vs = 1 := by unfold buiE; rw [if_neg (by simp [he]), if_pos hn]
      obtain ⟨h2, h3⟩ := bui_bad h1 (by omega)
      have e1 : ((vs.length : Int) != (m.opts.length : Int)) = true := by simp; omega
      have H1 := hide h1
      have H2 := hide h2
      have H3 := hide h3
      clear h1 h2 h3 he hn
      go_wp2_with fail
      go_ret3
      exact ⟨by rw [H1.out, H2.out, H3.out]; rfl, HB1.out⟩
  · obtain ⟨z, hz⟩ : ∃ z, m.err = z := ⟨_, rfl⟩
    have h1 : buiE m vs = z := by unfold buiE; rw [if_pos he, hz]
    rw [hz] at he
    obtain ⟨h2, h3⟩ := bui_bad h1 he
    have hz1 : (z != 0) = true := by simpa using he
    have HZ := hide hz
    have H1 := hide h1
    have H2 := hide h2
    have H3 := hide h3
    clear he hz h1 h2 h3
    go_wp2_with (go_at_call 25; refine HCK.out.mono ?_; rw [HZ.out]; rintro e w1 ⟨rfl, hB1⟩)
    go_ret3
    exact ⟨by rw [H1.out, H2.out, H3.out]; rfl, Below.to HB0.out hB1 (Nat.le_refl _)⟩
end Go.Proofs.Ytohofcmikfkilaa

/- Follow of a diagram says in which variants a formula holds; equal diagrams are those of formulas that hold in the same variants: for every model, formulas and variant; no condition. -/
import Derived.Test.YtohofcmikfkilaaRows
import Derived.Test.YtohofcmikfkilaaGF
import Derived.Test.YtohofcmikfkilaaGG
import Derived.Test.YtohofcmikfkilaaGH
import Derived.Test.YtohofcmikfkilaaGJ
import Derived.Test.YtohofcmikfkilaaGM
import Derived.Deep.RegionHeld3
import Derived.Deep.DrawnRows
namespace Go.Proofs.Ytohofcmikfkilaa
open Go.Joins Go.ChangeShapes Go.WideShapes Go.ChangeAt Go.RowKit Go.Deep
set_option linter.unusedVariables false
set_option linter.unusedSimpArgs false
def NoB (j : Nat) : Prop := False
set_option maxRecDepth 100000 in
set_option maxHeartbeats 8000000 in
theorem optionsAsked_large (m : Mo) (f g : List Int) (vs : List Bool) (ov rv fv gv vv : Value) (w : World) (hs : SizedM m) (h : MoAt w w.heap.size ov rv m) (hif : Ints w w.heap.size fv f) (hfl : f.length ≤ maxLen) (hig : Ints w w.heap.size gv g) (hgl : g.length ≤ maxLen) (hiv : Bols w w.heap.size vv vs) (hvl : vs.length ≤ maxLen) (hlg : largeB m = true) :
    Calls Try.prog 16 #[.agg #[ov, rv], .agg #[fv, gv], vv] w fun e w' => e = .returned (.bool true) ∧ Below w.heap.size w w' := by
  obtain ⟨A, cap, hov⟩ := Sl.form h.o
  obtain ⟨Ar, capr, hrv⟩ := h.r.form
  obtain ⟨Af, capf, hfv⟩ := Sl.form hif
  obtain ⟨Ag, capg, hgv⟩ := Sl.form hig
  obtain ⟨Av, capv, hvv⟩ := Sl.form hiv
  have H := hide h
  have HS := hide hs
  have HIF := hide hif
  have HIG := hide hig
  have HIV := hide hiv
  subst hov hrv hfv hgv hvv
  clear h hs hif hig hiv
  have HLG := hide hlg
  clear hlg
  go_enter Try.func16, Try.ntmps16
  go_upto_region 1 with (fail)
  generalize hw0 : World.alloc _ _ = w0
  obtain ⟨hb0, hb1, hB0, hs0⟩ := alloc2 hw0
  clear hw0
  have HX0 := hide hb0
  have HY0 := hide hb1
  have HB0 := hide hB0
  have c0 := cellOf hb0 0
  have c1 := cellOf hb0 1
  have d0 := cellOf hb1 0
  have d1 := cellOf hb1 1
  clear hb0 hb1 hB0 hs0
  go_wp2_with (first | (go_at_call 20; refine (works_any _).mono ?_; rintro e w99 ⟨rfl, hB99⟩) | (go_at_call 19; refine (Large_any m _ _ _ (H.out.up HB0.out)).mono ?_; rw [HLG.out]; rintro e w1 ⟨rfl, hB1⟩; have HB1 : Hid (Below w.heap.size w w1) := Below.to HB0.out hB1 (Nat.le_refl _); clear c0 c1 d0 d1; have HX1 := hide (box_to HX0.out hB1); have HY1 := hide (box_to HY0.out hB1); have c0 := cellOf HX1.out 0; have c1 := cellOf HX1.out 1; have d0 := cellOf HY1.out 0; have d1 := cellOf HY1.out 1; clear hB1))
  go_ret
  exact ⟨rfl, Below.to HB1.out hB99 (Nat.le_refl _)⟩
set_option maxRecDepth 100000 in
set_option maxHeartbeats 8000000 in
theorem optionsAsked_longF (m : Mo) (f g : List Int) (vs : List Bool) (ov rv fv gv vv : Value) (w : World) (hs : SizedM m) (h : MoAt w w.heap.size ov rv m) (hif : Ints w w.heap.size fv f) (hfl : f.length ≤ maxLen) (hig : Ints w w.heap.size gv g) (hgl : g.length ≤ maxLen) (hiv : Bols w w.heap.size vv vs) (hvl : vs.length ≤ maxLen) (hlg : largeB m = false) (h1 : 40 < f.length) :
    Calls Try.prog 16 #[.agg #[ov, rv], .agg #[fv, gv], vv] w fun e w' => e = .returned (.bool true) ∧ Below w.heap.size w w' := by
  obtain ⟨A, cap, hov⟩ := Sl.form h.o
  obtain ⟨Ar, capr, hrv⟩ := h.r.form
  obtain ⟨Af, capf, hfv⟩ := Sl.form hif
  obtain ⟨Ag, capg, hgv⟩ := Sl.form hig
  obtain ⟨Av, capv, hvv⟩ := Sl.form hiv
  have H := hide h
  have HS := hide hs
  have HIF := hide hif
  have HIG := hide hig
  have HIV := hide hiv
  subst hov hrv hfv hgv hvv
  clear h hs hif hig hiv
  have HLG := hide hlg
  clear hlg
  have q0 : decide ((40 : Int) < (f.length : Int)) = true := by simp; omega
  clear h1
  go_enter Try.func16, Try.ntmps16
  go_upto_region 1 with (fail)
  generalize hw0 : World.alloc _ _ = w0
  obtain ⟨hb0, hb1, hB0, hs0⟩ := alloc2 hw0
  clear hw0
  have HX0 := hide hb0
  have HY0 := hide hb1
  have HB0 := hide hB0
  have c0 := cellOf hb0 0
  have c1 := cellOf hb0 1
  have d0 := cellOf hb1 0
  have d1 := cellOf hb1 1
  clear hb0 hb1 hB0 hs0
  go_wp2_with (first | (go_at_call 20; refine (works_any _).mono ?_; rintro e w99 ⟨rfl, hB99⟩) | (go_at_call 19; refine (Large_any m _ _ _ (H.out.up HB0.out)).mono ?_; rw [HLG.out]; rintro e w1 ⟨rfl, hB1⟩; have HB1 : Hid (Below w.heap.size w w1) := Below.to HB0.out hB1 (Nat.le_refl _); clear c0 c1 d0 d1; have HX1 := hide (box_to HX0.out hB1); have HY1 := hide (box_to HY0.out hB1); have c0 := cellOf HX1.out 0; have c1 := cellOf HX1.out 1; have d0 := cellOf HY1.out 0; have d1 := cellOf HY1.out 1; clear hB1))
  go_ret
  exact ⟨rfl, Below.to HB1.out hB99 (Nat.le_refl _)⟩
set_option maxRecDepth 100000 in
set_option maxHeartbeats 8000000 in
theorem optionsAsked_longG (m : Mo) (f g : List Int) (vs : List Bool) (ov rv fv gv vv : Value) (w : World) (hs : SizedM m) (h : MoAt w w.heap.size ov rv m) (hif : Ints w w.heap.size fv f) (hfl : f.length ≤ maxLen) (hig : Ints w w.heap.size gv g) (hgl : g.length ≤ maxLen) (hiv : Bols w w.heap.size vv vs) (hvl : vs.length ≤ maxLen) (hlg : largeB m = false) (h1 : f.length ≤ 40) (h2 : 40 < g.length) :
    Calls Try.prog 16 #[.agg #[ov, rv], .agg #[fv, gv], vv] w fun e w' => e = .returned (.bool true) ∧ Below w.heap.size w w' := by
  obtain ⟨A, cap, hov⟩ := Sl.form h.o
  obtain ⟨Ar, capr, hrv⟩ := h.r.form
  obtain ⟨Af, capf, hfv⟩ := Sl.form hif
  obtain ⟨Ag, capg, hgv⟩ := Sl.form hig
  obtain ⟨Av, capv, hvv⟩ := Sl.form hiv
  have H := hide h
  have HS := hide hs
  have HIF := hide hif
  have HIG := hide hig
  have HIV := hide hiv
  subst hov hrv hfv hgv hvv
  clear h hs hif hig hiv
  have HLG := hide hlg
  clear hlg
  have q0 : decide ((40 : Int) < (f.length : Int)) = false := by simp; omega
  have q1 : decide ((40 : Int) < (g.length : Int)) = true := by simp; omega
  clear h1 h2
  go_enter Try.func16, Try.ntmps16
  go_upto_region 1 with (fail)
  generalize hw0 : World.alloc _ _ = w0
  obtain ⟨hb0, hb1, hB0, hs0⟩ := alloc2 hw0
  clear hw0
  have HX0 := hide hb0
  have HY0 := hide hb1
  have HB0 := hide hB0
  have c0 := cellOf hb0 0
  have c1 := cellOf hb0 1
  have d0 := cellOf hb1 0
  have d1 := cellOf hb1 1
  clear hb0 hb1 hB0 hs0
  go_wp2_with (first | (go_at_call 20; refine (works_any _).mono ?_; rintro e w99 ⟨rfl, hB99⟩) | (go_at_call 19; refine (Large_any m _ _ _ (H.out.up HB0.out)).mono ?_; rw [HLG.out]; rintro e w1 ⟨rfl, hB1⟩; have HB1 : Hid (Below w.heap.size w w1) := Below.to HB0.out hB1 (Nat.le_refl _); clear c0 c1 d0 d1; have HX1 := hide (box_to HX0.out hB1); have HY1 := hide (box_to HY0.out hB1); have c0 := cellOf HX1.out 0; have c1 := cellOf HX1.out 1; have d0 := cellOf HY1.out 0; have d1 := cellOf HY1.out 1; clear hB1))
  go_ret
  exact ⟨rfl, Below.to HB1.out hB99 (Nat.le_refl _)⟩
set_option maxRecDepth 100000 in
set_option maxHeartbeats 8000000 in
theorem optionsAsked_errF (m : Mo) (f g : List Int) (vs : List Bool) (ov rv fv gv vv : Value) (w : World) (hs : SizedM m) (h : MoAt w w.heap.size ov rv m) (hif : Ints w w.heap.size fv f) (hfl : f.length ≤ maxLen) (hig : Ints w w.heap.size gv g) (hgl : g.length ≤ maxLen) (hiv : Bols w w.heap.size vv vs) (hvl : vs.length ≤ maxLen) (hlg : largeB m = false) (h1 : f.length ≤ 40) (h2 : g.length ≤ 40) (z1 : m.errF [f] ≠ 0) :
    Calls Try.prog 16 #[.agg #[ov, rv], .agg #[fv, gv], vv] w fun e w' => e = .returned (.bool true) ∧ Below w.heap.size w w' := by
  obtain ⟨A, cap, hov⟩ := Sl.form h.o
  obtain ⟨Ar, capr, hrv⟩ := h.r.form
  obtain ⟨Af, capf, hfv⟩ := Sl.form hif
  obtain ⟨Ag, capg, hgv⟩ := Sl.form hig
  obtain ⟨Av, capv, hvv⟩ := Sl.form hiv
  have H := hide h
  have HS := hide hs
  have HIF := hide hif
  have HIG := hide hig
  have HIV := hide hiv
  subst hov hrv hfv hgv hvv
  clear h hs hif hig hiv
  have HLG := hide hlg
  clear hlg
  have q0 : decide ((40 : Int) < (f.length : Int)) = false := by simp; omega
  have q1 : decide ((40 : Int) < (g.length : Int)) = false := by simp; omega
  obtain ⟨x1, hx1⟩ : ∃ z, m.errF [f] = z := ⟨_, rfl⟩
  rw [hx1] at z1
  have hz1 : (x1 != 0) = true := by simpa using z1
  have HE1 := hide hx1
  clear hx1 z1 h1 h2
  go_enter Try.func16, Try.ntmps16
  go_upto_region 1 with (fail)
  generalize hw0 : World.alloc _ _ = w0
  obtain ⟨hb0, hb1, hB0, hs0⟩ := alloc2 hw0
  clear hw0
  have HX0 := hide hb0
  have HY0 := hide hb1
  have HB0 := hide hB0
  have c0 := cellOf hb0 0
  have c1 := cellOf hb0 1
  have d0 := cellOf hb1 0
  have d1 := cellOf hb1 1
  clear hb0 hb1 hB0 hs0
  go_wp2_with (first | (go_at_call 20; refine (works_any _).mono ?_; rintro e w99 ⟨rfl, hB99⟩) | (go_at_call 27; refine (rCheckFormula_any m f _ _ _ _ HS.out hfl (H.out.up HB1.out) (HIF.out.up HB1.out)).mono ?_; rw [HE1.out]; rintro e w2 ⟨rfl, hB2⟩; have HB2 : Hid (Below w.heap.size w w2) := Below.to HB1.out hB2 (Nat.le_refl _); clear c0 c1 d0 d1; have HX2 := hide (box_to HX1.out hB2); have HY2 := hide (box_to HY1.out hB2); have c0 := cellOf HX2.out 0; have c1 := cellOf HX2.out 1; have d0 := cellOf HY2.out 0; have d1 := cellOf HY2.out 1; clear hB2) | (go_at_call 19; refine (Large_any m _ _ _ (H.out.up HB0.out)).mono ?_; rw [HLG.out]; rintro e w1 ⟨rfl, hB1⟩; have HB1 : Hid (Below w.heap.size w w1) := Below.to HB0.out hB1 (Nat.le_refl _); clear c0 c1 d0 d1; have HX1 := hide (box_to HX0.out hB1); have HY1 := hide (box_to HY0.out hB1); have c0 := cellOf HX1.out 0; have c1 := cellOf HX1.out 1; have d0 := cellOf HY1.out 0; have d1 := cellOf HY1.out 1; clear hB1))
  go_ret
  exact ⟨rfl, Below.to HB2.out hB99 (Nat.le_refl _)⟩
set_option maxRecDepth 100000 in
set_option maxHeartbeats 8000000 in
theorem optionsAsked_errG (m : Mo) (f g : List Int) (vs : List Bool) (ov rv fv gv vv : Value) (w : World) (hs : SizedM m) (h : MoAt w w.heap.size ov rv m) (hif : Ints w w.heap.size fv f) (hfl : f.length ≤ maxLen) (hig : Ints w w.heap.size gv g) (hgl : g.length ≤ maxLen) (hiv : Bols w w.heap.size vv vs) (hvl : vs.length ≤ maxLen) (hlg : largeB m = false) (h1 : f.length ≤ 40) (h2 : g.length ≤ 40) (z1 : m.errF [f] = 0) (z2 : m.errF [g] ≠ 0) :
    Calls Try.prog 16 #[.agg #[ov, rv], .agg #[fv, gv], vv] w fun e w' => e = .returned (.bool true) ∧ Below w.heap.size w w' := by
  obtain ⟨A, cap, hov⟩ := Sl.form h.o
  obtain ⟨Ar, capr, hrv⟩ := h.r.form
  obtain ⟨Af, capf, hfv⟩ := Sl.form hif
  obtain ⟨Ag, capg, hgv⟩ := Sl.form hig
  obtain ⟨Av, capv, hvv⟩ := Sl.form hiv
  have H := hide h
  have HS := hide hs
  have HIF := hide hif
  have HIG := hide hig
  have HIV := hide hiv
  subst hov hrv hfv hgv hvv
  clear h hs hif hig hiv
  have HLG := hide hlg
  clear hlg
  have HE1 := hide z1
  clear z1
  have q0 : decide ((40 : Int) < (f.length : Int)) = false := by simp; omega
  have q1 : decide ((40 : Int) < (g.length : Int)) = false := by simp; omega
  obtain ⟨x1, hx1⟩ : ∃ z, m.errF [g] = z := ⟨_, rfl⟩
  rw [hx1] at z2
  have hz1 : (x1 != 0) = true := by simpa using z2
  have HE2 := hide hx1
  clear hx1 z2 h1 h2
  go_enter Try.func16, Try.ntmps16
  go_upto_region 1 with (fail)
  generalize hw0 : World.alloc _ _ = w0
  obtain ⟨hb0, hb1, hB0, hs0⟩ := alloc2 hw0
  clear hw0
  have HX0 := hide hb0
  have HY0 := hide hb1
  have HB0 := hide hB0
  have c0 := cellOf hb0 0
  have c1 := cellOf hb0 1
  have d0 := cellOf hb1 0
  have d1 := cellOf hb1 1
  clear hb0 hb1 hB0 hs0
  go_wp2_with (first | (go_at_call 20; refine (works_any _).mono ?_; rintro e w99 ⟨rfl, hB99⟩) | (go_at_call 27; refine (rCheckFormula_any m g _ _ _ _ HS.out hgl (H.out.up HB2.out) (HIG.out.up HB2.out)).mono ?_; rw [HE2.out]; rintro e w3 ⟨rfl, hB3⟩; have HB3 : Hid (Below w.heap.size w w3) := Below.to HB2.out hB3 (Nat.le_refl _); clear c0 c1 d0 d1; have HX3 := hide (box_to HX2.out hB3); have HY3 := hide (box_to HY2.out hB3); have c0 := cellOf HX3.out 0; have c1 := cellOf HX3.out 1; have d0 := cellOf HY3.out 0; have d1 := cellOf HY3.out 1; clear hB3) | (go_at_call 27; refine (rCheckFormula_any m f _ _ _ _ HS.out hfl (H.out.up HB1.out) (HIF.out.up HB1.out)).mono ?_; rw [HE1.out]; rintro e w2 ⟨rfl, hB2⟩; have HB2 : Hid (Below w.heap.size w w2) := Below.to HB1.out hB2 (Nat.le_refl _); clear c0 c1 d0 d1; have HX2 := hide (box_to HX1.out hB2); have HY2 := hide (box_to HY1.out hB2); have c0 := cellOf HX2.out 0; have c1 := cellOf HX2.out 1; have d0 := cellOf HY2.out 0; have d1 := cellOf HY2.out 1; clear hB2) | (go_at_call 19; refine (Large_any m _ _ _ (H.out.up HB0.out)).mono ?_; rw [HLG.out]; rintro e w1 ⟨rfl, hB1⟩; have HB1 : Hid (Below w.heap.size w w1) := Below.to HB0.out hB1 (Nat.le_refl _); clear c0 c1 d0 d1; have HX1 := hide (box_to HX0.out hB1); have HY1 := hide (box_to HY0.out hB1); have c0 := cellOf HX1.out 0; have c1 := cellOf HX1.out 1; have d0 := cellOf HY1.out 0; have d1 := cellOf HY1.out 1; clear hB1))
  go_ret
  exact ⟨rfl, Below.to HB3.out hB99 (Nat.le_refl _)⟩
set_option maxRecDepth 100000 in
set_option maxHeartbeats 8000000 in
theorem optionsAsked_many1 (m : Mo) (f g : List Int) (vs : List Bool) (ov rv fv gv vv : Value) (w : World) (hs : SizedM m) (h : MoAt w w.heap.size ov rv m) (hif : Ints w w.heap.size fv f) (hfl : f.length ≤ maxLen) (hig : Ints w w.heap.size gv g) (hgl : g.length ≤ maxLen) (hiv : Bols w w.heap.size vv vs) (hvl : vs.length ≤ maxLen) (hlg : largeB m = false) (h1 : f.length ≤ 40) (h2 : g.length ≤ 40) (z1 : m.errF [f] = 0) (z2 : m.errF [g] = 0) (y1 : digE m f = 2) :
    Calls Try.prog 16 #[.agg #[ov, rv], .agg #[fv, gv], vv] w fun e w' => e = .returned (.bool true) ∧ Below w.heap.size w w' := by
  obtain ⟨A, cap, hov⟩ := Sl.form h.o
  obtain ⟨Ar, capr, hrv⟩ := h.r.form
  obtain ⟨Af, capf, hfv⟩ := Sl.form hif
  obtain ⟨Ag, capg, hgv⟩ := Sl.form hig
  obtain ⟨Av, capv, hvv⟩ := Sl.form hiv
  have H := hide h
  have HS := hide hs
  have HIF := hide hif
  have HIG := hide hig
  have HIV := hide hiv
  subst hov hrv hfv hgv hvv
  clear h hs hif hig hiv
  have hN : m.err = 0 → m.opts.length ≤ 12 := fun he => by have := (large_small hlg he).1; omega
  have HN := hide hN
  have HLG := hide hlg
  clear hlg
  have HE1 := hide z1
  clear z1
  have HE2 := hide z2
  clear z2
  have q0 : decide ((40 : Int) < (f.length : Int)) = false := by simp; omega
  have q1 : decide ((40 : Int) < (g.length : Int)) = false := by simp; omega
  obtain ⟨k1, hk1⟩ : ∃ z, digK m f = z := ⟨_, rfl⟩
  obtain ⟨r1, hr1⟩ : ∃ z, digR m f = z := ⟨_, rfl⟩
  obtain ⟨k2, hk2⟩ : ∃ z, digK m g = z := ⟨_, rfl⟩
  obtain ⟨r2, hr2⟩ : ∃ z, digR m g = z := ⟨_, rfl⟩
  obtain ⟨x2, y2⟩ : ∃ z, digE m g = z := ⟨_, rfl⟩
  have HD1 := hide (And.intro hk1 (And.intro hr1 y1))
  have HD2 := hide (And.intro hk2 (And.intro hr2 y2))
  clear hk1 hk2 hr1 hr2 y1 y2 h1 h2 hN
  go_enter Try.func16, Try.ntmps16
  go_upto_region 1 with (fail)
  generalize hw0 : World.alloc _ _ = w0
  obtain ⟨hb0, hb1, hB0, hs0⟩ := alloc2 hw0
  clear hw0
  have HX0 := hide hb0
  have HY0 := hide hb1
  have HB0 := hide hB0
  have c0 := cellOf hb0 0
  have c1 := cellOf hb0 1
  have d0 := cellOf hb1 0
  have d1 := cellOf hb1 1
  clear hb0 hb1 hB0 hs0
  go_upto_region 3 with (first | (go_at_call 27; refine (rCheckFormula_any m g _ _ _ _ HS.out hgl (H.out.up HB2.out) (HIG.out.up HB2.out)).mono ?_; rw [HE2.out]; rintro e w3 ⟨rfl, hB3⟩; have HB3 : Hid (Below w.heap.size w w3) := Below.to HB2.out hB3 (Nat.le_refl _); clear c0 c1 d0 d1; have HX3 := hide (box_to HX2.out hB3); have HY3 := hide (box_to HY2.out hB3); have c0 := cellOf HX3.out 0; have c1 := cellOf HX3.out 1; have d0 := cellOf HY3.out 0; have d1 := cellOf HY3.out 1; clear hB3) | (go_at_call 27; refine (rCheckFormula_any m f _ _ _ _ HS.out hfl (H.out.up HB1.out) (HIF.out.up HB1.out)).mono ?_; rw [HE1.out]; rintro e w2 ⟨rfl, hB2⟩; have HB2 : Hid (Below w.heap.size w w2) := Below.to HB1.out hB2 (Nat.le_refl _); clear c0 c1 d0 d1; have HX2 := hide (box_to HX1.out hB2); have HY2 := hide (box_to HY1.out hB2); have c0 := cellOf HX2.out 0; have c1 := cellOf HX2.out 1; have d0 := cellOf HY2.out 0; have d1 := cellOf HY2.out 1; clear hB2) | (go_at_call 19; refine (Large_any m _ _ _ (H.out.up HB0.out)).mono ?_; rw [HLG.out]; rintro e w1 ⟨rfl, hB1⟩; have HB1 : Hid (Below w.heap.size w w1) := Below.to HB0.out hB1 (Nat.le_refl _); clear c0 c1 d0 d1; have HX1 := hide (box_to HX0.out hB1); have HY1 := hide (box_to HY0.out hB1); have c0 := cellOf HX1.out 0; have c1 := cellOf HX1.out 1; have d0 := cellOf HY1.out 0; have d1 := cellOf HY1.out 1; clear hB1))
  go_upto_region 4 with (go_at_call 34; refine (Diagram_any m f _ _ _ _ HS.out hfl (H.out.up HB3.out) (HIF.out.up HB3.out) HN.out).mono ?_; unfold DigP; rw [HD1.out.1, HD1.out.2.1, HD1.out.2.2]; rintro e w4 ⟨kv4, rfl, hK4, hB4⟩; have HB4 : Hid (Below w.heap.size w w4) := Below.to HB3.out hB4 (Nat.le_refl _); clear c0 c1 d0 d1; have HX4 := hide (box_to HX3.out hB4); have HY4 := hide (box_to HY3.out hB4); have c0 := cellOf HX4.out 0; have c1 := cellOf HX4.out 1; have d0 := cellOf HY4.out 0; have d1 := cellOf HY4.out 1; have HK4 := hide hK4; have HKB4 := hide hB4; clear hB4 hK4)
  go_upto_region 5 with (go_at_call 34; refine (Diagram_any m g _ _ _ _ HS.out hgl (H.out.up HB4.out) (HIG.out.up HB4.out) HN.out).mono ?_; unfold DigP; rw [HD2.out.1, HD2.out.2.1, HD2.out.2.2]; rintro e w5 ⟨kv5, rfl, hK5, hB5⟩; have HB5 : Hid (Below w.heap.size w w5) := Below.to HB4.out hB5 (Nat.le_refl _); clear c0 c1 d0 d1; have HX5 := hide (box_to HX4.out hB5); have HY5 := hide (box_to HY4.out hB5); have c0 := cellOf HX5.out 0; have c1 := cellOf HX5.out 1; have d0 := cellOf HY5.out 0; have d1 := cellOf HY5.out 1; have HK5 := hide hK5; have HKB5 := hide hB5; clear hB5 hK5)
  go_wp2_with (go_at_call 20; refine (works_any _).mono ?_; rintro e w99 ⟨rfl, hB99⟩)
  go_ret
  exact ⟨rfl, Below.to HB5.out hB99 (Nat.le_refl _)⟩
set_option maxRecDepth 100000 in
set_option maxHeartbeats 8000000 in
theorem optionsAsked_many2 (m : Mo) (f g : List Int) (vs : List Bool) (ov rv fv gv vv : Value) (w : World) (hs : SizedM m) (h : MoAt w w.heap.size ov rv m) (hif : Ints w w.heap.size fv f) (hfl : f.length ≤ maxLen) (hig : Ints w w.heap.size gv g) (hgl : g.length ≤ maxLen) (hiv : Bols w w.heap.size vv vs) (hvl : vs.length ≤ maxLen) (hlg : largeB m = false) (h1 : f.length ≤ 40) (h2 : g.length ≤ 40) (z1 : m.errF [f] = 0) (z2 : m.errF [g] = 0) (y1 : digE m f = 0) (y2 : digE m g = 2) :
    Calls Try.prog 16 #[.agg #[ov, rv], .agg #[fv, gv], vv] w fun e w' => e = .returned (.bool true) ∧ Below w.heap.size w w' := by
  obtain ⟨A, cap, hov⟩ := Sl.form h.o
  obtain ⟨Ar, capr, hrv⟩ := h.r.form
  obtain ⟨Af, capf, hfv⟩ := Sl.form hif
  obtain ⟨Ag, capg, hgv⟩ := Sl.form hig
  obtain ⟨Av, capv, hvv⟩ := Sl.form hiv
  have H := hide h
  have HS := hide hs
  have HIF := hide hif
  have HIG := hide hig
  have HIV := hide hiv
  subst hov hrv hfv hgv hvv
  clear h hs hif hig hiv
  have hN : m.err = 0 → m.opts.length ≤ 12 := fun he => by have := (large_small hlg he).1; omega
  have HN := hide hN
  have HLG := hide hlg
  clear hlg
  have HE1 := hide z1
  clear z1
  have HE2 := hide z2
  clear z2
  have q0 : decide ((40 : Int) < (f.length : Int)) = false := by simp; omega
  have q1 : decide ((40 : Int) < (g.length : Int)) = false := by simp; omega
  obtain ⟨k1, hk1⟩ : ∃ z, digK m f = z := ⟨_, rfl⟩
  obtain ⟨r1, hr1⟩ : ∃ z, digR m f = z := ⟨_, rfl⟩
  obtain ⟨k2, hk2⟩ : ∃ z, digK m g = z := ⟨_, rfl⟩
  obtain ⟨r2, hr2⟩ : ∃ z, digR m g = z := ⟨_, rfl⟩
  have HD1 := hide (And.intro hk1 (And.intro hr1 y1))
  have HD2 := hide (And.intro hk2 (And.intro hr2 y2))
  clear hk1 hk2 hr1 hr2 y1 y2 h1 h2 hN
  go_enter Try.func16, Try.ntmps16
  go_upto_region 1 with (fail)
  generalize hw0 : World.alloc _ _ = w0
  obtain ⟨hb0, hb1, hB0, hs0⟩ := alloc2 hw0
  clear hw0
  have HX0 := hide hb0
  have HY0 := hide hb1
  have HB0 := hide hB0
  have c0 := cellOf hb0 0
  have c1 := cellOf hb0 1
  have d0 := cellOf hb1 0
  have d1 := cellOf hb1 1
  clear hb0 hb1 hB0 hs0
  go_upto_region 3 with (first | (go_at_call 27; refine (rCheckFormula_any m g _ _ _ _ HS.out hgl (H.out.up HB2.out) (HIG.out.up HB2.out)).mono ?_; rw [HE2.out]; rintro e w3 ⟨rfl, hB3⟩; have HB3 : Hid (Below w.heap.size w w3) := Below.to HB2.out hB3 (Nat.le_refl _); clear c0 c1 d0 d1; have HX3 := hide (box_to HX2.out hB3); have HY3 := hide (box_to HY2.out hB3); have c0 := cellOf HX3.out 0; have c1 := cellOf HX3.out 1; have d0 := cellOf HY3.out 0; have d1 := cellOf HY3.out 1; clear hB3) | (go_at_call 27; refine (rCheckFormula_any m f _ _ _ _ HS.out hfl (H.out.up HB1.out) (HIF.out.up HB1.out)).mono ?_; rw [HE1.out]; rintro e w2 ⟨rfl, hB2⟩; have HB2 : Hid (Below w.heap.size w w2) := Below.to HB1.out hB2 (Nat.le_refl _); clear c0 c1 d0 d1; have HX2 := hide (box_to HX1.out hB2); have HY2 := hide (box_to HY1.out hB2); have c0 := cellOf HX2.out 0; have c1 := cellOf HX2.out 1; have d0 := cellOf HY2.out 0; have d1 := cellOf HY2.out 1; clear hB2) | (go_at_call 19; refine (Large_any m _ _ _ (H.out.up HB0.out)).mono ?_; rw [HLG.out]; rintro e w1 ⟨rfl, hB1⟩; have HB1 : Hid (Below w.heap.size w w1) := Below.to HB0.out hB1 (Nat.le_refl _); clear c0 c1 d0 d1; have HX1 := hide (box_to HX0.out hB1); have HY1 := hide (box_to HY0.out hB1); have c0 := cellOf HX1.out 0; have c1 := cellOf HX1.out 1; have d0 := cellOf HY1.out 0; have d1 := cellOf HY1.out 1; clear hB1))
  go_upto_region 4 with (go_at_call 34; refine (Diagram_any m f _ _ _ _ HS.out hfl (H.out.up HB3.out) (HIF.out.up HB3.out) HN.out).mono ?_; unfold DigP; rw [HD1.out.1, HD1.out.2.1, HD1.out.2.2]; rintro e w4 ⟨kv4, rfl, hK4, hB4⟩; have HB4 : Hid (Below w.heap.size w w4) := Below.to HB3.out hB4 (Nat.le_refl _); clear c0 c1 d0 d1; have HX4 := hide (box_to HX3.out hB4); have HY4 := hide (box_to HY3.out hB4); have c0 := cellOf HX4.out 0; have c1 := cellOf HX4.out 1; have d0 := cellOf HY4.out 0; have d1 := cellOf HY4.out 1; have HK4 := hide hK4; have HKB4 := hide hB4; clear hB4 hK4)
  go_upto_region 5 with (go_at_call 34; refine (Diagram_any m g _ _ _ _ HS.out hgl (H.out.up HB4.out) (HIG.out.up HB4.out) HN.out).mono ?_; unfold DigP; rw [HD2.out.1, HD2.out.2.1, HD2.out.2.2]; rintro e w5 ⟨kv5, rfl, hK5, hB5⟩; have HB5 : Hid (Below w.heap.size w w5) := Below.to HB4.out hB5 (Nat.le_refl _); clear c0 c1 d0 d1; have HX5 := hide (box_to HX4.out hB5); have HY5 := hide (box_to HY4.out hB5); have c0 := cellOf HX5.out 0; have c1 := cellOf HX5.out 1; have d0 := cellOf HY5.out 0; have d1 := cellOf HY5.out 1; have HK5 := hide hK5; have HKB5 := hide hB5; clear hB5 hK5)
  go_wp2_with (go_at_call 20; refine (works_any _).mono ?_; rintro e w99 ⟨rfl, hB99⟩)
  go_ret
  exact ⟨rfl, Below.to HB5.out hB99 (Nat.le_refl _)⟩
set_option maxRecDepth 100000 in
set_option maxHeartbeats 8000000 in
theorem optionsAsked_ok (m : Mo) (f g : List Int) (vs : List Bool) (ov rv fv gv vv : Value) (w : World) (hs : SizedM m) (h : MoAt w w.heap.size ov rv m) (hif : Ints w w.heap.size fv f) (hfl : f.length ≤ maxLen) (hig : Ints w w.heap.size gv g) (hgl : g.length ≤ maxLen) (hiv : Bols w w.heap.size vv vs) (hvl : vs.length ≤ maxLen) (hlg : largeB m = false) (h1 : f.length ≤ 40) (h2 : g.length ≤ 40) (z1 : m.errF [f] = 0) (z2 : m.errF [g] = 0) (y1 : digE m f = 0) (y2 : digE m g = 0) :
    Calls Try.prog 16 #[.agg #[ov, rv], .agg #[fv, gv], vv] w fun e w' => e = .returned (.bool true) ∧ Below w.heap.size w w' := by
  obtain ⟨A, cap, hov⟩ := Sl.form h.o
  obtain ⟨Ar, capr, hrv⟩ := h.r.form
  obtain ⟨Af, capf, hfv⟩ := Sl.form hif
  obtain ⟨Ag, capg, hgv⟩ := Sl.form hig
  obtain ⟨Av, capv, hvv⟩ := Sl.form hiv
  have H := hide h
  have HS := hide hs
  have HIF := hide hif
  have HIG := hide hig
  have HIV := hide hiv
  subst hov hrv hfv hgv hvv
  clear h hs hif hig hiv
  obtain ⟨i1, hi1, jz0, jz1, jz2⟩ := info_parts infoInt
  have hN : m.err = 0 → m.opts.length ≤ 12 := fun he => by have := (large_small hlg he).1; omega
  have HN := hide hN
  have hsame := asked_same y1 y2 h1 h2
  obtain ⟨jl, hjl⟩ : ∃ x, (-3 :: (-6 :: f ++ g) : List Int) = x := ⟨_, rfl⟩
  have hjlen : jl.length ≤ maxLen := by rw [← hjl]; unfold maxLen; simp; omega
  have HJ := hide hjl
  rw [hjl] at hsame
  obtain ⟨cn, hcn⟩ : ∃ x, cntE m jl = x := ⟨_, rfl⟩
  rw [hcn] at hsame
  have HC := hide (And.intro hcn hsame.1)
  have hfol := fun (hb : buiE m vs = 0) => asked_follow (vs := vs) y1 hb
  have hlen1 : (digK m f).length ≤ 2000 := by have := dig_inv y1; rw [this.2.2.1]; exact this.2.1
  have hlen2 : (digK m g).length ≤ 2000 := by have := dig_inv y2; rw [this.2.2.1]; exact this.2.1
  have HLG := hide hlg
  clear hlg
  have HE1 := hide z1
  clear z1
  have HE2 := hide z2
  clear z2
  have q0 : decide ((40 : Int) < (f.length : Int)) = false := by simp; omega
  have q1 : decide ((40 : Int) < (g.length : Int)) = false := by simp; omega
  obtain ⟨k1, hk1⟩ : ∃ z, digK m f = z := ⟨_, rfl⟩
  obtain ⟨r1, hr1⟩ : ∃ z, digR m f = z := ⟨_, rfl⟩
  obtain ⟨k2, hk2⟩ : ∃ z, digK m g = z := ⟨_, rfl⟩
  obtain ⟨r2, hr2⟩ : ∃ z, digR m g = z := ⟨_, rfl⟩
  rw [hk1, hr1] at hsame hfol
  rw [hk2, hr2] at hsame
  rw [hk1] at hlen1
  rw [hk2] at hlen2
  have HSM := hide hsame.2
  have HFO := hide hfol
  have HL1 := hide hlen1
  have HL2 := hide hlen2
  have HH := hide (And.intro h1 h2)
  have HD1 := hide (And.intro hk1 (And.intro hr1 y1))
  have HD2 := hide (And.intro hk2 (And.intro hr2 y2))
  clear hk1 hk2 hr1 hr2 y1 y2 h1 h2 hN hsame hfol hlen1 hlen2 hcn hjl
  go_enter Try.func16, Try.ntmps16
  go_upto_region 1 with (fail)
  generalize hw0 : World.alloc _ _ = w0
  obtain ⟨hb0, hb1, hB0, hs0⟩ := alloc2 hw0
  clear hw0
  have HX0 := hide hb0
  have HY0 := hide hb1
  have HB0 := hide hB0
  have c0 := cellOf hb0 0
  have c1 := cellOf hb0 1
  have d0 := cellOf hb1 0
  have d1 := cellOf hb1 1
  clear hb0 hb1 hB0 hs0
  go_upto_region 3 with (first | (go_at_call 27; refine (rCheckFormula_any m g _ _ _ _ HS.out hgl (H.out.up HB2.out) (HIG.out.up HB2.out)).mono ?_; rw [HE2.out]; rintro e w3 ⟨rfl, hB3⟩; have HB3 : Hid (Below w.heap.size w w3) := Below.to HB2.out hB3 (Nat.le_refl _); clear c0 c1 d0 d1; have HX3 := hide (box_to HX2.out hB3); have HY3 := hide (box_to HY2.out hB3); have c0 := cellOf HX3.out 0; have c1 := cellOf HX3.out 1; have d0 := cellOf HY3.out 0; have d1 := cellOf HY3.out 1; clear hB3) | (go_at_call 27; refine (rCheckFormula_any m f _ _ _ _ HS.out hfl (H.out.up HB1.out) (HIF.out.up HB1.out)).mono ?_; rw [HE1.out]; rintro e w2 ⟨rfl, hB2⟩; have HB2 : Hid (Below w.heap.size w w2) := Below.to HB1.out hB2 (Nat.le_refl _); clear c0 c1 d0 d1; have HX2 := hide (box_to HX1.out hB2); have HY2 := hide (box_to HY1.out hB2); have c0 := cellOf HX2.out 0; have c1 := cellOf HX2.out 1; have d0 := cellOf HY2.out 0; have d1 := cellOf HY2.out 1; clear hB2) | (go_at_call 19; refine (Large_any m _ _ _ (H.out.up HB0.out)).mono ?_; rw [HLG.out]; rintro e w1 ⟨rfl, hB1⟩; have HB1 : Hid (Below w.heap.size w w1) := Below.to HB0.out hB1 (Nat.le_refl _); clear c0 c1 d0 d1; have HX1 := hide (box_to HX0.out hB1); have HY1 := hide (box_to HY0.out hB1); have c0 := cellOf HX1.out 0; have c1 := cellOf HX1.out 1; have d0 := cellOf HY1.out 0; have d1 := cellOf HY1.out 1; clear hB1))
  go_upto_region 4 with (go_at_call 34; refine (Diagram_any m f _ _ _ _ HS.out hfl (H.out.up HB3.out) (HIF.out.up HB3.out) HN.out).mono ?_; unfold DigP; rw [HD1.out.1, HD1.out.2.1, HD1.out.2.2]; rintro e w4 ⟨kv4, rfl, hK4, hB4⟩; have HB4 : Hid (Below w.heap.size w w4) := Below.to HB3.out hB4 (Nat.le_refl _); clear c0 c1 d0 d1; have HX4 := hide (box_to HX3.out hB4); have HY4 := hide (box_to HY3.out hB4); have c0 := cellOf HX4.out 0; have c1 := cellOf HX4.out 1; have d0 := cellOf HY4.out 0; have d1 := cellOf HY4.out 1; have HK4 := hide hK4; have HKB4 := hide hB4; clear hB4 hK4)
  go_upto_region 5 with (go_at_call 34; refine (Diagram_any m g _ _ _ _ HS.out hgl (H.out.up HB4.out) (HIG.out.up HB4.out) HN.out).mono ?_; unfold DigP; rw [HD2.out.1, HD2.out.2.1, HD2.out.2.2]; rintro e w5 ⟨kv5, rfl, hK5, hB5⟩; have HB5 : Hid (Below w.heap.size w w5) := Below.to HB4.out hB5 (Nat.le_refl _); clear c0 c1 d0 d1; have HX5 := hide (box_to HX4.out hB5); have HY5 := hide (box_to HY4.out hB5); have c0 := cellOf HX5.out 0; have c1 := cellOf HX5.out 1; have d0 := cellOf HY5.out 0; have d1 := cellOf HY5.out 1; have HK5 := hide hK5; have HKB5 := hide hB5; clear hB5 hK5)
  go_upto_region 7 with (fail)
  have hn0 : ¬ NoB w.heap.size := fun h => h
  have hn1 : ¬ NoB (w.heap.size + 1) := fun h => h
  have hbx : w.heap.size < w5.heap.size := box_lt HX5.out
  have hby : w.heap.size + 1 < w5.heap.size := box_lt HY5.out
  obtain ⟨l6, hl6⟩ : ∃ x, (-6 :: f ++ g : List Int) = x := ⟨_, rfl⟩
  have HM6 : Hid (l6.length ≤ 81) := by have := HH.out; show _ ≤ _; rw [← hl6]; simp; omega
  have HL6 := hide hl6
  clear hl6
  have HTW : Hid (∀ W, Below w5.heap.size w5 W → Calls Try.prog 57 #[.int .i64 (-6), .slice Af f.length capf, .slice Ag g.length capg] W fun e W' => ∃ v, e = .returned v ∧ W'.ownsRow W.heap.size 3 1 v l6.length (l6.map (Value.int .i64)) ∧ Below W.heap.size W W') := fun W hW => HL6.out ▸ two_any (-6) f g _ _ W ((HIF.out.up HB5.out).up hW) ((HIG.out.up HB5.out).up hW) (by have := HH.out; omega) (by have := HH.out; omega)
  have HCO : Hid (∀ v W, Ints W W.heap.size v jl → Below w5.heap.size w5 W → Calls Try.prog 31 #[.agg #[.slice A m.opts.length cap, .slice Ar m.rules.length capr], v] W fun e W' => e = .returned (.tuple #[.int .i64 cn, .int .i64 0]) ∧ Below W.heap.size W W') := fun v W hv hW => by
    have := Count_any m jl _ _ v W HS.out hjlen ((H.out.up HB5.out).up hW) hv (fun he => HN.out (Mo.okF he).1)
    rw [HC.out.1, HC.out.2] at this
    exact this
  go_cut [13, 14] from 79 to 90 (fun ca cb wc => ca = .int .i64 cn ∧ cb = .int .i64 0 ∧ Hid (Below w5.heap.size w5 wc))
  case first =>
    refine wp_region_held_drew (S := (fun w' => Keeps (NoB) w5 w')) (by kernel_rfl) ?_ (fun hHeld => ?_)
    · try dsimp only
      (repeat (first | (with_reducible exact Keeps.refl _ _) | exact hKeep.out | exact hKeepS.out _ | assumption | (with_reducible refine Keeps.drew ?_) | (with_reducible refine Keeps.drewN ?_ _) | (with_reducible refine Keeps.alloc ?_ _) | (with_reducible refine Keeps.setCell ?_ (.inl (by first | exact .inl rfl | exact .inr rfl)) _)))
    refine wpAnyH_take (i := 0) (v := ?v1_1) rfl (by kernel_rfl) (by kernel_rfl) (by kernel_rfl) (fun _ _ _ h => h) (Or.inl ⟨by rfl, ?y1_1⟩) (by assumption) ?r1_1
    case' y1_1 => (intro w hSw; (try dsimp only at hSw); (try have hlS := HLK.out _ hSw); have hcS := kcell hSw; clear hSw; go_simp; try with_reducible rfl)
    try simp only [Act.put, List.getElem_toArray, List.getElem_cons_succ, List.getElem_cons_zero, List.setIfInBounds_toArray, List.set_cons_zero, List.set_cons_succ]
    refine wpAnyH_take (i := 2) (v := ?v1_2) rfl (by kernel_rfl) (by kernel_rfl) (by kernel_rfl) (fun _ _ _ h => h) (Or.inl ⟨by rfl, ?y1_2⟩) (by assumption) ?r1_2
    case' y1_2 => (intro w hSw; (try dsimp only at hSw); (try have hlS := HLK.out _ hSw); have hcS := kcell hSw; clear hSw; go_simp; try with_reducible rfl)
    try simp only [Act.put, List.getElem_toArray, List.getElem_cons_succ, List.getElem_cons_zero, List.setIfInBounds_toArray, List.set_cons_zero, List.set_cons_succ]
    refine wpAnyH_take (i := 3) (v := ?v1_3) rfl (by kernel_rfl) (by kernel_rfl) (by kernel_rfl) (fun _ _ _ h => h) (Or.inl ⟨by rfl, ?y1_3⟩) (by assumption) ?r1_3
    case' y1_3 => (intro w hSw; (try dsimp only at hSw); (try have hlS := HLK.out _ hSw); have hcS := kcell hSw; clear hSw; go_simp; try with_reducible rfl)
    try simp only [Act.put, List.getElem_toArray, List.getElem_cons_succ, List.getElem_cons_zero, List.setIfInBounds_toArray, List.set_cons_zero, List.set_cons_succ]
    refine wpAnyH_take (i := 4) (v := ?v1_4) rfl (by kernel_rfl) (by kernel_rfl) (by kernel_rfl) (fun _ _ _ h => h) (Or.inl ⟨by rfl, ?y1_4⟩) (by assumption) ?r1_4
    case' y1_4 => (intro w hSw; (try dsimp only at hSw); (try have hlS := HLK.out _ hSw); have hcS := kcell hSw; clear hSw; go_simp; try with_reducible rfl)
    try simp only [Act.put, List.getElem_toArray, List.getElem_cons_succ, List.getElem_cons_zero, List.setIfInBounds_toArray, List.set_cons_zero, List.set_cons_succ]
    refine wpAnyH_take (i := 5) (v := ?v1_5) rfl (by kernel_rfl) (by kernel_rfl) (by kernel_rfl) (fun _ _ _ h => h) (Or.inl ⟨by rfl, ?y1_5⟩) (by assumption) ?r1_5
    case' y1_5 => (intro w hSw; (try dsimp only at hSw); (try have hlS := HLK.out _ hSw); have hcS := kcell hSw; clear hSw; go_simp; try with_reducible rfl)
    try simp only [Act.put, List.getElem_toArray, List.getElem_cons_succ, List.getElem_cons_zero, List.setIfInBounds_toArray, List.set_cons_zero, List.set_cons_succ]
    refine wpAnyH_ready (rs := [1, 6]) (by kernel_rfl) (by simp) ?_
    refine (AllReadyH.cons rfl (fun K hK => ?o1_6_1) (AllReadyH.cons rfl (fun K hK => ?o1_6_6) AllReadyH.nil))
    case' o1_6_1 =>
      go_simp
      refine hK.out _ _ ?_ (fun hNext => ?_)
      · try dsimp only
        (repeat (first | (with_reducible exact Keeps.refl _ _) | exact hKeep.out | exact hKeepS.out _ | assumption | (with_reducible refine Keeps.drew ?_) | (with_reducible refine Keeps.drewN ?_ _) | (with_reducible refine Keeps.alloc ?_ _) | (with_reducible refine Keeps.setCell ?_ (.inl (by first | exact .inl rfl | exact .inr rfl)) _)))
      clear hK K hHeld
      have hHeld := hNext
      clear hNext
      (try dsimp only at hHeld)
      try simp only [Act.put, List.getElem_toArray, List.getElem_cons_succ, List.getElem_cons_zero, List.setIfInBounds_toArray, List.set_cons_zero, List.set_cons_succ]
      refine wpAnyH_ready (rs := [6]) (by kernel_rfl) (by simp) ?_
      refine (AllReadyH.cons rfl (fun K hK => ?_) AllReadyH.nil)
      go_simp
      (first
      | (go_at_call 57; refine (HTW.out _ (by repeat (first | exact Below.refl _ _ | assumption | refine Below.drew ?_ | refine Below.drewN ?_ _ | refine Below.allocT ?_ (Nat.le_refl _) _ | refine Below.setCell ?_ (by simp <;> omega) _ | refine Below.to ?_ (by assumption) (Nat.le_refl _)))).mono ?_; rintro e w6 ⟨tv, rfl, hown, hB6⟩; obtain ⟨A6, cap6, hv6⟩ := owns_form hown; subst hv6; have HT6 := hide hown; have HU6 := hide hB6; have hKeep : Hid (Keeps NoB w5 w6) := Keeps.of_below (Below.to (by repeat (first | exact Below.refl _ _ | assumption | refine Below.drew ?_ | refine Below.drewN ?_ _ | refine Below.allocT ?_ (Nat.le_refl _) _ | refine Below.setCell ?_ (by simp <;> omega) _ | refine Below.to ?_ (by assumption) (Nat.le_refl _))) hB6 (Nat.le_refl _)); clear hown hB6)
      | (go_at_call 31; refine (HCO.out _ _ HI7.out HB7.out).mono ?_; rintro e w8 ⟨rfl, hB8⟩; have HB8 : Hid (Below w5.heap.size w5 w8) := Below.to HB7.out hB8 (Nat.le_refl _); have hKeep : Hid (Keeps NoB w5 w8) := Keeps.of_below HB8.out; clear hB8))
      (try dsimp only)
      refine hK.out _ _ ?_ (fun hNext => ?_)
      · try dsimp only
        (repeat (first | (with_reducible exact Keeps.refl _ _) | exact hKeep.out | exact hKeepS.out _ | assumption | (with_reducible refine Keeps.drew ?_) | (with_reducible refine Keeps.drewN ?_ _) | (with_reducible refine Keeps.alloc ?_ _) | (with_reducible refine Keeps.setCell ?_ (.inl (by first | exact .inl rfl | exact .inr rfl)) _)))
      clear hK K hHeld
      have hHeld := hNext
      clear hNext
      (try dsimp only at hHeld)
      try simp only [Act.put, List.getElem_toArray, List.getElem_cons_succ, List.getElem_cons_zero, List.setIfInBounds_toArray, List.set_cons_zero, List.set_cons_succ]
      refine wpAnyH_ready (rs := [7]) (by kernel_rfl) (by simp) ?_
      refine (AllReadyH.cons rfl (fun K hK => ?_) AllReadyH.nil)
      (first
      | (refine step_append_any _ (by rfl) (.tmp 81) (.tmp 86) _ (by rfl) w5.heap.size 3 i1 _ 1 8 Try.underlying35 hi1 jz0 jz1 jz2 (by rfl) (by decide) (.slice (some ⟨w5.heap.size, 0, none⟩) 1 1) 1 [.int .i64 (-3)] (by rfl) (owns_below (owns_built w5.drew (-3)) HU6.out) w6.heap.size A6 l6.length cap6 (l6.map (Value.int .i64)) (by rfl) (Ints.flat2 (ints_own HT6.out)) one_ints (by have := HM6.out; unfold maxLen; omega) (by have := HM6.out; omega) (by have := HU6.out.size; simp at this ⊢; omega) ?_; intro v7 w7 hown7 hg7 _; have HI7 : Hid (Ints w7 w7.heap.size v7 jl) := ints_own2 hown7 (by rw [← HJ.out, HL6.out]; simp; omega) (by rw [← HJ.out, HL6.out]; simp); have HB7 : Hid (Below w5.heap.size w5 w7) := Below.grown (Below.to (by repeat (first | exact Below.refl _ _ | assumption | refine Below.drew ?_ | refine Below.drewN ?_ _ | refine Below.allocT ?_ (Nat.le_refl _) _ | refine Below.setCell ?_ (by simp <;> omega) _ | refine Below.to ?_ (by assumption) (Nat.le_refl _))) HU6.out (Nat.le_refl _)) hg7 (by have := HU6.out.size; simp at this ⊢; omega) (fun j hj => by injection hj with hj; exact Nat.le_of_eq hj); obtain ⟨A7, cap7, hv7⟩ := owns_form hown7; subst hv7; have hKeep : Hid (Keeps NoB w5 w7) := Keeps.of_below HB7.out; clear hown7 hg7)
      | (refine step_append_any _ (by rfl) (.tmp 81) (.tmp 86) _ (by rfl) w6.heap.size 3 i1 _ 1 8 Try.underlying35 hi1 jz0 jz1 jz2 (by rfl) (by decide) (.slice (some ⟨w6.heap.size, 0, none⟩) 1 1) 1 [.int .i64 (-3)] (by rfl) (owns_built w6 (-3)) w6.heap.size A6 l6.length cap6 (l6.map (Value.int .i64)) (by rfl) ((Ints.flat2 (ints_own HT6.out)).alloc (Nat.le_refl _) _) one_ints (by have := HM6.out; unfold maxLen; omega) (by have := HM6.out; omega) (by simp) ?_; intro v7 w7 hown7 hg7 _; have HI7 : Hid (Ints w7 w7.heap.size v7 jl) := ints_own2 hown7 (by rw [← HJ.out, HL6.out]; simp; omega) (by rw [← HJ.out, HL6.out]; simp); have HB7 : Hid (Below w5.heap.size w5 w7) := Below.grown (Below.allocT (Below.to (by repeat (first | exact Below.refl _ _ | assumption | refine Below.drew ?_ | refine Below.drewN ?_ _ | refine Below.allocT ?_ (Nat.le_refl _) _ | refine Below.setCell ?_ (by simp <;> omega) _ | refine Below.to ?_ (by assumption) (Nat.le_refl _))) HU6.out (Nat.le_refl _)) (Nat.le_refl _) _) hg7 (by have := HU6.out.size; simp at this ⊢; omega) (fun j hj => by (injection hj with hj; subst hj; have := HU6.out.size; simp at this ⊢; omega)); obtain ⟨A7, cap7, hv7⟩ := owns_form hown7; subst hv7; have hKeep : Hid (Keeps NoB w5 w7) := Keeps.of_below HB7.out; clear hown7 hg7))
      (try dsimp only)
      refine hK.out _ _ ?_ (fun hNext => ?_)
      · try dsimp only
        (repeat (first | (with_reducible exact Keeps.refl _ _) | exact hKeep.out | exact hKeepS.out _ | assumption | (with_reducible refine Keeps.drew ?_) | (with_reducible refine Keeps.drewN ?_ _) | (with_reducible refine Keeps.alloc ?_ _) | (with_reducible refine Keeps.setCell ?_ (.inl (by first | exact .inl rfl | exact .inr rfl)) _)))
      clear hK K hHeld
      have hHeld := hNext
      clear hNext
      (try dsimp only at hHeld)
      try simp only [Act.put, List.getElem_toArray, List.getElem_cons_succ, List.getElem_cons_zero, List.setIfInBounds_toArray, List.set_cons_zero, List.set_cons_succ]
      refine wpAnyH_ready (rs := [8]) (by kernel_rfl) (by simp) ?_
      refine (AllReadyH.cons rfl (fun K hK => ?_) AllReadyH.nil)
      go_simp
      (first
      | (go_at_call 57; refine (HTW.out _ (by repeat (first | exact Below.refl _ _ | assumption | refine Below.drew ?_ | refine Below.drewN ?_ _ | refine Below.allocT ?_ (Nat.le_refl _) _ | refine Below.setCell ?_ (by simp <;> omega) _ | refine Below.to ?_ (by assumption) (Nat.le_refl _)))).mono ?_; rintro e w6 ⟨tv, rfl, hown, hB6⟩; obtain ⟨A6, cap6, hv6⟩ := owns_form hown; subst hv6; have HT6 := hide hown; have HU6 := hide hB6; have hKeep : Hid (Keeps NoB w5 w6) := Keeps.of_below (Below.to (by repeat (first | exact Below.refl _ _ | assumption | refine Below.drew ?_ | refine Below.drewN ?_ _ | refine Below.allocT ?_ (Nat.le_refl _) _ | refine Below.setCell ?_ (by simp <;> omega) _ | refine Below.to ?_ (by assumption) (Nat.le_refl _))) hB6 (Nat.le_refl _)); clear hown hB6)
      | (go_at_call 31; refine (HCO.out _ _ HI7.out HB7.out).mono ?_; rintro e w8 ⟨rfl, hB8⟩; have HB8 : Hid (Below w5.heap.size w5 w8) := Below.to HB7.out hB8 (Nat.le_refl _); have hKeep : Hid (Keeps NoB w5 w8) := Keeps.of_below HB8.out; clear hB8))
      (try dsimp only)
      refine hK.out _ _ ?_ (fun hNext => ?_)
      · try dsimp only
        (repeat (first | (with_reducible exact Keeps.refl _ _) | exact hKeep.out | exact hKeepS.out _ | assumption | (with_reducible refine Keeps.drew ?_) | (with_reducible refine Keeps.drewN ?_ _) | (with_reducible refine Keeps.alloc ?_ _) | (with_reducible refine Keeps.setCell ?_ (.inl (by first | exact .inl rfl | exact .inr rfl)) _)))
      clear hK K hHeld
      have hHeld := hNext
      clear hNext
      (try dsimp only at hHeld)
      try simp only [Act.put, List.getElem_toArray, List.getElem_cons_succ, List.getElem_cons_zero, List.setIfInBounds_toArray, List.set_cons_zero, List.set_cons_succ]
      refine wpAnyH_take (i := 9) (v := ?v1_10) rfl (by kernel_rfl) (by kernel_rfl) (by kernel_rfl) (fun _ _ _ h => h) (Or.inl ⟨by rfl, ?y1_10⟩) (by assumption) ?r1_10
      case' y1_10 => (intro w hSw; (try dsimp only at hSw); (try have hlS := HLK.out _ hSw); have hcS := kcell hSw; clear hSw; go_simp; try with_reducible rfl)
      try simp only [Act.put, List.getElem_toArray, List.getElem_cons_succ, List.getElem_cons_zero, List.setIfInBounds_toArray, List.set_cons_zero, List.set_cons_succ]
      refine wpAnyH_take (i := 10) (v := ?v1_11) rfl (by kernel_rfl) (by kernel_rfl) (by kernel_rfl) (fun _ _ _ h => h) (Or.inl ⟨by rfl, ?y1_11⟩) (by assumption) ?r1_11
      case' y1_11 => (intro w hSw; (try dsimp only at hSw); (try have hlS := HLK.out _ hSw); have hcS := kcell hSw; clear hSw; go_simp; try with_reducible rfl)
      try simp only [Act.put, List.getElem_toArray, List.getElem_cons_succ, List.getElem_cons_zero, List.setIfInBounds_toArray, List.set_cons_zero, List.set_cons_succ]
      refine wpAnyH_take (i := 11) (v := ?v1_12) rfl (by kernel_rfl) (by kernel_rfl) (by kernel_rfl) (fun _ _ _ h => h) (Or.inl ⟨by rfl, ?y1_12⟩) (by assumption) ?r1_12
      case' y1_12 => (intro w hSw; (try dsimp only at hSw); (try have hlS := HLK.out _ hSw); have hcS := kcell hSw; clear hSw; go_simp; try with_reducible rfl)
      try simp only [Act.put, List.getElem_toArray, List.getElem_cons_succ, List.getElem_cons_zero, List.setIfInBounds_toArray, List.set_cons_zero, List.set_cons_succ]
      refine wpAnyH_take (i := 12) (v := ?v1_13) rfl (by kernel_rfl) (by kernel_rfl) (by kernel_rfl) (fun _ _ _ h => h) (Or.inl ⟨by rfl, ?y1_13⟩) (by assumption) ?r1_13
      case' y1_13 => (intro w hSw; (try dsimp only at hSw); (try have hlS := HLK.out _ hSw); have hcS := kcell hSw; clear hSw; go_simp; try with_reducible rfl)
      try simp only [Act.put, List.getElem_toArray, List.getElem_cons_succ, List.getElem_cons_zero, List.setIfInBounds_toArray, List.set_cons_zero, List.set_cons_succ]
      refine wpAnyH_take (i := 13) (v := ?v1_14) rfl (by kernel_rfl) (by kernel_rfl) (by kernel_rfl) (fun _ _ _ h => h) (Or.inl ⟨by rfl, ?y1_14⟩) (by assumption) ?r1_14
      case' y1_14 => (intro w hSw; (try dsimp only at hSw); (try have hlS := HLK.out _ hSw); have hcS := kcell hSw; clear hSw; go_simp; try with_reducible rfl)
      try simp only [Act.put, List.getElem_toArray, List.getElem_cons_succ, List.getElem_cons_zero, List.setIfInBounds_toArray, List.set_cons_zero, List.set_cons_succ]
      refine wpAnyH_done (by kernel_rfl) ?_ _
    case' o1_6_6 =>
      go_simp
      (first
      | (go_at_call 57; refine (HTW.out _ (by repeat (first | exact Below.refl _ _ | assumption | refine Below.drew ?_ | refine Below.drewN ?_ _ | refine Below.allocT ?_ (Nat.le_refl _) _ | refine Below.setCell ?_ (by simp <;> omega) _ | refine Below.to ?_ (by assumption) (Nat.le_refl _)))).mono ?_; rintro e w6 ⟨tv, rfl, hown, hB6⟩; obtain ⟨A6, cap6, hv6⟩ := owns_form hown; subst hv6; have HT6 := hide hown; have HU6 := hide hB6; have hKeep : Hid (Keeps NoB w5 w6) := Keeps.of_below (Below.to (by repeat (first | exact Below.refl _ _ | assumption | refine Below.drew ?_ | refine Below.drewN ?_ _ | refine Below.allocT ?_ (Nat.le_refl _) _ | refine Below.setCell ?_ (by simp <;> omega) _ | refine Below.to ?_ (by assumption) (Nat.le_refl _))) hB6 (Nat.le_refl _)); clear hown hB6)
      | (go_at_call 31; refine (HCO.out _ _ HI7.out HB7.out).mono ?_; rintro e w8 ⟨rfl, hB8⟩; have HB8 : Hid (Below w5.heap.size w5 w8) := Below.to HB7.out hB8 (Nat.le_refl _); have hKeep : Hid (Keeps NoB w5 w8) := Keeps.of_below HB8.out; clear hB8))
      (try dsimp only)
      refine hK.out _ _ ?_ (fun hNext => ?_)
      · try dsimp only
        (repeat (first | (with_reducible exact Keeps.refl _ _) | exact hKeep.out | exact hKeepS.out _ | assumption | (with_reducible refine Keeps.drew ?_) | (with_reducible refine Keeps.drewN ?_ _) | (with_reducible refine Keeps.alloc ?_ _) | (with_reducible refine Keeps.setCell ?_ (.inl (by first | exact .inl rfl | exact .inr rfl)) _)))
      clear hK K hHeld
      have hHeld := hNext
      clear hNext
      (try dsimp only at hHeld)
      try simp only [Act.put, List.getElem_toArray, List.getElem_cons_succ, List.getElem_cons_zero, List.setIfInBounds_toArray, List.set_cons_zero, List.set_cons_succ]
      refine wpAnyH_ready (rs := [1]) (by kernel_rfl) (by simp) ?_
      refine (AllReadyH.cons rfl (fun K hK => ?_) AllReadyH.nil)
      go_simp
      refine hK.out _ _ ?_ (fun hNext => ?_)
      · try dsimp only
        (repeat (first | (with_reducible exact Keeps.refl _ _) | exact hKeep.out | exact hKeepS.out _ | assumption | (with_reducible refine Keeps.drew ?_) | (with_reducible refine Keeps.drewN ?_ _) | (with_reducible refine Keeps.alloc ?_ _) | (with_reducible refine Keeps.setCell ?_ (.inl (by first | exact .inl rfl | exact .inr rfl)) _)))
      clear hK K hHeld
      have hHeld := hNext
      clear hNext
      (try dsimp only at hHeld)
      try simp only [Act.put, List.getElem_toArray, List.getElem_cons_succ, List.getElem_cons_zero, List.setIfInBounds_toArray, List.set_cons_zero, List.set_cons_succ]
      refine wpAnyH_ready (rs := [7]) (by kernel_rfl) (by simp) ?_
      refine (AllReadyH.cons rfl (fun K hK => ?_) AllReadyH.nil)
      (first
      | (refine step_append_any _ (by rfl) (.tmp 81) (.tmp 86) _ (by rfl) w5.heap.size 3 i1 _ 1 8 Try.underlying35 hi1 jz0 jz1 jz2 (by rfl) (by decide) (.slice (some ⟨w5.heap.size, 0, none⟩) 1 1) 1 [.int .i64 (-3)] (by rfl) (owns_below (owns_built w5.drew (-3)) HU6.out) w6.heap.size A6 l6.length cap6 (l6.map (Value.int .i64)) (by rfl) (Ints.flat2 (ints_own HT6.out)) one_ints (by have := HM6.out; unfold maxLen; omega) (by have := HM6.out; omega) (by have := HU6.out.size; simp at this ⊢; omega) ?_; intro v7 w7 hown7 hg7 _; have HI7 : Hid (Ints w7 w7.heap.size v7 jl) := ints_own2 hown7 (by rw [← HJ.out, HL6.out]; simp; omega) (by rw [← HJ.out, HL6.out]; simp); have HB7 : Hid (Below w5.heap.size w5 w7) := Below.grown (Below.to (by repeat (first | exact Below.refl _ _ | assumption | refine Below.drew ?_ | refine Below.drewN ?_ _ | refine Below.allocT ?_ (Nat.le_refl _) _ | refine Below.setCell ?_ (by simp <;> omega) _ | refine Below.to ?_ (by assumption) (Nat.le_refl _))) HU6.out (Nat.le_refl _)) hg7 (by have := HU6.out.size; simp at this ⊢; omega) (fun j hj => by injection hj with hj; exact Nat.le_of_eq hj); obtain ⟨A7, cap7, hv7⟩ := owns_form hown7; subst hv7; have hKeep : Hid (Keeps NoB w5 w7) := Keeps.of_below HB7.out; clear hown7 hg7)
      | (refine step_append_any _ (by rfl) (.tmp 81) (.tmp 86) _ (by rfl) w6.heap.size 3 i1 _ 1 8 Try.underlying35 hi1 jz0 jz1 jz2 (by rfl) (by decide) (.slice (some ⟨w6.heap.size, 0, none⟩) 1 1) 1 [.int .i64 (-3)] (by rfl) (owns_built w6 (-3)) w6.heap.size A6 l6.length cap6 (l6.map (Value.int .i64)) (by rfl) ((Ints.flat2 (ints_own HT6.out)).alloc (Nat.le_refl _) _) one_ints (by have := HM6.out; unfold maxLen; omega) (by have := HM6.out; omega) (by simp) ?_; intro v7 w7 hown7 hg7 _; have HI7 : Hid (Ints w7 w7.heap.size v7 jl) := ints_own2 hown7 (by rw [← HJ.out, HL6.out]; simp; omega) (by rw [← HJ.out, HL6.out]; simp); have HB7 : Hid (Below w5.heap.size w5 w7) := Below.grown (Below.allocT (Below.to (by repeat (first | exact Below.refl _ _ | assumption | refine Below.drew ?_ | refine Below.drewN ?_ _ | refine Below.allocT ?_ (Nat.le_refl _) _ | refine Below.setCell ?_ (by simp <;> omega) _ | refine Below.to ?_ (by assumption) (Nat.le_refl _))) HU6.out (Nat.le_refl _)) (Nat.le_refl _) _) hg7 (by have := HU6.out.size; simp at this ⊢; omega) (fun j hj => by (injection hj with hj; subst hj; have := HU6.out.size; simp at this ⊢; omega)); obtain ⟨A7, cap7, hv7⟩ := owns_form hown7; subst hv7; have hKeep : Hid (Keeps NoB w5 w7) := Keeps.of_below HB7.out; clear hown7 hg7))
      (try dsimp only)
      refine hK.out _ _ ?_ (fun hNext => ?_)
      · try dsimp only
        (repeat (first | (with_reducible exact Keeps.refl _ _) | exact hKeep.out | exact hKeepS.out _ | assumption | (with_reducible refine Keeps.drew ?_) | (with_reducible refine Keeps.drewN ?_ _) | (with_reducible refine Keeps.alloc ?_ _) | (with_reducible refine Keeps.setCell ?_ (.inl (by first | exact .inl rfl | exact .inr rfl)) _)))
      clear hK K hHeld
      have hHeld := hNext
      clear hNext
      (try dsimp only at hHeld)
      try simp only [Act.put, List.getElem_toArray, List.getElem_cons_succ, List.getElem_cons_zero, List.setIfInBounds_toArray, List.set_cons_zero, List.set_cons_succ]
      refine wpAnyH_ready (rs := [8]) (by kernel_rfl) (by simp) ?_
      refine (AllReadyH.cons rfl (fun K hK => ?_) AllReadyH.nil)
      go_simp
      (first
      | (go_at_call 57; refine (HTW.out _ (by repeat (first | exact Below.refl _ _ | assumption | refine Below.drew ?_ | refine Below.drewN ?_ _ | refine Below.allocT ?_ (Nat.le_refl _) _ | refine Below.setCell ?_ (by simp <;> omega) _ | refine Below.to ?_ (by assumption) (Nat.le_refl _)))).mono ?_; rintro e w6 ⟨tv, rfl, hown, hB6⟩; obtain ⟨A6, cap6, hv6⟩ := owns_form hown; subst hv6; have HT6 := hide hown; have HU6 := hide hB6; have hKeep : Hid (Keeps NoB w5 w6) := Keeps.of_below (Below.to (by repeat (first | exact Below.refl _ _ | assumption | refine Below.drew ?_ | refine Below.drewN ?_ _ | refine Below.allocT ?_ (Nat.le_refl _) _ | refine Below.setCell ?_ (by simp <;> omega) _ | refine Below.to ?_ (by assumption) (Nat.le_refl _))) hB6 (Nat.le_refl _)); clear hown hB6)
      | (go_at_call 31; refine (HCO.out _ _ HI7.out HB7.out).mono ?_; rintro e w8 ⟨rfl, hB8⟩; have HB8 : Hid (Below w5.heap.size w5 w8) := Below.to HB7.out hB8 (Nat.le_refl _); have hKeep : Hid (Keeps NoB w5 w8) := Keeps.of_below HB8.out; clear hB8))
      (try dsimp only)
      refine hK.out _ _ ?_ (fun hNext => ?_)
      · try dsimp only
        (repeat (first | (with_reducible exact Keeps.refl _ _) | exact hKeep.out | exact hKeepS.out _ | assumption | (with_reducible refine Keeps.drew ?_) | (with_reducible refine Keeps.drewN ?_ _) | (with_reducible refine Keeps.alloc ?_ _) | (with_reducible refine Keeps.setCell ?_ (.inl (by first | exact .inl rfl | exact .inr rfl)) _)))
      clear hK K hHeld
      have hHeld := hNext
      clear hNext
      (try dsimp only at hHeld)
      try simp only [Act.put, List.getElem_toArray, List.getElem_cons_succ, List.getElem_cons_zero, List.setIfInBounds_toArray, List.set_cons_zero, List.set_cons_succ]
      refine wpAnyH_take (i := 9) (v := ?v1_18) rfl (by kernel_rfl) (by kernel_rfl) (by kernel_rfl) (fun _ _ _ h => h) (Or.inl ⟨by rfl, ?y1_18⟩) (by assumption) ?r1_18
      case' y1_18 => (intro w hSw; (try dsimp only at hSw); (try have hlS := HLK.out _ hSw); have hcS := kcell hSw; clear hSw; go_simp; try with_reducible rfl)
      try simp only [Act.put, List.getElem_toArray, List.getElem_cons_succ, List.getElem_cons_zero, List.setIfInBounds_toArray, List.set_cons_zero, List.set_cons_succ]
      refine wpAnyH_take (i := 10) (v := ?v1_19) rfl (by kernel_rfl) (by kernel_rfl) (by kernel_rfl) (fun _ _ _ h => h) (Or.inl ⟨by rfl, ?y1_19⟩) (by assumption) ?r1_19
      case' y1_19 => (intro w hSw; (try dsimp only at hSw); (try have hlS := HLK.out _ hSw); have hcS := kcell hSw; clear hSw; go_simp; try with_reducible rfl)
      try simp only [Act.put, List.getElem_toArray, List.getElem_cons_succ, List.getElem_cons_zero, List.setIfInBounds_toArray, List.set_cons_zero, List.set_cons_succ]
      refine wpAnyH_take (i := 11) (v := ?v1_20) rfl (by kernel_rfl) (by kernel_rfl) (by kernel_rfl) (fun _ _ _ h => h) (Or.inl ⟨by rfl, ?y1_20⟩) (by assumption) ?r1_20
      case' y1_20 => (intro w hSw; (try dsimp only at hSw); (try have hlS := HLK.out _ hSw); have hcS := kcell hSw; clear hSw; go_simp; try with_reducible rfl)
      try simp only [Act.put, List.getElem_toArray, List.getElem_cons_succ, List.getElem_cons_zero, List.setIfInBounds_toArray, List.set_cons_zero, List.set_cons_succ]
      refine wpAnyH_take (i := 12) (v := ?v1_21) rfl (by kernel_rfl) (by kernel_rfl) (by kernel_rfl) (fun _ _ _ h => h) (Or.inl ⟨by rfl, ?y1_21⟩) (by assumption) ?r1_21
      case' y1_21 => (intro w hSw; (try dsimp only at hSw); (try have hlS := HLK.out _ hSw); have hcS := kcell hSw; clear hSw; go_simp; try with_reducible rfl)
      try simp only [Act.put, List.getElem_toArray, List.getElem_cons_succ, List.getElem_cons_zero, List.setIfInBounds_toArray, List.set_cons_zero, List.set_cons_succ]
      refine wpAnyH_take (i := 13) (v := ?v1_22) rfl (by kernel_rfl) (by kernel_rfl) (by kernel_rfl) (fun _ _ _ h => h) (Or.inl ⟨by rfl, ?y1_22⟩) (by assumption) ?r1_22
      case' y1_22 => (intro w hSw; (try dsimp only at hSw); (try have hlS := HLK.out _ hSw); have hcS := kcell hSw; clear hSw; go_simp; try with_reducible rfl)
      try simp only [Act.put, List.getElem_toArray, List.getElem_cons_succ, List.getElem_cons_zero, List.setIfInBounds_toArray, List.set_cons_zero, List.set_cons_succ]
      refine wpAnyH_done (by kernel_rfl) ?_ _
    all_goals
      go_wp2_with fail
      go_meet
      case rel => exact ⟨rfl, rfl, HB8.out⟩
  case rest =>
    obtain ⟨rfl, rfl, hcc⟩ := hcut
    obtain ⟨wa, hwa⟩ : ∃ x, x = wc := ⟨_, rfl⟩
    subst hwa
    have HBA : Hid (Below w.heap.size w wa) := Below.to HB5.out hcc.out (Nat.le_refl _)
    have HXA := hide (box_to HX5.out hcc.out)
    have HYA := hide (box_to HY5.out hcc.out)
    have HKA : Hid (Kts wa wa.heap.size kv4 k1) := (HK4.out.up HKB5.out).up hcc.out
    have HKC : Hid (Kts wa wa.heap.size kv5 k2) := HK5.out.up hcc.out
    clear c0 c1 d0 d1 hn0 hn1 hbx hby HTW HCO hcc
    go_upto_region 8 with (fail)
    have hsk := sameKnots_any k1 k2 kv4 kv5 wa HKA.out HKC.out (by have := HL1.out; omega) (by have := HL2.out; omega)
    have HSK := hide hsk
    clear hsk
    go_cut [105] from 91 to 104 (fun cx wc => cx = .bool false ∧ Hid (Below wa.heap.size wa wc))
    case first =>
      by_cases hrr : r1 = r2
      · subst hrr
        have p1 : (r1 == r1) = true := by simp
        by_cases hkk : k1 = k2
        · have p2 : ((cn : Int) == 0) = true := by
            rw [beq_iff_eq]
            exact HSM.out.2 ⟨hkk, rfl⟩
          have hdk : decide (k1 = k2) = true := decide_eq_true hkk
          have HDK := hide hdk
          clear hkk hdk
          go_wp2_with (go_at_call 36; refine HSK.out.mono ?_; rw [HDK.out]; rintro e w6 ⟨rfl, hB6⟩)
          go_meet
          case rel => exact ⟨rfl, hB6⟩
        · have p2 : ((cn : Int) == 0) = false := by
            rw [beq_eq_false_iff_ne]
            exact fun h => hkk (HSM.out.1 h).1
          have hdk : decide (k1 = k2) = false := decide_eq_false hkk
          have HDK := hide hdk
          clear hkk hdk
          go_wp2_with (go_at_call 36; refine HSK.out.mono ?_; rw [HDK.out]; rintro e w6 ⟨rfl, hB6⟩)
          go_meet
          case rel => exact ⟨rfl, hB6⟩
      · have p1 : (r1 == r2) = false := by simpa using hrr
        have p2 : ((cn : Int) == 0) = false := by
          rw [beq_eq_false_iff_ne]
          exact fun h => hrr (HSM.out.1 h).2
        clear hrr
        go_wp2_with fail
        go_meet
        case rel => exact ⟨rfl, Below.refl _ _⟩
    case rest =>
      obtain ⟨rfl, hcc⟩ := hcut
      obtain ⟨wb, hwb⟩ : ∃ x, x = wc := ⟨_, rfl⟩
      subst hwb
      have HB6 : Hid (Below w.heap.size w wb) := Below.to HBA.out hcc.out (Nat.le_refl _)
      have HX6 := hide (box_to HXA.out hcc.out)
      have HY6 := hide (box_to HYA.out hcc.out)
      have HKD : Hid (Kts wb wb.heap.size kv4 k1) := HKA.out.up hcc.out
      clear hcc
      have c0 := cellOf HX6.out 0
      have c1 := cellOf HX6.out 1
      have d0 := cellOf HY6.out 0
      have d1 := cellOf HY6.out 1
      obtain ⟨be, hbe⟩ : ∃ z, buiE m vs = z := ⟨_, rfl⟩
      obtain ⟨bb, hbb⟩ : ∃ z, buiB m vs = z := ⟨_, rfl⟩
      have HBU := hide (And.intro hbb hbe)
      by_cases hb0 : be = 0
      · subst hb0
        obtain ⟨f1, f2, f3⟩ := HFO.out hbe
        rw [hbb] at f3
        obtain ⟨hh, hhh⟩ : ∃ z, holB m f vs = z := ⟨_, rfl⟩
        rw [hhh] at f3
        have HHO := hide (And.intro hhh f1)
        have HFW := hide (And.intro f3 f2)
        clear f1 f2 f3 hhh hbe hbb
        go_upto_region 11 with (go_at_call 47; refine (Buildable_any m vs _ _ _ _ HS.out (H.out.up HB6.out) (HIV.out.up HB6.out)).mono ?_; rw [HBU.out.1, HBU.out.2]; rintro e w7 ⟨rfl, hB7⟩; have HB7 : Hid (Below w.heap.size w w7) := Below.to HB6.out hB7 (Nat.le_refl _); clear c0 c1 d0 d1; have HX7 := hide (box_to HX6.out hB7); have HY7 := hide (box_to HY6.out hB7); have c0 := cellOf HX7.out 0; have c1 := cellOf HX7.out 1; have d0 := cellOf HY7.out 0; have d1 := cellOf HY7.out 1; have HKE : Hid (Kts w7 w7.heap.size kv4 k1) := HKD.out.up hB7; clear hB7)
        go_upto_region 14 with (go_at_call 45; refine (Holds_any m f vs _ _ _ _ _ HS.out hfl (H.out.up HB7.out) (HIF.out.up HB7.out) (HIV.out.up HB7.out)).mono ?_; rw [HHO.out.1, HHO.out.2]; rintro e w8 ⟨rfl, hB8⟩; have HB8 : Hid (Below w.heap.size w w8) := Below.to HB7.out hB8 (Nat.le_refl _); clear c0 c1 d0 d1; have HX8 := hide (box_to HX7.out hB8); have HY8 := hide (box_to HY7.out hB8); have c0 := cellOf HX8.out 0; have c1 := cellOf HX8.out 1; have d0 := cellOf HY8.out 0; have d1 := cellOf HY8.out 1; have HKF : Hid (Kts w8 w8.heap.size kv4 k1) := HKE.out.up hB8; clear hB8)
        go_upto_region 15 with (go_at_call 32; refine (Follow_any m k1 r1 vs _ _ _ _ _ HS.out (by have := HL1.out; omega) hvl (H.out.up HB8.out) HKF.out (HIV.out.up HB8.out)).mono ?_; rw [HFW.out.1, HFW.out.2]; rintro e w9 ⟨rfl, hB9⟩; have HB9 : Hid (Below w.heap.size w w9) := Below.to HB8.out hB9 (Nat.le_refl _); clear c0 c1 d0 d1; have HX9 := hide (box_to HX8.out hB9); have HY9 := hide (box_to HY8.out hB9); have c0 := cellOf HX9.out 0; have c1 := cellOf HX9.out 1; have d0 := cellOf HY9.out 0; have d1 := cellOf HY9.out 1; clear hB9)
        cases bb <;> cases hh
        all_goals
          go_wp2_with (go_at_call 20; refine (works_any _).mono ?_; rintro e w99 ⟨rfl, hB99⟩)
          go_ret
          exact ⟨rfl, Below.to HB9.out hB99 (Nat.le_refl _)⟩
      · have hz : (be != 0) = true := by simpa using hb0
        clear hb0 hbb hbe
        go_wp2_with (first | (go_at_call 20; refine (works_any _).mono ?_; rintro e w99 ⟨rfl, hB99⟩) | (go_at_call 47; refine (Buildable_any m vs _ _ _ _ HS.out (H.out.up HB6.out) (HIV.out.up HB6.out)).mono ?_; rw [HBU.out.1, HBU.out.2]; rintro e w7 ⟨rfl, hB7⟩; have HB7 : Hid (Below w.heap.size w w7) := Below.to HB6.out hB7 (Nat.le_refl _); clear c0 c1 d0 d1; have HX7 := hide (box_to HX6.out hB7); have HY7 := hide (box_to HY6.out hB7); have c0 := cellOf HX7.out 0; have c1 := cellOf HX7.out 1; have d0 := cellOf HY7.out 0; have d1 := cellOf HY7.out 1; clear hB7))
        go_ret
        exact ⟨rfl, Below.to HB7.out hB99 (Nat.le_refl _)⟩
theorem optionsAsked_walk (m : Mo) (f g : List Int) (vs : List Bool) (ov rv fv gv vv : Value) (w : World) (hs : SizedM m) (h : MoAt w w.heap.size ov rv m) (hif : Ints w w.heap.size fv f) (hfl : f.length ≤ maxLen) (hig : Ints w w.heap.size gv g) (hgl : g.length ≤ maxLen) (hiv : Bols w w.heap.size vv vs) (hvl : vs.length ≤ maxLen) :
    Calls Try.prog 16 #[.agg #[ov, rv], .agg #[fv, gv], vv] w fun e w' => e = .returned (.bool true) ∧ Below w.heap.size w w' := by
  cases hlg : largeB m with
  | true => exact optionsAsked_large m f g vs ov rv fv gv vv w hs h hif hfl hig hgl hiv hvl hlg
  | false =>
    by_cases h1 : f.length ≤ 40
    · by_cases h2 : g.length ≤ 40
      · by_cases z1 : m.errF [f] = 0
        · by_cases z2 : m.errF [g] = 0
          · rcases dig_cases z1 with y1 | y1
            · rcases dig_cases z2 with y2 | y2
              · exact optionsAsked_ok m f g vs ov rv fv gv vv w hs h hif hfl hig hgl hiv hvl hlg h1 h2 z1 z2 y1 y2
              · exact optionsAsked_many2 m f g vs ov rv fv gv vv w hs h hif hfl hig hgl hiv hvl hlg h1 h2 z1 z2 y1 y2
            · exact optionsAsked_many1 m f g vs ov rv fv gv vv w hs h hif hfl hig hgl hiv hvl hlg h1 h2 z1 z2 y1
          · exact optionsAsked_errG m f g vs ov rv fv gv vv w hs h hif hfl hig hgl hiv hvl hlg h1 h2 z1 z2
        · exact optionsAsked_errF m f g vs ov rv fv gv vv w hs h hif hfl hig hgl hiv hvl hlg h1 h2 z1
      · exact optionsAsked_longG m f g vs ov rv fv gv vv w hs h hif hfl hig hgl hiv hvl hlg h1 (by omega)
    · exact optionsAsked_longF m f g vs ov rv fv gv vv w hs h hif hfl hig hgl hiv hvl hlg (by omega)

theorem own_OptionsAsked : ownKnob Try.prog.godebug = none := by kernel_rfl
theorem laid_OptionsAsked : laidOutB Try.prog = true := by kernel_rfl
theorem par_OptionsAsked : ∀ t ∈ Try.f16.params.toList, Try.prog.readableRec t = true ∧ t < Try.prog.types.size := by
  rw [Try.params16]
  intro t ht
  simp only [List.mem_cons, List.not_mem_nil, or_false] at ht
  rcases ht with rfl | rfl | rfl <;> exact ⟨by kernel_rfl, of_decide_eq_true (by kernel_rfl)⟩
set_option maxRecDepth 100000 in
theorem optionsAsked_lifted (os : Os) (started : os.Started) (H : Type) (enc : TypeId × Value → H) :
    ReturnsInHanded {} Try.checked os 16 .any (Rows.optionsAskedSpec.pre6 enc Try.prog Try.f16 Rows.optionsAskedRow.domain false) (Rows.optionsAskedSpec.post enc Try.prog Try.f16 false true false false) := by
  refine returnsInHanded_of_change (C := Try.checked) own_OptionsAsked started (by kernel_rfl) Try.func16
    (ChangeSpec.witness6 (enc := enc) (C := Try.checked) false ⟨#[], #[.agg #[.slice none 0 0, .slice none 0 0], .agg #[.slice none 0 0, .slice none 0 0], .slice none 0 0], []⟩ 8 (by kernel_rfl) (by kernel_rfl) (by kernel_rfl) (by kernel_rfl)) ?_
  intro W base args ds gs before hval0 hW hcnd _
  have hval : ∀ (j : Nat) t v, Try.f16.params[j]? = some t → args[j]? = some v → Value.okWide Try.prog W .any base t v := hval0
  have hW' := hW
  obtain ⟨p, q, hA0, hV, rfl, hfz, hnd⟩ := hW
  have hA : DataW.TrodAll enc Try.prog W 0 (fun _ => true) true Try.f16.params.toList args.toList ds p := hA0
  have hAll := hA
  have hltp : ∀ x ∈ p, x.block < W.heap.size := fun x hx => hW'.lt x (List.mem_append_left _ hx)
  rw [Try.params16] at hA hval
  obtain ⟨v0, v1, v2, d0, d1, d2, p0, p1, p2, rfl, rfl, rfl, h0, h1, h2⟩ := trodAll_three hA
  obtain ⟨rfl, rfl⟩ := trodVars_none hV
  obtain ⟨ov, rv, m, rfl, hmo, hsz⟩ := open_model (hval 0 25 v0 rfl rfl) h0
  obtain ⟨fv, gv, f, g, rfl, hif, hfl, hig, hgl⟩ := open_two (hval 1 59 v1 rfl rfl) h1
  obtain ⟨vs, hvs, hvl⟩ := open_bools (hval 2 29 v2 rfl rfl) h2
  refine (optionsAsked_walk m f g vs ov rv fv gv v2 W hsz hmo hif hfl hig hgl hvs hvl).mono fun e W2 ⟨he, hb⟩ => ?_
  subst he
  exact ⟨_, rfl, post_of_below (pv := []) hW' (fun _ _ _ => trodAll_mk1 (shut_bool Try.underlying4 _)) (fun sp hsp => trodAll_stays laid_OptionsAsked hb sp _ _ _ _ par_OptionsAsked hAll hltp (fun x hx => hsp x (List.mem_append_left _ hx))) (fun _ _ => rfl) rfl hb
    (ok_one (by kernel_rfl) rfl (okWide_bool_mk Try.underlying4 _))⟩
theorem optionsAsked_holds : Rows.OptionsAskedSaid :=
  OpenClaim.holds_of_wide 16 Try.f16 rfl rfl rfl rfl rfl rfl rfl ⟨rfl, rfl, rfl, rfl, rfl⟩ rfl rfl rfl rfl rfl (by kernel_rfl) Try.func16 (by kernel_rfl)
    (of_decide_eq_true (by kernel_rfl)) (by unfold Func.isWrapper; first | (rw [if_pos (by decide +kernel)]; kernel_rfl) | (rw [if_neg (by decide +kernel)]; exact ⟨rfl, rfl⟩))
    (fun os started H enc _ => optionsAsked_lifted os started H enc)
#print axioms optionsAsked_holds

end Go.Proofs.Ytohofcmikfkilaa

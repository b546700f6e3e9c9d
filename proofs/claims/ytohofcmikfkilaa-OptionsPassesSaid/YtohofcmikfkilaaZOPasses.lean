/- A formula implies itself, and what implies what implies a third implies the third: for every model and formulas; no condition. -/
import Derived.Test.YtohofcmikfkilaaRows
import Derived.Test.YtohofcmikfkilaaGF
import Derived.Test.YtohofcmikfkilaaGG
import Derived.Test.YtohofcmikfkilaaGJ
import Derived.Deep.RegionHeld3
import Derived.Deep.DrawnRows
namespace Go.Proofs.Ytohofcmikfkilaa
open Go.Joins Go.ChangeShapes Go.WideShapes Go.ChangeAt Go.RowKit Go.Deep
set_option maxRecDepth 100000
set_option linter.unusedVariables false
set_option linter.unusedSimpArgs false
theorem impB_self {m : Mo} {f : List Int} (h : m.errF [f, f] = 0) : impB m f f = true := by
  unfold impB
  rw [if_pos h]
  have : impL m f f = [] := by
    unfold impL
    rw [satM_all, List.filter_eq_nil_iff]
    intro x _
    cases evF1 (vf x) f <;> simp
  rw [this]
  rfl
theorem imp_pass {m : Mo} {f g k : List Int} (h1 : m.errF [f, g] = 0) (h2 : m.errF [g, k] = 0) (h3 : m.errF [f, k] = 0) (a : impB m f g = true) (b : impB m g k = true) : impB m f k = true := by
  unfold impB at *
  rw [if_pos h1] at a
  rw [if_pos h2] at b
  rw [if_pos h3]
  rw [List.isEmpty_iff] at *
  unfold impL at *
  rw [satM_all, List.filter_eq_nil_iff] at *
  intro x hx
  have p := a x hx
  have q := b x hx
  revert p q
  cases evF1 (vf x) f <;> cases evF1 (vf x) g <;> cases evF1 (vf x) k <;> simp
theorem impX_yes {m : Mo} {f g : List Int} (h : m.errF [f, g] = 0) (hb : impB m f g = true) : impX m f g = [] := by
  unfold impB at hb
  rw [if_pos h, List.isEmpty_iff] at hb
  exact (imp_yes h hb).1
theorem impX_no {m : Mo} {f g : List Int} (h : m.errF [f, g] = 0) (hb : impB m f g = false) : (impX m f g).length = m.opts.length ∧ allF (vf (impX m f g)) m.rules = true ∧ evF1 (vf (impX m f g)) f = true ∧ evF1 (vf (impX m f g)) g = false := by
  unfold impB at hb
  rw [if_pos h] at hb
  cases hh : (impL m f g).head? with
  | none =>
    rw [List.head?_eq_none_iff] at hh
    rw [hh] at hb
    simp at hb
  | some x =>
    rw [(imp_no h hh).1]
    obtain ⟨h1, h2, h3⟩ := satM_in (head_in hh)
    refine ⟨h1, h2, ?_⟩
    revert h3
    cases evF1 (vf x) f <;> cases evF1 (vf x) g <;> simp
set_option maxRecDepth 100000 in
set_option maxHeartbeats 8000000 in
theorem optionsPasses_large (m : Mo) (f g k : List Int) (ov rv fv gv kv : Value) (w : World) (hs : SizedM m) (h : MoAt w w.heap.size ov rv m) (hif : Ints w w.heap.size fv f) (hfl : f.length ≤ maxLen) (hig : Ints w w.heap.size gv g) (hgl : g.length ≤ maxLen) (hik : Ints w w.heap.size kv k) (hkl : k.length ≤ maxLen) (hlg : largeB m = true) :
    Calls Try.prog 14 #[.agg #[ov, rv], .agg #[fv, gv], kv] w fun e w' => e = .returned (.bool true) ∧ Below w.heap.size w w' := by
  obtain ⟨A, cap, hov⟩ := Sl.form h.o
  obtain ⟨Ar, capr, hrv⟩ := h.r.form
  obtain ⟨Af, capf, hfv⟩ := Sl.form hif
  obtain ⟨Ag, capg, hgv⟩ := Sl.form hig
  obtain ⟨Ak, capk, hkv⟩ := Sl.form hik
  have H := hide h
  have HS := hide hs
  have HIF := hide hif
  have HIG := hide hig
  have HIK := hide hik
  subst hov hrv hfv hgv hkv
  have HLG := hide hlg
  clear h hs hif hig hik hlg
  go_enter Try.func14, Try.ntmps14
  go_upto_region 1 with (fail)
  generalize hw0 : World.alloc _ _ = w0
  obtain ⟨hb0, hb1, hB0, hs0⟩ := alloc2 hw0
  clear hw0
  have HX := hide hb0
  have HY := hide hb1
  have HB0 := hide hB0
  have c0 := cellOf hb0 0
  have c1 := cellOf hb0 1
  have d0 := cellOf hb1 0
  have d1 := cellOf hb1 1
  clear hb0 hb1 hB0 hs0
  go_wp2_with (first | (go_at_call 19; refine (Large_any m _ _ _ (H.out.up HB0.out)).mono ?_; rw [HLG.out]; rintro e w1 ⟨rfl, hB1⟩; have HB1 : Hid (Below w.heap.size w w1) := Below.to HB0.out hB1 (Nat.le_refl _); clear c0 c1 d0 d1; have HX1 := hide (box_to HX.out hB1); have HY1 := hide (box_to HY.out hB1); have c0 := cellOf HX1.out 0; have c1 := cellOf HX1.out 1; have d0 := cellOf HY1.out 0; have d1 := cellOf HY1.out 1; clear hB1) | (go_at_call 20; refine (works_any _).mono ?_; rintro e w99 ⟨rfl, hB99⟩))
  go_ret
  exact ⟨rfl, Below.to HB1.out hB99 (Nat.le_refl _)⟩
set_option maxRecDepth 100000 in
set_option maxHeartbeats 8000000 in
theorem optionsPasses_err1 (m : Mo) (f g k : List Int) (ov rv fv gv kv : Value) (w : World) (hs : SizedM m) (h : MoAt w w.heap.size ov rv m) (hif : Ints w w.heap.size fv f) (hfl : f.length ≤ maxLen) (hig : Ints w w.heap.size gv g) (hgl : g.length ≤ maxLen) (hik : Ints w w.heap.size kv k) (hkl : k.length ≤ maxLen) (hlg : largeB m = false) (z1 : m.errF [f, f] ≠ 0) :
    Calls Try.prog 14 #[.agg #[ov, rv], .agg #[fv, gv], kv] w fun e w' => e = .returned (.bool true) ∧ Below w.heap.size w w' := by
  obtain ⟨A, cap, hov⟩ := Sl.form h.o
  obtain ⟨Ar, capr, hrv⟩ := h.r.form
  obtain ⟨Af, capf, hfv⟩ := Sl.form hif
  obtain ⟨Ag, capg, hgv⟩ := Sl.form hig
  obtain ⟨Ak, capk, hkv⟩ := Sl.form hik
  have H := hide h
  have HS := hide hs
  have HIF := hide hif
  have HIG := hide hig
  have HIK := hide hik
  subst hov hrv hfv hgv hkv
  have HLG := hide hlg
  have hN : m.err = 0 → m.opts.length ≤ 12 := fun he => by have := (large_small hlg he).1; omega
  have HN := hide hN
  obtain ⟨x1, hx1⟩ : ∃ z, impX m f f = z := ⟨_, rfl⟩
  obtain ⟨x2, hx2⟩ : ∃ z, impX m f g = z := ⟨_, rfl⟩
  obtain ⟨x3, hx3⟩ : ∃ z, impX m g k = z := ⟨_, rfl⟩
  obtain ⟨x4, hx4⟩ : ∃ z, impX m f k = z := ⟨_, rfl⟩
  obtain ⟨b1, hb1⟩ : ∃ z, impB m f f = z := ⟨_, rfl⟩
  obtain ⟨b2, hb2⟩ : ∃ z, impB m f g = z := ⟨_, rfl⟩
  obtain ⟨b3, hb3⟩ : ∃ z, impB m g k = z := ⟨_, rfl⟩
  obtain ⟨b4, hb4⟩ : ∃ z, impB m f k = z := ⟨_, rfl⟩
  obtain ⟨e1, he1⟩ : ∃ z, m.errF [f, f] = z := ⟨_, rfl⟩
  obtain ⟨e2, he2⟩ : ∃ z, m.errF [f, g] = z := ⟨_, rfl⟩
  obtain ⟨e3, he3⟩ : ∃ z, m.errF [g, k] = z := ⟨_, rfl⟩
  obtain ⟨e4, he4⟩ : ∃ z, m.errF [f, k] = z := ⟨_, rfl⟩
  have HI1 := hide (And.intro hx1 (And.intro hb1 he1))
  have HI2 := hide (And.intro hx2 (And.intro hb2 he2))
  have HI3 := hide (And.intro hx3 (And.intro hb3 he3))
  have HI4 := hide (And.intro hx4 (And.intro hb4 he4))
  rw [he1] at z1
  have hz1 : (e1 != 0) = true := by simpa using z1
  clear h hs hif hig hik hlg hN hx1 hx2 hx3 hx4 hb1 hb2 hb3 hb4 he1 he2 he3 he4 z1
  go_enter Try.func14, Try.ntmps14
  go_upto_region 1 with (fail)
  generalize hw0 : World.alloc _ _ = w0
  obtain ⟨hb0, hb1, hB0, hs0⟩ := alloc2 hw0
  clear hw0
  have HX := hide hb0
  have HY := hide hb1
  have HB0 := hide hB0
  have c0 := cellOf hb0 0
  have c1 := cellOf hb0 1
  have d0 := cellOf hb1 0
  have d1 := cellOf hb1 1
  clear hb0 hb1 hB0 hs0
  go_upto_region 3 with (go_at_call 19; refine (Large_any m _ _ _ (H.out.up HB0.out)).mono ?_; rw [HLG.out]; rintro e w1 ⟨rfl, hB1⟩; have HB1 : Hid (Below w.heap.size w w1) := Below.to HB0.out hB1 (Nat.le_refl _); clear c0 c1 d0 d1; have HX1 := hide (box_to HX.out hB1); have HY1 := hide (box_to HY.out hB1); have c0 := cellOf HX1.out 0; have c1 := cellOf HX1.out 1; have d0 := cellOf HY1.out 0; have d1 := cellOf HY1.out 1; clear hB1)
  go_upto_region 4 with (go_at_call 43; refine (Implies_any m f f _ _ _ _ _ HS.out hfl hfl (H.out.up HB1.out) (HIF.out.up HB1.out) (HIF.out.up HB1.out) HN.out).mono ?_; rw [HI1.out.1, HI1.out.2.1, HI1.out.2.2]; rintro e w2 ⟨v2, rfl, hv2, hB2⟩; have HB2 : Hid (Below w.heap.size w w2) := Below.to HB1.out hB2 (Nat.le_refl _); clear c0 c1 d0 d1; have HX2 := hide (box_to HX1.out hB2); have HY2 := hide (box_to HY1.out hB2); have c0 := cellOf HX2.out 0; have c1 := cellOf HX2.out 1; have d0 := cellOf HY2.out 0; have d1 := cellOf HY2.out 1; obtain ⟨A2, cap2, hA2⟩ := Sl.form hv2; subst hA2; have HV2 := hide hv2; clear hv2; clear hB2)
  go_upto_region 5 with (go_at_call 43; refine (Implies_any m f g _ _ _ _ _ HS.out hfl hgl (H.out.up HB2.out) (HIF.out.up HB2.out) (HIG.out.up HB2.out) HN.out).mono ?_; rw [HI2.out.1, HI2.out.2.1, HI2.out.2.2]; rintro e w3 ⟨v3, rfl, hv3, hB3⟩; have HB3 : Hid (Below w.heap.size w w3) := Below.to HB2.out hB3 (Nat.le_refl _); clear c0 c1 d0 d1; have HX3 := hide (box_to HX2.out hB3); have HY3 := hide (box_to HY2.out hB3); have c0 := cellOf HX3.out 0; have c1 := cellOf HX3.out 1; have d0 := cellOf HY3.out 0; have d1 := cellOf HY3.out 1; obtain ⟨A3, cap3, hA3⟩ := Sl.form hv3; subst hA3; have HV3 := hide hv3; clear hv3; clear hB3)
  go_upto_region 6 with (go_at_call 43; refine (Implies_any m g k _ _ _ _ _ HS.out hgl hkl (H.out.up HB3.out) (HIG.out.up HB3.out) (HIK.out.up HB3.out) HN.out).mono ?_; rw [HI3.out.1, HI3.out.2.1, HI3.out.2.2]; rintro e w4 ⟨v4, rfl, hv4, hB4⟩; have HB4 : Hid (Below w.heap.size w w4) := Below.to HB3.out hB4 (Nat.le_refl _); clear c0 c1 d0 d1; have HX4 := hide (box_to HX3.out hB4); have HY4 := hide (box_to HY3.out hB4); have c0 := cellOf HX4.out 0; have c1 := cellOf HX4.out 1; have d0 := cellOf HY4.out 0; have d1 := cellOf HY4.out 1; obtain ⟨A4, cap4, hA4⟩ := Sl.form hv4; subst hA4; have HV4 := hide hv4; clear hv4; clear hB4)
  go_upto_region 7 with (go_at_call 43; refine (Implies_any m f k _ _ _ _ _ HS.out hfl hkl (H.out.up HB4.out) (HIF.out.up HB4.out) (HIK.out.up HB4.out) HN.out).mono ?_; rw [HI4.out.1, HI4.out.2.1, HI4.out.2.2]; rintro e w5 ⟨v5, rfl, hv5, hB5⟩; have HB5 : Hid (Below w.heap.size w w5) := Below.to HB4.out hB5 (Nat.le_refl _); clear c0 c1 d0 d1; have HX5 := hide (box_to HX4.out hB5); have HY5 := hide (box_to HY4.out hB5); have c0 := cellOf HX5.out 0; have c1 := cellOf HX5.out 1; have d0 := cellOf HY5.out 0; have d1 := cellOf HY5.out 1; obtain ⟨A5, cap5, hA5⟩ := Sl.form hv5; subst hA5; have HV5 := hide hv5; clear hv5; clear hB5)
  go_wp2_with (go_at_call 20; refine (works_any _).mono ?_; rintro e w99 ⟨rfl, hB99⟩)
  go_ret
  exact ⟨rfl, Below.to HB5.out hB99 (Nat.le_refl _)⟩
set_option maxRecDepth 100000 in
set_option maxHeartbeats 8000000 in
theorem optionsPasses_err2 (m : Mo) (f g k : List Int) (ov rv fv gv kv : Value) (w : World) (hs : SizedM m) (h : MoAt w w.heap.size ov rv m) (hif : Ints w w.heap.size fv f) (hfl : f.length ≤ maxLen) (hig : Ints w w.heap.size gv g) (hgl : g.length ≤ maxLen) (hik : Ints w w.heap.size kv k) (hkl : k.length ≤ maxLen) (hlg : largeB m = false) (z1 : m.errF [f, f] = 0) (z2 : m.errF [f, g] ≠ 0) :
    Calls Try.prog 14 #[.agg #[ov, rv], .agg #[fv, gv], kv] w fun e w' => e = .returned (.bool true) ∧ Below w.heap.size w w' := by
  obtain ⟨A, cap, hov⟩ := Sl.form h.o
  obtain ⟨Ar, capr, hrv⟩ := h.r.form
  obtain ⟨Af, capf, hfv⟩ := Sl.form hif
  obtain ⟨Ag, capg, hgv⟩ := Sl.form hig
  obtain ⟨Ak, capk, hkv⟩ := Sl.form hik
  have H := hide h
  have HS := hide hs
  have HIF := hide hif
  have HIG := hide hig
  have HIK := hide hik
  subst hov hrv hfv hgv hkv
  have HLG := hide hlg
  have hN : m.err = 0 → m.opts.length ≤ 12 := fun he => by have := (large_small hlg he).1; omega
  have HN := hide hN
  obtain ⟨x1, hx1⟩ : ∃ z, impX m f f = z := ⟨_, rfl⟩
  obtain ⟨x2, hx2⟩ : ∃ z, impX m f g = z := ⟨_, rfl⟩
  obtain ⟨x3, hx3⟩ : ∃ z, impX m g k = z := ⟨_, rfl⟩
  obtain ⟨x4, hx4⟩ : ∃ z, impX m f k = z := ⟨_, rfl⟩
  obtain ⟨b1, hb1⟩ : ∃ z, impB m f f = z := ⟨_, rfl⟩
  obtain ⟨b2, hb2⟩ : ∃ z, impB m f g = z := ⟨_, rfl⟩
  obtain ⟨b3, hb3⟩ : ∃ z, impB m g k = z := ⟨_, rfl⟩
  obtain ⟨b4, hb4⟩ : ∃ z, impB m f k = z := ⟨_, rfl⟩
  obtain ⟨e1, he1⟩ : ∃ z, m.errF [f, f] = z := ⟨_, rfl⟩
  obtain ⟨e2, he2⟩ : ∃ z, m.errF [f, g] = z := ⟨_, rfl⟩
  obtain ⟨e3, he3⟩ : ∃ z, m.errF [g, k] = z := ⟨_, rfl⟩
  obtain ⟨e4, he4⟩ : ∃ z, m.errF [f, k] = z := ⟨_, rfl⟩
  have HI1 := hide (And.intro hx1 (And.intro hb1 he1))
  have HI2 := hide (And.intro hx2 (And.intro hb2 he2))
  have HI3 := hide (And.intro hx3 (And.intro hb3 he3))
  have HI4 := hide (And.intro hx4 (And.intro hb4 he4))
  rw [he1] at z1
  subst z1
  rw [he2] at z2
  have hz1 : (e2 != 0) = true := by simpa using z2
  clear h hs hif hig hik hlg hN hx1 hx2 hx3 hx4 hb1 hb2 hb3 hb4 he1 he2 he3 he4 z2
  go_enter Try.func14, Try.ntmps14
  go_upto_region 1 with (fail)
  generalize hw0 : World.alloc _ _ = w0
  obtain ⟨hb0, hb1, hB0, hs0⟩ := alloc2 hw0
  clear hw0
  have HX := hide hb0
  have HY := hide hb1
  have HB0 := hide hB0
  have c0 := cellOf hb0 0
  have c1 := cellOf hb0 1
  have d0 := cellOf hb1 0
  have d1 := cellOf hb1 1
  clear hb0 hb1 hB0 hs0
  go_upto_region 3 with (go_at_call 19; refine (Large_any m _ _ _ (H.out.up HB0.out)).mono ?_; rw [HLG.out]; rintro e w1 ⟨rfl, hB1⟩; have HB1 : Hid (Below w.heap.size w w1) := Below.to HB0.out hB1 (Nat.le_refl _); clear c0 c1 d0 d1; have HX1 := hide (box_to HX.out hB1); have HY1 := hide (box_to HY.out hB1); have c0 := cellOf HX1.out 0; have c1 := cellOf HX1.out 1; have d0 := cellOf HY1.out 0; have d1 := cellOf HY1.out 1; clear hB1)
  go_upto_region 4 with (go_at_call 43; refine (Implies_any m f f _ _ _ _ _ HS.out hfl hfl (H.out.up HB1.out) (HIF.out.up HB1.out) (HIF.out.up HB1.out) HN.out).mono ?_; rw [HI1.out.1, HI1.out.2.1, HI1.out.2.2]; rintro e w2 ⟨v2, rfl, hv2, hB2⟩; have HB2 : Hid (Below w.heap.size w w2) := Below.to HB1.out hB2 (Nat.le_refl _); clear c0 c1 d0 d1; have HX2 := hide (box_to HX1.out hB2); have HY2 := hide (box_to HY1.out hB2); have c0 := cellOf HX2.out 0; have c1 := cellOf HX2.out 1; have d0 := cellOf HY2.out 0; have d1 := cellOf HY2.out 1; obtain ⟨A2, cap2, hA2⟩ := Sl.form hv2; subst hA2; have HV2 := hide hv2; clear hv2; clear hB2)
  go_upto_region 5 with (go_at_call 43; refine (Implies_any m f g _ _ _ _ _ HS.out hfl hgl (H.out.up HB2.out) (HIF.out.up HB2.out) (HIG.out.up HB2.out) HN.out).mono ?_; rw [HI2.out.1, HI2.out.2.1, HI2.out.2.2]; rintro e w3 ⟨v3, rfl, hv3, hB3⟩; have HB3 : Hid (Below w.heap.size w w3) := Below.to HB2.out hB3 (Nat.le_refl _); clear c0 c1 d0 d1; have HX3 := hide (box_to HX2.out hB3); have HY3 := hide (box_to HY2.out hB3); have c0 := cellOf HX3.out 0; have c1 := cellOf HX3.out 1; have d0 := cellOf HY3.out 0; have d1 := cellOf HY3.out 1; obtain ⟨A3, cap3, hA3⟩ := Sl.form hv3; subst hA3; have HV3 := hide hv3; clear hv3; clear hB3)
  go_upto_region 6 with (go_at_call 43; refine (Implies_any m g k _ _ _ _ _ HS.out hgl hkl (H.out.up HB3.out) (HIG.out.up HB3.out) (HIK.out.up HB3.out) HN.out).mono ?_; rw [HI3.out.1, HI3.out.2.1, HI3.out.2.2]; rintro e w4 ⟨v4, rfl, hv4, hB4⟩; have HB4 : Hid (Below w.heap.size w w4) := Below.to HB3.out hB4 (Nat.le_refl _); clear c0 c1 d0 d1; have HX4 := hide (box_to HX3.out hB4); have HY4 := hide (box_to HY3.out hB4); have c0 := cellOf HX4.out 0; have c1 := cellOf HX4.out 1; have d0 := cellOf HY4.out 0; have d1 := cellOf HY4.out 1; obtain ⟨A4, cap4, hA4⟩ := Sl.form hv4; subst hA4; have HV4 := hide hv4; clear hv4; clear hB4)
  go_upto_region 7 with (go_at_call 43; refine (Implies_any m f k _ _ _ _ _ HS.out hfl hkl (H.out.up HB4.out) (HIF.out.up HB4.out) (HIK.out.up HB4.out) HN.out).mono ?_; rw [HI4.out.1, HI4.out.2.1, HI4.out.2.2]; rintro e w5 ⟨v5, rfl, hv5, hB5⟩; have HB5 : Hid (Below w.heap.size w w5) := Below.to HB4.out hB5 (Nat.le_refl _); clear c0 c1 d0 d1; have HX5 := hide (box_to HX4.out hB5); have HY5 := hide (box_to HY4.out hB5); have c0 := cellOf HX5.out 0; have c1 := cellOf HX5.out 1; have d0 := cellOf HY5.out 0; have d1 := cellOf HY5.out 1; obtain ⟨A5, cap5, hA5⟩ := Sl.form hv5; subst hA5; have HV5 := hide hv5; clear hv5; clear hB5)
  go_wp2_with (go_at_call 20; refine (works_any _).mono ?_; rintro e w99 ⟨rfl, hB99⟩)
  go_ret
  exact ⟨rfl, Below.to HB5.out hB99 (Nat.le_refl _)⟩
set_option maxRecDepth 100000 in
set_option maxHeartbeats 8000000 in
theorem optionsPasses_err3 (m : Mo) (f g k : List Int) (ov rv fv gv kv : Value) (w : World) (hs : SizedM m) (h : MoAt w w.heap.size ov rv m) (hif : Ints w w.heap.size fv f) (hfl : f.length ≤ maxLen) (hig : Ints w w.heap.size gv g) (hgl : g.length ≤ maxLen) (hik : Ints w w.heap.size kv k) (hkl : k.length ≤ maxLen) (hlg : largeB m = false) (z1 : m.errF [f, f] = 0) (z2 : m.errF [f, g] = 0) (z3 : m.errF [g, k] ≠ 0) :
    Calls Try.prog 14 #[.agg #[ov, rv], .agg #[fv, gv], kv] w fun e w' => e = .returned (.bool true) ∧ Below w.heap.size w w' := by
  obtain ⟨A, cap, hov⟩ := Sl.form h.o
  obtain ⟨Ar, capr, hrv⟩ := h.r.form
  obtain ⟨Af, capf, hfv⟩ := Sl.form hif
  obtain ⟨Ag, capg, hgv⟩ := Sl.form hig
  obtain ⟨Ak, capk, hkv⟩ := Sl.form hik
  have H := hide h
  have HS := hide hs
  have HIF := hide hif
  have HIG := hide hig
  have HIK := hide hik
  subst hov hrv hfv hgv hkv
  have HLG := hide hlg
  have hN : m.err = 0 → m.opts.length ≤ 12 := fun he => by have := (large_small hlg he).1; omega
  have HN := hide hN
  obtain ⟨x1, hx1⟩ : ∃ z, impX m f f = z := ⟨_, rfl⟩
  obtain ⟨x2, hx2⟩ : ∃ z, impX m f g = z := ⟨_, rfl⟩
  obtain ⟨x3, hx3⟩ : ∃ z, impX m g k = z := ⟨_, rfl⟩
  obtain ⟨x4, hx4⟩ : ∃ z, impX m f k = z := ⟨_, rfl⟩
  obtain ⟨b1, hb1⟩ : ∃ z, impB m f f = z := ⟨_, rfl⟩
  obtain ⟨b2, hb2⟩ : ∃ z, impB m f g = z := ⟨_, rfl⟩
  obtain ⟨b3, hb3⟩ : ∃ z, impB m g k = z := ⟨_, rfl⟩
  obtain ⟨b4, hb4⟩ : ∃ z, impB m f k = z := ⟨_, rfl⟩
  obtain ⟨e1, he1⟩ : ∃ z, m.errF [f, f] = z := ⟨_, rfl⟩
  obtain ⟨e2, he2⟩ : ∃ z, m.errF [f, g] = z := ⟨_, rfl⟩
  obtain ⟨e3, he3⟩ : ∃ z, m.errF [g, k] = z := ⟨_, rfl⟩
  obtain ⟨e4, he4⟩ : ∃ z, m.errF [f, k] = z := ⟨_, rfl⟩
  have HI1 := hide (And.intro hx1 (And.intro hb1 he1))
  have HI2 := hide (And.intro hx2 (And.intro hb2 he2))
  have HI3 := hide (And.intro hx3 (And.intro hb3 he3))
  have HI4 := hide (And.intro hx4 (And.intro hb4 he4))
  rw [he1] at z1
  subst z1
  rw [he2] at z2
  subst z2
  rw [he3] at z3
  have hz1 : (e3 != 0) = true := by simpa using z3
  clear h hs hif hig hik hlg hN hx1 hx2 hx3 hx4 hb1 hb2 hb3 hb4 he1 he2 he3 he4 z3
  go_enter Try.func14, Try.ntmps14
  go_upto_region 1 with (fail)
  generalize hw0 : World.alloc _ _ = w0
  obtain ⟨hb0, hb1, hB0, hs0⟩ := alloc2 hw0
  clear hw0
  have HX := hide hb0
  have HY := hide hb1
  have HB0 := hide hB0
  have c0 := cellOf hb0 0
  have c1 := cellOf hb0 1
  have d0 := cellOf hb1 0
  have d1 := cellOf hb1 1
  clear hb0 hb1 hB0 hs0
  go_upto_region 3 with (go_at_call 19; refine (Large_any m _ _ _ (H.out.up HB0.out)).mono ?_; rw [HLG.out]; rintro e w1 ⟨rfl, hB1⟩; have HB1 : Hid (Below w.heap.size w w1) := Below.to HB0.out hB1 (Nat.le_refl _); clear c0 c1 d0 d1; have HX1 := hide (box_to HX.out hB1); have HY1 := hide (box_to HY.out hB1); have c0 := cellOf HX1.out 0; have c1 := cellOf HX1.out 1; have d0 := cellOf HY1.out 0; have d1 := cellOf HY1.out 1; clear hB1)
  go_upto_region 4 with (go_at_call 43; refine (Implies_any m f f _ _ _ _ _ HS.out hfl hfl (H.out.up HB1.out) (HIF.out.up HB1.out) (HIF.out.up HB1.out) HN.out).mono ?_; rw [HI1.out.1, HI1.out.2.1, HI1.out.2.2]; rintro e w2 ⟨v2, rfl, hv2, hB2⟩; have HB2 : Hid (Below w.heap.size w w2) := Below.to HB1.out hB2 (Nat.le_refl _); clear c0 c1 d0 d1; have HX2 := hide (box_to HX1.out hB2); have HY2 := hide (box_to HY1.out hB2); have c0 := cellOf HX2.out 0; have c1 := cellOf HX2.out 1; have d0 := cellOf HY2.out 0; have d1 := cellOf HY2.out 1; obtain ⟨A2, cap2, hA2⟩ := Sl.form hv2; subst hA2; have HV2 := hide hv2; clear hv2; clear hB2)
  go_upto_region 5 with (go_at_call 43; refine (Implies_any m f g _ _ _ _ _ HS.out hfl hgl (H.out.up HB2.out) (HIF.out.up HB2.out) (HIG.out.up HB2.out) HN.out).mono ?_; rw [HI2.out.1, HI2.out.2.1, HI2.out.2.2]; rintro e w3 ⟨v3, rfl, hv3, hB3⟩; have HB3 : Hid (Below w.heap.size w w3) := Below.to HB2.out hB3 (Nat.le_refl _); clear c0 c1 d0 d1; have HX3 := hide (box_to HX2.out hB3); have HY3 := hide (box_to HY2.out hB3); have c0 := cellOf HX3.out 0; have c1 := cellOf HX3.out 1; have d0 := cellOf HY3.out 0; have d1 := cellOf HY3.out 1; obtain ⟨A3, cap3, hA3⟩ := Sl.form hv3; subst hA3; have HV3 := hide hv3; clear hv3; clear hB3)
  go_upto_region 6 with (go_at_call 43; refine (Implies_any m g k _ _ _ _ _ HS.out hgl hkl (H.out.up HB3.out) (HIG.out.up HB3.out) (HIK.out.up HB3.out) HN.out).mono ?_; rw [HI3.out.1, HI3.out.2.1, HI3.out.2.2]; rintro e w4 ⟨v4, rfl, hv4, hB4⟩; have HB4 : Hid (Below w.heap.size w w4) := Below.to HB3.out hB4 (Nat.le_refl _); clear c0 c1 d0 d1; have HX4 := hide (box_to HX3.out hB4); have HY4 := hide (box_to HY3.out hB4); have c0 := cellOf HX4.out 0; have c1 := cellOf HX4.out 1; have d0 := cellOf HY4.out 0; have d1 := cellOf HY4.out 1; obtain ⟨A4, cap4, hA4⟩ := Sl.form hv4; subst hA4; have HV4 := hide hv4; clear hv4; clear hB4)
  go_upto_region 7 with (go_at_call 43; refine (Implies_any m f k _ _ _ _ _ HS.out hfl hkl (H.out.up HB4.out) (HIF.out.up HB4.out) (HIK.out.up HB4.out) HN.out).mono ?_; rw [HI4.out.1, HI4.out.2.1, HI4.out.2.2]; rintro e w5 ⟨v5, rfl, hv5, hB5⟩; have HB5 : Hid (Below w.heap.size w w5) := Below.to HB4.out hB5 (Nat.le_refl _); clear c0 c1 d0 d1; have HX5 := hide (box_to HX4.out hB5); have HY5 := hide (box_to HY4.out hB5); have c0 := cellOf HX5.out 0; have c1 := cellOf HX5.out 1; have d0 := cellOf HY5.out 0; have d1 := cellOf HY5.out 1; obtain ⟨A5, cap5, hA5⟩ := Sl.form hv5; subst hA5; have HV5 := hide hv5; clear hv5; clear hB5)
  go_wp2_with (go_at_call 20; refine (works_any _).mono ?_; rintro e w99 ⟨rfl, hB99⟩)
  go_ret
  exact ⟨rfl, Below.to HB5.out hB99 (Nat.le_refl _)⟩
set_option maxRecDepth 100000 in
set_option maxHeartbeats 8000000 in
theorem optionsPasses_err4 (m : Mo) (f g k : List Int) (ov rv fv gv kv : Value) (w : World) (hs : SizedM m) (h : MoAt w w.heap.size ov rv m) (hif : Ints w w.heap.size fv f) (hfl : f.length ≤ maxLen) (hig : Ints w w.heap.size gv g) (hgl : g.length ≤ maxLen) (hik : Ints w w.heap.size kv k) (hkl : k.length ≤ maxLen) (hlg : largeB m = false) (z1 : m.errF [f, f] = 0) (z2 : m.errF [f, g] = 0) (z3 : m.errF [g, k] = 0) (z4 : m.errF [f, k] ≠ 0) :
    Calls Try.prog 14 #[.agg #[ov, rv], .agg #[fv, gv], kv] w fun e w' => e = .returned (.bool true) ∧ Below w.heap.size w w' := by
  obtain ⟨A, cap, hov⟩ := Sl.form h.o
  obtain ⟨Ar, capr, hrv⟩ := h.r.form
  obtain ⟨Af, capf, hfv⟩ := Sl.form hif
  obtain ⟨Ag, capg, hgv⟩ := Sl.form hig
  obtain ⟨Ak, capk, hkv⟩ := Sl.form hik
  have H := hide h
  have HS := hide hs
  have HIF := hide hif
  have HIG := hide hig
  have HIK := hide hik
  subst hov hrv hfv hgv hkv
  have HLG := hide hlg
  have hN : m.err = 0 → m.opts.length ≤ 12 := fun he => by have := (large_small hlg he).1; omega
  have HN := hide hN
  obtain ⟨x1, hx1⟩ : ∃ z, impX m f f = z := ⟨_, rfl⟩
  obtain ⟨x2, hx2⟩ : ∃ z, impX m f g = z := ⟨_, rfl⟩
  obtain ⟨x3, hx3⟩ : ∃ z, impX m g k = z := ⟨_, rfl⟩
  obtain ⟨x4, hx4⟩ : ∃ z, impX m f k = z := ⟨_, rfl⟩
  obtain ⟨b1, hb1⟩ : ∃ z, impB m f f = z := ⟨_, rfl⟩
  obtain ⟨b2, hb2⟩ : ∃ z, impB m f g = z := ⟨_, rfl⟩
  obtain ⟨b3, hb3⟩ : ∃ z, impB m g k = z := ⟨_, rfl⟩
  obtain ⟨b4, hb4⟩ : ∃ z, impB m f k = z := ⟨_, rfl⟩
  obtain ⟨e1, he1⟩ : ∃ z, m.errF [f, f] = z := ⟨_, rfl⟩
  obtain ⟨e2, he2⟩ : ∃ z, m.errF [f, g] = z := ⟨_, rfl⟩
  obtain ⟨e3, he3⟩ : ∃ z, m.errF [g, k] = z := ⟨_, rfl⟩
  obtain ⟨e4, he4⟩ : ∃ z, m.errF [f, k] = z := ⟨_, rfl⟩
  have HI1 := hide (And.intro hx1 (And.intro hb1 he1))
  have HI2 := hide (And.intro hx2 (And.intro hb2 he2))
  have HI3 := hide (And.intro hx3 (And.intro hb3 he3))
  have HI4 := hide (And.intro hx4 (And.intro hb4 he4))
  rw [he1] at z1
  subst z1
  rw [he2] at z2
  subst z2
  rw [he3] at z3
  subst z3
  rw [he4] at z4
  have hz1 : (e4 != 0) = true := by simpa using z4
  clear h hs hif hig hik hlg hN hx1 hx2 hx3 hx4 hb1 hb2 hb3 hb4 he1 he2 he3 he4 z4
  go_enter Try.func14, Try.ntmps14
  go_upto_region 1 with (fail)
  generalize hw0 : World.alloc _ _ = w0
  obtain ⟨hb0, hb1, hB0, hs0⟩ := alloc2 hw0
  clear hw0
  have HX := hide hb0
  have HY := hide hb1
  have HB0 := hide hB0
  have c0 := cellOf hb0 0
  have c1 := cellOf hb0 1
  have d0 := cellOf hb1 0
  have d1 := cellOf hb1 1
  clear hb0 hb1 hB0 hs0
  go_upto_region 3 with (go_at_call 19; refine (Large_any m _ _ _ (H.out.up HB0.out)).mono ?_; rw [HLG.out]; rintro e w1 ⟨rfl, hB1⟩; have HB1 : Hid (Below w.heap.size w w1) := Below.to HB0.out hB1 (Nat.le_refl _); clear c0 c1 d0 d1; have HX1 := hide (box_to HX.out hB1); have HY1 := hide (box_to HY.out hB1); have c0 := cellOf HX1.out 0; have c1 := cellOf HX1.out 1; have d0 := cellOf HY1.out 0; have d1 := cellOf HY1.out 1; clear hB1)
  go_upto_region 4 with (go_at_call 43; refine (Implies_any m f f _ _ _ _ _ HS.out hfl hfl (H.out.up HB1.out) (HIF.out.up HB1.out) (HIF.out.up HB1.out) HN.out).mono ?_; rw [HI1.out.1, HI1.out.2.1, HI1.out.2.2]; rintro e w2 ⟨v2, rfl, hv2, hB2⟩; have HB2 : Hid (Below w.heap.size w w2) := Below.to HB1.out hB2 (Nat.le_refl _); clear c0 c1 d0 d1; have HX2 := hide (box_to HX1.out hB2); have HY2 := hide (box_to HY1.out hB2); have c0 := cellOf HX2.out 0; have c1 := cellOf HX2.out 1; have d0 := cellOf HY2.out 0; have d1 := cellOf HY2.out 1; obtain ⟨A2, cap2, hA2⟩ := Sl.form hv2; subst hA2; have HV2 := hide hv2; clear hv2; clear hB2)
  go_upto_region 5 with (go_at_call 43; refine (Implies_any m f g _ _ _ _ _ HS.out hfl hgl (H.out.up HB2.out) (HIF.out.up HB2.out) (HIG.out.up HB2.out) HN.out).mono ?_; rw [HI2.out.1, HI2.out.2.1, HI2.out.2.2]; rintro e w3 ⟨v3, rfl, hv3, hB3⟩; have HB3 : Hid (Below w.heap.size w w3) := Below.to HB2.out hB3 (Nat.le_refl _); clear c0 c1 d0 d1; have HX3 := hide (box_to HX2.out hB3); have HY3 := hide (box_to HY2.out hB3); have c0 := cellOf HX3.out 0; have c1 := cellOf HX3.out 1; have d0 := cellOf HY3.out 0; have d1 := cellOf HY3.out 1; obtain ⟨A3, cap3, hA3⟩ := Sl.form hv3; subst hA3; have HV3 := hide hv3; clear hv3; clear hB3)
  go_upto_region 6 with (go_at_call 43; refine (Implies_any m g k _ _ _ _ _ HS.out hgl hkl (H.out.up HB3.out) (HIG.out.up HB3.out) (HIK.out.up HB3.out) HN.out).mono ?_; rw [HI3.out.1, HI3.out.2.1, HI3.out.2.2]; rintro e w4 ⟨v4, rfl, hv4, hB4⟩; have HB4 : Hid (Below w.heap.size w w4) := Below.to HB3.out hB4 (Nat.le_refl _); clear c0 c1 d0 d1; have HX4 := hide (box_to HX3.out hB4); have HY4 := hide (box_to HY3.out hB4); have c0 := cellOf HX4.out 0; have c1 := cellOf HX4.out 1; have d0 := cellOf HY4.out 0; have d1 := cellOf HY4.out 1; obtain ⟨A4, cap4, hA4⟩ := Sl.form hv4; subst hA4; have HV4 := hide hv4; clear hv4; clear hB4)
  go_upto_region 7 with (go_at_call 43; refine (Implies_any m f k _ _ _ _ _ HS.out hfl hkl (H.out.up HB4.out) (HIF.out.up HB4.out) (HIK.out.up HB4.out) HN.out).mono ?_; rw [HI4.out.1, HI4.out.2.1, HI4.out.2.2]; rintro e w5 ⟨v5, rfl, hv5, hB5⟩; have HB5 : Hid (Below w.heap.size w w5) := Below.to HB4.out hB5 (Nat.le_refl _); clear c0 c1 d0 d1; have HX5 := hide (box_to HX4.out hB5); have HY5 := hide (box_to HY4.out hB5); have c0 := cellOf HX5.out 0; have c1 := cellOf HX5.out 1; have d0 := cellOf HY5.out 0; have d1 := cellOf HY5.out 1; obtain ⟨A5, cap5, hA5⟩ := Sl.form hv5; subst hA5; have HV5 := hide hv5; clear hv5; clear hB5)
  go_wp2_with (go_at_call 20; refine (works_any _).mono ?_; rintro e w99 ⟨rfl, hB99⟩)
  go_ret
  exact ⟨rfl, Below.to HB5.out hB99 (Nat.le_refl _)⟩
set_option maxRecDepth 100000 in
set_option maxHeartbeats 8000000 in
theorem optionsPasses_ok (m : Mo) (f g k : List Int) (ov rv fv gv kv : Value) (w : World) (hs : SizedM m) (h : MoAt w w.heap.size ov rv m) (hif : Ints w w.heap.size fv f) (hfl : f.length ≤ maxLen) (hig : Ints w w.heap.size gv g) (hgl : g.length ≤ maxLen) (hik : Ints w w.heap.size kv k) (hkl : k.length ≤ maxLen) (hlg : largeB m = false) (z1 : m.errF [f, f] = 0) (z2 : m.errF [f, g] = 0) (z3 : m.errF [g, k] = 0) (z4 : m.errF [f, k] = 0) :
    Calls Try.prog 14 #[.agg #[ov, rv], .agg #[fv, gv], kv] w fun e w' => e = .returned (.bool true) ∧ Below w.heap.size w w' := by
  obtain ⟨A, cap, hov⟩ := Sl.form h.o
  obtain ⟨Ar, capr, hrv⟩ := h.r.form
  obtain ⟨Af, capf, hfv⟩ := Sl.form hif
  obtain ⟨Ag, capg, hgv⟩ := Sl.form hig
  obtain ⟨Ak, capk, hkv⟩ := Sl.form hik
  have H := hide h
  have HS := hide hs
  have HIF := hide hif
  have HIG := hide hig
  have HIK := hide hik
  subst hov hrv hfv hgv hkv
  have HLG := hide hlg
  have hN : m.err = 0 → m.opts.length ≤ 12 := fun he => by have := (large_small hlg he).1; omega
  have HN := hide hN
  obtain ⟨x1, hx1⟩ : ∃ z, impX m f f = z := ⟨_, rfl⟩
  obtain ⟨x2, hx2⟩ : ∃ z, impX m f g = z := ⟨_, rfl⟩
  obtain ⟨x3, hx3⟩ : ∃ z, impX m g k = z := ⟨_, rfl⟩
  obtain ⟨x4, hx4⟩ : ∃ z, impX m f k = z := ⟨_, rfl⟩
  obtain ⟨b1, hb1⟩ : ∃ z, impB m f f = z := ⟨_, rfl⟩
  obtain ⟨b2, hb2⟩ : ∃ z, impB m f g = z := ⟨_, rfl⟩
  obtain ⟨b3, hb3⟩ : ∃ z, impB m g k = z := ⟨_, rfl⟩
  obtain ⟨b4, hb4⟩ : ∃ z, impB m f k = z := ⟨_, rfl⟩
  obtain ⟨e1, he1⟩ : ∃ z, m.errF [f, f] = z := ⟨_, rfl⟩
  obtain ⟨e2, he2⟩ : ∃ z, m.errF [f, g] = z := ⟨_, rfl⟩
  obtain ⟨e3, he3⟩ : ∃ z, m.errF [g, k] = z := ⟨_, rfl⟩
  obtain ⟨e4, he4⟩ : ∃ z, m.errF [f, k] = z := ⟨_, rfl⟩
  have HI1 := hide (And.intro hx1 (And.intro hb1 he1))
  have HI2 := hide (And.intro hx2 (And.intro hb2 he2))
  have HI3 := hide (And.intro hx3 (And.intro hb3 he3))
  have HI4 := hide (And.intro hx4 (And.intro hb4 he4))
  have hown := impB_self z1
  have hpass := imp_pass z2 z3 z4
  have hyes := impX_yes z4
  have hno := impX_no z4
  have hm := (Mo.okF z4).1
  have hfe := Mo.errF_one hm ((Mo.okF z4).2 f (by simp))
  have hke := Mo.errF_one hm ((Mo.okF z4).2 k (by simp))
  rw [hb1] at hown
  rw [hb2, hb3, hb4] at hpass
  rw [hb4, hx4] at hyes hno
  rw [he1] at z1
  rw [he2] at z2
  rw [he3] at z3
  rw [he4] at z4
  subst z1 z2 z3 z4 hown
  cases b4 with
  | true =>
    have hx0 := hyes rfl
    subst hx0
    have hlen : (([] : List Bool).length : Int) = 0 := rfl
    clear h hs hif hig hik hlg hN hx1 hx2 hx3 hx4 hb1 hb2 hb3 hb4 he1 he2 he3 he4 hpass hyes hno hm hfe hke
    cases b2 with
    | true =>
      cases b3 with
      | true =>
        go_enter Try.func14, Try.ntmps14
        go_upto_region 1 with (fail)
        generalize hw0 : World.alloc _ _ = w0
        obtain ⟨hb0, hb1, hB0, hs0⟩ := alloc2 hw0
        clear hw0
        have HX := hide hb0
        have HY := hide hb1
        have HB0 := hide hB0
        have c0 := cellOf hb0 0
        have c1 := cellOf hb0 1
        have d0 := cellOf hb1 0
        have d1 := cellOf hb1 1
        clear hb0 hb1 hB0 hs0
        go_upto_region 3 with (go_at_call 19; refine (Large_any m _ _ _ (H.out.up HB0.out)).mono ?_; rw [HLG.out]; rintro e w1 ⟨rfl, hB1⟩; have HB1 : Hid (Below w.heap.size w w1) := Below.to HB0.out hB1 (Nat.le_refl _); clear c0 c1 d0 d1; have HX1 := hide (box_to HX.out hB1); have HY1 := hide (box_to HY.out hB1); have c0 := cellOf HX1.out 0; have c1 := cellOf HX1.out 1; have d0 := cellOf HY1.out 0; have d1 := cellOf HY1.out 1; clear hB1)
        go_upto_region 4 with (go_at_call 43; refine (Implies_any m f f _ _ _ _ _ HS.out hfl hfl (H.out.up HB1.out) (HIF.out.up HB1.out) (HIF.out.up HB1.out) HN.out).mono ?_; rw [HI1.out.1, HI1.out.2.1, HI1.out.2.2]; rintro e w2 ⟨v2, rfl, hv2, hB2⟩; have HB2 : Hid (Below w.heap.size w w2) := Below.to HB1.out hB2 (Nat.le_refl _); clear c0 c1 d0 d1; have HX2 := hide (box_to HX1.out hB2); have HY2 := hide (box_to HY1.out hB2); have c0 := cellOf HX2.out 0; have c1 := cellOf HX2.out 1; have d0 := cellOf HY2.out 0; have d1 := cellOf HY2.out 1; obtain ⟨A2, cap2, hA2⟩ := Sl.form hv2; subst hA2; have HV2 := hide hv2; clear hv2; clear hB2)
        go_upto_region 5 with (go_at_call 43; refine (Implies_any m f g _ _ _ _ _ HS.out hfl hgl (H.out.up HB2.out) (HIF.out.up HB2.out) (HIG.out.up HB2.out) HN.out).mono ?_; rw [HI2.out.1, HI2.out.2.1, HI2.out.2.2]; rintro e w3 ⟨v3, rfl, hv3, hB3⟩; have HB3 : Hid (Below w.heap.size w w3) := Below.to HB2.out hB3 (Nat.le_refl _); clear c0 c1 d0 d1; have HX3 := hide (box_to HX2.out hB3); have HY3 := hide (box_to HY2.out hB3); have c0 := cellOf HX3.out 0; have c1 := cellOf HX3.out 1; have d0 := cellOf HY3.out 0; have d1 := cellOf HY3.out 1; obtain ⟨A3, cap3, hA3⟩ := Sl.form hv3; subst hA3; have HV3 := hide hv3; clear hv3; clear hB3)
        go_upto_region 6 with (go_at_call 43; refine (Implies_any m g k _ _ _ _ _ HS.out hgl hkl (H.out.up HB3.out) (HIG.out.up HB3.out) (HIK.out.up HB3.out) HN.out).mono ?_; rw [HI3.out.1, HI3.out.2.1, HI3.out.2.2]; rintro e w4 ⟨v4, rfl, hv4, hB4⟩; have HB4 : Hid (Below w.heap.size w w4) := Below.to HB3.out hB4 (Nat.le_refl _); clear c0 c1 d0 d1; have HX4 := hide (box_to HX3.out hB4); have HY4 := hide (box_to HY3.out hB4); have c0 := cellOf HX4.out 0; have c1 := cellOf HX4.out 1; have d0 := cellOf HY4.out 0; have d1 := cellOf HY4.out 1; obtain ⟨A4, cap4, hA4⟩ := Sl.form hv4; subst hA4; have HV4 := hide hv4; clear hv4; clear hB4)
        go_upto_region 7 with (go_at_call 43; refine (Implies_any m f k _ _ _ _ _ HS.out hfl hkl (H.out.up HB4.out) (HIF.out.up HB4.out) (HIK.out.up HB4.out) HN.out).mono ?_; rw [HI4.out.1, HI4.out.2.1, HI4.out.2.2]; rintro e w5 ⟨v5, rfl, hv5, hB5⟩; have HB5 : Hid (Below w.heap.size w w5) := Below.to HB4.out hB5 (Nat.le_refl _); clear c0 c1 d0 d1; have HX5 := hide (box_to HX4.out hB5); have HY5 := hide (box_to HY4.out hB5); have c0 := cellOf HX5.out 0; have c1 := cellOf HX5.out 1; have d0 := cellOf HY5.out 0; have d1 := cellOf HY5.out 1; obtain ⟨A5, cap5, hA5⟩ := Sl.form hv5; subst hA5; have HV5 := hide hv5; clear hv5; clear hB5)
        go_wp2_with (go_at_call 20; refine (works_any _).mono ?_; rintro e w99 ⟨rfl, hB99⟩)
        go_ret
        exact ⟨rfl, Below.to HB5.out hB99 (Nat.le_refl _)⟩
      | false =>
        go_enter Try.func14, Try.ntmps14
        go_upto_region 1 with (fail)
        generalize hw0 : World.alloc _ _ = w0
        obtain ⟨hb0, hb1, hB0, hs0⟩ := alloc2 hw0
        clear hw0
        have HX := hide hb0
        have HY := hide hb1
        have HB0 := hide hB0
        have c0 := cellOf hb0 0
        have c1 := cellOf hb0 1
        have d0 := cellOf hb1 0
        have d1 := cellOf hb1 1
        clear hb0 hb1 hB0 hs0
        go_upto_region 3 with (go_at_call 19; refine (Large_any m _ _ _ (H.out.up HB0.out)).mono ?_; rw [HLG.out]; rintro e w1 ⟨rfl, hB1⟩; have HB1 : Hid (Below w.heap.size w w1) := Below.to HB0.out hB1 (Nat.le_refl _); clear c0 c1 d0 d1; have HX1 := hide (box_to HX.out hB1); have HY1 := hide (box_to HY.out hB1); have c0 := cellOf HX1.out 0; have c1 := cellOf HX1.out 1; have d0 := cellOf HY1.out 0; have d1 := cellOf HY1.out 1; clear hB1)
        go_upto_region 4 with (go_at_call 43; refine (Implies_any m f f _ _ _ _ _ HS.out hfl hfl (H.out.up HB1.out) (HIF.out.up HB1.out) (HIF.out.up HB1.out) HN.out).mono ?_; rw [HI1.out.1, HI1.out.2.1, HI1.out.2.2]; rintro e w2 ⟨v2, rfl, hv2, hB2⟩; have HB2 : Hid (Below w.heap.size w w2) := Below.to HB1.out hB2 (Nat.le_refl _); clear c0 c1 d0 d1; have HX2 := hide (box_to HX1.out hB2); have HY2 := hide (box_to HY1.out hB2); have c0 := cellOf HX2.out 0; have c1 := cellOf HX2.out 1; have d0 := cellOf HY2.out 0; have d1 := cellOf HY2.out 1; obtain ⟨A2, cap2, hA2⟩ := Sl.form hv2; subst hA2; have HV2 := hide hv2; clear hv2; clear hB2)
        go_upto_region 5 with (go_at_call 43; refine (Implies_any m f g _ _ _ _ _ HS.out hfl hgl (H.out.up HB2.out) (HIF.out.up HB2.out) (HIG.out.up HB2.out) HN.out).mono ?_; rw [HI2.out.1, HI2.out.2.1, HI2.out.2.2]; rintro e w3 ⟨v3, rfl, hv3, hB3⟩; have HB3 : Hid (Below w.heap.size w w3) := Below.to HB2.out hB3 (Nat.le_refl _); clear c0 c1 d0 d1; have HX3 := hide (box_to HX2.out hB3); have HY3 := hide (box_to HY2.out hB3); have c0 := cellOf HX3.out 0; have c1 := cellOf HX3.out 1; have d0 := cellOf HY3.out 0; have d1 := cellOf HY3.out 1; obtain ⟨A3, cap3, hA3⟩ := Sl.form hv3; subst hA3; have HV3 := hide hv3; clear hv3; clear hB3)
        go_upto_region 6 with (go_at_call 43; refine (Implies_any m g k _ _ _ _ _ HS.out hgl hkl (H.out.up HB3.out) (HIG.out.up HB3.out) (HIK.out.up HB3.out) HN.out).mono ?_; rw [HI3.out.1, HI3.out.2.1, HI3.out.2.2]; rintro e w4 ⟨v4, rfl, hv4, hB4⟩; have HB4 : Hid (Below w.heap.size w w4) := Below.to HB3.out hB4 (Nat.le_refl _); clear c0 c1 d0 d1; have HX4 := hide (box_to HX3.out hB4); have HY4 := hide (box_to HY3.out hB4); have c0 := cellOf HX4.out 0; have c1 := cellOf HX4.out 1; have d0 := cellOf HY4.out 0; have d1 := cellOf HY4.out 1; obtain ⟨A4, cap4, hA4⟩ := Sl.form hv4; subst hA4; have HV4 := hide hv4; clear hv4; clear hB4)
        go_upto_region 7 with (go_at_call 43; refine (Implies_any m f k _ _ _ _ _ HS.out hfl hkl (H.out.up HB4.out) (HIF.out.up HB4.out) (HIK.out.up HB4.out) HN.out).mono ?_; rw [HI4.out.1, HI4.out.2.1, HI4.out.2.2]; rintro e w5 ⟨v5, rfl, hv5, hB5⟩; have HB5 : Hid (Below w.heap.size w w5) := Below.to HB4.out hB5 (Nat.le_refl _); clear c0 c1 d0 d1; have HX5 := hide (box_to HX4.out hB5); have HY5 := hide (box_to HY4.out hB5); have c0 := cellOf HX5.out 0; have c1 := cellOf HX5.out 1; have d0 := cellOf HY5.out 0; have d1 := cellOf HY5.out 1; obtain ⟨A5, cap5, hA5⟩ := Sl.form hv5; subst hA5; have HV5 := hide hv5; clear hv5; clear hB5)
        go_wp2_with (go_at_call 20; refine (works_any _).mono ?_; rintro e w99 ⟨rfl, hB99⟩)
        go_ret
        exact ⟨rfl, Below.to HB5.out hB99 (Nat.le_refl _)⟩
    | false =>
      go_enter Try.func14, Try.ntmps14
      go_upto_region 1 with (fail)
      generalize hw0 : World.alloc _ _ = w0
      obtain ⟨hb0, hb1, hB0, hs0⟩ := alloc2 hw0
      clear hw0
      have HX := hide hb0
      have HY := hide hb1
      have HB0 := hide hB0
      have c0 := cellOf hb0 0
      have c1 := cellOf hb0 1
      have d0 := cellOf hb1 0
      have d1 := cellOf hb1 1
      clear hb0 hb1 hB0 hs0
      go_upto_region 3 with (go_at_call 19; refine (Large_any m _ _ _ (H.out.up HB0.out)).mono ?_; rw [HLG.out]; rintro e w1 ⟨rfl, hB1⟩; have HB1 : Hid (Below w.heap.size w w1) := Below.to HB0.out hB1 (Nat.le_refl _); clear c0 c1 d0 d1; have HX1 := hide (box_to HX.out hB1); have HY1 := hide (box_to HY.out hB1); have c0 := cellOf HX1.out 0; have c1 := cellOf HX1.out 1; have d0 := cellOf HY1.out 0; have d1 := cellOf HY1.out 1; clear hB1)
      go_upto_region 4 with (go_at_call 43; refine (Implies_any m f f _ _ _ _ _ HS.out hfl hfl (H.out.up HB1.out) (HIF.out.up HB1.out) (HIF.out.up HB1.out) HN.out).mono ?_; rw [HI1.out.1, HI1.out.2.1, HI1.out.2.2]; rintro e w2 ⟨v2, rfl, hv2, hB2⟩; have HB2 : Hid (Below w.heap.size w w2) := Below.to HB1.out hB2 (Nat.le_refl _); clear c0 c1 d0 d1; have HX2 := hide (box_to HX1.out hB2); have HY2 := hide (box_to HY1.out hB2); have c0 := cellOf HX2.out 0; have c1 := cellOf HX2.out 1; have d0 := cellOf HY2.out 0; have d1 := cellOf HY2.out 1; obtain ⟨A2, cap2, hA2⟩ := Sl.form hv2; subst hA2; have HV2 := hide hv2; clear hv2; clear hB2)
      go_upto_region 5 with (go_at_call 43; refine (Implies_any m f g _ _ _ _ _ HS.out hfl hgl (H.out.up HB2.out) (HIF.out.up HB2.out) (HIG.out.up HB2.out) HN.out).mono ?_; rw [HI2.out.1, HI2.out.2.1, HI2.out.2.2]; rintro e w3 ⟨v3, rfl, hv3, hB3⟩; have HB3 : Hid (Below w.heap.size w w3) := Below.to HB2.out hB3 (Nat.le_refl _); clear c0 c1 d0 d1; have HX3 := hide (box_to HX2.out hB3); have HY3 := hide (box_to HY2.out hB3); have c0 := cellOf HX3.out 0; have c1 := cellOf HX3.out 1; have d0 := cellOf HY3.out 0; have d1 := cellOf HY3.out 1; obtain ⟨A3, cap3, hA3⟩ := Sl.form hv3; subst hA3; have HV3 := hide hv3; clear hv3; clear hB3)
      go_upto_region 6 with (go_at_call 43; refine (Implies_any m g k _ _ _ _ _ HS.out hgl hkl (H.out.up HB3.out) (HIG.out.up HB3.out) (HIK.out.up HB3.out) HN.out).mono ?_; rw [HI3.out.1, HI3.out.2.1, HI3.out.2.2]; rintro e w4 ⟨v4, rfl, hv4, hB4⟩; have HB4 : Hid (Below w.heap.size w w4) := Below.to HB3.out hB4 (Nat.le_refl _); clear c0 c1 d0 d1; have HX4 := hide (box_to HX3.out hB4); have HY4 := hide (box_to HY3.out hB4); have c0 := cellOf HX4.out 0; have c1 := cellOf HX4.out 1; have d0 := cellOf HY4.out 0; have d1 := cellOf HY4.out 1; obtain ⟨A4, cap4, hA4⟩ := Sl.form hv4; subst hA4; have HV4 := hide hv4; clear hv4; clear hB4)
      go_upto_region 7 with (go_at_call 43; refine (Implies_any m f k _ _ _ _ _ HS.out hfl hkl (H.out.up HB4.out) (HIF.out.up HB4.out) (HIK.out.up HB4.out) HN.out).mono ?_; rw [HI4.out.1, HI4.out.2.1, HI4.out.2.2]; rintro e w5 ⟨v5, rfl, hv5, hB5⟩; have HB5 : Hid (Below w.heap.size w w5) := Below.to HB4.out hB5 (Nat.le_refl _); clear c0 c1 d0 d1; have HX5 := hide (box_to HX4.out hB5); have HY5 := hide (box_to HY4.out hB5); have c0 := cellOf HX5.out 0; have c1 := cellOf HX5.out 1; have d0 := cellOf HY5.out 0; have d1 := cellOf HY5.out 1; obtain ⟨A5, cap5, hA5⟩ := Sl.form hv5; subst hA5; have HV5 := hide hv5; clear hv5; clear hB5)
      go_wp2_with (go_at_call 20; refine (works_any _).mono ?_; rintro e w99 ⟨rfl, hB99⟩)
      go_ret
      exact ⟨rfl, Below.to HB5.out hB99 (Nat.le_refl _)⟩
  | false =>
    obtain ⟨q1, q2, q3, q4⟩ := hno rfl
    have HK := hide (bui_yes1 hm q1 q2)
    have hh1 := hol_ok hfe q1
    have hh2 := hol_ok hke q1
    rw [q3] at hh1
    rw [q4] at hh2
    have HH1 := hide (And.intro hh1.2 hh1.1)
    have HH2 := hide (And.intro hh2.2 hh2.1)
    clear h hs hif hig hik hlg hN hx1 hx2 hx3 hx4 hb1 hb2 hb3 hb4 he1 he2 he3 he4 hyes hno hm hfe hke q1 q2 q3 q4 hh1 hh2
    cases b2 with
    | true =>
      cases b3 with
      | true => exact absurd (hpass rfl rfl) (by simp)
      | false =>
        clear hpass
        go_enter Try.func14, Try.ntmps14
        go_upto_region 1 with (fail)
        generalize hw0 : World.alloc _ _ = w0
        obtain ⟨hb0, hb1, hB0, hs0⟩ := alloc2 hw0
        clear hw0
        have HX := hide hb0
        have HY := hide hb1
        have HB0 := hide hB0
        have c0 := cellOf hb0 0
        have c1 := cellOf hb0 1
        have d0 := cellOf hb1 0
        have d1 := cellOf hb1 1
        clear hb0 hb1 hB0 hs0
        go_upto_region 3 with (go_at_call 19; refine (Large_any m _ _ _ (H.out.up HB0.out)).mono ?_; rw [HLG.out]; rintro e w1 ⟨rfl, hB1⟩; have HB1 : Hid (Below w.heap.size w w1) := Below.to HB0.out hB1 (Nat.le_refl _); clear c0 c1 d0 d1; have HX1 := hide (box_to HX.out hB1); have HY1 := hide (box_to HY.out hB1); have c0 := cellOf HX1.out 0; have c1 := cellOf HX1.out 1; have d0 := cellOf HY1.out 0; have d1 := cellOf HY1.out 1; clear hB1)
        go_upto_region 4 with (go_at_call 43; refine (Implies_any m f f _ _ _ _ _ HS.out hfl hfl (H.out.up HB1.out) (HIF.out.up HB1.out) (HIF.out.up HB1.out) HN.out).mono ?_; rw [HI1.out.1, HI1.out.2.1, HI1.out.2.2]; rintro e w2 ⟨v2, rfl, hv2, hB2⟩; have HB2 : Hid (Below w.heap.size w w2) := Below.to HB1.out hB2 (Nat.le_refl _); clear c0 c1 d0 d1; have HX2 := hide (box_to HX1.out hB2); have HY2 := hide (box_to HY1.out hB2); have c0 := cellOf HX2.out 0; have c1 := cellOf HX2.out 1; have d0 := cellOf HY2.out 0; have d1 := cellOf HY2.out 1; obtain ⟨A2, cap2, hA2⟩ := Sl.form hv2; subst hA2; have HV2 := hide hv2; clear hv2; clear hB2)
        go_upto_region 5 with (go_at_call 43; refine (Implies_any m f g _ _ _ _ _ HS.out hfl hgl (H.out.up HB2.out) (HIF.out.up HB2.out) (HIG.out.up HB2.out) HN.out).mono ?_; rw [HI2.out.1, HI2.out.2.1, HI2.out.2.2]; rintro e w3 ⟨v3, rfl, hv3, hB3⟩; have HB3 : Hid (Below w.heap.size w w3) := Below.to HB2.out hB3 (Nat.le_refl _); clear c0 c1 d0 d1; have HX3 := hide (box_to HX2.out hB3); have HY3 := hide (box_to HY2.out hB3); have c0 := cellOf HX3.out 0; have c1 := cellOf HX3.out 1; have d0 := cellOf HY3.out 0; have d1 := cellOf HY3.out 1; obtain ⟨A3, cap3, hA3⟩ := Sl.form hv3; subst hA3; have HV3 := hide hv3; clear hv3; clear hB3)
        go_upto_region 6 with (go_at_call 43; refine (Implies_any m g k _ _ _ _ _ HS.out hgl hkl (H.out.up HB3.out) (HIG.out.up HB3.out) (HIK.out.up HB3.out) HN.out).mono ?_; rw [HI3.out.1, HI3.out.2.1, HI3.out.2.2]; rintro e w4 ⟨v4, rfl, hv4, hB4⟩; have HB4 : Hid (Below w.heap.size w w4) := Below.to HB3.out hB4 (Nat.le_refl _); clear c0 c1 d0 d1; have HX4 := hide (box_to HX3.out hB4); have HY4 := hide (box_to HY3.out hB4); have c0 := cellOf HX4.out 0; have c1 := cellOf HX4.out 1; have d0 := cellOf HY4.out 0; have d1 := cellOf HY4.out 1; obtain ⟨A4, cap4, hA4⟩ := Sl.form hv4; subst hA4; have HV4 := hide hv4; clear hv4; clear hB4)
        go_upto_region 7 with (go_at_call 43; refine (Implies_any m f k _ _ _ _ _ HS.out hfl hkl (H.out.up HB4.out) (HIF.out.up HB4.out) (HIK.out.up HB4.out) HN.out).mono ?_; rw [HI4.out.1, HI4.out.2.1, HI4.out.2.2]; rintro e w5 ⟨v5, rfl, hv5, hB5⟩; have HB5 : Hid (Below w.heap.size w w5) := Below.to HB4.out hB5 (Nat.le_refl _); clear c0 c1 d0 d1; have HX5 := hide (box_to HX4.out hB5); have HY5 := hide (box_to HY4.out hB5); have c0 := cellOf HX5.out 0; have c1 := cellOf HX5.out 1; have d0 := cellOf HY5.out 0; have d1 := cellOf HY5.out 1; obtain ⟨A5, cap5, hA5⟩ := Sl.form hv5; subst hA5; have HV5 := hide hv5; clear hv5; clear hB5)
        go_upto_region 13 with (go_at_call 47; refine (Buildable_any m x4 _ _ _ _ HS.out (H.out.up HB5.out) HV5.out).mono ?_; rw [HK.out.1, HK.out.2.1, HK.out.2.2]; rintro e w6 ⟨rfl, hB6⟩; have HB6 : Hid (Below w.heap.size w w6) := Below.to HB5.out hB6 (Nat.le_refl _); clear c0 c1 d0 d1; have HX6 := hide (box_to HX5.out hB6); have HY6 := hide (box_to HY5.out hB6); have c0 := cellOf HX6.out 0; have c1 := cellOf HX6.out 1; have d0 := cellOf HY6.out 0; have d1 := cellOf HY6.out 1; have HV6 := hide (Sl.up HV5.out hB6); clear hB6)
        go_upto_region 14 with (go_at_call 45; refine (Holds_any m f x4 _ _ _ _ _ HS.out hfl (H.out.up HB6.out) (HIF.out.up HB6.out) HV6.out).mono ?_; rw [HH1.out.1, HH1.out.2]; rintro e w7 ⟨rfl, hB7⟩; have HB7 : Hid (Below w.heap.size w w7) := Below.to HB6.out hB7 (Nat.le_refl _); clear c0 c1 d0 d1; have HX7 := hide (box_to HX6.out hB7); have HY7 := hide (box_to HY6.out hB7); have c0 := cellOf HX7.out 0; have c1 := cellOf HX7.out 1; have d0 := cellOf HY7.out 0; have d1 := cellOf HY7.out 1; have HV7 := hide (Sl.up HV6.out hB7); clear hB7)
        go_wp2_with (first | (go_at_call 45; refine (Holds_any m k x4 _ _ _ _ _ HS.out hkl (H.out.up HB7.out) (HIK.out.up HB7.out) HV7.out).mono ?_; rw [HH2.out.1, HH2.out.2]; rintro e w8 ⟨rfl, hB8⟩; have HB8 : Hid (Below w.heap.size w w8) := Below.to HB7.out hB8 (Nat.le_refl _); clear hB8) | (go_at_call 20; refine (works_any _).mono ?_; rintro e w99 ⟨rfl, hB99⟩))
        go_ret
        exact ⟨rfl, Below.to HB8.out hB99 (Nat.le_refl _)⟩
    | false =>
      clear hpass
      go_enter Try.func14, Try.ntmps14
      go_upto_region 1 with (fail)
      generalize hw0 : World.alloc _ _ = w0
      obtain ⟨hb0, hb1, hB0, hs0⟩ := alloc2 hw0
      clear hw0
      have HX := hide hb0
      have HY := hide hb1
      have HB0 := hide hB0
      have c0 := cellOf hb0 0
      have c1 := cellOf hb0 1
      have d0 := cellOf hb1 0
      have d1 := cellOf hb1 1
      clear hb0 hb1 hB0 hs0
      go_upto_region 3 with (go_at_call 19; refine (Large_any m _ _ _ (H.out.up HB0.out)).mono ?_; rw [HLG.out]; rintro e w1 ⟨rfl, hB1⟩; have HB1 : Hid (Below w.heap.size w w1) := Below.to HB0.out hB1 (Nat.le_refl _); clear c0 c1 d0 d1; have HX1 := hide (box_to HX.out hB1); have HY1 := hide (box_to HY.out hB1); have c0 := cellOf HX1.out 0; have c1 := cellOf HX1.out 1; have d0 := cellOf HY1.out 0; have d1 := cellOf HY1.out 1; clear hB1)
      go_upto_region 4 with (go_at_call 43; refine (Implies_any m f f _ _ _ _ _ HS.out hfl hfl (H.out.up HB1.out) (HIF.out.up HB1.out) (HIF.out.up HB1.out) HN.out).mono ?_; rw [HI1.out.1, HI1.out.2.1, HI1.out.2.2]; rintro e w2 ⟨v2, rfl, hv2, hB2⟩; have HB2 : Hid (Below w.heap.size w w2) := Below.to HB1.out hB2 (Nat.le_refl _); clear c0 c1 d0 d1; have HX2 := hide (box_to HX1.out hB2); have HY2 := hide (box_to HY1.out hB2); have c0 := cellOf HX2.out 0; have c1 := cellOf HX2.out 1; have d0 := cellOf HY2.out 0; have d1 := cellOf HY2.out 1; obtain ⟨A2, cap2, hA2⟩ := Sl.form hv2; subst hA2; have HV2 := hide hv2; clear hv2; clear hB2)
      go_upto_region 5 with (go_at_call 43; refine (Implies_any m f g _ _ _ _ _ HS.out hfl hgl (H.out.up HB2.out) (HIF.out.up HB2.out) (HIG.out.up HB2.out) HN.out).mono ?_; rw [HI2.out.1, HI2.out.2.1, HI2.out.2.2]; rintro e w3 ⟨v3, rfl, hv3, hB3⟩; have HB3 : Hid (Below w.heap.size w w3) := Below.to HB2.out hB3 (Nat.le_refl _); clear c0 c1 d0 d1; have HX3 := hide (box_to HX2.out hB3); have HY3 := hide (box_to HY2.out hB3); have c0 := cellOf HX3.out 0; have c1 := cellOf HX3.out 1; have d0 := cellOf HY3.out 0; have d1 := cellOf HY3.out 1; obtain ⟨A3, cap3, hA3⟩ := Sl.form hv3; subst hA3; have HV3 := hide hv3; clear hv3; clear hB3)
      go_upto_region 6 with (go_at_call 43; refine (Implies_any m g k _ _ _ _ _ HS.out hgl hkl (H.out.up HB3.out) (HIG.out.up HB3.out) (HIK.out.up HB3.out) HN.out).mono ?_; rw [HI3.out.1, HI3.out.2.1, HI3.out.2.2]; rintro e w4 ⟨v4, rfl, hv4, hB4⟩; have HB4 : Hid (Below w.heap.size w w4) := Below.to HB3.out hB4 (Nat.le_refl _); clear c0 c1 d0 d1; have HX4 := hide (box_to HX3.out hB4); have HY4 := hide (box_to HY3.out hB4); have c0 := cellOf HX4.out 0; have c1 := cellOf HX4.out 1; have d0 := cellOf HY4.out 0; have d1 := cellOf HY4.out 1; obtain ⟨A4, cap4, hA4⟩ := Sl.form hv4; subst hA4; have HV4 := hide hv4; clear hv4; clear hB4)
      go_upto_region 7 with (go_at_call 43; refine (Implies_any m f k _ _ _ _ _ HS.out hfl hkl (H.out.up HB4.out) (HIF.out.up HB4.out) (HIK.out.up HB4.out) HN.out).mono ?_; rw [HI4.out.1, HI4.out.2.1, HI4.out.2.2]; rintro e w5 ⟨v5, rfl, hv5, hB5⟩; have HB5 : Hid (Below w.heap.size w w5) := Below.to HB4.out hB5 (Nat.le_refl _); clear c0 c1 d0 d1; have HX5 := hide (box_to HX4.out hB5); have HY5 := hide (box_to HY4.out hB5); have c0 := cellOf HX5.out 0; have c1 := cellOf HX5.out 1; have d0 := cellOf HY5.out 0; have d1 := cellOf HY5.out 1; obtain ⟨A5, cap5, hA5⟩ := Sl.form hv5; subst hA5; have HV5 := hide hv5; clear hv5; clear hB5)
      go_upto_region 13 with (go_at_call 47; refine (Buildable_any m x4 _ _ _ _ HS.out (H.out.up HB5.out) HV5.out).mono ?_; rw [HK.out.1, HK.out.2.1, HK.out.2.2]; rintro e w6 ⟨rfl, hB6⟩; have HB6 : Hid (Below w.heap.size w w6) := Below.to HB5.out hB6 (Nat.le_refl _); clear c0 c1 d0 d1; have HX6 := hide (box_to HX5.out hB6); have HY6 := hide (box_to HY5.out hB6); have c0 := cellOf HX6.out 0; have c1 := cellOf HX6.out 1; have d0 := cellOf HY6.out 0; have d1 := cellOf HY6.out 1; have HV6 := hide (Sl.up HV5.out hB6); clear hB6)
      go_upto_region 14 with (go_at_call 45; refine (Holds_any m f x4 _ _ _ _ _ HS.out hfl (H.out.up HB6.out) (HIF.out.up HB6.out) HV6.out).mono ?_; rw [HH1.out.1, HH1.out.2]; rintro e w7 ⟨rfl, hB7⟩; have HB7 : Hid (Below w.heap.size w w7) := Below.to HB6.out hB7 (Nat.le_refl _); clear c0 c1 d0 d1; have HX7 := hide (box_to HX6.out hB7); have HY7 := hide (box_to HY6.out hB7); have c0 := cellOf HX7.out 0; have c1 := cellOf HX7.out 1; have d0 := cellOf HY7.out 0; have d1 := cellOf HY7.out 1; have HV7 := hide (Sl.up HV6.out hB7); clear hB7)
      go_wp2_with (first | (go_at_call 45; refine (Holds_any m k x4 _ _ _ _ _ HS.out hkl (H.out.up HB7.out) (HIK.out.up HB7.out) HV7.out).mono ?_; rw [HH2.out.1, HH2.out.2]; rintro e w8 ⟨rfl, hB8⟩; have HB8 : Hid (Below w.heap.size w w8) := Below.to HB7.out hB8 (Nat.le_refl _); clear hB8) | (go_at_call 20; refine (works_any _).mono ?_; rintro e w99 ⟨rfl, hB99⟩))
      go_ret
      exact ⟨rfl, Below.to HB8.out hB99 (Nat.le_refl _)⟩
theorem optionsPasses_walk (m : Mo) (f g k : List Int) (ov rv fv gv kv : Value) (w : World) (hs : SizedM m) (h : MoAt w w.heap.size ov rv m) (hif : Ints w w.heap.size fv f) (hfl : f.length ≤ maxLen) (hig : Ints w w.heap.size gv g) (hgl : g.length ≤ maxLen) (hik : Ints w w.heap.size kv k) (hkl : k.length ≤ maxLen) :
    Calls Try.prog 14 #[.agg #[ov, rv], .agg #[fv, gv], kv] w fun e w' => e = .returned (.bool true) ∧ Below w.heap.size w w' := by
  cases hlg : largeB m with
  | true => exact optionsPasses_large m f g k ov rv fv gv kv w hs h hif hfl hig hgl hik hkl hlg
  | false =>
    by_cases z1 : m.errF [f, f] = 0
    · by_cases z2 : m.errF [f, g] = 0
      · by_cases z3 : m.errF [g, k] = 0
        · by_cases z4 : m.errF [f, k] = 0
          · exact optionsPasses_ok m f g k ov rv fv gv kv w hs h hif hfl hig hgl hik hkl hlg z1 z2 z3 z4
          · exact optionsPasses_err4 m f g k ov rv fv gv kv w hs h hif hfl hig hgl hik hkl hlg z1 z2 z3 z4
        · exact optionsPasses_err3 m f g k ov rv fv gv kv w hs h hif hfl hig hgl hik hkl hlg z1 z2 z3
      · exact optionsPasses_err2 m f g k ov rv fv gv kv w hs h hif hfl hig hgl hik hkl hlg z1 z2
    · exact optionsPasses_err1 m f g k ov rv fv gv kv w hs h hif hfl hig hgl hik hkl hlg z1

theorem own_OptionsPasses : ownKnob Try.prog.godebug = none := by kernel_rfl
theorem laid_OptionsPasses : laidOutB Try.prog = true := by kernel_rfl
theorem par_OptionsPasses : ∀ t ∈ Try.f14.params.toList, Try.prog.readableRec t = true ∧ t < Try.prog.types.size := by
  rw [Try.params14]
  intro t ht
  simp only [List.mem_cons, List.not_mem_nil, or_false] at ht
  rcases ht with rfl | rfl | rfl <;> exact ⟨by kernel_rfl, of_decide_eq_true (by kernel_rfl)⟩
set_option maxRecDepth 100000 in
theorem optionsPasses_lifted (os : Os) (started : os.Started) (H : Type) (enc : TypeId × Value → H) :
    ReturnsInHanded {} Try.checked os 14 .any (Rows.optionsPassesSpec.pre6 enc Try.prog Try.f14 Rows.optionsPassesRow.domain false) (Rows.optionsPassesSpec.post enc Try.prog Try.f14 false true false false) := by
  refine returnsInHanded_of_change (C := Try.checked) own_OptionsPasses started (by kernel_rfl) Try.func14
    (ChangeSpec.witness6 (enc := enc) (C := Try.checked) false ⟨#[], #[.agg #[.slice none 0 0, .slice none 0 0], .agg #[.slice none 0 0, .slice none 0 0], .slice none 0 0], []⟩ 8 (by kernel_rfl) (by kernel_rfl) (by kernel_rfl) (by kernel_rfl)) ?_
  intro W base args ds gs before hval0 hW hcnd _
  have hval : ∀ (j : Nat) t v, Try.f14.params[j]? = some t → args[j]? = some v → Value.okWide Try.prog W .any base t v := hval0
  have hW' := hW
  obtain ⟨p, q, hA0, hV, rfl, hfz, hnd⟩ := hW
  have hA : DataW.TrodAll enc Try.prog W 0 (fun _ => true) true Try.f14.params.toList args.toList ds p := hA0
  have hAll := hA
  have hltp : ∀ x ∈ p, x.block < W.heap.size := fun x hx => hW'.lt x (List.mem_append_left _ hx)
  rw [Try.params14] at hA hval
  obtain ⟨v0, v1, v2, d0, d1, d2, p0, p1, p2, rfl, rfl, rfl, h0, h1, h2⟩ := trodAll_three hA
  obtain ⟨rfl, rfl⟩ := trodVars_none hV
  obtain ⟨ov, rv, m, rfl, hmo, hsz⟩ := open_model (hval 0 25 v0 rfl rfl) h0
  obtain ⟨fv, gv, f, g, rfl, hif, hfl, hig, hgl⟩ := open_two (hval 1 59 v1 rfl rfl) h1
  obtain ⟨k, hik, hkl, _⟩ := open_formula Try.underlying35 (hval 2 35 v2 rfl rfl) h2
  refine (optionsPasses_walk m f g k ov rv fv gv v2 W hsz hmo hif hfl hig hgl hik hkl).mono fun e W2 ⟨he, hb⟩ => ?_
  subst he
  exact ⟨_, rfl, post_of_below (pv := []) hW' (fun _ _ _ => trodAll_mk1 (shut_bool Try.underlying4 _)) (fun sp hsp => trodAll_stays laid_OptionsPasses hb sp _ _ _ _ par_OptionsPasses hAll hltp (fun x hx => hsp x (List.mem_append_left _ hx))) (fun _ _ => rfl) rfl hb
    (ok_one (by kernel_rfl) rfl (okWide_bool_mk Try.underlying4 _))⟩
theorem optionsPasses_holds : Rows.OptionsPassesSaid :=
  OpenClaim.holds_of_wide 14 Try.f14 rfl rfl rfl rfl rfl rfl rfl ⟨rfl, rfl, rfl, rfl, rfl⟩ rfl rfl rfl rfl rfl (by kernel_rfl) Try.func14 (by kernel_rfl)
    (of_decide_eq_true (by kernel_rfl)) (by unfold Func.isWrapper; first | (rw [if_pos (by decide +kernel)]; kernel_rfl) | (rw [if_neg (by decide +kernel)]; exact ⟨rfl, rfl⟩))
    (fun os started H enc _ => optionsPasses_lifted os started H enc)
#print axioms optionsPasses_holds

end Go.Proofs.Ytohofcmikfkilaa

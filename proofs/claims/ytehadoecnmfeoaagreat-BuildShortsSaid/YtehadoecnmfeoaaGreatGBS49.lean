/- Part 49 of this claim's texts: walks and plain laws. -/
import Derived.Test.YtehadoecnmfeoaaGreatRows
import Derived.Test.YtehadoecnmfeoaaGreatGBS47
import Derived.Test.YtehadoecnmfeoaaGreatGBS48
import Derived.Test.YtehadoecnmfeoaaGreatGBS13
import Derived.Test.YtehadoecnmfeoaaGreatGBS17
import Derived.Deep.DeepMust
import Derived.Deep.RegionHeld3
import Derived.Deep.DrawnRows
import Derived.Test.YtehadoecnmfeoaaGreatGBS3
import Derived.Test.YtehadoecnmfeoaaGreatGBS18
set_option linter.unusedVariables false
set_option linter.unusedSimpArgs false
set_option linter.unusedSectionVars false
namespace Go.Proofs.YtehadoecnmfeoaaGreat
open Go.Joins Go.ChangeShapes Go.WideShapes Go.ChangeAt Go.RowKit Go.Deep
theorem sho_len {l : Lo} {a b : Pn} (hN : l.err = 0 → l.m.opts.length ≤ 12) : ((shoO l a b).getD []).length ≤ 12 := by
 unfold shoO
 split
 ·
  rename_i h
  have he : l.err = 0 := by
   by_cases he : l.err = 0
   ·
    exact he
   ·
    unfold shoE at h
    rw [if_neg he] at h
    exact h
  cases hf : (allM l.m).find? (conV l a b) with
  | none => simp
  | some x =>
   have h1 := find_len hf
   have h2 := hN he
   show x.length ≤ 12
   omega
 ·
  simp
section
variable {H : Type} {enc : TypeId × Value → H} {W : World} {base : Nat} {spare : Nat → Bool} {held : Bool}
set_option maxRecDepth 100000 in
theorem open_pin {r : Reach} {b0 : Nat} {v : Value} {d : DataW H} {p : List MemPlace} (hv : Value.okWide Tryz.prog W r b0 74 v) (h : DataW.Trod enc Tryz.prog W base spare held 74 v d p) : ∃ a : Pn, v = .agg #[.int .i64 a.1, .int .i64 a.2] := by
 obtain ⟨cs, rfl, hsz⟩ := okWide_struct Tryz.underlying74 hv
 obtain ⟨l⟩ := cs
 have hc : Tryz.prog.cellsOf 74 = 2 := by kernel_rfl
 match l, hsz.trans hc with
 | [c0, c1], _ =>
  obtain ⟨fuel, hf⟩ := h
  have hf2 : DataW.trod enc Tryz.prog W base spare held fuel 74 [c0, c1] = some (d, p) := by simpa [Value.cells] using hf
  obtain ⟨a0, a1, e0, e1, _⟩ := pin_cells (y := (d, p)) hf2
  subst e0 e1
  exact ⟨(a0, a1), rfl⟩
end
set_option maxRecDepth 100000 in
set_option maxHeartbeats 8000000 in
theorem buildShorts_walk (a b : Pn) (A0 A1 A2 A3 A4 A5 : Option Addr) (q0 q1 q2 q3 q4 q5 : Nat) (l : Lo) (w : World) (hs : SizedL l) (h : LoA w w.heap.size A0 A1 A2 A3 A4 A5 q0 q1 q2 q3 q4 q5 l) :
  Calls Tryz.prog 11 #[.agg #[.slice A0 l.m.opts.length q0, .slice A1 l.m.rules.length q1, .slice A2 l.ss.length q2, .slice A3 l.us.length q3, .slice A4 l.ps.length q4, .slice A5 l.ws.length q5], .agg #[.int .i64 a.1, .int .i64 a.2], .agg #[.int .i64 b.1, .int .i64 b.2]] w fun e w' => e = .returned (.bool true) ∧ Below w.heap.size w w' := by
 have H := hide h
 have HS := hide hs
 clear h hs
 obtain ⟨lg, hlg⟩ : ∃ z, lrgB l [] = z := ⟨_, rfl⟩
 have hlarge : ∀ (W : World), LoA W W.heap.size A0 A1 A2 A3 A4 A5 q0 q1 q2 q3 q4 q5 l → Calls Tryz.prog 14 #[.agg #[.slice A0 l.m.opts.length q0, .slice A1 l.m.rules.length q1, .slice A2 l.ss.length q2, .slice A3 l.us.length q3, .slice A4 l.ps.length q4, .slice A5 l.ws.length q5], .slice none 0 0] W fun e w' => e = .returned (.bool lg) ∧ Below W.heap.size W w' := fun W hW => by
  have h1 := large12_any [] none 0 A0 A1 A2 A3 A4 A5 q0 q1 q2 q3 q4 q5 l W hW
  rw [hlg] at h1
  exact h1
 have HLA := hide hlarge
 have HLG := hide hlg
 clear hlarge hlg
 cases lg with
 | true =>
  go_enter Tryz.func11, Tryz.ntmps11
  go_upto_region 1 with (fail)
  generalize hw0 : World.alloc _ _ = w0
  obtain ⟨hb0, hb1, hb2, hB0, hs0⟩ := alloc3 hw0
  have HB0 := hide hB0
  obtain ⟨c0, c1, c2, c3, c4, c5⟩ := zL hb0
  have hlb := box_lt hb0
  clear hw0 hb0 hb1 hb2 hB0 hs0
  go_wp2_with (first
   | (go_at_call 14; refine (HLA.out _ (H.out.up HB0.out)).mono ?_; rintro e w1 ⟨rfl, hB1⟩; have HB1 := hide (Below.to HB0.out hB1 (Nat.le_refl _)); clear hB1 c0 c1 c2 c3 c4 c5 hlb)
   | (go_at_call 15; refine (works_build _).mono ?_; rintro e w2 ⟨rfl, hB2⟩))
  go_ret
  exact ⟨rfl, Below.to HB1.out hB2 (Nat.le_refl _)⟩
 | false =>
 have hN : l.err = 0 → l.m.opts.length ≤ 12 := fun he => by
  have h1 := (lrg_small HLG.out (Lo.err_ok he).m).1
  omega
 have h12 : l.err = 0 → l.ws.length ≤ 12 := fun he => lrg_wires HLG.out (Lo.err_ok he).w60
 have hX := sho_len (a := a) (b := b) hN
 have HSY : Hid (∀ W, LoA W W.heap.size A0 A1 A2 A3 A4 A5 q0 q1 q2 q3 q4 q5 l → Calls Tryz.prog 39 #[.agg #[.slice A0 l.m.opts.length q0, .slice A1 l.m.rules.length q1, .slice A2 l.ss.length q2, .slice A3 l.us.length q3, .slice A4 l.ps.length q4, .slice A5 l.ws.length q5], .agg #[.int .i64 a.1, .int .i64 a.2], .agg #[.int .i64 b.1, .int .i64 b.2]] W (ShoP (shoO l a b) (shoE l a b) W)) := fun W hW => Shorts_any a b A0 A1 A2 A3 A4 A5 q0 q1 q2 q3 q4 q5 l W HS.out hW hN h12
 have HSE : Hid (∀ W, LoA W W.heap.size A0 A1 A2 A3 A4 A5 q0 q1 q2 q3 q4 q5 l → Calls Tryz.prog 40 #[.agg #[.slice A0 l.m.opts.length q0, .slice A1 l.m.rules.length q1, .slice A2 l.ss.length q2, .slice A3 l.us.length q3, .slice A4 l.ps.length q4, .slice A5 l.ws.length q5], .agg #[.int .i64 a.1, .int .i64 a.2], .agg #[.int .i64 b.1, .int .i64 b.2]] W (ShoP (shoO l a b) (shoE l a b) W)) := fun W hW => rShorts_any a b A0 A1 A2 A3 A4 A5 q0 q1 q2 q3 q4 q5 l W HS.out hW hN h12
 obtain ⟨E, hE⟩ : ∃ z, shoE l a b = z := ⟨_, rfl⟩
 obtain ⟨is, his⟩ : ∃ z, (shoO l a b).isSome = z := ⟨_, rfl⟩
 obtain ⟨X, hXX⟩ : ∃ z, (shoO l a b).getD [] = z := ⟨_, rfl⟩
 unfold ShoP at HSY HSE
 rw [hE, his, hXX] at HSY HSE
 rw [hXX] at hX
 clear hN h12 hE his hXX HLG
 go_enter Tryz.func11, Tryz.ntmps11
 go_upto_region 1 with (fail)
 generalize hw0 : World.alloc _ _ = w0
 obtain ⟨hb0, hb1, hb2, hB0, hs0⟩ := alloc3 hw0
 have HB0 := hide hB0
 obtain ⟨lb, hlb0⟩ : ∃ z, w.heap.size = z := ⟨_, rfl⟩
 obtain ⟨pa, hpa⟩ : ∃ z, w.heap.size + 1 = z := ⟨_, rfl⟩
 obtain ⟨pb, hpb⟩ : ∃ z, w.heap.size + 2 = z := ⟨_, rfl⟩
 have hpb2 : w.heap.size + 1 + 1 = pb := hpb
 rw [hpb] at hb2
 rw [hpa] at hb1
 rw [hlb0] at hb0
 try rw [hpb]
 try rw [hpb2]
 try rw [hpa]
 try rw [hlb0]
 have HL0 : Hid (LoBox w0 lb A0 A1 A2 A3 A4 A5 q0 q1 q2 q3 q4 q5 l) := hb0
 have HA0 := hide hb1
 have HC0 := hide hb2
 obtain ⟨c0, c1, c2, c3, c4, c5⟩ := zL hb0
 have hlb := box_lt hb0
 clear hw0 hb0 hb1 hb2 hB0 hs0 hlb0 hpa hpb hpb2
 go_upto_region 3 with (go_at_call 14; refine (HLA.out _ (H.out.up HB0.out)).mono ?_; rintro e w1 ⟨rfl, hB1⟩; have HL1 := hide (HL0.out.to hB1); have HA1 := hide (box_to HA0.out hB1); have HC1 := hide (box_to HC0.out hB1); have HB1 := hide (Below.to HB0.out hB1 (Nat.le_refl _)); clear hB1 c0 c1 c2 c3 c4 c5 hlb)
 obtain ⟨d0, d1, d2, d3, d4, d5⟩ := zL HL1.out
 have hld := box_lt HL1.out
 have a0 := cellOf HA1.out 0
 have a1 := cellOf HA1.out 1
 have la := box_lt HA1.out
 have b0 := cellOf HC1.out 0
 have b1 := cellOf HC1.out 1
 have lb2 := box_lt HC1.out
 go_upto_region 4 with (go_at_call 39; refine (HSY.out _ (H.out.up HB1.out)).mono ?_; rintro e w2 ⟨v2, rfl, hv2, hB2⟩; obtain ⟨A2', q2', e2⟩ := Sl.form hv2; subst e2; have HV2 := hide hv2; have HL2 := hide (HL1.out.to hB2); have HA2 := hide (box_to HA1.out hB2); have HC2 := hide (box_to HC1.out hB2); have HB2 := hide (Below.to HB1.out hB2 (Nat.le_refl _)); clear hv2 hB2 d0 d1 d2 d3 d4 d5 hld a0 a1 la b0 b1 lb2)
 obtain ⟨c0, c1, c2, c3, c4, c5⟩ := zL HL2.out
 have hlc := box_lt HL2.out
 have a0 := cellOf HA2.out 0
 have a1 := cellOf HA2.out 1
 have la := box_lt HA2.out
 have b0 := cellOf HC2.out 0
 have b1 := cellOf HC2.out 1
 have lb2 := box_lt HC2.out
 go_wp2_with (first
  | (go_at_call 40; refine (HSE.out _ (H.out.up HB2.out)).mono ?_; rintro e w3 ⟨v3, rfl, hv3, hB3⟩; obtain ⟨A3', q3', e3⟩ := Sl.form hv3; subst e3; have HV3 := hide hv3; have HV23 := hide (HV2.out.up hB3); have HB3 := hide (Below.to HB2.out hB3 (Nat.le_refl _)); clear hv3 hB3 c0 c1 c2 c3 c4 c5 hlc a0 a1 la b0 b1 lb2)
  | (go_at_call 41; refine (SameVariant_any X X _ _ _ HV23.out HV3.out (by omega) (by unfold maxLen; omega)).mono ?_; rw [decide_eq_true rfl]; rintro e w4 ⟨rfl, hB4⟩; have HB4 := hide (Below.to HB3.out hB4 (Nat.le_refl _)); clear hB4)
  | (go_at_call 15; refine (works_build _).mono ?_; rintro e w9 ⟨rfl, hB9⟩))
 go_ret
 exact ⟨rfl, Below.to HB4.out hB9 (Nat.le_refl _)⟩
set_option maxRecDepth 100000
section
variable {H : Type} {enc : TypeId × Value → H} {W : World} {base b0 : Nat} {r : Reach} {spare : Nat → Bool} {held : Bool} {v : Value} {d : DataW H} {p : List MemPlace}
theorem open_lo (hv : Value.okWide Tryz.prog W r b0 31 v) (h : DataW.Trod enc Tryz.prog W base spare held 31 v d p) :
  ∃ (A0 A1 A2 A3 A4 A5 : Option Addr) (q0 q1 q2 q3 q4 q5 : Nat), ∃ l : Lo, v = .agg #[.slice A0 l.m.opts.length q0, .slice A1 l.m.rules.length q1, .slice A2 l.ss.length q2, .slice A3 l.us.length q3, .slice A4 l.ps.length q4, .slice A5 l.ws.length q5] ∧ LoA W W.heap.size A0 A1 A2 A3 A4 A5 q0 q1 q2 q3 q4 q5 l ∧ SizedL l := by
 obtain ⟨ov, rv, sv, uv, pv, wv, l, rfl, hl, hs, _⟩ := open_loom hv h
 obtain ⟨A0, A1, A2, A3, A4, A5, q0, q1, q2, q3, q4, q5, rfl, rfl, rfl, rfl, rfl, rfl, hla⟩ := hl.form
 exact ⟨A0, A1, A2, A3, A4, A5, q0, q1, q2, q3, q4, q5, l, rfl, hla, hs⟩
end
end Go.Proofs.YtehadoecnmfeoaaGreat

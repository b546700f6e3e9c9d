/- Part 47 of this claim's texts: walks and plain laws. -/
import Derived.Test.YtehadoecnmfeoaaGreatRows
import Derived.Test.YtehadoecnmfeoaaGreatGBS46
import Derived.Test.YtehadoecnmfeoaaGreatGBS43
import Derived.Deep.DeepMust
import Derived.Deep.RegionHeld3
import Derived.Deep.DrawnRows
import Derived.Test.YtehadoecnmfeoaaGreatGBS3
set_option linter.unusedVariables false
set_option linter.unusedSimpArgs false
set_option linter.unusedSectionVars false
namespace Go.Proofs.YtehadoecnmfeoaaGreat
open Go.RowKit
def shoE (l : Lo) (a b : Pn) : Int := if l.err = 0 then (if (pinOk l a.1 a.2 && (pinOk l b.1 b.2 && !(a.1 == b.1 && a.2 == b.2))) = true then 0 else 1) else l.err
def shoO (l : Lo) (a b : Pn) : Option (List Bool) := if shoE l a b = 0 then (allM l.m).find? (conV l a b) else none
theorem sho_bad {l : Lo} {a b : Pn} {E : Int} (h : shoE l a b = E) (hE : E ≠ 0) : shoO l a b = none := by unfold shoO; rw [h, if_neg hE]
def ShoP (o : Option (List Bool)) (E : Int) (w : World) (e : Ending) (w' : World) : Prop := ∃ v, e = .returned (.tuple #[v, .bool o.isSome, .int .i64 E]) ∧ Bols w' w'.heap.size v (o.getD []) ∧ Below w.heap.size w w'
theorem bols_nil9 (w : World) : Bols w w.heap.size (.slice none 0 0) [] := Sl.nil _ _ _ _
theorem ShoP.none {E : Int} {w w' : World} (hb : Below w.heap.size w w') : ShoP none E w (.returned (.tuple #[.slice none 0 0, .bool false, .int .i64 E])) w' := ⟨_, rfl, bols_nil9 _, hb⟩
theorem pin_ne {a b : Pn} (h : (a.1 == b.1 && a.2 == b.2) = false) : a ≠ b := fun e => by
 rw [e] at h
 simp at h
set_option maxRecDepth 100000 in
set_option maxHeartbeats 8000000 in
theorem Shorts_any (a b : Pn) (A0 A1 A2 A3 A4 A5 : Option Addr) (q0 q1 q2 q3 q4 q5 : Nat) (l : Lo) (w : World) (hs : SizedL l) (h : LoA w w.heap.size A0 A1 A2 A3 A4 A5 q0 q1 q2 q3 q4 q5 l) (hN : l.err = 0 → l.m.opts.length ≤ 12) (h12 : l.err = 0 → l.ws.length ≤ 12) :
  Calls Tryz.prog 39 #[.agg #[.slice A0 l.m.opts.length q0, .slice A1 l.m.rules.length q1, .slice A2 l.ss.length q2, .slice A3 l.us.length q3, .slice A4 l.ps.length q4, .slice A5 l.ws.length q5], .agg #[.int .i64 a.1, .int .i64 a.2], .agg #[.int .i64 b.1, .int .i64 b.2]] w (ShoP (shoO l a b) (shoE l a b) w) := by
 have qn1 : ∀ (W : World) (a : Option Addr) (n c : Nat), (binOp .neq 35 (.slice a n c) (.slice none 0 0)).run Tryz.prog W = .ok (.bool (!a.isNone)) W := fun W a n c => run_neq_slice_nil W _ _ a n c Tryz.underlying35
 have H := hide h
 have HS := hide hs
 clear h hs
 by_cases he : l.err = 0
 case neg =>
  have hE : shoE l a b = l.err := by unfold shoE; rw [if_neg he]
  have hO := sho_bad hE he
  rw [hE, hO]
  obtain ⟨E, hEE⟩ : ∃ z, l.err = z := ⟨_, rfl⟩
  rw [hEE] at he ⊢
  have HER := hide hEE
  have g1 : (E != 0) = true := by simpa using he
  clear hE hO hEE he
  go_enter Tryz.func39, Tryz.ntmps39
  go_upto_region 1 with (fail)
  generalize hw0 : World.alloc _ _ = w0
  obtain ⟨hb0, hb1, hb2, hB0, hs0⟩ := alloc3 hw0
  have HB0 := hide hB0
  obtain ⟨c0, c1, c2, c3, c4, c5⟩ := zL hb0
  have hlb := box_lt hb0
  clear hw0 hb0 hb1 hb2 hB0 hs0
  go_wp2_with (go_at_call 62; refine (Check_any A0 A1 A2 A3 A4 A5 q0 q1 q2 q3 q4 q5 l _ HS.out (H.out.up HB0.out)).mono ?_; rw [HER.out]; rintro e w1 ⟨rfl, hB1⟩; have HB1 := hide (Below.to HB0.out hB1 (Nat.le_refl _)); clear hB1 c0 c1 c2 c3 c4 c5 hlb)
  go_ret3
  exact ShoP.none HB1.out
 case pos =>
 have hN' := hN he
 have h12' := h12 he
 have HER := hide he
 have HOK := hide (Lo.err_ok he)
 obtain ⟨f1, hf1⟩ : ∃ z, pinOk l a.1 a.2 = z := ⟨_, rfl⟩
 obtain ⟨f2, hf2⟩ : ∃ z, pinOk l b.1 b.2 = z := ⟨_, rfl⟩
 obtain ⟨f3, hf3⟩ : ∃ z, (a.1 == b.1 && a.2 == b.2) = z := ⟨_, rfl⟩
 have hee := fun w => pinEq a.1 a.2 b.1 b.2 w
 rw [hf3] at hee
 have hE : shoE l a b = if (f1 && (f2 && !f3)) = true then 0 else 1 := by unfold shoE; rw [if_pos he, hf1, hf2, hf3]
 have HF1 := hide hf1
 have HF2 := hide hf2
 have HF3 := hide hf3
 have HE := hide hE
 clear hN h12 he hf1 hf2 hf3 hE
 obtain ⟨E, hEE⟩ : ∃ z, shoE l a b = z := ⟨_, rfl⟩
 obtain ⟨O, hOO⟩ : ∃ z, shoO l a b = z := ⟨_, rfl⟩
 rw [hEE, hOO]
 have HEE := hide hEE
 have HOO := hide hOO
 clear hEE hOO
 go_enter Tryz.func39, Tryz.ntmps39
 go_upto_region 1 with (fail)
 generalize hw0 : World.alloc _ _ = w0
 obtain ⟨hb0, hb1, hb2, hB0, hs0⟩ := alloc3 hw0
 have HB0 := hide hB0
 obtain ⟨lb, hlb0⟩ : ∃ z, w.heap.size = z := ⟨_, rfl⟩
 obtain ⟨pa, hpa⟩ : ∃ z, w.heap.size + 1 = z := ⟨_, rfl⟩
 obtain ⟨pb, hpb⟩ : ∃ z, w.heap.size + 2 = z := ⟨_, rfl⟩
 have hpb2 : w.heap.size + 1 + 1 = pb := hpb
 rw [hpb] at hb2
 rw [hpa] at hb1
 rw [hlb0] at hb0
 try rw [hpb]
 try rw [hpb2]
 try rw [hpa]
 try rw [hlb0]
 have HL0 : Hid (LoBox w0 lb A0 A1 A2 A3 A4 A5 q0 q1 q2 q3 q4 q5 l) := hb0
 have HA0 := hide hb1
 have HC0 := hide hb2
 obtain ⟨c0, c1, c2, c3, c4, c5⟩ := zL hb0
 have hlb := box_lt hb0
 have hsb : w.heap.size ≤ w0.heap.size := hB0.size
 clear hw0 hb0 hb1 hb2 hB0 hs0 hlb0 hpa hpb hpb2
 go_upto_region 4 with (go_at_call 62; refine (Check_any A0 A1 A2 A3 A4 A5 q0 q1 q2 q3 q4 q5 l _ HS.out (H.out.up HB0.out)).mono ?_; rw [HER.out]; rintro e w1 ⟨rfl, hB1⟩; have HL1 := hide (HL0.out.to hB1); have HA1 := hide (box_to HA0.out hB1); have HC1 := hide (box_to HC0.out hB1); have HB1 := hide (Below.to HB0.out hB1 (Nat.le_refl _)); clear hB1 c0 c1 c2 c3 c4 c5 hlb)
 obtain ⟨d0, d1, d2, d3, d4, d5⟩ := zL HL1.out
 have hld := box_lt HL1.out
 have a0 := cellOf HA1.out 0
 have a1 := cellOf HA1.out 1
 have la := box_lt HA1.out
 cases f1 with
 | false =>
  have hE1 : E = 1 := by rw [← HEE.out]; exact HE.out
  subst hE1
  have hO1 : O = none := by rw [← HOO.out]; exact sho_bad HEE.out (by decide)
  subst hO1
  go_wp2_with (go_at_call 107; refine (bpinOk_any a A0 A1 A2 A3 A4 A5 q0 q1 q2 q3 q4 q5 l _ HOK.out (H.out.up HB1.out) false HF1.out).mono ?_; rintro e w2 ⟨rfl, hB2⟩; have HB2 := hide (Below.to HB1.out hB2 (Nat.le_refl _)); clear hB2 d0 d1 d2 d3 d4 d5 hld a0 a1 la)
  go_ret3
  exact ShoP.none HB2.out
 | true =>
 cases f2 with
 | false =>
  have hE1 : E = 1 := by rw [← HEE.out]; exact HE.out
  subst hE1
  have hO1 : O = none := by rw [← HOO.out]; exact sho_bad HEE.out (by decide)
  subst hO1
  go_wp2_with (first
   | (have hgd := HB2; clear hgd; go_at_call 107; refine (bpinOk_any b A0 A1 A2 A3 A4 A5 q0 q1 q2 q3 q4 q5 l _ HOK.out (H.out.up HB2.out) false HF2.out).mono ?_; rintro e w3 ⟨rfl, hB3⟩; have HB3 := hide (Below.to HB2.out hB3 (Nat.le_refl _)); clear hB3)
   | (go_at_call 107; refine (bpinOk_any a A0 A1 A2 A3 A4 A5 q0 q1 q2 q3 q4 q5 l _ HOK.out (H.out.up HB1.out) true HF1.out).mono ?_; rintro e w2 ⟨rfl, hB2⟩; have HB2 := hide (Below.to HB1.out hB2 (Nat.le_refl _)); have HL2 := hide (HL1.out.to hB2); have HC2 := hide (box_to HC1.out hB2); clear hB2 d0 d1 d2 d3 d4 d5 hld a0 a1 la; obtain ⟨c0, c1, c2, c3, c4, c5⟩ := zL HL2.out; have hlc := box_lt HL2.out; have b0 := cellOf HC2.out 0; have b1 := cellOf HC2.out 1; have lb2 := box_lt HC2.out))
  go_ret3
  exact ShoP.none HB3.out
 | true =>
 cases f3 with
 | true =>
  have hE1 : E = 1 := by rw [← HEE.out]; exact HE.out
  subst hE1
  have hO1 : O = none := by rw [← HOO.out]; exact sho_bad HEE.out (by decide)
  subst hO1
  go_wp2_with (first
   | (have hgd := HB2; clear hgd; go_at_call 107; refine (bpinOk_any b A0 A1 A2 A3 A4 A5 q0 q1 q2 q3 q4 q5 l _ HOK.out (H.out.up HB2.out) true HF2.out).mono ?_; rintro e w3 ⟨rfl, hB3⟩; have HB3 := hide (Below.to HB2.out hB3 (Nat.le_refl _)); have HA3 := hide (box_to HA2.out hB3); have HC3 := hide (box_to HC2.out hB3); clear hB3 c0 c1 c2 c3 c4 c5 hlc b0 b1 lb2; have a0 := cellOf HA3.out 0; have a1 := cellOf HA3.out 1; have la := box_lt HA3.out; have b0 := cellOf HC3.out 0; have b1 := cellOf HC3.out 1; have lb2 := box_lt HC3.out)
   | (go_at_call 107; refine (bpinOk_any a A0 A1 A2 A3 A4 A5 q0 q1 q2 q3 q4 q5 l _ HOK.out (H.out.up HB1.out) true HF1.out).mono ?_; rintro e w2 ⟨rfl, hB2⟩; have HB2 := hide (Below.to HB1.out hB2 (Nat.le_refl _)); have HL2 := hide (HL1.out.to hB2); have HA2 := hide (box_to HA1.out hB2); have HC2 := hide (box_to HC1.out hB2); clear hB2 d0 d1 d2 d3 d4 d5 hld a0 a1 la; obtain ⟨c0, c1, c2, c3, c4, c5⟩ := zL HL2.out; have hlc := box_lt HL2.out; have b0 := cellOf HC2.out 0; have b1 := cellOf HC2.out 1; have lb2 := box_lt HC2.out))
  go_ret3
  exact ShoP.none HB3.out
 | false =>
 have hE1 : E = 0 := by rw [← HEE.out]; exact HE.out
 subst hE1
 have hab := pin_ne HF3.out
 have hO1 : wlk l a b 25 a [] [] none = O := by rw [shorts_law hab (by omega), ← HOO.out]; unfold shoO; rw [if_pos HEE.out]
 have HO1 := hide hO1
 clear hO1 hab
 go_upto_region 7 with (first
   | (have hgd := HB2; clear hgd; go_at_call 107; refine (bpinOk_any b A0 A1 A2 A3 A4 A5 q0 q1 q2 q3 q4 q5 l _ HOK.out (H.out.up HB2.out) true HF2.out).mono ?_; rintro e w3 ⟨rfl, hB3⟩; have HB3 := hide (Below.to HB2.out hB3 (Nat.le_refl _)); have HL3 := hide (HL2.out.to hB3); have HA3 := hide (box_to HA2.out hB3); have HC3 := hide (box_to HC2.out hB3); clear hB3 c0 c1 c2 c3 c4 c5 hlc b0 b1 lb2; obtain ⟨d0, d1, d2, d3, d4, d5⟩ := zL HL3.out; have hld := box_lt HL3.out; have a0 := cellOf HA3.out 0; have a1 := cellOf HA3.out 1; have la := box_lt HA3.out; have b0 := cellOf HC3.out 0; have b1 := cellOf HC3.out 1; have lb2 := box_lt HC3.out)
   | (go_at_call 107; refine (bpinOk_any a A0 A1 A2 A3 A4 A5 q0 q1 q2 q3 q4 q5 l _ HOK.out (H.out.up HB1.out) true HF1.out).mono ?_; rintro e w2 ⟨rfl, hB2⟩; have HB2 := hide (Below.to HB1.out hB2 (Nat.le_refl _)); have HL2 := hide (HL1.out.to hB2); have HA2 := hide (box_to HA1.out hB2); have HC2 := hide (box_to HC1.out hB2); clear hB2 d0 d1 d2 d3 d4 d5 hld a0 a1 la; obtain ⟨c0, c1, c2, c3, c4, c5⟩ := zL HL2.out; have hlc := box_lt HL2.out; have b0 := cellOf HC2.out 0; have b1 := cellOf HC2.out 1; have lb2 := box_lt HC2.out))
 generalize hw4 : World.alloc _ _ = w4
 obtain ⟨hg4, hB4, hs4⟩ := alloc1 hw4
 have HWY : Hid (WayAt w4 w3.heap.size A0 A1 A2 A3 A4 A5 q0 q1 q2 q3 q4 q5 l a b l.m.opts.length none) := ⟨.slice none 0 0, hg4, rfl, fun x hx => nomatch hx⟩
 have HA4 := hide (box_to HA3.out hB4)
 have HB34 := hide hB4
 have HB4 := hide (Below.to HB3.out hB4 (Nat.le_refl _))
 have HE3 := hide (H.out.up HB3.out)
 have HDD : Hid (((endsL l).filter fun x => !(([] : List Pn) ++ [a]).contains x).length < 25) := by
  show _ < _
  have h1 := List.length_filter_le (fun x => !(([] : List Pn) ++ [a]).contains x) (endsL l)
  rw [endsL_len] at h1
  omega
 clear hw4 hg4 hB4 hs4 d0 d1 d2 d3 d4 d5 hld a0 a1 la b0 b1 lb2
 have a0 := cellOf HA4.out 0
 have a1 := cellOf HA4.out 1
 have la := box_lt HA4.out
 go_upto_region 8 with (go_at_call 108; refine (wlkW_any w3 w3.heap.size A0 A1 A2 A3 A4 A5 q0 q1 q2 q3 q4 q5 l a b HS.out HER.out HE3.out hN' h12' (Nat.le_refl _) 25 a [] [] none _ _ [] w4 HWY.out HB34.out (World.ownsRow_nil _ _ _ _) (OFs.nil _ _ _ _) (fun f hf => by simp at hf) (by simp) (by simp) HDD.out).mono ?_; rw [HO1.out]; rintro e w5 ⟨rfl, hw5, hg5⟩; have HW5 := hide hw5; have HG5 := hide hg5; clear hw5 hg5 a0 a1 la)
 have HB5 : Hid (Below w.heap.size w w5) := Below.grown HB4.out HG5.out HB4.out.size (fun k hk => by injection hk with hk; rw [← hk]; exact HB3.out.size)
 obtain ⟨Ac, nc, qc, hcv, hcn, lg, x0, x1, x2, x3, x4, x5, x6, x7, x8, x9, x10⟩ := HW5.out.cells
 clear x0 x1 x2 x3 x4 x5 x6 x7 x8 x9 hcn
 cases O with
 | none =>
  have e4 : Value.slice Ac nc qc = .slice none 0 0 := hcv
  injection e4 with e5 e6 e7
  subst e5 e6 e7
  clear hcv
  refine wp_region_held_drew (S := (fun w' => Below w5.heap.size w5 w')) (by kernel_rfl) ?_ (fun hHeld => ?_)
  ·
   try dsimp only
   exact zP
  refine zT 0 rfl ?_
  refine zT 1 rfl ?_
  refine zT 2 rfl ?_
  refine zT 3 rfl ?_
  refine zT 4 rfl ?_
  refine zT 5 rfl ?_
  refine zT 6 rfl ?_
  refine zT 7 rfl ?_
  refine zT 8 rfl ?_
  refine zT 9 rfl ?_
  refine zT 10 rfl ?_
  refine zT 11 rfl ?_
  refine zT 12 rfl ?_
  refine zT 13 rfl ?_
  refine wpAnyH_done (by kernel_rfl) ?_ _
  go_wp2_with fail
  go_ret3
  exact ShoP.none (Below.to HB5.out hHeld (Nat.le_refl _))
 | some u =>
  obtain ⟨⟨ad2, q2', e4⟩, hu⟩ := hcv
  injection e4 with e5 e6 e7
  subst e5 e6 e7
  have HU := hide hu
  clear hu
  refine wp_region_held_drew (S := (fun w' => Below w5.heap.size w5 w')) (by kernel_rfl) ?_ (fun hHeld => ?_)
  ·
   try dsimp only
   exact zP
  refine zT 0 rfl ?_
  refine zT 1 rfl ?_
  refine zT 2 rfl ?_
  refine zT 3 rfl ?_
  refine zT 4 rfl ?_
  refine zT 5 rfl ?_
  refine zT 6 rfl ?_
  refine zT 7 rfl ?_
  refine zT 8 rfl ?_
  refine zT 9 rfl ?_
  refine zT 10 rfl ?_
  refine zT 11 rfl ?_
  refine zT 12 rfl ?_
  refine zT 13 rfl ?_
  refine wpAnyH_done (by kernel_rfl) ?_ _
  go_wp2_with fail
  go_ret3
  exact ⟨_, rfl, HU.out.up hHeld, Below.to HB5.out hHeld (Nat.le_refl _)⟩
theorem Vars.at15 {w : World} {B : Nat} {A : Option Addr} {n q : Nat} {L : List (List Bool)} (h : Vars w B (.slice A n q) L) {k : Nat} (hk : k < L.length) : ∃ b off x Ax qx, Hid (L.getD k [] = x) ∧ A = some ⟨b, off, none⟩ ∧ b < B ∧ L.length ≤ q ∧ Hid (Bols w B (.slice Ax x.length qx) x) ∧ w.cell? ⟨b, off + k, none⟩ = some (.slice Ax x.length qx) := by
 obtain ⟨fv, h1, h2⟩ := h
 obtain ⟨h3, h4, b, off, h5, h6, h7⟩ := sl_at h1 hk
 have h8 := h7 0 (by omega)
 rw [Nat.mul_one, Nat.add_zero] at h8
 have h9 := h2 k hk
 obtain ⟨Ax, qx, e⟩ := Sl.form h9
 rw [e] at h8 h9
 exact ⟨b, off, _, Ax, qx, rfl, h5, h6, by omega, h9, h8⟩
theorem find_at15 {P : List Bool → Bool} : ∀ {L : List (List Bool)} {k : Nat}, (∀ j, j < k → P (L.getD j []) = false) → k < L.length → P (L.getD k []) = true → L.find? P = some (L.getD k [])
 | [], _, _, h, _ => by simp at h
 | a :: t, 0, _, _, h => by
  have h2 : P a = true := h
  rw [List.find?_cons, h2]
  rfl
 | a :: t, k + 1, h1, h2, h3 => by
  have h4 : P a = false := h1 0 (by omega)
  rw [List.find?_cons, h4]
  exact find_at15 (L := t) (fun j hj => h1 (j + 1) (by omega)) (by simp at h2; omega) h3
theorem find_no15 {P : List Bool → Bool} : ∀ {L : List (List Bool)}, (∀ j, j < L.length → P (L.getD j []) = false) → L.find? P = none
 | [], _ => rfl
 | a :: t, h => by
  have h4 : P a = false := h 0 (by simp)
  rw [List.find?_cons, h4]
  exact find_no15 fun j hj => h (j + 1) (by simp; omega)
set_option maxRecDepth 100000 in
set_option maxHeartbeats 8000000 in
theorem rShorts_any (a b : Pn) (A0 A1 A2 A3 A4 A5 : Option Addr) (q0 q1 q2 q3 q4 q5 : Nat) (l : Lo) (w : World) (hs : SizedL l) (h : LoA w w.heap.size A0 A1 A2 A3 A4 A5 q0 q1 q2 q3 q4 q5 l) (hN : l.err = 0 → l.m.opts.length ≤ 12) (h12 : l.err = 0 → l.ws.length ≤ 12) :
  Calls Tryz.prog 40 #[.agg #[.slice A0 l.m.opts.length q0, .slice A1 l.m.rules.length q1, .slice A2 l.ss.length q2, .slice A3 l.us.length q3, .slice A4 l.ps.length q4, .slice A5 l.ws.length q5], .agg #[.int .i64 a.1, .int .i64 a.2], .agg #[.int .i64 b.1, .int .i64 b.2]] w (ShoP (shoO l a b) (shoE l a b) w) := by
 have qn1 : ∀ (W : World) (a : Option Addr) (n c : Nat), (binOp .neq 35 (.slice a n c) (.slice none 0 0)).run Tryz.prog W = .ok (.bool (!a.isNone)) W := fun W a n c => run_neq_slice_nil W _ _ a n c Tryz.underlying35
 have H := hide h
 have HS := hide hs
 have HD0 : Hid (SizedD []) := ⟨by unfold maxLen; simp, fun d hd => by cases hd⟩
 clear h hs
 by_cases he : l.err = 0
 case neg =>
  have hE : shoE l a b = l.err := by unfold shoE; rw [if_neg he]
  have hO := sho_bad hE he
  rw [hE, hO]
  obtain ⟨E, hEE⟩ : ∃ z, l.err = z := ⟨_, rfl⟩
  rw [hEE] at he ⊢
  have HER := hide hEE
  have HEB : Hid (bldE l [] = E) := (bldE_nil l).trans hEE
  have g1 : (E != 0) = true := by simpa using he
  clear hE hO hEE he
  go_enter Tryz.func40, Tryz.ntmps40
  go_upto_region 1 with (fail)
  generalize hw0 : World.alloc _ _ = w0
  obtain ⟨hb0, hb1, hb2, hB0, hs0⟩ := alloc3 hw0
  have HB0 := hide hB0
  obtain ⟨c0, c1, c2, c3, c4, c5⟩ := zL hb0
  have hlb := box_lt hb0
  clear hw0 hb0 hb1 hb2 hB0 hs0
  go_wp2_with (go_at_call 27; refine (rbCheck_any [] none 0 A0 A1 A2 A3 A4 A5 q0 q1 q2 q3 q4 q5 l _ HS.out HD0.out (H.out.up HB0.out) (Mods.nil _ _)).mono ?_; rw [HEB.out]; rintro e w1 ⟨rfl, hB1⟩; have HB1 := hide (Below.to HB0.out hB1 (Nat.le_refl _)); clear hB1 c0 c1 c2 c3 c4 c5 hlb)
  go_ret3
  exact ShoP.none HB1.out
 case pos =>
 have hN' := hN he
 have h12' := h12 he
 have HER := hide he
 have HEB : Hid (bldE l [] = 0) := (bldE_nil l).trans he
 have HOK := hide (Lo.err_ok he)
 obtain ⟨f1, hf1⟩ : ∃ z, pinOk l a.1 a.2 = z := ⟨_, rfl⟩
 obtain ⟨f2, hf2⟩ : ∃ z, pinOk l b.1 b.2 = z := ⟨_, rfl⟩
 obtain ⟨f3, hf3⟩ : ∃ z, (a.1 == b.1 && a.2 == b.2) = z := ⟨_, rfl⟩
 have hee := fun w => pinEq a.1 a.2 b.1 b.2 w
 rw [hf3] at hee
 have hE : shoE l a b = if (f1 && (f2 && !f3)) = true then 0 else 1 := by unfold shoE; rw [if_pos he, hf1, hf2, hf3]
 have HF1 := hide hf1
 have HF2 := hide hf2
 have HF3 := hide hf3
 have HE := hide hE
 clear hN h12 he hf1 hf2 hf3 hE
 obtain ⟨E, hEE⟩ : ∃ z, shoE l a b = z := ⟨_, rfl⟩
 obtain ⟨O, hOO⟩ : ∃ z, shoO l a b = z := ⟨_, rfl⟩
 rw [hEE, hOO]
 have HEE := hide hEE
 have HOO := hide hOO
 clear hEE hOO
 go_enter Tryz.func40, Tryz.ntmps40
 go_upto_region 1 with (fail)
 generalize hw0 : World.alloc _ _ = w0
 obtain ⟨hb0, hb1, hb2, hB0, hs0⟩ := alloc3 hw0
 have HB0 := hide hB0
 obtain ⟨lb, hlb0⟩ : ∃ z, w.heap.size = z := ⟨_, rfl⟩
 obtain ⟨pa, hpa⟩ : ∃ z, w.heap.size + 1 = z := ⟨_, rfl⟩
 obtain ⟨pb, hpb⟩ : ∃ z, w.heap.size + 2 = z := ⟨_, rfl⟩
 have hpb2 : w.heap.size + 1 + 1 = pb := hpb
 rw [hpb] at hb2
 rw [hpa] at hb1
 rw [hlb0] at hb0
 try rw [hpb]
 try rw [hpb2]
 try rw [hpa]
 try rw [hlb0]
 have HL0 : Hid (LoBox w0 lb A0 A1 A2 A3 A4 A5 q0 q1 q2 q3 q4 q5 l) := hb0
 have HA0 := hide hb1
 have HC0 := hide hb2
 obtain ⟨c0, c1, c2, c3, c4, c5⟩ := zL hb0
 have hlb := box_lt hb0
 have hsb : w.heap.size ≤ w0.heap.size := hB0.size
 clear hw0 hb0 hb1 hb2 hB0 hs0 hlb0 hpa hpb hpb2
 go_upto_region 4 with (go_at_call 27; refine (rbCheck_any [] none 0 A0 A1 A2 A3 A4 A5 q0 q1 q2 q3 q4 q5 l _ HS.out HD0.out (H.out.up HB0.out) (Mods.nil _ _)).mono ?_; rw [HEB.out]; rintro e w1 ⟨rfl, hB1⟩; have HL1 := hide (HL0.out.to hB1); have HA1 := hide (box_to HA0.out hB1); have HC1 := hide (box_to HC0.out hB1); have HB1 := hide (Below.to HB0.out hB1 (Nat.le_refl _)); clear hB1 c0 c1 c2 c3 c4 c5 hlb)
 obtain ⟨d0, d1, d2, d3, d4, d5⟩ := zL HL1.out
 have hld := box_lt HL1.out
 have a0 := cellOf HA1.out 0
 have a1 := cellOf HA1.out 1
 have la := box_lt HA1.out
 cases f1 with
 | false =>
  have hE1 : E = 1 := by rw [← HEE.out]; exact HE.out
  subst hE1
  have hO1 : O = none := by rw [← HOO.out]; exact sho_bad HEE.out (by decide)
  subst hO1
  go_wp2_with (go_at_call 109; refine (rpinOk_any a A0 A1 A2 A3 A4 A5 q0 q1 q2 q3 q4 q5 l _ HOK.out (H.out.up HB1.out) false HF1.out).mono ?_; rintro e w2 ⟨rfl, hB2⟩; have HB2 := hide (Below.to HB1.out hB2 (Nat.le_refl _)); clear hB2 d0 d1 d2 d3 d4 d5 hld a0 a1 la)
  go_ret3
  exact ShoP.none HB2.out
 | true =>
 cases f2 with
 | false =>
  have hE1 : E = 1 := by rw [← HEE.out]; exact HE.out
  subst hE1
  have hO1 : O = none := by rw [← HOO.out]; exact sho_bad HEE.out (by decide)
  subst hO1
  go_wp2_with (first
   | (have hgd := HB2; clear hgd; go_at_call 109; refine (rpinOk_any b A0 A1 A2 A3 A4 A5 q0 q1 q2 q3 q4 q5 l _ HOK.out (H.out.up HB2.out) false HF2.out).mono ?_; rintro e w3 ⟨rfl, hB3⟩; have HB3 := hide (Below.to HB2.out hB3 (Nat.le_refl _)); clear hB3)
   | (go_at_call 109; refine (rpinOk_any a A0 A1 A2 A3 A4 A5 q0 q1 q2 q3 q4 q5 l _ HOK.out (H.out.up HB1.out) true HF1.out).mono ?_; rintro e w2 ⟨rfl, hB2⟩; have HB2 := hide (Below.to HB1.out hB2 (Nat.le_refl _)); have HL2 := hide (HL1.out.to hB2); have HC2 := hide (box_to HC1.out hB2); clear hB2 d0 d1 d2 d3 d4 d5 hld a0 a1 la; obtain ⟨c0, c1, c2, c3, c4, c5⟩ := zL HL2.out; have hlc := box_lt HL2.out; have b0 := cellOf HC2.out 0; have b1 := cellOf HC2.out 1; have lb2 := box_lt HC2.out))
  go_ret3
  exact ShoP.none HB3.out
 | true =>
 cases f3 with
 | true =>
  have hE1 : E = 1 := by rw [← HEE.out]; exact HE.out
  subst hE1
  have hO1 : O = none := by rw [← HOO.out]; exact sho_bad HEE.out (by decide)
  subst hO1
  go_wp2_with (first
   | (have hgd := HB2; clear hgd; go_at_call 109; refine (rpinOk_any b A0 A1 A2 A3 A4 A5 q0 q1 q2 q3 q4 q5 l _ HOK.out (H.out.up HB2.out) true HF2.out).mono ?_; rintro e w3 ⟨rfl, hB3⟩; have HB3 := hide (Below.to HB2.out hB3 (Nat.le_refl _)); have HA3 := hide (box_to HA2.out hB3); have HC3 := hide (box_to HC2.out hB3); clear hB3 c0 c1 c2 c3 c4 c5 hlc b0 b1 lb2; have a0 := cellOf HA3.out 0; have a1 := cellOf HA3.out 1; have la := box_lt HA3.out; have b0 := cellOf HC3.out 0; have b1 := cellOf HC3.out 1; have lb2 := box_lt HC3.out)
   | (go_at_call 109; refine (rpinOk_any a A0 A1 A2 A3 A4 A5 q0 q1 q2 q3 q4 q5 l _ HOK.out (H.out.up HB1.out) true HF1.out).mono ?_; rintro e w2 ⟨rfl, hB2⟩; have HB2 := hide (Below.to HB1.out hB2 (Nat.le_refl _)); have HL2 := hide (HL1.out.to hB2); have HA2 := hide (box_to HA1.out hB2); have HC2 := hide (box_to HC1.out hB2); clear hB2 d0 d1 d2 d3 d4 d5 hld a0 a1 la; obtain ⟨c0, c1, c2, c3, c4, c5⟩ := zL HL2.out; have hlc := box_lt HL2.out; have b0 := cellOf HC2.out 0; have b1 := cellOf HC2.out 1; have lb2 := box_lt HC2.out))
  go_ret3
  exact ShoP.none HB3.out
 | false =>
 have hE1 : E = 0 := by rw [← HEE.out]; exact HE.out
 subst hE1
 obtain ⟨L, hL⟩ : ∃ z, allM l.m = z := ⟨_, rfl⟩
 have hO1 : L.find? (conV l a b) = O := by rw [← HOO.out]; unfold shoO; rw [if_pos HEE.out, hL]
 have HO1 := hide hO1
 have HV := hide hL
 have hLl : L.length ≤ 4096 := by
  rw [← hL]
  refine Nat.le_trans (allM_le l.m) ?_
  exact Nat.le_trans (Nat.pow_le_pow_right (by omega) hN') (by decide)
 clear hO1 hL
 go_upto_region 7 with (first
  | (go_at_call 59; refine (Variants_any l.m _ _ w3 (H.out.up HB3.out).m HOK.out.m hN').mono ?_; rw [HV.out]; rintro e w4 ⟨v4, rfl, hv4, hB4⟩; obtain ⟨A7, q7, e7⟩ := GRows.form (GStk.rows hv4); subst e7; have HVS := hide (GStk.rows hv4); have HL4 := hide (HL3.out.to hB4); have HA4 := hide (box_to HA3.out hB4); have HC4 := hide (box_to HC3.out hB4); have HB4 := hide (Below.to HB3.out hB4 (Nat.le_refl _)); clear hv4 hB4 d0 d1 d2 d3 d4 d5 hld a0 a1 la b0 b1 lb2)
   | (have hgd := HB2; clear hgd; go_at_call 109; refine (rpinOk_any b A0 A1 A2 A3 A4 A5 q0 q1 q2 q3 q4 q5 l _ HOK.out (H.out.up HB2.out) true HF2.out).mono ?_; rintro e w3 ⟨rfl, hB3⟩; have HB3 := hide (Below.to HB2.out hB3 (Nat.le_refl _)); have HL3 := hide (HL2.out.to hB3); have HA3 := hide (box_to HA2.out hB3); have HC3 := hide (box_to HC2.out hB3); clear hB3 c0 c1 c2 c3 c4 c5 hlc b0 b1 lb2; obtain ⟨d0, d1, d2, d3, d4, d5⟩ := zL HL3.out; have hld := box_lt HL3.out; have a0 := cellOf HA3.out 0; have a1 := cellOf HA3.out 1; have la := box_lt HA3.out; have b0 := cellOf HC3.out 0; have b1 := cellOf HC3.out 1; have lb2 := box_lt HC3.out)
   | (go_at_call 109; refine (rpinOk_any a A0 A1 A2 A3 A4 A5 q0 q1 q2 q3 q4 q5 l _ HOK.out (H.out.up HB1.out) true HF1.out).mono ?_; rintro e w2 ⟨rfl, hB2⟩; have HB2 := hide (Below.to HB1.out hB2 (Nat.le_refl _)); have HL2 := hide (HL1.out.to hB2); have HA2 := hide (box_to HA1.out hB2); have HC2 := hide (box_to HC1.out hB2); clear hB2 d0 d1 d2 d3 d4 d5 hld a0 a1 la; obtain ⟨c0, c1, c2, c3, c4, c5⟩ := zL HL2.out; have hlc := box_lt HL2.out; have b0 := cellOf HC2.out 0; have b1 := cellOf HC2.out 1; have lb2 := box_lt HC2.out))
 obtain ⟨W4, hW4⟩ : ∃ wo : World, wo = w4 := ⟨_, rfl⟩
 subst hW4
 go_wp2_with fail
 go_loopw [11] (fun iv wr => ∃ k : Nat, iv = .int .i64 k ∧ k ≤ L.length ∧ Hid (∀ j, j < k → conV l a b (L.getD j []) = false) ∧ Hid (Below W4.heap.size W4 wr)) (fun iv _ => L.length - (intOf iv).toNat)
 case atStart => exact ⟨0, rfl, Nat.zero_le _, fun j hj => by omega, Below.refl _ _⟩
 case round =>
  obtain ⟨k, rfl, hk, hz, HW⟩ := hrel
  have HBr := hide (Below.to HB4.out HW.out (Nat.le_refl _))
  by_cases hlt : k < L.length
  case neg =>
   have hlt1 : ¬ (k : Int) < (L.length : Int) := by omega
   have hO : O = none := by
    rw [← HO1.out]
    exact find_no15 fun j hj => hz.out j (by omega)
   subst hO
   go_wp2_with fail
   go_ret3
   exact ShoP.none HBr.out
  case pos =>
  have hlt1 : (k : Int) < (L.length : Int) := by omega
  have ik0 : (0 : Int) ≤ (k : Int) := by omega
  have HLT := hide hlt
  have hVr : Vars wr wr.heap.size (.slice A7 L.length q7) L := HVS.out.up HW.out
  obtain ⟨b8, o8, x, Ax, qx, HX, hA7, hb8, hq7, HBX, cx⟩ := hVr.at15 hlt
  subst hA7
  have iq : (L.length : Int) ≤ (q7 : Int) := by omega
  have hxl : x.length = l.m.opts.length := by rw [← HX.out]; exact allM_len6 (by rw [HV.out]; exact getD_mem7 hlt)
  have HXL := hide hxl
  have HLr := hide (HL4.out.to HW.out)
  have HAr := hide (box_to HA4.out HW.out)
  have HCr := hide (box_to HC4.out HW.out)
  have HLA := hide (H.out.up HBr.out)
  obtain ⟨c0, c1, c2, c3, c4, c5⟩ := zL HLr.out
  have hlb := box_lt HLr.out
  have a0 := cellOf HAr.out 0
  have a1 := cellOf HAr.out 1
  have la := box_lt HAr.out
  have b0 := cellOf HCr.out 0
  have b1 := cellOf HCr.out 1
  have lb2 := box_lt HCr.out
  obtain ⟨cb, hcb⟩ : ∃ z, conV l a b x = z := ⟨_, rfl⟩
  have HCB := hide hcb
  have HCC : Hid (conB (netL (esL l (belL l x))) a b = cb) := hcb
  have hbl2 : (belL l x).length ≤ 12 := by have := belK_le l x l.ws.length; unfold belL; omega
  have hnf := (net_facts (es := esL l (belL l x)) (by unfold esL; rw [List.length_map]; omega)).1
  have HNF : Hid ((netL (esL l (belL l x))).length ≤ 100000) := by show _ ≤ _; omega
  clear hVr hq7 hxl hcb hnf
  go_upto_region 10 with (fail)
  refine wp_region_held_drew (S := (fun w' => Below wr.heap.size wr w')) (by kernel_rfl) ?_ (fun hHeld => ?_)
  ·
   try dsimp only
   exact zP
  refine zT 0 rfl ?_
  refine zT 1 rfl ?_
  refine zT 2 rfl ?_
  refine zT 3 rfl ?_
  refine zT 4 rfl ?_
  refine zT 5 rfl ?_
  refine zT 8 rfl ?_
  refine zT 9 rfl ?_
  refine wpAnyH_ready (rs := [6]) (by kernel_rfl) (by simp) ?_
  refine AllReadyH.cons rfl (fun K hK => ?_) AllReadyH.nil
  go_simp
  ((first | (go_at_call 98; refine (rbelong_any x _ A0 A1 A2 A3 A4 A5 q0 q1 q2 q3 q4 q5 l _ HS.out (HLA.out.up zP) HOK.out (HBX.out.up zP) HXL.out).mono ?_; rintro e w5 ⟨v5, rfl, hn5, hB5⟩; have HN5 := hide hn5; clear hn5) | (go_at_call 111; refine (rnets_any (belL l x) _ A0 A1 A2 A3 A4 A5 q0 q1 q2 q3 q4 q5 l _ (HLA.out.up zP) (fun i hi => (belL_lt hi).1) (by omega) (by omega) (Sl.up HN5.out zP)).mono ?_; rintro e w6 ⟨v6, vs6, rfl, hn6, hB6⟩; have HN6 := hide hn6; clear hn6) | (go_at_call 110; refine (rConnected_any _ vs6 _ a b _ _ _ cb (netL_i _) (HN6.out.below (Nat.le_refl _) zP) HNF.out (by first | exact Nat.le_refl _ | simp) HCC.out).mono ?_; rintro e w7 ⟨rfl, hB7⟩)))
  (try dsimp only)
  refine hK.out _ _ zP fun hNext => ?_; clear hK K hHeld; have hHeld := hNext; clear hNext; (try dsimp only at hHeld); try simp only [zX]
  refine wpAnyH_ready (rs := [7]) (by kernel_rfl) (by simp) ?_
  refine AllReadyH.cons rfl (fun K hK => ?_) AllReadyH.nil
  go_simp
  ((first | (go_at_call 98; refine (rbelong_any x _ A0 A1 A2 A3 A4 A5 q0 q1 q2 q3 q4 q5 l _ HS.out (HLA.out.up zP) HOK.out (HBX.out.up zP) HXL.out).mono ?_; rintro e w5 ⟨v5, rfl, hn5, hB5⟩; have HN5 := hide hn5; clear hn5) | (go_at_call 111; refine (rnets_any (belL l x) _ A0 A1 A2 A3 A4 A5 q0 q1 q2 q3 q4 q5 l _ (HLA.out.up zP) (fun i hi => (belL_lt hi).1) (by omega) (by omega) (Sl.up HN5.out zP)).mono ?_; rintro e w6 ⟨v6, vs6, rfl, hn6, hB6⟩; have HN6 := hide hn6; clear hn6) | (go_at_call 110; refine (rConnected_any _ vs6 _ a b _ _ _ cb (netL_i _) (HN6.out.below (Nat.le_refl _) zP) HNF.out (by first | exact Nat.le_refl _ | simp) HCC.out).mono ?_; rintro e w7 ⟨rfl, hB7⟩)))
  (try dsimp only)
  refine hK.out _ _ zP fun hNext => ?_; clear hK K hHeld; have hHeld := hNext; clear hNext; (try dsimp only at hHeld); try simp only [zX]
  refine wpAnyH_ready (rs := [10]) (by kernel_rfl) (by simp) ?_
  refine AllReadyH.cons rfl (fun K hK => ?_) AllReadyH.nil
  go_simp
  ((first | (go_at_call 98; refine (rbelong_any x _ A0 A1 A2 A3 A4 A5 q0 q1 q2 q3 q4 q5 l _ HS.out (HLA.out.up zP) HOK.out (HBX.out.up zP) HXL.out).mono ?_; rintro e w5 ⟨v5, rfl, hn5, hB5⟩; have HN5 := hide hn5; clear hn5) | (go_at_call 111; refine (rnets_any (belL l x) _ A0 A1 A2 A3 A4 A5 q0 q1 q2 q3 q4 q5 l _ (HLA.out.up zP) (fun i hi => (belL_lt hi).1) (by omega) (by omega) (Sl.up HN5.out zP)).mono ?_; rintro e w6 ⟨v6, vs6, rfl, hn6, hB6⟩; have HN6 := hide hn6; clear hn6) | (go_at_call 110; refine (rConnected_any _ vs6 _ a b _ _ _ cb (netL_i _) (HN6.out.below (Nat.le_refl _) zP) HNF.out (by first | exact Nat.le_refl _ | simp) HCC.out).mono ?_; rintro e w7 ⟨rfl, hB7⟩)))
  (try dsimp only)
  refine hK.out _ _ zP fun hNext => ?_; clear hK K hHeld; have hHeld := hNext; clear hNext; (try dsimp only at hHeld); try simp only [zX]
  refine wpAnyH_done (by kernel_rfl) ?_ _
  have HWz := hide (Below.to HW.out hHeld (Nat.le_refl _))
  have HBX7 := hide (HBX.out.up hHeld)
  have hb87 : b8 < w7.heap.size := Nat.lt_of_lt_of_le hb8 hHeld.size
  have cx7 := (hHeld.cell (p := ⟨b8, o8 + k, none⟩) hb8).trans cx
  clear hHeld c0 c1 c2 c3 c4 c5 hlb a0 a1 la b0 b1 lb2 cx hb8
  cases cb with
  | false =>
   go_wp2_with fail
   go_roundw
   case rel => exact ⟨k + 1, by go_num, HLT.out, fun j hj => by
    rcases Nat.lt_or_ge j k with h | h
    ·
     exact hz.out j h
    ·
     rw [show j = k from by omega, HX.out]; exact HCB.out, HWz⟩
   case measure => simp [intOf]; have := HLT.out; omega
  | true =>
   have hO : O = some x := by
    rw [← HO1.out, ← HX.out]
    exact find_at15 hz.out HLT.out (by rw [HX.out]; exact HCB.out)
   subst hO
   go_wp2_with fail
   go_ret3
   exact ⟨_, rfl, HBX7.out, Below.to HB4.out HWz.out (Nat.le_refl _)⟩
end Go.Proofs.YtehadoecnmfeoaaGreat

/- Part 47 of this claim's texts: walks and plain laws. -/
import Derived.Test.YtehadoecnmfeoaaGreatRows
import Derived.Test.YtehadoecnmfeoaaGreatGBC43
import Derived.Test.YtehadoecnmfeoaaGreatGBC44
import Derived.Test.YtehadoecnmfeoaaGreatGBC46
import Derived.Deep.DeepMust
import Derived.Deep.RegionHeld3
import Derived.Deep.DrawnRows
import Derived.Test.YtehadoecnmfeoaaGreatGBC3
import Derived.Test.YtehadoecnmfeoaaGreatGBC17
import Derived.Test.YtehadoecnmfeoaaGreatGBC10
/- Cuts on both sides, compared: walk of BuildCuts. -/
namespace Go.Proofs.YtehadoecnmfeoaaGreat
open Go.Joins Go.ChangeShapes Go.WideShapes Go.ChangeAt Go.RowKit Go.Deep
set_option linter.unusedVariables false
set_option linter.unusedSimpArgs false
theorem cutNe (a b c : Int) (w : World) : (binOp BinOp.neq 67 (.agg #[.int .i64 a, .int .i64 b, .int .i64 c]) (.agg #[.int .i64 a, .int .i64 b, .int .i64 c])).run Tryz.prog w = Result.ok (.bool false) w := by
  go_simp
theorem Cts.up {w w' : World} {v : Value} {L : List Ct} (h : Cts w w.heap.size v L) (hb : Below w.heap.size w w') : Cts w' w'.heap.size v L := Sl.up h hb
theorem Cts.form {w : World} {B : Nat} {v : Value} {L : List Ct} (h : Cts w B v L) : ∃ A q, v = .slice A L.length q := Sl.form h
theorem cutS_le : ∀ (ps : List (Int × Int)), (cutS ps).length ≤ ps.length := fun ps => by
  unfold cutS
  suffices h : ∀ (qs : List (Int × Int)) (o : List Ct), (qs.foldl (fun o p => insC ⟨p.1, p.2, 1⟩ o) o).length ≤ o.length + qs.length by
    have := h ps []
    simpa using this
  intro qs
  induction qs with
  | nil => intro o; simp
  | cons p qs ih =>
    intro o
    rw [List.foldl_cons]
    refine Nat.le_trans (ih _) ?_
    have h1 : (insC ⟨p.1, p.2, 1⟩ o).length ≤ o.length + 1 := by
      clear ih
      induction o with
      | nil => simp [insC]
      | cons a r ih2 =>
        unfold insC
        split
        · simpa using ih2
        · split <;> simp
    simp only [List.length_cons]
    omega
theorem cutL_le {l : Lo} {x : List Bool} : (cutL l x).length ≤ 60 := by
  by_cases h : copE l x = 0
  · rw [cutL_ok h]
    obtain ⟨ok, _⟩ := copE_ok h
    have h1 := cutS_le (cutP l x)
    have h2 := cutK_len l (belL l x) (belL l x).length
    have h3 := belK_le l x l.ws.length
    have h4 := ok.w60
    unfold cutP at h1 ⊢
    unfold belL at h1 h2 ⊢
    omega
  · rw [cutL_err h]
    exact Nat.zero_le _
set_option maxRecDepth 100000 in
set_option maxHeartbeats 8000000 in
theorem buildCuts_walk (x : List Bool) (Ax : Option Addr) (qx : Nat) (A0 A1 A2 A3 A4 A5 : Option Addr) (q0 q1 q2 q3 q4 q5 : Nat) (l : Lo) (w : World) (hs : SizedL l) (h : LoA w w.heap.size A0 A1 A2 A3 A4 A5 q0 q1 q2 q3 q4 q5 l) (hx : Bols w w.heap.size (.slice Ax x.length qx) x) :
    Calls Tryz.prog 9 #[.agg #[.slice A0 l.m.opts.length q0, .slice A1 l.m.rules.length q1, .slice A2 l.ss.length q2, .slice A3 l.us.length q3, .slice A4 l.ps.length q4, .slice A5 l.ws.length q5], .slice Ax x.length qx] w fun e w' => e = .returned (.bool true) ∧ Below w.heap.size w w' := by
  have H := hide h
  have HS := hide hs
  have HX := hide hx
  clear h hs hx
  obtain ⟨lg, hlg⟩ : ∃ z, lrgB l [] = z := ⟨_, rfl⟩
  have HLG := hide hlg
  have hlarge : ∀ (W : World), LoA W W.heap.size A0 A1 A2 A3 A4 A5 q0 q1 q2 q3 q4 q5 l → Calls Tryz.prog 14 #[.agg #[.slice A0 l.m.opts.length q0, .slice A1 l.m.rules.length q1, .slice A2 l.ss.length q2, .slice A3 l.us.length q3, .slice A4 l.ps.length q4, .slice A5 l.ws.length q5], .slice none 0 0] W fun e w' => e = .returned (.bool lg) ∧ Below W.heap.size W w' := fun W hW => by
    have h1 := large12_any [] none 0 A0 A1 A2 A3 A4 A5 q0 q1 q2 q3 q4 q5 l W hW
    rw [hlg] at h1
    exact h1
  have HLA := hide hlarge
  clear hlarge
  cases lg with
  | true =>
    clear hlg
    go_enter Tryz.func9, Tryz.ntmps9
    go_upto_region 1 with (fail)
    generalize hw0 : World.alloc _ _ = w0
    obtain ⟨hb0, hB0, hs0⟩ := alloc1 hw0
    have HB0 := hide hB0
    have c0 := cellOf hb0 0; have c1 := cellOf hb0 1; have c2 := cellOf hb0 2; have c3 := cellOf hb0 3; have c4 := cellOf hb0 4; have c5 := cellOf hb0 5
    have hlb := box_lt hb0
    clear hw0 hb0 hB0 hs0
    go_wp2_with (first
      | (go_at_call 14; refine (HLA.out _ (H.out.up HB0.out)).mono ?_; rintro e w1 ⟨rfl, hB1⟩; have HB1 := hide (Below.to HB0.out hB1 (Nat.le_refl _)); clear hB1 c0 c1 c2 c3 c4 c5 hlb)
      | (go_at_call 15; refine (works_build _).mono ?_; rintro e w2 ⟨rfl, hB2⟩))
    go_ret
    exact ⟨rfl, Below.to HB1.out hB2 (Nat.le_refl _)⟩
  | false =>
  have HNN : Hid (l.m.err = 0 → l.m.opts.length ≤ 12) := fun he => by have := lrg_small hlg he; omega
  clear hlg
  obtain ⟨er, her⟩ : ∃ z, copE l x = z := ⟨_, rfl⟩
  obtain ⟨D, hD⟩ : ∃ z, cutL l x = z := ⟨_, rfl⟩
  have hD60 : D.length ≤ 60 := by rw [← hD]; exact cutL_le
  have HER := hide her
  have HD := hide hD
  have g1 : (er != er) = false := by simp
  have g2 : ((D.length : Int) != (D.length : Int)) = false := by simp
  clear her hD
  go_enter Tryz.func9, Tryz.ntmps9
  go_upto_region 1 with (fail)
  generalize hw0 : World.alloc _ _ = w0
  obtain ⟨hb0, hB0, hs0⟩ := alloc1 hw0
  have HB0 := hide hB0
  have HL0 : Hid (LoBox w0 w.heap.size A0 A1 A2 A3 A4 A5 q0 q1 q2 q3 q4 q5 l) := hb0
  have c0 := cellOf hb0 0; have c1 := cellOf hb0 1; have c2 := cellOf hb0 2; have c3 := cellOf hb0 3; have c4 := cellOf hb0 4; have c5 := cellOf hb0 5
  have hlb := box_lt hb0
  clear hw0 hb0 hB0 hs0
  go_upto_region 4 with (first
    | (go_at_call 14; refine (HLA.out _ (H.out.up HB0.out)).mono ?_; rintro e w1 ⟨rfl, hB1⟩; have HL1 := hide (HL0.out.to hB1); have HB1 := hide (Below.to HB0.out hB1 (Nat.le_refl _)); clear hB1 c0 c1 c2 c3 c4 c5 hlb; have d0 := cellOf HL1.out 0; have d1 := cellOf HL1.out 1; have d2 := cellOf HL1.out 2; have d3 := cellOf HL1.out 3; have d4 := cellOf HL1.out 4; have d5 := cellOf HL1.out 5; have hld := box_lt HL1.out)
    | (go_at_call 34; refine (Cuts_any x Ax qx A0 A1 A2 A3 A4 A5 q0 q1 q2 q3 q4 q5 l w1 HS.out (H.out.up HB1.out) (Sl.up HX.out HB1.out)).mono ?_; rw [HER.out, HD.out]; rintro e w2 ⟨v2, rfl, hv2, hB2⟩; obtain ⟨Au, qu, e2⟩ := hv2.form; subst e2; have HV2 := hide hv2; have HL2 := hide (HL1.out.to hB2); have HB2 := hide (Below.to HB1.out hB2 (Nat.le_refl _)); clear hv2 hB2 d0 d1 d2 d3 d4 d5 hld; have c0 := cellOf HL2.out 0; have c1 := cellOf HL2.out 1; have c2 := cellOf HL2.out 2; have c3 := cellOf HL2.out 3; have c4 := cellOf HL2.out 4; have c5 := cellOf HL2.out 5; have hlb := box_lt HL2.out))
  go_upto_region 7 with (go_at_call 35; refine (rCuts_any x Ax qx A0 A1 A2 A3 A4 A5 q0 q1 q2 q3 q4 q5 l w2 HS.out (H.out.up HB2.out) (Sl.up HX.out HB2.out)).mono ?_; rw [HER.out, HD.out]; rintro e w3 ⟨v3, rfl, hv3, hB3⟩; obtain ⟨Av, qv, e3⟩ := hv3.form; subst e3; have HV3 := hide hv3; have HV23 := hide (HV2.out.up hB3); have HB3 := hide (Below.to HB2.out hB3 (Nat.le_refl _)); clear hv3 hB3 c0 c1 c2 c3 c4 c5 hlb)
  obtain ⟨W3, hW3⟩ : ∃ wo : World, wo = w3 := ⟨_, rfl⟩
  subst hW3
  go_wp2_with fail
  go_loopw [9] (fun i wr => ∃ k : Nat, i = .int .i64 k ∧ k ≤ D.length ∧ Hid (Below W3.heap.size W3 wr)) (fun i _ => D.length - (intOf i).toNat)
  case atStart => exact ⟨0, rfl, Nat.zero_le _, Below.refl _ _⟩
  case round =>
    obtain ⟨k, rfl, hk, HW⟩ := hrel
    have HBr := hide (Below.to HB3.out HW.out (Nat.le_refl _))
    by_cases hkl : k < D.length
    case neg =>
      have hkl1 : ¬ (k : Int) < (D.length : Int) := by omega
      clear hkl
      go_wp2_with (go_at_call 15; refine (works_build _).mono ?_; rintro e w9 ⟨rfl, hB9⟩)
      go_ret
      exact ⟨rfl, Below.to HBr.out hB9 (Nat.le_refl _)⟩
    case pos =>
    have hkl1 : (k : Int) < (D.length : Int) := by omega
    have ik0 : (0 : Int) ≤ (k : Int) := by omega
    obtain ⟨b1, o1, d, HDD, hA, hb1, hq1, e0, e1, e2⟩ := (HV23.out.up HW.out).at hkl
    obtain ⟨b2, o2, d2, HDE, hA2, hb2, hq2, f0, f1, f2⟩ := (HV3.out.up HW.out).at hkl
    have hdd : d = d2 := by rw [← HDD.out, ← HDE.out]
    subst hdd hA hA2
    have iqu : (D.length : Int) ≤ (qu : Int) := by omega
    have iqv : (D.length : Int) ≤ (qv : Int) := by omega
    have hne := cutNe d.s d.n d.c
    clear hq1 hq2
    go_upto_region 10 with (fail)
    refine wp_region_held_drew (S := (fun w' => Below wr.heap.size wr w')) (by kernel_rfl) ?_ (fun hHeld => ?_)
    · try dsimp only
      exact (by repeat (first | exact Below.refl _ _ | assumption | refine Below.drew ?_ | refine Below.drewN ?_ _ | refine Below.allocT ?_ (Nat.le_refl _) _ | refine Below.setCell ?_ (by simp <;> omega) _ | refine Below.to ?_ (by assumption) (Nat.le_refl _)))
    refine zT 0 rfl ?_
    refine zT 1 rfl ?_
    refine zT 2 rfl ?_
    refine zT 3 rfl ?_
    refine zT 4 rfl ?_
    refine zT 5 rfl ?_
    refine zT 6 rfl ?_
    refine zT 7 rfl ?_
    refine zT 8 rfl ?_
    refine wpAnyH_done (by kernel_rfl) ?_ _
    go_wp2_with fail
    go_roundw
    case rel => exact ⟨k + 1, by go_num, by omega, Below.to HW.out hHeld (Nat.le_refl _)⟩
    case measure => simp [intOf]; omega
end Go.Proofs.YtehadoecnmfeoaaGreat
/- The laws' looms, opened: no condition. -/
namespace Go.Proofs.YtehadoecnmfeoaaGreat
open Go.Joins Go.ChangeShapes Go.WideShapes Go.ChangeAt Go.RowKit Go.Deep
set_option maxRecDepth 100000
set_option linter.unusedVariables false
set_option linter.unusedSimpArgs false
section
variable {H : Type} {enc : TypeId × Value → H} {W : World} {base b0 : Nat} {r : Reach} {spare : Nat → Bool} {held : Bool} {v : Value} {d : DataW H} {p : List MemPlace}
theorem open_lo (hv : Value.okWide Tryz.prog W r b0 31 v) (h : DataW.Trod enc Tryz.prog W base spare held 31 v d p) :
    ∃ (A0 A1 A2 A3 A4 A5 : Option Addr) (q0 q1 q2 q3 q4 q5 : Nat), ∃ l : Lo, v = .agg #[.slice A0 l.m.opts.length q0, .slice A1 l.m.rules.length q1, .slice A2 l.ss.length q2, .slice A3 l.us.length q3, .slice A4 l.ps.length q4, .slice A5 l.ws.length q5] ∧ LoA W W.heap.size A0 A1 A2 A3 A4 A5 q0 q1 q2 q3 q4 q5 l ∧ SizedL l := by
  obtain ⟨ov, rv, sv, uv, pv, wv, l, rfl, hl, hs, _⟩ := open_loom hv h
  obtain ⟨A0, A1, A2, A3, A4, A5, q0, q1, q2, q3, q4, q5, rfl, rfl, rfl, rfl, rfl, rfl, hla⟩ := hl.form
  exact ⟨A0, A1, A2, A3, A4, A5, q0, q1, q2, q3, q4, q5, l, rfl, hla, hs⟩
end
end Go.Proofs.YtehadoecnmfeoaaGreat
/- Boards and a variant as an argument, opened. -/
namespace Go.Proofs.YtehadoecnmfeoaaGreat
open Go.Joins Go.ChangeShapes Go.WideShapes Go.ChangeAt Go.RowKit Go.Deep
set_option maxRecDepth 100000
set_option linter.unusedVariables false
set_option linter.unusedSimpArgs false
section
variable {H : Type} {enc : TypeId × Value → H} {W : World} {base b0 : Nat} {r : Reach} {spare : Nat → Bool} {held : Bool} {v : Value} {d : DataW H} {p : List MemPlace}
theorem cellsBool12 : Tryz.prog.cellsOf 4 = 1 := by kernel_rfl
theorem bools_cell12 {n : Nat} {c : Value} {y : DataW H × List MemPlace} (h : DataW.trod enc Tryz.prog W base spare held n 35 [c] = some y) : ∃ l : List Bool, Bols W W.heap.size c l ∧ l.length ≤ maxLen := by
  obtain ⟨xs, hsl, hl, _⟩ := open_rows (α := Bool) false (fun x _ => .bool x) (fun _ => True) Tryz.underlying35 cellsBool12 (by omega) (by
    intro n cs' y hlen ht
    match cs', hlen with
    | [c0], _ =>
      obtain ⟨s, h1, _⟩ := DataW.trod_bool Tryz.underlying4 ht
      simp at h1
      subst h1
      refine ⟨s, fun j hj => ?_, trivial⟩
      match j, hj with
      | 0, _ => rfl) h
  exact ⟨xs, hsl, hl⟩
theorem open_bools12 (hv : Value.okWide Tryz.prog W r b0 35 v) (h : DataW.Trod enc Tryz.prog W base spare held 35 v d p) :
    ∃ l : List Bool, Bols W W.heap.size v l ∧ l.length ≤ maxLen := by
  obtain ⟨a0, len, cap, rfl⟩ := okWide_slice Tryz.underlying35 hv
  obtain ⟨fuel, hf⟩ := h
  exact bools_cell12 hf
end
end Go.Proofs.YtehadoecnmfeoaaGreat

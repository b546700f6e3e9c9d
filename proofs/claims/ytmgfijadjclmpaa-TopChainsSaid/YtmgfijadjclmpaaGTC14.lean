/- Part 14 of this claim's texts: walks and plain laws. -/
import Derived.Test.YtmgfijadjclmpaaRows
import Derived.Test.YtmgfijadjclmpaaGTC13
import Derived.Deep.DeepMust
import Derived.Deep.RegionHeld3
import Derived.Deep.DrawnRows
import Derived.Test.YtmgfijadjclmpaaGTC2
import Derived.Test.YtmgfijadjclmpaaGTC9
/- The errors of a play: walk of checkPlay for plays without one. -/
namespace Go.Proofs.Ytmgfijadjclmpaa
open Go.RowKit
set_option linter.unusedVariables false
set_option linter.unusedSimpArgs false
/-- Rows of numbers in memory. -/
def Rws (w : World) (B : Nat) (v : Value) (L : List (List Int)) : Prop := ∃ fv : Nat → Value, Sl w B 1 v L.length (fun i _ => fv i) ∧ ∀ i, i < L.length → Ints w B (fv i) (L.getD i [])
theorem Rws.up {w w' : World} {v : Value} {L : List (List Int)} (h : Rws w w.heap.size v L) (hb : Below w.heap.size w w') : Rws w' w'.heap.size v L := by
  obtain ⟨fv, h1, h2⟩ := h
  exact ⟨fv, Sl.up h1 hb, fun i hi => ints_upT (h2 i hi) hb⟩
theorem Rws.form {w : World} {B : Nat} {v : Value} {L : List (List Int)} (h : Rws w B v L) : ∃ A cap, v = .slice A L.length cap := by
  obtain ⟨fv, h1, _⟩ := h
  exact Sl.form h1
theorem Rws.at {w : World} {B n q : Nat} {A : Option Addr} {L : List (List Int)} (h : Rws w B (.slice A n q) L) {k : Nat} (hk : k < L.length) : ∃ b off Ar qr row, Hid (L.getD k [] = row) ∧ A = some ⟨b, off, none⟩ ∧ b < B ∧ L.length ≤ q ∧ Hid (Ints w B (.slice Ar row.length qr) row) ∧
    w.cell? ⟨b, off + k, none⟩ = some (.slice Ar row.length qr) := by
  obtain ⟨fv, h1, h2⟩ := h
  obtain ⟨e1, e2, b, off, h3, h4, h5⟩ := sl_atT h1 hk
  have h6 := h2 k hk
  obtain ⟨Ar, qr, e⟩ := ints_formT h6
  rw [e] at h6
  have h7 := h5 0 (by omega)
  rw [Nat.mul_one, Nat.add_zero, e] at h7
  exact ⟨b, off, Ar, qr, _, rfl, h3, h4, by omega, h6, h7⟩
/-- A play without an error. -/
structure PyOk (ss : List Stp) (a b : List (List Int)) : Prop where
  la : a.length = ss.length
  lb : b.length = ss.length
  row : ∀ i, i < ss.length → (a.getD i []).length = (b.getD i []).length ∧ (b.getD i []).length ≤ 500
  run : ∀ i k, i < ss.length → k < (b.getD i []).length → (k : Int) * (ss.getD i Stp.o).e ≤ (a.getD i []).getD k 0 ∧ (a.getD i []).getD k 0 < (b.getD i []).getD k 0 ∧ (b.getD i []).getD k 0 ≤ k * (ss.getD i Stp.o).e + (ss.getD i Stp.o).r
  ord : ∀ i k, i < ss.length → k + 1 < (b.getD i []).length → (a.getD i []).getD k 0 ≤ (a.getD i []).getD (k + 1) 0 ∧ (b.getD i []).getD k 0 ≤ (b.getD i []).getD (k + 1) 0
/-- The number before one of a list; 0 ahead of the first. -/
def befN (r : List Int) : Nat → Int
  | 0 => 0
  | k + 1 => r.getD k 0
set_option maxRecDepth 100000 in
set_option maxHeartbeats 8000000 in
theorem checkPlay_any (v x y : Value) (ss : List Stp) (a b : List (List Int)) (w : World) (h : Sts w w.heap.size v ss) (hk : StsOk ss) (ha : Rws w w.heap.size x a) (hb : Rws w w.heap.size y b) (ok : PyOk ss a b) :
    Calls Try.prog 25 #[v, x, y] w fun e w' => e = .returned (.int .i64 0) ∧ Below w.heap.size w w' := by
  have hck := CheckS_any v ss w h hk
  have hl := hk.l10
  have hct := fun W (hW : Below w.heap.size w W) => contains_timed (fun s => s.t) v ss W (by unfold maxLen; omega) (h.up hW) (fun i x W' _ _ hW' => timed_any x W')
  have hno : ss.any (fun s => s.t) = false := by
    rw [List.any_eq_false]
    intro s hs
    obtain ⟨i, hi, rfl⟩ := List.mem_iff_getElem.1 hs
    have := (hk.ok i hi).t
    rw [List.getD_eq_getElem?_getD, List.getElem?_eq_getElem hi, Option.getD_some] at this
    rw [this]
    decide
  rw [hno] at hct
  obtain ⟨A, q, rfl⟩ := h.form
  obtain ⟨Aa, qa, rfl⟩ := ha.form
  obtain ⟨Ab, qb, rfl⟩ := hb.form
  have hla := ok.la
  have hlb := ok.lb
  rw [hla, hlb]
  rw [hla] at ha
  rw [hlb] at hb
  have H := hide h
  have HK := hide hk
  have HA := hide ha
  have HB0 := hide hb
  have OK := hide ok
  have HLA := hide hla
  have HLB := hide hlb
  have HCK := hide hck
  have HCT := hide hct
  have iq : (ss.length : Int) ≤ (q : Int) := by have := h.cap; omega
  have gll : ((ss.length : Int) != (ss.length : Int)) = false := by simp
  clear h hk ha hb ok hck hct hno hla hlb
  go_enter Try.func25, Try.ntmps25
  go_upto_region 8 with (first
    | (go_at_call 26; refine HCK.out.mono ?_; rintro e w1 ⟨rfl, hB1⟩; have HB1 := hide hB1; clear hB1)
    | (go_at_call 39; refine (HCT.out _ HB1.out).mono ?_; rintro e w2 ⟨rfl, hB2⟩; have HB2 := hide (Below.to HB1.out hB2 (Nat.le_refl _)); clear hB2))
  obtain ⟨W2, hW2⟩ : ∃ wo : World, wo = w2 := ⟨_, rfl⟩
  subst hW2
  go_wp2_with fail
  go_loopw [8, 38] (fun _ iv wr => ∃ k : Nat, iv = .int .i64 k ∧ k ≤ ss.length ∧ Hid (Below W2.heap.size W2 wr)) (fun _ iv _ => ss.length - (intOf iv).toNat)
  case atStart => exact ⟨0, rfl, Nat.zero_le _, Below.refl _ _⟩
  case round =>
    obtain ⟨k, rfl, hkl, HW⟩ := hrel
    have HBr := hide (Below.to HB2.out HW.out (Nat.le_refl _))
    by_cases hlt : k < ss.length
    case pos =>
      have hlt1 : (k : Int) < (ss.length : Int) := by omega
      have ik0 : (0 : Int) ≤ (k : Int) := by omega
      obtain ⟨b1, o1, Ar, qr, r1, HR1, hA1, hb1, hq1, HI1, e1⟩ := (HA.out.up HBr.out).at (k := k) (by rw [HLA.out]; exact hlt)
      obtain ⟨b2, o2, As, qs, r2, HR2, hA2, hb2, hq2, HI2, e2⟩ := (HB0.out.up HBr.out).at (k := k) (by rw [HLB.out]; exact hlt)
      subst hA1 hA2
      have i1 : (ss.length : Int) ≤ (qa : Int) := by rw [HLA.out] at hq1; omega
      have i2 : (ss.length : Int) ≤ (qb : Int) := by rw [HLB.out] at hq2; omega
      have hrl := (OK.out.row k hlt).1
      rw [HR1.out, HR2.out] at hrl
      have grl : ((r1.length : Int) != (r2.length : Int)) = false := by simp [hrl]
      clear hq1 hq2 hrl
      go_upto_region 11 with (fail)
      refine wp_region_held_drew (S := (fun w' => Below wr.heap.size wr w')) (by kernel_rfl) ?_ (fun hHeld => ?_)
      · try dsimp only
        exact (by repeat (first | exact Below.refl _ _ | assumption | refine Below.drew ?_ | refine Below.drewN ?_ _ | refine Below.allocT ?_ (Nat.le_refl _) _ | refine Below.setCell ?_ (by simp <;> omega) _ | refine Below.to ?_ (by assumption) (Nat.le_refl _)))
      refine zT 0 rfl ?_
      refine zT 1 rfl ?_
      refine zT 2 rfl ?_
      refine zT 3 rfl ?_
      refine zT 4 rfl ?_
      refine zT 5 rfl ?_
      refine zT 6 rfl ?_
      refine zT 7 rfl ?_
      refine zT 8 rfl ?_
      refine zT 9 rfl ?_
      refine zT 10 rfl ?_
      refine wpAnyH_done (by kernel_rfl) ?_ _
      have HW3 := hide (Below.to HW.out hHeld (Nat.le_refl _))
      clear hHeld e1 e2 hb1 hb2
      go_wp2_with fail
      go_roundw
      case rel => exact ⟨k + 1, by go_num, by omega, HW3.out⟩
      case measure => simp [intOf]; omega
    case neg =>
      have hlt1 : ¬ (k : Int) < (ss.length : Int) := by omega
      obtain ⟨W3, hW3⟩ : ∃ wo : World, wo = wr := ⟨_, rfl⟩
      subst hW3
      clear hlt
      go_wp2_with fail
      go_loopw [9, 55] (fun _ iv wr => ∃ k : Nat, iv = .int .i64 k ∧ k ≤ ss.length ∧ Hid (Below W3.heap.size W3 wr)) (fun _ iv _ => ss.length - (intOf iv).toNat)
      case atStart => exact ⟨0, rfl, Nat.zero_le _, Below.refl _ _⟩
      case round =>
        obtain ⟨k, rfl, hkl, HW⟩ := hrel
        have HBs := hide (Below.to HBr.out HW.out (Nat.le_refl _))
        by_cases hlt : k < ss.length
        case pos =>
          have hlt1 : (k : Int) < (ss.length : Int) := by omega
          have ik0 : (0 : Int) ≤ (k : Int) := by omega
          obtain ⟨b1, o1, Ar, qr, r1, HR1, hA1, hb1, hq1, HI1, e1⟩ := (HA.out.up HBs.out).at (k := k) (by rw [HLA.out]; exact hlt)
          subst hA1
          have i1 : (ss.length : Int) ≤ (qa : Int) := by rw [HLA.out] at hq1; omega
          have hrl := OK.out.row k hlt
          rw [HR1.out] at hrl
          have grl : ¬ (500 : Int) < (r1.length : Int) := by omega
          clear hq1 hrl
          go_wp2_with fail
          go_roundw
          case rel => exact ⟨k + 1, by go_num, by omega, HW⟩
          case measure => simp [intOf]; omega
        case neg =>
          have hlt1 : ¬ (k : Int) < (ss.length : Int) := by omega
          obtain ⟨W4, hW4⟩ : ∃ wo : World, wo = wr := ⟨_, rfl⟩
          subst hW4
          clear hlt
          go_wp2_with fail
          go_loopw [10, 11, 12, 13, 14, 15, 16, 67] (fun _ _ _ _ _ _ _ iv wr => ∃ k : Nat, iv = .int .i64 k ∧ k ≤ ss.length ∧ Hid (Below W4.heap.size W4 wr)) (fun _ _ _ _ _ _ _ iv _ => ss.length - (intOf iv).toNat)
          case atStart => exact ⟨0, rfl, Nat.zero_le _, Below.refl _ _⟩
          case round =>
            obtain ⟨k, rfl, hkl, HW⟩ := hrel
            have HBt := hide (Below.to HBs.out HW.out (Nat.le_refl _))
            by_cases hlt : k < ss.length
            case neg =>
              have hlt1 : ¬ (k : Int) < (ss.length : Int) := by omega
              go_wp2_with fail
              go_ret
              exact ⟨rfl, HBt.out⟩
            case pos =>
              have hlt1 : (k : Int) < (ss.length : Int) := by omega
              have ik0 : (0 : Int) ≤ (k : Int) := by omega
              obtain ⟨b, off, s, HX, rfl, hbb, hq, e0, e1, e2, e3⟩ := (H.out.up HBt.out).at hlt
              have hso := HK.out.ok k hlt
              rw [HX.out] at hso
              have hs1 := hso.e0
              have hs2 := hso.e1
              have hs3 := hso.r0
              have hs4 := hso.r1
              clear hq hso
              go_upto_region 23 with (fail)
              generalize hw0 : World.alloc _ _ = w0
              obtain ⟨hb0, hB0, hs0⟩ := alloc1 hw0
              obtain ⟨pb, hpb⟩ : ∃ z, wr.heap.size = z := ⟨_, rfl⟩
              rw [hpb] at hb0 ⊢
              have HSB : Hid (StBox w0 pb s) := hb0
              have HB5 := hide (Below.to HBt.out hB0 (Nat.le_refl _))
              have HW5 := hide (Below.to HW.out hB0 (Nat.le_refl _))
              obtain ⟨b1, o1, Ar, qr, r1, HR1, hA1, hb1, hq1, HI1, f1⟩ := (HA.out.up HB5.out).at (k := k) (by rw [HLA.out]; exact hlt)
              obtain ⟨b2, o2, As, qs, r2, HR2, hA2, hb2, hq2, HI2, f2⟩ := (HB0.out.up HB5.out).at (k := k) (by rw [HLB.out]; exact hlt)
              subst hA1 hA2
              have i1 : (ss.length : Int) ≤ (qa : Int) := by rw [HLA.out] at hq1; omega
              have i2 : (ss.length : Int) ≤ (qb : Int) := by rw [HLB.out] at hq2; omega
              have hrl := OK.out.row k hlt
              rw [HR1.out, HR2.out] at hrl
              have HRL := hide hrl
              have hr5 : r1.length ≤ 500 := by omega
              obtain ⟨W5, hW5⟩ : ∃ wo : World, wo = w0 := ⟨_, rfl⟩
              subst hW5
              clear hq1 hq2 hrl hw0 hb0 hB0 hs0 hpb e0 e1 e2 e3 hbb
              go_wp2_with fail
              go_loopw [12, 13, 14, 15, 16, 77] (fun av bv _ _ _ iv wr => ∃ j : Nat, iv = .int .i64 j ∧ av = .int .i64 (befN r1 j) ∧ bv = .int .i64 (befN r2 j) ∧ j ≤ r1.length ∧ Hid (Below W5.heap.size W5 wr)) (fun _ _ _ _ _ iv _ => r1.length - (intOf iv).toNat)
              case atStart => exact ⟨0, rfl, rfl, rfl, Nat.zero_le _, Below.refl _ _⟩
              case round =>
                obtain ⟨j, rfl, rfl, rfl, hj, HV⟩ := hrel
                by_cases hjl : j < r1.length
                case neg =>
                  have hjl1 : ¬ (j : Int) < (r1.length : Int) := by omega
                  have HW6 := hide (Below.to HW5.out HV.out (Nat.le_refl _))
                  go_wp2_with fail
                  go_roundw
                  case rel => exact ⟨k + 1, by go_num, by omega, HW6.out⟩
                  case measure => simp [intOf]; omega
                case pos =>
                  have hjl1 : (j : Int) < (r1.length : Int) := by omega
                  have hjl2 : (j : Int) < (r2.length : Int) := by have := HRL.out; omega
                  have ij0 : (0 : Int) ≤ (j : Int) := by omega
                  obtain ⟨b3, o3, xa, HXA, hA3, hb3, hq3, g3⟩ := ints_atT (ints_upT HI1.out HV.out) hjl
                  obtain ⟨b4, o4, xb, HXB, hA4, hb4, hq4, g4⟩ := ints_atT (ints_upT HI2.out HV.out) (k := j) (by have := HRL.out; omega)
                  subst hA3 hA4
                  have f1' : wr.cell? ⟨b1, o1 + k, none⟩ = some (.slice (some ⟨b3, o3, none⟩) r1.length qr) := (HV.out.cell (p := ⟨b1, o1 + k, none⟩) hb1).trans f1
                  have f2' : wr.cell? ⟨b2, o2 + k, none⟩ = some (.slice (some ⟨b4, o4, none⟩) r2.length qs) := (HV.out.cell (p := ⟨b2, o2 + k, none⟩) hb2).trans f2
                  have lb1 : b1 < wr.heap.size := Nat.lt_of_lt_of_le hb1 HV.out.size
                  have lb2 : b2 < wr.heap.size := Nat.lt_of_lt_of_le hb2 HV.out.size
                  have i3 : (r1.length : Int) ≤ (qr : Int) := by omega
                  have i4 : (r2.length : Int) ≤ (qs : Int) := by omega
                  have hrn := OK.out.run k j hlt (by rw [HR2.out]; have := HRL.out; omega)
                  rw [HR1.out, HR2.out, HX.out, HXA.out, HXB.out] at hrn
                  have hba : befN r1 j ≤ xa := by
                    cases j with
                    | zero =>
                      show (0 : Int) ≤ xa
                      have := hrn.1
                      simp at this
                      exact this
                    | succ j =>
                      have h1 := (OK.out.ord k j hlt (by rw [HR2.out]; have := HRL.out; omega)).1
                      rw [HR1.out, HXA.out] at h1
                      exact h1
                  have hbb : befN r2 j ≤ xb := by
                    cases j with
                    | zero =>
                      show (0 : Int) ≤ xb
                      have := hrn.1
                      have := hrn.2.1
                      simp at *
                      omega
                    | succ j =>
                      have h1 := (OK.out.ord k j hlt (by rw [HR2.out]; have := HRL.out; omega)).2
                      rw [HR2.out, HXB.out] at h1
                      exact h1
                  obtain ⟨p, hp⟩ : ∃ z, (j : Int) * s.e = z := ⟨_, rfl⟩
                  rw [hp] at hrn
                  have hp0 : 0 ≤ p := by rw [← hp]; exact Int.mul_nonneg (by omega) (by omega)
                  have hp1 : p ≤ 500 * 100000 := by rw [← hp]; exact Int.mul_le_mul (by omega) hs2 (by omega) (by omega)
                  have w1 : IntKind.i64.wrap p = p := IntWalk.i64_in _ (by omega)
                  have w2 : IntKind.i64.wrap (p + s.r) = p + s.r := IntWalk.i64_in _ (by omega)
                  obtain ⟨ba, hbae⟩ : ∃ z, befN r1 j = z := ⟨_, rfl⟩
                  obtain ⟨bb, hbbe⟩ : ∃ z, befN r2 j = z := ⟨_, rfl⟩
                  rw [hbae] at hba ⊢
                  rw [hbbe] at hbb ⊢
                  have d1 : decide (xa < p) = false := by simp; omega
                  have d2 : decide (xa < ba) = false := by simp; omega
                  have d3 : decide (xb ≤ xa) = false := by simp; omega
                  have d4 : decide (xb < bb) = false := by simp; omega
                  have d5 : decide (p + s.r < xb) = false := by simp; omega
                  have HSB6 := hide (HSB.out.to HV.out)
                  have c0 := cellOf HSB6.out 0; have c1 := cellOf HSB6.out 1; have c2 := cellOf HSB6.out 2; have c3 := cellOf HSB6.out 3
                  have hlc := box_lt HSB6.out
                  have hn1 : Hid (befN r1 (j + 1) = xa) := HXA
                  have hn2 : Hid (befN r2 (j + 1) = xb) := HXB
                  clear hrn hba hbb hbae hbbe hq3 hq4
                  go_upto_region 27 with (fail)
                  refine wp_region_held_drew (S := (fun w' => Below wr.heap.size wr w')) (by kernel_rfl) ?_ (fun hHeld => ?_)
                  · try dsimp only
                    exact (by repeat (first | exact Below.refl _ _ | assumption | refine Below.drew ?_ | refine Below.drewN ?_ _ | refine Below.allocT ?_ (Nat.le_refl _) _ | refine Below.setCell ?_ (by simp <;> omega) _ | refine Below.to ?_ (by assumption) (Nat.le_refl _)))
                  refine zT 0 rfl ?_
                  refine zT 1 rfl ?_
                  refine zT 2 rfl ?_
                  refine zT 3 rfl ?_
                  refine zT 4 rfl ?_
                  refine zT 5 rfl ?_
                  refine zT 6 rfl ?_
                  refine zT 7 rfl ?_
                  refine zT 8 rfl ?_
                  refine zT 9 rfl ?_
                  refine zT 10 rfl ?_
                  refine zT 11 rfl ?_
                  refine zT 12 rfl ?_
                  refine zT 13 rfl ?_
                  refine zT 14 rfl ?_
                  refine zT 15 rfl ?_
                  refine wpAnyH_done (by kernel_rfl) ?_ _
                  have HV6 := hide (Below.to HV.out hHeld (Nat.le_refl _))
                  have HSB7 := hide (HSB6.out.to hHeld)
                  clear hHeld c0 c1 c2 c3 hlc g3 g4 f1' f2' lb1 lb2
                  have c0 := cellOf HSB7.out 0; have c1 := cellOf HSB7.out 1; have c2 := cellOf HSB7.out 2; have c3 := cellOf HSB7.out 3
                  have hlc := box_lt HSB7.out
                  go_wp2_with fail
                  go_roundw
                  case rel => exact ⟨j + 1, by go_num, by rw [hn1.out], by rw [hn2.out], by omega, HV6.out⟩
                  case measure => simp [intOf]; omega
end Go.Proofs.Ytmgfijadjclmpaa
/- Runs of a chain of steps, and how old a value is at its end: plain laws. -/
namespace Go.Proofs.Ytmgfijadjclmpaa
set_option linter.unusedVariables false
set_option linter.unusedSimpArgs false
/-- The last of the first m ends that is not behind a time; -1: there is none. -/
def lastR (e : Nat → Int) (t : Int) : Nat → Int
  | 0 => -1
  | m + 1 => if e m ≤ t then m else lastR e t m
theorem lastR_cases (e : Nat → Int) (t : Int) : ∀ m : Nat, (lastR e t m = -1 ∧ ∀ j, j < m → t < e j) ∨ ∃ r : Nat, r < m ∧ lastR e t m = r ∧ e r ≤ t ∧ ∀ j, r < j → j < m → t < e j
  | 0 => .inl ⟨rfl, fun j hj => by omega⟩
  | m + 1 => by
    show (lastR e t (m + 1) = -1 ∧ _) ∨ _
    by_cases h : e m ≤ t
    · refine .inr ⟨m, by omega, ?_, h, fun j h1 h2 => by omega⟩
      show (if e m ≤ t then (m : Int) else lastR e t m) = m
      rw [if_pos h]
    · have e1 : lastR e t (m + 1) = lastR e t m := by
        show (if e m ≤ t then (m : Int) else lastR e t m) = _
        rw [if_neg h]
      rw [e1]
      rcases lastR_cases e t m with ⟨h1, h2⟩ | ⟨r, h1, h2, h3, h4⟩
      · refine .inl ⟨h1, fun j hj => ?_⟩
        rcases Nat.lt_or_ge j m with h5 | h5
        · exact h2 j h5
        · have : j = m := by omega
          subst this
          omega
      · refine .inr ⟨r, by omega, h2, h3, fun j h5 h6 => ?_⟩
        rcases Nat.lt_or_ge j m with h7 | h7
        · exact h4 j h5 h7
        · have : j = m := by omega
          subst this
          omega
/-- From run r of step i back to a run of step 0. a, b: starts and ends; n: how many. -/
def runN (a b : Nat → Nat → Int) (n : Nat → Nat) : Nat → Int → Int
  | 0, r => r
  | i + 1, r => if r < 0 then r else runN a b n i (lastR (b i) (a (i + 1) r.toNat) (n i))
theorem runN_neg (a b : Nat → Nat → Int) (n : Nat → Nat) (i : Nat) {r : Int} (h : r < 0) : runN a b n i r = r := by
  cases i with
  | zero => rfl
  | succ i => exact if_pos h
/-- How old the value is that run k of the last step hands on. -/
def ageN (a b : Nat → Nat → Int) (n : Nat → Nat) (m k : Nat) : Int := if runN a b n m k < 0 then -1 else b m k - a 0 (runN a b n m k).toNat
theorem age_bound {a b : Nat → Nat → Int} {n : Nat → Nat} {E R : Nat → Int} {m : Nat} (hE : ∀ i, i ≤ m → 1 ≤ E i) (hR : ∀ i, i ≤ m → 1 ≤ R i) (hlo : ∀ i k, i ≤ m → k < n i → (k : Int) * E i ≤ a i k) (hhi : ∀ i k, i ≤ m → k < n i → b i k ≤ (k : Int) * E i + R i)
    (hen : ∀ i k, i < m → k < n (i + 1) → a (i + 1) k < E i * n i + R i) {k : Nat} (hk : k < n m) : ageN a b n m k ≤ sumI (fun i => R i + E i - 1) m + R m := by
  have key : ∀ i, i ≤ m → ∀ r : Nat, r < n i → runN a b n i r < 0 ∨ ∃ z : Nat, runN a b n i r = z ∧ z < n 0 ∧ a i r ≤ a 0 z + sumI (fun i => R i + E i - 1) i := by
    intro i
    induction i with
    | zero =>
      intro _ r hr
      refine .inr ⟨r, rfl, hr, ?_⟩
      show _ ≤ _ + (0 : Int)
      omega
    | succ i ih =>
      intro hi r hr
      have e1 : runN a b n (i + 1) r = runN a b n i (lastR (b i) (a (i + 1) r) (n i)) := by
        show (if (r : Int) < 0 then (r : Int) else runN a b n i (lastR (b i) (a (i + 1) (r : Int).toNat) (n i))) = _
        rw [if_neg (by omega), Int.toNat_natCast]
      rw [e1]
      rcases lastR_cases (b i) (a (i + 1) r) (n i) with ⟨h1, _⟩ | ⟨s, h1, h2, h3, h4⟩
      · rw [h1]
        exact .inl (by rw [runN_neg _ _ _ _ (by omega)]; omega)
      · rw [h2]
        rcases ih (by omega) s h1 with h5 | ⟨z, h5, h6, h7⟩
        · exact .inl h5
        · refine .inr ⟨z, h5, h6, ?_⟩
          show _ ≤ _ + (sumI (fun i => R i + E i - 1) i + (R i + E i - 1))
          have h8 := hlo i s (by omega) h1
          have h9 : a (i + 1) r < ((s : Int) + 1) * E i + R i := by
            rcases Nat.lt_or_ge (s + 1) (n i) with h10 | h10
            · have h11 := h4 (s + 1) (by omega) h10
              have h12 := hhi i (s + 1) (by omega) h10
              rw [show ((s + 1 : Nat) : Int) = (s : Int) + 1 by omega] at h12
              omega
            · have h11 := hen i r (by omega) hr
              have h12 : (n i : Int) = (s : Int) + 1 := by omega
              rw [h12, Int.mul_comm] at h11
              exact h11
          rw [Int.add_mul] at h9
          omega
  unfold ageN
  rcases key m (Nat.le_refl _) k hk with h1 | ⟨z, h1, h2, h3⟩
  · rw [if_pos h1]
    have h4 := hR m (Nat.le_refl _)
    have h5 : 0 ≤ sumI (fun i => R i + E i - 1) m := sumI_nonneg fun i hi => by
      have := hE i (by omega)
      have := hR i (by omega)
      omega
    omega
  · rw [h1, if_neg (by omega), Int.toNat_natCast]
    have h4 := hlo m k (Nat.le_refl _) hk
    have h5 := hhi m k (Nat.le_refl _) hk
    omega
end Go.Proofs.Ytmgfijadjclmpaa

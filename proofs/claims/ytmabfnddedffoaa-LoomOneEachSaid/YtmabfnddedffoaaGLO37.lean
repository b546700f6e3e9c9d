/- Part 37 of this claim's texts: walks and plain laws. -/
import Derived.Test.YtmabfnddedffoaaRows
import Derived.Test.YtmabfnddedffoaaGLO36
import Derived.Test.YtmabfnddedffoaaGLO34
import Derived.Laws.EntriesVeiled
import Derived.Deep.RegionHeld3
import Derived.Deep.DrawnRows
import Derived.Test.YtmabfnddedffoaaGLO31
import Derived.Test.YtmabfnddedffoaaGLO20
import Derived.Test.YtmabfnddedffoaaGLO9
import Derived.Test.YtmabfnddedffoaaGLO1
/- Distance: walks. -/
namespace Go.Proofs.Ytmabfnddedffoaa
open Go.RowKit
set_option linter.unusedVariables false
set_option linter.unusedSimpArgs false
def disB (l : Lo) (a b : Int) : Bool := btw a 0 ((l.ss.length : Int) - 1) && btw b 0 ((l.ss.length : Int) - 1)
def disE (l : Lo) (a b : Int) : Int := havE l (disB l a b)
open Classical in
noncomputable def disN (l : Lo) (a b : Int) : Int := if disE l a b = 0 then distN l.rs (runLen l) a.toNat b.toNat else 0
set_option maxRecDepth 100000 in
set_option maxHeartbeats 1000000 in
theorem dist1_any (a : Int) (A0 A1 A2 A3 A4 A5 : Option Addr) (q0 q1 q2 q3 q4 q5 : Nat) (l : Lo) (lb : Nat) (w : World) (hm : l.ss.length ≤ maxLen) (h : LoBox w lb A0 A1 A2 A3 A4 A5 q0 q1 q2 q3 q4 q5 l) :
    Calls Try.prog 87 #[.int .i64 a, .pointer (some ⟨lb, 0, none⟩)] w fun e w' => e = .returned (.bool (btw a 0 ((l.ss.length : Int) - 1))) ∧ Below w.heap.size w w' := by
  have c2 := cellOf h 2
  have hlb := box_lt h
  unfold maxLen at hm
  obtain ⟨z, hz⟩ : ∃ z, btw a 0 ((l.ss.length : Int) - 1) = z := ⟨_, rfl⟩
  rw [hz]
  have HB := hide hz
  clear h hz
  go_enter Try.func87, Try.ntmps87
  go_wp2_with (go_at_call 54; refine (withinB_any _ _ _ _ _ HB.out).mono ?_; rintro e w1 ⟨rfl, rfl⟩)
  go_ret
  exact ⟨rfl, Below.refl _ _⟩
set_option maxRecDepth 100000 in
set_option maxHeartbeats 1000000 in
theorem dist2_any (a b : Int) (A0 A1 A2 A3 A4 A5 : Option Addr) (q0 q1 q2 q3 q4 q5 : Nat) (l : Lo) (n fb ab bb : Nat) (w : World) (hm : l.ss.length ≤ maxLen) (hf : w.heap[fb]? = some (.cells #[.func (.func 87) #[] #[.pointer (some ⟨n, 0, none⟩)]] 94 (0, 0))) (hab : w.heap[ab]? = some (.cells #[.int .i64 a] 3 (0, 0))) (hbb : w.heap[bb]? = some (.cells #[.int .i64 b] 3 (0, 0))) (h : LoBox w n A0 A1 A2 A3 A4 A5 q0 q1 q2 q3 q4 q5 l) :
    Calls Try.prog 88 #[.pointer (some ⟨fb, 0, none⟩), .pointer (some ⟨ab, 0, none⟩), .pointer (some ⟨bb, 0, none⟩)] w fun e w' => e = .returned (.bool (disB l a b)) ∧ Below w.heap.size w w' := by
  have c0 := cellOf hf 0
  have d0 := cellOf hab 0
  have e0 := cellOf hbb 0
  have l0 := box_lt hf
  have l1 := box_lt hab
  have l2 := box_lt hbb
  have H := hide h
  have HF := hide hf
  have HBB := hide hbb
  unfold disB
  cases hz : btw a 0 ((l.ss.length : Int) - 1) with
  | false =>
    have HZ := hide hz
    clear h hf hab hbb hz
    go_enter Try.func88, Try.ntmps88
    go_wp2_with (go_at_call 87; refine (dist1_any a A0 A1 A2 A3 A4 A5 q0 q1 q2 q3 q4 q5 l n _ hm H.out).mono ?_; rw [HZ.out]; rintro e w1 ⟨rfl, hB1⟩; have HB1 := hide hB1; clear hB1 c0 d0 e0 l0 l1 l2)
    go_ret
    exact ⟨rfl, HB1.out⟩
  | true =>
    obtain ⟨y, hy⟩ : ∃ y, btw b 0 ((l.ss.length : Int) - 1) = y := ⟨_, rfl⟩
    rw [hy, Bool.true_and]
    have HZ := hide hz
    have HY := hide hy
    clear h hf hab hbb hz hy
    go_enter Try.func88, Try.ntmps88
    go_wp2_with (first | (go_at_call 87; have hgd := HB1; clear hgd; refine (dist1_any b A0 A1 A2 A3 A4 A5 q0 q1 q2 q3 q4 q5 l n _ hm (box_to H.out HB1.out)).mono ?_; rw [HY.out]; rintro e w2 ⟨rfl, hB2⟩; have HB2 := hide (Below.to HB1.out hB2 (Nat.le_refl _)); clear hB2 c1 e1 m0 m2) | (go_at_call 87; refine (dist1_any a A0 A1 A2 A3 A4 A5 q0 q1 q2 q3 q4 q5 l n _ hm H.out).mono ?_; rw [HZ.out]; rintro e w1 ⟨rfl, hB1⟩; have c1 := cellOf (box_to HF.out hB1) 0; have e1 := cellOf (box_to HBB.out hB1) 0; have m0 := box_lt (box_to HF.out hB1); have m2 := box_lt (box_to HBB.out hB1); have HB1 := hide hB1; clear hB1 c0 d0 e0 l0 l1 l2))
    go_ret
    exact ⟨rfl, HB2.out⟩
set_option maxRecDepth 100000 in
set_option maxHeartbeats 1000000 in
theorem have_distance (p0 p1 p2 : Value) (b : Bool) (A0 A1 A2 A3 A4 A5 : Option Addr) (q0 q1 q2 q3 q4 q5 : Nat) (l : Lo) (w : World) (hs : SizedL l) (h : LoA w w.heap.size A0 A1 A2 A3 A4 A5 q0 q1 q2 q3 q4 q5 l)
    (hf : l.err = 0 → ∀ W, Below w.heap.size w W → Calls Try.prog 88 #[p0, p1, p2] W fun e w' => e = .returned (.bool b) ∧ Below W.heap.size W w') :
    Calls Try.prog 82 #[.agg #[.slice A0 l.m.opts.length q0, .slice A1 l.m.rules.length q1, .slice A2 l.ss.length q2, .slice A3 l.us.length q3, .slice A4 l.ps.length q4, .slice A5 l.ws.length q5], .func (.func 88) #[] #[p0, p1, p2]] w fun e w' => e = .returned (.int .i64 (havE l b)) ∧ Below w.heap.size w w' := by
  have H := hide h
  have HF := hide hf
  obtain ⟨z, hz⟩ : ∃ z, l.err = z := ⟨_, rfl⟩
  have HZ := hide hz
  clear h hf
  by_cases hz0 : z = 0
  · subst hz0
    have hr : havE l b = mustE b 1 := by unfold havE; rw [hz]; rfl
    rw [hr]
    have hf := HF.out hz
    have HF2 := hide hf
    clear hf hz hr
    go_enter Try.func82, Try.ntmps82
    go_upto_region 1 with (fail)
    generalize hw0 : World.alloc _ _ = w0
    obtain ⟨hb0, hB0, hs0⟩ := alloc1 hw0
    have c0 := cellOf hb0 0; have c1 := cellOf hb0 1; have c2 := cellOf hb0 2; have c3 := cellOf hb0 3; have c4 := cellOf hb0 4; have c5 := cellOf hb0 5
    have hlb := box_lt hb0
    have hck := Check_any A0 A1 A2 A3 A4 A5 q0 q1 q2 q3 q4 q5 l w0 hs (H.out.up hB0)
    rw [HZ.out] at hck
    have HCK := hide hck
    have HB0 := hide hB0
    clear hw0 hb0 hB0 hs0 hck
    go_wp2_with (first | (go_at_call 17; refine HCK.out.mono ?_; rintro e w1 ⟨rfl, hB1⟩; have HB1 := hide (Below.to HB0.out hB1 (Nat.le_refl _)); clear hB1 c0 c1 c2 c3 c4 c5 hlb) | (go_at_call 88; refine (HF2.out _ HB1.out).mono ?_; rintro e w2 ⟨rfl, hB2⟩; have HB2 := hide (Below.to HB1.out hB2 (Nat.le_refl _)); clear hB2) | (go_at_call 57; refine (must_any _ _ _).mono ?_; rintro e w3 ⟨rfl, rfl⟩))
    go_ret
    exact ⟨rfl, HB2.out⟩
  · have hr : havE l b = z := by unfold havE; rw [hz, if_pos hz0]
    have hz1 : (z != 0) = true := by simpa using hz0
    rw [hr]
    clear hz hr hz0
    go_enter Try.func82, Try.ntmps82
    go_upto_region 1 with (fail)
    generalize hw0 : World.alloc _ _ = w0
    obtain ⟨hb0, hB0, hs0⟩ := alloc1 hw0
    have c0 := cellOf hb0 0; have c1 := cellOf hb0 1; have c2 := cellOf hb0 2; have c3 := cellOf hb0 3; have c4 := cellOf hb0 4; have c5 := cellOf hb0 5
    have hlb := box_lt hb0
    have hck := Check_any A0 A1 A2 A3 A4 A5 q0 q1 q2 q3 q4 q5 l w0 hs (H.out.up hB0)
    rw [HZ.out] at hck
    have HCK := hide hck
    have HB0 := hide hB0
    clear hw0 hb0 hB0 hs0 hck
    go_wp2_with (go_at_call 17; refine HCK.out.mono ?_; rintro e w1 ⟨rfl, hB1⟩; have HB1 := hide (Below.to HB0.out hB1 (Nat.le_refl _)); clear hB1 c0 c1 c2 c3 c4 c5 hlb)
    go_ret
    exact ⟨rfl, HB1.out⟩

end Go.Proofs.Ytmabfnddedffoaa
/- Distance, both: walks. -/
namespace Go.Proofs.Ytmabfnddedffoaa
open Go.RowKit
set_option linter.unusedVariables false
set_option linter.unusedSimpArgs false
theorem disE_ok {l : Lo} {a b : Int} (h : disE l a b = 0) : LoOk l ∧ 0 ≤ a ∧ a < (l.ss.length : Int) ∧ 0 ≤ b ∧ b < (l.ss.length : Int) := by
  obtain ⟨h1, h2⟩ := havE_ok h
  unfold disB at h2
  rw [Bool.and_eq_true] at h2
  obtain ⟨h3, h4⟩ := btw_iff.1 h2.1
  obtain ⟨h5, h6⟩ := btw_iff.1 h2.2
  exact ⟨h1, h3, by omega, h5, by omega⟩
theorem disN_err {l : Lo} {a b : Int} (h : disE l a b ≠ 0) : disN l a b = 0 := by unfold disN; rw [if_neg h]
theorem disN_ok {l : Lo} {a b : Int} (h : disE l a b = 0) : disN l a b = distN l.rs (runLen l) a.toNat b.toNat := by unfold disN; rw [if_pos h]
set_option maxRecDepth 100000 in
set_option maxHeartbeats 4000000 in
theorem Distance_any (a b : Int) (A0 A1 A2 A3 A4 A5 : Option Addr) (q0 q1 q2 q3 q4 q5 : Nat) (l : Lo) (w : World) (hs : SizedL l) (h : LoA w w.heap.size A0 A1 A2 A3 A4 A5 q0 q1 q2 q3 q4 q5 l) :
    Calls Try.prog 26 #[.agg #[.slice A0 l.m.opts.length q0, .slice A1 l.m.rules.length q1, .slice A2 l.ss.length q2, .slice A3 l.us.length q3, .slice A4 l.ps.length q4, .slice A5 l.ws.length q5], .int .i64 a, .int .i64 b] w (FilP (disN l a b) (disE l a b) w) := by
  have H := hide h
  have HS := hide hs
  have hu := hs.s
  obtain ⟨z, hz⟩ : ∃ z, disE l a b = z := ⟨_, rfl⟩
  obtain ⟨nn, hnn⟩ : ∃ z, disN l a b = z := ⟨_, rfl⟩
  rw [hz, hnn]
  have HZ := hide hz
  clear h hs
  go_enter Try.func26, Try.ntmps26
  go_upto_region 1 with (fail)
  generalize hw0 : World.alloc _ _ = w0
  obtain ⟨hb0, hb1, hb2, hB0, hs0⟩ := alloc3x hw0
  clear hw0 hs0
  go_upto_region 2 with (fail)
  generalize hw1 : World.alloc _ _ = w1
  obtain ⟨hb3, hB3, hs3⟩ := alloc1 hw1
  have hb0 := box_to hb0 hB3
  have hb1 := box_to hb1 hB3
  have hb2 := box_to hb2 hB3
  have c0 := cellOf hb0 0; have c1 := cellOf hb0 1; have c2 := cellOf hb0 2; have c3 := cellOf hb0 3; have c4 := cellOf hb0 4; have c5 := cellOf hb0 5
  have hlb := box_lt hb0
  have hB1 := Below.to hB0 hB3 (Nat.le_refl _)
  have hhv := have_distance (.pointer (some ⟨w0.heap.size, 0, none⟩)) (.pointer (some ⟨w.heap.size + 1, 0, none⟩)) (.pointer (some ⟨w.heap.size + 2, 0, none⟩)) (disB l a b) A0 A1 A2 A3 A4 A5 q0 q1 q2 q3 q4 q5 l w1 HS.out (H.out.up hB1) (fun _ W hW => dist2_any a b A0 A1 A2 A3 A4 A5 q0 q1 q2 q3 q4 q5 l _ _ _ _ W hu (box_to hb3 hW) (box_to hb1 hW) (box_to hb2 hW) (LoBox.to hb0 hW))
  rw [show havE l (disB l a b) = z from HZ.out] at hhv
  have HHV := hide hhv
  have HB1 := hide hB1
  have HL1 : Hid (LoBox w1 w.heap.size A0 A1 A2 A3 A4 A5 q0 q1 q2 q3 q4 q5 l) := hb0
  have HA1 := hide hb1
  have HBB1 := hide hb2
  clear hw1 hb0 hb1 hb2 hb3 hB0 hB1 hB3 hs3 hhv
  by_cases hz0 : z = 0
  case neg =>
    rw [disN_err (by rw [hz]; exact hz0)] at hnn
    subst hnn
    have hz1 : (z != 0) = true := by simpa using hz0
    clear hz hz0
    go_wp2_with (go_at_call 82; refine HHV.out.mono ?_; rintro e w2 ⟨rfl, hB2⟩; have HB2 := hide (Below.to HB1.out hB2 (Nat.le_refl _)); clear hB2)
    go_ret2
    exact ⟨rfl, HB2.out⟩
  case pos =>
  subst hz0
  obtain ⟨ok, a0, a1, b0, b1⟩ := disE_ok hz
  have hN := disN_ok hz
  obtain ⟨ka, rfl⟩ := Int.eq_ofNat_of_zero_le a0
  obtain ⟨kb, rfl⟩ := Int.eq_ofNat_of_zero_le b0
  rw [Int.toNat_natCast, Int.toNat_natCast] at hN
  rw [hN] at hnn
  subst hnn
  have OK := hide ok
  have ha : ka < l.ss.length := by omega
  have hb : kb < l.ss.length := by omega
  clear hz hN ok a0 b0 a1 b1
  go_wp2_with (first | (go_at_call 82; refine HHV.out.mono ?_; rintro e w2 ⟨rfl, hB2⟩; have d0 := cellOf (HL1.out.to hB2) 0; have d1 := cellOf (HL1.out.to hB2) 1; have d2 := cellOf (HL1.out.to hB2) 2; have d3 := cellOf (HL1.out.to hB2) 3; have d4 := cellOf (HL1.out.to hB2) 4; have d5 := cellOf (HL1.out.to hB2) 5; have f0 := cellOf (box_to HA1.out hB2) 0; have g0 := cellOf (box_to HBB1.out hB2) 0; have ld := box_lt (HL1.out.to hB2); have lf := box_lt (box_to HA1.out hB2); have lg := box_lt (box_to HBB1.out hB2); have HB2 := hide (Below.to HB1.out hB2 (Nat.le_refl _)); clear hB2 c0 c1 c2 c3 c4 c5 hlb) | (go_at_call 89; refine (distance_any ka kb A0 A1 A2 A3 A4 A5 q0 q1 q2 q3 q4 q5 l _ (H.out.up HB2.out) OK.out ha hb).mono ?_; rintro e w3 ⟨rfl, hB3⟩; have HB3 := hide (Below.to HB2.out hB3 (Nat.le_refl _)); clear hB3))
  go_ret2
  exact ⟨rfl, HB3.out⟩
end Go.Proofs.Ytmabfnddedffoaa
/- Given spots, both: walks. -/
namespace Go.Proofs.Ytmabfnddedffoaa
open Go.RowKit
set_option linter.unusedVariables false
set_option linter.unusedSimpArgs false
theorem Ints.form {w : World} {B : Nat} {v : Value} {l : List Int} (h : Ints w B v l) : ∃ A cap, v = .slice A l.length cap := Sl.form h
theorem Ints.at {w : World} {B : Nat} {A : Option Addr} {m q : Nat} {S : List Int} (h : Ints w B (.slice A m q) S) {k : Nat} (hk : k < S.length) : ∃ b off x, Hid (S.getD k 0 = x) ∧ A = some ⟨b, off, none⟩ ∧ b < B ∧ S.length ≤ q ∧ w.cell? ⟨b, off + k, none⟩ = some (.int .i64 x) := by
  obtain ⟨h1, h6, b, off, h2, h3, h4⟩ := sl_at h hk
  have h5 := h4 0 (by omega)
  rw [Nat.mul_one, Nat.add_zero] at h5
  exact ⟨b, off, _, rfl, h2, h3, by omega, h5⟩
theorem Ints.cap {w : World} {B : Nat} {A : Option Addr} {m q : Nat} {S : List Int} (h : Ints w B (.slice A m q) S) : S.length ≤ q := by
  obtain ⟨A', b, off, cap, h1, h2, _⟩ := h
  injection h1 with e1 e2 e3
  omega
def badS (l : Lo) (t : Int) : Bool := !btw t 0 ((l.ss.length : Int) - 1)
def givB (l : Lo) (ts : List Int) : Bool := btw ts.length 1 40 && !(ts.any (badS l))
def givE (l : Lo) (ts : List Int) : Int := havE l (givB l ts)
theorem givE_ok {l : Lo} {ts : List Int} (h : givE l ts = 0) : LoOk l ∧ 1 ≤ ts.length ∧ ts.length ≤ 40 ∧ ∀ t ∈ ts, 0 ≤ t ∧ t < (l.ss.length : Int) := by
  obtain ⟨h1, h2⟩ := havE_ok h
  unfold givB at h2
  rw [Bool.and_eq_true, Bool.not_eq_true', List.any_eq_false] at h2
  obtain ⟨h3, h4⟩ := btw_iff.1 h2.1
  refine ⟨h1, by omega, by omega, fun t ht => ?_⟩
  have h5 := h2.2 t ht
  unfold badS at h5
  have h6 : btw t 0 ((l.ss.length : Int) - 1) = true := by simpa using h5
  obtain ⟨h7, h8⟩ := btw_iff.1 h6
  omega
set_option maxRecDepth 100000 in
set_option maxHeartbeats 1000000 in
theorem given1_any (t : Int) (A0 A1 A2 A3 A4 A5 : Option Addr) (q0 q1 q2 q3 q4 q5 : Nat) (l : Lo) (lb : Nat) (w : World) (hm : l.ss.length ≤ maxLen) (h : LoBox w lb A0 A1 A2 A3 A4 A5 q0 q1 q2 q3 q4 q5 l) :
    Calls Try.prog 141 #[.int .i64 t, .pointer (some ⟨lb, 0, none⟩)] w fun e w' => e = .returned (.bool (badS l t)) ∧ Below w.heap.size w w' := by
  have c2 := cellOf h 2
  have hlb := box_lt h
  unfold maxLen at hm
  obtain ⟨z, hz⟩ : ∃ z, btw t 0 ((l.ss.length : Int) - 1) = z := ⟨_, rfl⟩
  have hb : badS l t = !z := by unfold badS; rw [hz]
  rw [hb]
  have HB := hide hz
  clear h hz hb
  go_enter Try.func141, Try.ntmps141
  go_wp2_with (go_at_call 54; refine (withinB_any _ _ _ _ _ HB.out).mono ?_; rintro e w1 ⟨rfl, rfl⟩)
  go_ret
  exact ⟨rfl, Below.refl _ _⟩
set_option maxRecDepth 100000 in
theorem index_given (p : Int → Bool) (c0 : Value) (v : Value) (gs : List Int) (w : World) (hm : gs.length ≤ maxLen) (h : Ints w w.heap.size v gs)
    (hf : ∀ (i : Nat) (x : Int)  (W : World), i < gs.length → gs.getD i 0 = x → Below w.heap.size w W → Calls Try.prog 141 #[.int .i64 x, c0] W fun e w' => e = .returned (.bool (p x)) ∧ Below W.heap.size W w') :
    Calls Try.prog 143 #[v, .func (.func 141) #[] #[c0]] w fun e w' => e = .returned (.int .i64 (idxI p gs)) ∧ Below w.heap.size w w' := by
  unfold maxLen at hm
  obtain ⟨A, cap, rfl⟩ := Ints.form h
  have H := hide h; clear h
  have HF := hide hf; clear hf
  go_enter Try.func143, Try.ntmps143
  go_wp2
  go_loopw [5, 8] (fun _ i wr => ∃ k : Nat, k ≤ gs.length ∧ i = .int .i64 k ∧ Hid (∀ j, j < k → p (gs.getD j 0) = false) ∧ Below w.heap.size w wr) (fun _ i _ => gs.length - (intOf i).toNat)
  case atStart => exact ⟨0, Nat.zero_le _, rfl, fun j hj => by omega, Below.refl _ _⟩
  case round =>
    obtain ⟨k, hk, rfl, hz, hB⟩ := hrel
    by_cases hlt : k < gs.length
    · obtain ⟨b, off, x, HX, rfl, hbb, hq, e0⟩ := Ints.at (H.out.below hB) hlt
      have hf := fun W (hW : Below w.heap.size w W) => HF.out k x  W hlt HX.out hW
      have HF2 := hide hf
      have HB := hide hB
      clear hf
      by_cases hp : p x = true
      · have HP := hide hp
        clear hp
        go_wp2_with (go_at_call 141; refine (HF2.out _ hB).mono ?_; rw [HP.out]; rintro e w1 ⟨rfl, hB1⟩)
        go_ret
        exact ⟨ret_int (idxI_at p 0 gs k hz.out hlt (by rw [HX.out]; exact HP.out)).symm, Below.to HB.out hB1 (Nat.le_refl _)⟩
      · have hp' : p x = false := by simpa using hp
        have HP := hide hp'
        clear hp hp'
        go_wp2_with (go_at_call 141; refine (HF2.out _ hB).mono ?_; rw [HP.out]; rintro e w1 ⟨rfl, hB1⟩)
        go_roundw
        case rel => exact ⟨k + 1, by omega, by go_num, fun j hj => by
            rcases Nat.lt_or_ge j k with h | h
            · exact hz.out j h
            · rw [show j = k from by omega, HX.out]; exact HP.out, Below.to HB.out hB1 (Nat.le_refl _)⟩
        case measure => simp [intOf]; omega
    · go_wp2
      go_ret
      exact ⟨ret_int (idxI_none p 0 gs (fun j hj => hz.out j (by omega))).symm, hB⟩
set_option maxRecDepth 100000 in
theorem contains_given (p : Int → Bool) (c0 : Value) (v : Value) (gs : List Int) (w : World) (hm : gs.length ≤ maxLen) (h : Ints w w.heap.size v gs)
    (hf : ∀ (i : Nat) (x : Int)  (W : World), i < gs.length → gs.getD i 0 = x → Below w.heap.size w W → Calls Try.prog 141 #[.int .i64 x, c0] W fun e w' => e = .returned (.bool (p x)) ∧ Below W.heap.size W w') :
    Calls Try.prog 97 #[v, .func (.func 141) #[] #[c0]] w fun e w' => e = .returned (.bool (gs.any p)) ∧ Below w.heap.size w w' := by
  have hc := index_given p c0 v gs w hm h hf
  have he := idxI_any p gs
  have hlo := idxI_lo p gs
  have hhi := idxI_hi p gs
  obtain ⟨z, hz⟩ : ∃ z, idxI p gs = z := ⟨_, rfl⟩
  rw [hz] at hc he hlo hhi
  obtain ⟨A, cap, rfl⟩ := Ints.form h
  have HC := hide hc
  have HE := hide he
  unfold maxLen at hm
  have hz2 : z ≤ 9223372036854775807 := by omega
  clear hc he hz h hf
  go_enter Try.func97, Try.ntmps97
  go_wp2_with (go_at_call 143; refine HC.out.mono ?_; rintro e w1 ⟨rfl, hB1⟩)
  go_ret
  exact ⟨ret_bool HE.out, hB1⟩

set_option maxRecDepth 100000 in
set_option maxHeartbeats 1000000 in
theorem given_any (As : Option Addr) (qs : Nat) (ts : List Int) (A0 A1 A2 A3 A4 A5 : Option Addr) (q0 q1 q2 q3 q4 q5 : Nat) (l : Lo) (w : World) (hs : SizedL l) (hm : ts.length ≤ maxLen) (h : LoA w w.heap.size A0 A1 A2 A3 A4 A5 q0 q1 q2 q3 q4 q5 l) (hv : Ints w w.heap.size (.slice As ts.length qs) ts) :
    Calls Try.prog 93 #[.agg #[.slice A0 l.m.opts.length q0, .slice A1 l.m.rules.length q1, .slice A2 l.ss.length q2, .slice A3 l.us.length q3, .slice A4 l.ps.length q4, .slice A5 l.ws.length q5], .slice As ts.length qs] w fun e w' => e = .returned (.bool (givB l ts)) ∧ Below w.heap.size w w' := by
  have hu := hs.s
  have hm2 := hm
  unfold maxLen at hm2
  obtain ⟨z, hz⟩ : ∃ z, btw (ts.length : Int) 1 40 = z := ⟨_, rfl⟩
  obtain ⟨y, hy⟩ : ∃ y, ts.any (badS l) = y := ⟨_, rfl⟩
  have hr : givB l ts = (z && !y) := by unfold givB; rw [hz, hy]
  rw [hr]
  have HZ := hide hz
  have HY := hide hy
  have HV := hide hv
  clear hz hy hr hv
  cases z with
  | false =>
    go_enter Try.func93, Try.ntmps93
    go_upto_region 1 with (fail)
    generalize hw0 : World.alloc _ _ = w0
    obtain ⟨hb0, hB0, hs0⟩ := alloc1 hw0
    have HB0 := hide hB0
    clear hw0 hb0 hB0 hs0
    go_wp2_with (go_at_call 54; refine (withinB_any _ _ _ _ _ HZ.out).mono ?_; rintro e w1 ⟨rfl, rfl⟩)
    go_ret
    exact ⟨rfl, HB0.out⟩
  | true =>
    rw [Bool.true_and]
    go_enter Try.func93, Try.ntmps93
    go_upto_region 1 with (fail)
    generalize hw0 : World.alloc _ _ = w0
    obtain ⟨hb0, hB0, hs0⟩ := alloc1 hw0
    have hct := contains_given (badS l) (.pointer (some ⟨w.heap.size, 0, none⟩)) _ ts w0 hm (Ints.up HV.out hB0) (fun i x W _ _ hW => given1_any x A0 A1 A2 A3 A4 A5 q0 q1 q2 q3 q4 q5 l _ W hu (LoBox.to hb0 hW))
    rw [HY.out] at hct
    have HCT := hide hct
    have HB0 := hide hB0
    clear hw0 hb0 hB0 hs0 hct
    go_wp2_with (first | (go_at_call 54; refine (withinB_any _ _ _ _ _ HZ.out).mono ?_; rintro e w1 ⟨rfl, rfl⟩) | (go_at_call 97; refine HCT.out.mono ?_; rintro e w2 ⟨rfl, hB2⟩; have HB2 := hide (Below.to HB0.out hB2 (Nat.le_refl _)); clear hB2))
    go_ret
    exact ⟨rfl, HB2.out⟩
end Go.Proofs.Ytmabfnddedffoaa
/- What is known of distances, spot by spot: plain. -/
namespace Go.Proofs.Ytmabfnddedffoaa
set_option linter.unusedVariables false
set_option linter.unusedSimpArgs false
set_option linter.unusedSectionVars false
/-- All distances from spots below i, and those from i to some spots D. -/
noncomputable def meaM (l : Lo) (i : Nat) (D : List Nat) : Nat × Nat → Option Int := fun p => if (p.1 < i ∧ p.2 < l.ss.length) ∨ (p.1 = i ∧ p.2 ∈ D) then some (distN l.rs (runLen l) p.1 p.2) else none
theorem meaM_start (l : Lo) : meaM l 0 [] = fun _ => none := by
  funext p
  unfold meaM
  rw [if_neg (by simp)]
theorem meaM_self (l : Lo) (i : Nat) : putM (meaM l i []) (i, i) 0 = meaM l i [i] := by
  funext p
  obtain ⟨a, b⟩ := p
  unfold putM meaM
  by_cases h : (a, b) = (i, i)
  · injection h with h1 h2
    subst h1 h2
    rw [if_pos rfl, if_pos (.inr ⟨rfl, by simp⟩), distN_self]
  · rw [if_neg h]
    have h2 : ¬ (a = i ∧ b = i) := fun e => h (by rw [e.1, e.2])
    simp only [List.not_mem_nil, and_false, or_false, List.mem_singleton, h2]
theorem meaM_put (l : Lo) (i t : Nat) (D : List Nat) (x : Int) (hx : distN l.rs (runLen l) i t = x) : putM (meaM l i D) (i, t) x = meaM l i (D ++ [t]) := by
  funext p
  obtain ⟨a, b⟩ := p
  unfold putM meaM
  by_cases h : (a, b) = (i, t)
  · injection h with h1 h2
    subst h1 h2
    rw [if_pos rfl, if_pos (.inr ⟨rfl, by simp⟩), hx]
  · rw [if_neg h]
    have h2 : ¬ (a = i ∧ b = t) := fun e => h (by rw [e.1, e.2])
    have h3 : (a = i ∧ b ∈ D ++ [t]) ↔ (a = i ∧ b ∈ D) := by
      rw [List.mem_append, List.mem_singleton]
      exact ⟨fun q => ⟨q.1, q.2.resolve_right fun e => h2 ⟨q.1, e⟩⟩, fun q => ⟨q.1, .inl q.2⟩⟩
    simp only [h3]
theorem meaM_next (l : Lo) (i : Nat) (D : List Nat) (hD : ∀ b, b ∈ D ↔ b < l.ss.length) : meaM l i D = meaM l (i + 1) [] := by
  funext p
  obtain ⟨a, b⟩ := p
  unfold meaM
  have h : ((a < i ∧ b < l.ss.length) ∨ (a = i ∧ b ∈ D)) ↔ ((a < i + 1 ∧ b < l.ss.length) ∨ (a = i + 1 ∧ b ∈ ([] : List Nat))) := by
    rw [hD]
    constructor
    · rintro (h | h)
      · exact .inl ⟨by omega, h.2⟩
      · exact .inl ⟨by omega, h.2⟩
    · rintro (h | h)
      · rcases Nat.lt_or_ge a i with h1 | h1
        · exact .inl ⟨h1, h.2⟩
        · exact .inr ⟨by omega, h.2⟩
      · simp at h
  simp only [h]
theorem meaM_at (l : Lo) {a b : Nat} (ha : a < l.ss.length) (hb : b < l.ss.length) : meaM l l.ss.length [] (a, b) = some (distN l.rs (runLen l) a b) := by
  unfold meaM
  rw [if_pos (.inl ⟨ha, hb⟩)]
theorem meaM_in (l : Lo) (i x : Nat) (D : List Nat) (hx : x ∈ D) : meaM l i D (i, x) = some (distN l.rs (runLen l) i x) := by
  unfold meaM
  rw [if_pos (.inr ⟨rfl, hx⟩)]
theorem meaM_out (l : Lo) (i x : Nat) (D : List Nat) (hx : x ∉ D) : meaM l i D (i, x) = none := by
  unfold meaM
  rw [if_neg]
  rintro (h | h)
  · omega
  · exact hx h.2
/-- The list of all that is reached from a spot. -/
def outL (l : Lo) (i : Nat) : List Nat := stR l.rs (-1) i l.ss.length
section
variable {l : Lo} (ok : LoOk l)
include ok
theorem LoOk.out_mem {i : Nat} (hi : i < l.ss.length) (b : Nat) : b ∈ outL l i ↔ b < l.ss.length := by
  unfold outL
  have hlen : (stR l.rs (-1) i l.ss.length).length ≤ l.ss.length := stR_len hi ok.tree.lt _
  rw [stR_all hlen]
  constructor
  · exact fun h => rch_lt hi ok.tree.lt h
  · exact fun h => (ok.tree.all i hi).symm.trans (ok.tree.all b h)
theorem LoOk.out_len {i : Nat} (hi : i < l.ss.length) : (outL l i).length = l.ss.length := by
  unfold outL
  have hlen : (stR l.rs (-1) i l.ss.length).length ≤ l.ss.length := stR_len hi ok.tree.lt _
  exact (stR_full hi ok.tree.lt hlen).2 fun y hy => (ok.tree.all i hi).symm.trans (ok.tree.all y hy)
theorem LoOk.out_first (i : Nat) : (outL l i).getD 0 0 = i := stR_first ..
/-- A step of the measure. -/
theorem LoOk.out_step {i p k x t : Nat} (hp : p + 1 < (outL l i).length) (ht : (outL l i).getD (p + 1) 0 = t) (hx : x ∈ (outL l i).take (p + 1)) (hk : k < l.rs.length) (hi : Inc l.rs k x t) :
    distN l.rs (runLen l) i t = distN l.rs (runLen l) i x + runLen l k := by
  obtain ⟨q, hq, hq2, e⟩ := mem_take_getD hx
  subst ht
  rw [← e] at hi ⊢
  exact ok.tree.meas_step (runLen l) hp hq hk hi
/-- There is one. -/
theorem LoOk.out_some {i p t : Nat} (hp : p + 1 < (outL l i).length) (ht : (outL l i).getD (p + 1) 0 = t) : ∃ x k, x ∈ (outL l i).take (p + 1) ∧ k < l.rs.length ∧ Inc l.rs k x t := by
  obtain ⟨q, k, hq, hk, hi⟩ := stR_step l.rs i l.ss.length (Nat.succ_pos p) hp
  rw [show stR l.rs (-1) i l.ss.length = outL l i from rfl, ht] at hi
  refine ⟨_, k, ?_, hk, hi⟩
  have h1 : q < ((outL l i).take (p + 1)).length := by rw [List.length_take]; omega
  have h2 : ((outL l i).take (p + 1)).getD q 0 = (outL l i).getD q 0 := by simp [List.getD_eq_getElem?_getD, List.getElem?_take, hq]
  rw [← h2, List.getD_eq_getElem?_getD, List.getElem?_eq_getElem h1]
  exact List.getElem_mem h1
theorem LoOk.out_not {i p t : Nat} (hp : p + 1 < (outL l i).length) (ht : (outL l i).getD (p + 1) 0 = t) : t ∉ (outL l i).take (p + 1) := by
  intro h
  obtain ⟨q, hq, hq2, e⟩ := mem_take_getD h
  have := getD_inj (stR_nodup l.rs (-1) i l.ss.length) hq2 hp (e.trans ht.symm)
  omega
end
/-- What is known within a round: D, or D and t. -/
def KnS (D : List Nat) (t : Nat) (D' : List Nat) : Prop := D' = D ∨ D' = D ++ [t]
/-- Behind k runs: t is known if one of them leads to it from D. -/
def KnR (l : Lo) (D : List Nat) (t k : Nat) (D' : List Nat) : Prop := KnS D t D' ∧ ∀ j x, j < k → x ∈ D → Inc l.rs j x t → D' = D ++ [t]
/-- Behind q of the two ways of a run. -/
def KnW (l : Lo) (D : List Nat) (t k : Nat) (a b : Nat) (q : Nat) (D' : List Nat) : Prop := KnR l D t k D' ∧ (1 ≤ q → a ∈ D → b = t → D' = D ++ [t]) ∧ (2 ≤ q → b ∈ D → a = t → D' = D ++ [t])
theorem KnR.start (l : Lo) (D : List Nat) (t : Nat) : KnR l D t 0 D := ⟨.inl rfl, fun j x hj => by omega⟩
theorem KnW.start {l : Lo} {D D' : List Nat} {t k a b : Nat} (h : KnR l D t k D') : KnW l D t k a b 0 D' := ⟨h, fun q => by omega, fun q => by omega⟩
theorem KnW.next {l : Lo} {D D' : List Nat} {t k a b : Nat} (h : KnW l D t k a b 2 D') (hr : l.rs.getD k (0, 0) = (a, b)) : KnR l D t (k + 1) D' := by
  refine ⟨h.1.1, fun j x hj hx hi => ?_⟩
  rcases Nat.lt_or_ge j k with h1 | h1
  · exact h.1.2 j x h1 hx hi
  · rw [show j = k by omega] at hi
    rcases hi with hi | hi <;> rw [hr] at hi <;> injection hi with e1 e2
    · exact h.2.1 (by omega) (by rw [e1]; exact hx) e2
    · exact h.2.2 (by omega) (by rw [e2]; exact hx) e1
theorem KnW.all {l : Lo} {D : List Nat} {t k a b q : Nat} : KnW l D t k a b q (D ++ [t]) := ⟨⟨.inr rfl, fun _ _ _ _ _ => rfl⟩, fun _ _ _ => rfl, fun _ _ _ => rfl⟩
/-- The next way leads nowhere new. -/
theorem KnW.skip0 {l : Lo} {D D' : List Nat} {t k a b : Nat} (h : KnW l D t k a b 0 D') (hn : a ∉ D' ∨ b ≠ t ∨ t ∈ D') (htD : t ∉ D) : KnW l D t k a b (0 + 1) D' := by
  refine ⟨h.1, fun _ ha hb => ?_, fun q => by omega⟩
  rcases h.1.1 with e | e
  · subst e
    rcases hn with hn | hn | hn
    · exact absurd ha hn
    · exact absurd hb hn
    · exact absurd hn htD
  · exact e
theorem KnW.skip1 {l : Lo} {D D' : List Nat} {t k a b : Nat} (h : KnW l D t k a b 1 D') (hn : b ∉ D' ∨ a ≠ t ∨ t ∈ D') (htD : t ∉ D) : KnW l D t k a b (1 + 1) D' := by
  refine ⟨h.1, fun _ => h.2.1 (by omega), fun _ ha hb => ?_⟩
  rcases h.1.1 with e | e
  · subst e
    rcases hn with hn | hn | hn
    · exact absurd ha hn
    · exact absurd hb hn
    · exact absurd hn htD
  · exact e
end Go.Proofs.Ytmabfnddedffoaa

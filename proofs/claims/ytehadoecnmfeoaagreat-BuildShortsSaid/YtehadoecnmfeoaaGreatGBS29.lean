/- Part 29 of this claim's texts: walks and plain laws. -/
import Derived.Test.YtehadoecnmfeoaaGreatRows
import Derived.Test.YtehadoecnmfeoaaGreatGBS28
import Derived.Test.YtehadoecnmfeoaaGreatGBS27
import Derived.Test.YtehadoecnmfeoaaGreatGBS25
import Derived.Test.YtehadoecnmfeoaaGreatGBS9
import Derived.Deep.RegionHeld3
import Derived.Deep.DrawnRows
import Derived.Test.YtehadoecnmfeoaaGreatGBS3
set_option linter.unusedVariables false
set_option linter.unusedSimpArgs false
set_option linter.unusedSectionVars false
namespace Go.Proofs.YtehadoecnmfeoaaGreat
open Go.RowKit
def treE (l : Lo) : Int := if l.ss.length = 0 ∨ l.us.length + 1 ≠ l.ss.length then 61 else if l.us.all (Ru.ok l.ss) = false then 61 else if l.full = false then 61 else 0
theorem treE_len {l : Lo} (h : l.ss.length = 0 ∨ l.us.length + 1 ≠ l.ss.length) : treE l = 61 := by unfold treE; rw [if_pos h]
theorem treE_run {l : Lo} (h2 : l.us.all (Ru.ok l.ss) = false) : treE l = 61 := by unfold treE; split <;> simp_all
theorem treE_full {l : Lo} (h2 : l.full = false) : treE l = 61 := by unfold treE; split <;> simp_all
theorem treE_ok {l : Lo} (h : ¬ (l.ss.length = 0 ∨ l.us.length + 1 ≠ l.ss.length)) (h2 : l.us.all (Ru.ok l.ss) = true) (h3 : l.full = true) : treE l = 0 := by unfold treE; rw [if_neg h, if_neg (by simp [h2]), if_neg (by simp [h3])]
theorem all_not {α : Type} {z : α} {p : α → Bool} {l : List α} {k : Nat} (hk : k < l.length) (h : p (l.getD k z) = false) : l.all p = false := by
 rw [← Bool.not_eq_true, List.all_eq_true]
 intro q
 have := q (l.getD k z) (by rw [List.getD_eq_getElem?_getD, List.getElem?_eq_getElem hk]; exact List.getElem_mem hk)
 rw [h] at this
 cases this
theorem all_yes {α : Type} {z : α} {p : α → Bool} {l : List α} (h : ∀ j, j < l.length → p (l.getD j z) = true) : l.all p = true := by
 rw [List.all_eq_true]
 intro x hx
 obtain ⟨i, hi, rfl⟩ := List.mem_iff_getElem.1 hx
 have := h i hi
 rwa [List.getD_eq_getElem?_getD, List.getElem?_eq_getElem hi, Option.getD_some] at this
theorem alloc2d {w w0 : World} {o p : Obj} (h : ((w.alloc o).alloc p).drew = w0) : w0.heap[w.heap.size]? = some o ∧ w0.heap[w.heap.size + 1]? = some p ∧ Below w.heap.size w w0 ∧ w0.heap.size = w.heap.size + 2 := by
 subst h
 obtain ⟨h1, h2, h3, h4⟩ := alloc2 (w := w) (o := o) (p := p) rfl
 exact ⟨h1, h2, Below.drew h3, h4⟩
def MkAt (w : World) (b : Nat) (m : List Bool) : Prop := w.heap[b]? = some (.cells (m.map Value.bool).toArray 4 (0, 0))
theorem MkAt.cell {w : World} {b k : Nat} {m : List Bool} (h : MkAt w b m) (hk : k < m.length) : w.cell? ⟨b, k, none⟩ = some (.bool (m.getD k false)) := by
 rw [cellOf h]
 simp [hk]
theorem MkAt.set {w wz : World} {b k : Nat} {m : List Bool} {x : Bool} (h : MkAt w b m) (hz : w.setCell ⟨b, k, none⟩ (.bool x) = wz) : MkAt wz b (m.set k x) := by
 subst hz
 unfold MkAt
 rw [setCellOf h, List.setIfInBounds_toArray, List.map_set]
theorem MkAt.to {w w' : World} {b : Nat} {m : List Bool} (h : MkAt w b m) (hb : Below w.heap.size w w') : MkAt w' b m := box_to h hb
set_option maxRecDepth 100000 in
set_option maxHeartbeats 16000000 in
theorem tree_any (A0 A1 A2 A3 A4 A5 : Option Addr) (q0 q1 q2 q3 q4 q5 : Nat) (l : Lo) (w : World) (hs : SizedL l) (h : LoA w w.heap.size A0 A1 A2 A3 A4 A5 q0 q1 q2 q3 q4 q5 l) (hok : ∀ x ∈ l.ss, x.ok = true) (s40 : l.ss.length ≤ 40) (u40 : l.us.length ≤ 40) :
  Calls Tryz.prog 153 #[.agg #[.slice A0 l.m.opts.length q0, .slice A1 l.m.rules.length q1, .slice A2 l.ss.length q2, .slice A3 l.us.length q3, .slice A4 l.ps.length q4, .slice A5 l.ws.length q5]] w fun e w' => e = .returned (.int .i64 (treE l)) ∧ Below w.heap.size w w' := by
 obtain ⟨i1, hi1, jz0, jz1, jz2⟩ := info_parts infoBool
 have H := hide h
 have HOK := hide hok
 clear h hok hs
 go_enter Tryz.func153, Tryz.ntmps153
 go_upto_region 1 with (fail)
 generalize hw0 : World.alloc _ _ = w0
 obtain ⟨hb0, hB0, hs0⟩ := alloc1 hw0
 have HL0 : Hid (LoBox w0 w.heap.size A0 A1 A2 A3 A4 A5 q0 q1 q2 q3 q4 q5 l) := hb0
 have HB0 := hide hB0
 obtain ⟨c0, c1, c2, c3, c4, c5⟩ := zL hb0
 have hlb := box_lt hb0
 clear hw0 hb0 hB0 hs0
 by_cases hn0 : l.ss.length < 1
 ·
  have ht := treE_len (l := l) (.inl (by omega))
  have HT := hide ht
  have t0 : (l.ss.length : Int) < 1 := by omega
  clear ht hn0
  go_wp2_with fail
  go_ret
  exact ⟨ret_int HT.out.symm, HB0.out⟩
 have t0 : ¬ (l.ss.length : Int) < 1 := by omega
 have p0 : 0 < l.ss.length := by omega
 by_cases hlen : l.us.length + 1 = l.ss.length
 case neg =>
  have ht := treE_len (l := l) (.inr hlen)
  have HT := hide ht
  have t1 : ((l.us.length : Int) != (l.ss.length : Int) - 1) = true := by simp; omega
  clear ht hn0 hlen
  go_wp2_with fail
  go_ret
  exact ⟨ret_int HT.out.symm, HB0.out⟩
 case pos =>
 have t1 : ((l.us.length : Int) != (l.ss.length : Int) - 1) = false := by simp; omega
 have HLEN : Hid (¬ (l.ss.length = 0 ∨ l.us.length + 1 ≠ l.ss.length)) := by show ¬ _; omega
 clear hn0 hlen
 go_wp2_with fail
 clear c0 c1 c2 c3 c4 c5 hlb t0 t1
 go_loopw [3, 4, 5, 6, 7, 8, 9] (fun i _ _ _ _ _ _ wr => ∃ k : Nat, k ≤ l.us.length ∧ i = .int .i64 k ∧ Hid (∀ j, j < k → Ru.ok l.ss (l.us.getD j Ru.o) = true) ∧ Hid (LoBox wr w.heap.size A0 A1 A2 A3 A4 A5 q0 q1 q2 q3 q4 q5 l) ∧ Hid (Below w.heap.size w wr)) (fun i _ _ _ _ _ _ _ => l.us.length - (intOf i).toNat)
 case atStart => exact ⟨0, Nat.zero_le _, rfl, fun j hj => by omega, HL0.out, HB0.out⟩
 case round =>
  obtain ⟨k, hk, rfl, hall, HLr, hB⟩ := hrel
  obtain ⟨c0, c1, c2, c3, c4, c5⟩ := zL HLr.out
  have hlb := box_lt HLr.out
  have HBW := hide hB.out
  by_cases hkl : k < l.us.length
  ·
   obtain ⟨bu, offu, r, HRU, rfl, hbu, hq3, e0, e1, e2, e3⟩ := (H.out.below HBW.out).ru hkl
   obtain ⟨ra, rb, rl, rr⟩ := r
   simp only at e0 e1 e2 e3
   have lbu : bu < wr.heap.size := Nat.lt_of_lt_of_le hbu HBW.out.size
   have ij : (k : Int) < (l.us.length : Int) := by omega
   have iq : (l.us.length : Int) ≤ (q3 : Int) := by omega
   go_upto_region 7 with (fail)
   generalize hw1 : World.alloc _ _ = w1
   obtain ⟨hb1, hB1, hs1⟩ := alloc1 hw1
   have HR1 := hide hb1
   have HL1 := hide (HLr.out.to hB1)
   have HB1 := hide (Below.to HBW.out hB1 (Nat.le_refl _))
   obtain ⟨d0, d1, d2, d3, d4, d5⟩ := zL HL1.out
   have ld := box_lt HL1.out
   have z0 := cellOf hb1 0; have z1 := cellOf hb1 1; have z2 := cellOf hb1 2; have z3 := cellOf hb1 3
   have lz := box_lt hb1
   clear hw1 hb1 hB1 hs1 c0 c1 c2 c3 c4 c5 hlb e0 e1 e2 e3
   cases hA : btw ra 0 ((l.ss.length : Int) - 1) with
   | false =>
    have hr : Ru.ok l.ss ⟨ra, rb, rl, rr⟩ = false := by unfold Ru.ok; simp only []; rw [hA]; simp
    have ht := treE_run (l := l) (all_not (z := Ru.o) hkl (by rw [HRU.out]; exact hr))
    have HT := hide ht
    have HA := hide hA
    clear hr ht hA
    go_wp2_with (first | (go_at_call 202; refine (rspot_any _ _ _ _ _ _ _ _ _ _ _ _ _ l _ _ HA.out).mono ?_; rintro e w4 ⟨rfl, hB4⟩; have HB4 := hide (Below.to HB1.out hB4 (Nat.le_refl _)); have HL4 := hide (HL1.out.to hB4); obtain ⟨u0, u1, u2, u3, u4, u5⟩ := zL (HL1.out.to hB4); have ll4 := box_lt (HL1.out.to hB4); have p0 := cellOf (box_to HR1.out hB4) 0; have p1 := cellOf (box_to HR1.out hB4) 1; have p2 := cellOf (box_to HR1.out hB4) 2; have p3 := cellOf (box_to HR1.out hB4) 3; have lp4 := box_lt (box_to HR1.out hB4); have HR4 := hide (box_to HR1.out hB4); clear hB4 z0 z1 z2 z3 lz d0 d1 d2 d3 d4 d5 ld))
    go_ret
    exact ⟨ret_int HT.out.symm, HB4.out⟩
   | true =>
    cases hB : btw rb 0 ((l.ss.length : Int) - 1) with
    | false =>
     have hr : Ru.ok l.ss ⟨ra, rb, rl, rr⟩ = false := by unfold Ru.ok; simp only []; rw [hA, hB]; simp
     have ht := treE_run (l := l) (all_not (z := Ru.o) hkl (by rw [HRU.out]; exact hr))
     have HT := hide ht
     have HA := hide hA
     have HB := hide hB
     clear hr ht hA hB
     go_wp2_with (first | (go_at_call 202; have hgd4 := HB4; clear hgd4; refine (rspot_any _ _ _ _ _ _ _ _ _ _ _ _ _ l _ _ HB.out).mono ?_; rintro e w6 ⟨rfl, hB6⟩; have HB6 := hide (Below.to HB4.out hB6 (Nat.le_refl _)); have HL6 := hide (HL4.out.to hB6); obtain ⟨v0, v1, v2, v3, v4, v5⟩ := zL (HL4.out.to hB6); have ll6 := box_lt (HL4.out.to hB6); have o0 := cellOf (box_to HR4.out hB6) 0; have o1 := cellOf (box_to HR4.out hB6) 1; have o2 := cellOf (box_to HR4.out hB6) 2; have o3 := cellOf (box_to HR4.out hB6) 3; have lp6 := box_lt (box_to HR4.out hB6); have HR6 := hide (box_to HR4.out hB6); clear hB6 p0 p1 p2 p3 lp4 u0 u1 u2 u3 u4 u5 ll4) | (go_at_call 202; refine (rspot_any _ _ _ _ _ _ _ _ _ _ _ _ _ l _ _ HA.out).mono ?_; rintro e w4 ⟨rfl, hB4⟩; have HB4 := hide (Below.to HB1.out hB4 (Nat.le_refl _)); have HL4 := hide (HL1.out.to hB4); obtain ⟨u0, u1, u2, u3, u4, u5⟩ := zL (HL1.out.to hB4); have ll4 := box_lt (HL1.out.to hB4); have p0 := cellOf (box_to HR1.out hB4) 0; have p1 := cellOf (box_to HR1.out hB4) 1; have p2 := cellOf (box_to HR1.out hB4) 2; have p3 := cellOf (box_to HR1.out hB4) 3; have lp4 := box_lt (box_to HR1.out hB4); have HR4 := hide (box_to HR1.out hB4); clear hB4 z0 z1 z2 z3 lz d0 d1 d2 d3 d4 d5 ld))
     go_ret
     exact ⟨ret_int HT.out.symm, HB6.out⟩
    | true =>
     cases hN : decide (ra ≠ rb) with
     | false =>
      have hr : Ru.ok l.ss ⟨ra, rb, rl, rr⟩ = false := by unfold Ru.ok; simp only []; rw [hA, hB, hN]; simp
      have ht := treE_run (l := l) (all_not (z := Ru.o) hkl (by rw [HRU.out]; exact hr))
      have HT := hide ht
      have HA := hide hA
      have HB := hide hB
      have hnn : (ra == rb) = true := by simpa using hN
      clear hr ht hA hB hN
      go_wp2_with (first | (go_at_call 202; have hgd4 := HB4; clear hgd4; refine (rspot_any _ _ _ _ _ _ _ _ _ _ _ _ _ l _ _ HB.out).mono ?_; rintro e w6 ⟨rfl, hB6⟩; have HB6 := hide (Below.to HB4.out hB6 (Nat.le_refl _)); have HL6 := hide (HL4.out.to hB6); obtain ⟨v0, v1, v2, v3, v4, v5⟩ := zL (HL4.out.to hB6); have ll6 := box_lt (HL4.out.to hB6); have o0 := cellOf (box_to HR4.out hB6) 0; have o1 := cellOf (box_to HR4.out hB6) 1; have o2 := cellOf (box_to HR4.out hB6) 2; have o3 := cellOf (box_to HR4.out hB6) 3; have lp6 := box_lt (box_to HR4.out hB6); have HR6 := hide (box_to HR4.out hB6); clear hB6 p0 p1 p2 p3 lp4 u0 u1 u2 u3 u4 u5 ll4) | (go_at_call 202; refine (rspot_any _ _ _ _ _ _ _ _ _ _ _ _ _ l _ _ HA.out).mono ?_; rintro e w4 ⟨rfl, hB4⟩; have HB4 := hide (Below.to HB1.out hB4 (Nat.le_refl _)); have HL4 := hide (HL1.out.to hB4); obtain ⟨u0, u1, u2, u3, u4, u5⟩ := zL (HL1.out.to hB4); have ll4 := box_lt (HL1.out.to hB4); have p0 := cellOf (box_to HR1.out hB4) 0; have p1 := cellOf (box_to HR1.out hB4) 1; have p2 := cellOf (box_to HR1.out hB4) 2; have p3 := cellOf (box_to HR1.out hB4) 3; have lp4 := box_lt (box_to HR1.out hB4); have HR4 := hide (box_to HR1.out hB4); clear hB4 z0 z1 z2 z3 lz d0 d1 d2 d3 d4 d5 ld))
      go_ret
      exact ⟨ret_int HT.out.symm, HB6.out⟩
     | true =>
      cases hC : btw rl 1 1000000 with
      | false =>
       have hr : Ru.ok l.ss ⟨ra, rb, rl, rr⟩ = false := by unfold Ru.ok; simp only []; rw [hA, hB, hN, hC]; simp
       have ht := treE_run (l := l) (all_not (z := Ru.o) hkl (by rw [HRU.out]; exact hr))
       have HT := hide ht
       have HA := hide hA
       have HB := hide hB
       have HC := hide hC
       have hnn : (ra == rb) = false := by simpa using hN
       clear hr ht hA hB hN hC
       go_wp2_with (first | (go_at_call 202; have hgd4 := HB4; clear hgd4; refine (rspot_any _ _ _ _ _ _ _ _ _ _ _ _ _ l _ _ HB.out).mono ?_; rintro e w6 ⟨rfl, hB6⟩; have HB6 := hide (Below.to HB4.out hB6 (Nat.le_refl _)); have HL6 := hide (HL4.out.to hB6); obtain ⟨v0, v1, v2, v3, v4, v5⟩ := zL (HL4.out.to hB6); have ll6 := box_lt (HL4.out.to hB6); have o0 := cellOf (box_to HR4.out hB6) 0; have o1 := cellOf (box_to HR4.out hB6) 1; have o2 := cellOf (box_to HR4.out hB6) 2; have o3 := cellOf (box_to HR4.out hB6) 3; have lp6 := box_lt (box_to HR4.out hB6); have HR6 := hide (box_to HR4.out hB6); clear hB6 p0 p1 p2 p3 lp4 u0 u1 u2 u3 u4 u5 ll4) | (go_at_call 202; refine (rspot_any _ _ _ _ _ _ _ _ _ _ _ _ _ l _ _ HA.out).mono ?_; rintro e w4 ⟨rfl, hB4⟩; have HB4 := hide (Below.to HB1.out hB4 (Nat.le_refl _)); have HL4 := hide (HL1.out.to hB4); obtain ⟨u0, u1, u2, u3, u4, u5⟩ := zL (HL1.out.to hB4); have ll4 := box_lt (HL1.out.to hB4); have p0 := cellOf (box_to HR1.out hB4) 0; have p1 := cellOf (box_to HR1.out hB4) 1; have p2 := cellOf (box_to HR1.out hB4) 2; have p3 := cellOf (box_to HR1.out hB4) 3; have lp4 := box_lt (box_to HR1.out hB4); have HR4 := hide (box_to HR1.out hB4); clear hB4 z0 z1 z2 z3 lz d0 d1 d2 d3 d4 d5 ld) | (go_at_call 152; refine (fromB_any _ _ _ _ _ (by first | exact HC.out)).mono ?_; rintro e w5 ⟨rfl, rfl⟩))
       go_ret
       exact ⟨ret_int HT.out.symm, HB6.out⟩
      | true =>
       cases hD : btw rr 0 1000000 with
       | false =>
        have hr : Ru.ok l.ss ⟨ra, rb, rl, rr⟩ = false := by unfold Ru.ok; simp only []; rw [hA, hB, hN, hC, hD]; simp
        have ht := treE_run (l := l) (all_not (z := Ru.o) hkl (by rw [HRU.out]; exact hr))
        have HT := hide ht
        have HA := hide hA
        have HB := hide hB
        have HC := hide hC
        have HD := hide hD
        have hnn : (ra == rb) = false := by simpa using hN
        clear hr ht hA hB hN hC hD
        go_wp2_with (first | (go_at_call 202; have hgd4 := HB4; clear hgd4; refine (rspot_any _ _ _ _ _ _ _ _ _ _ _ _ _ l _ _ HB.out).mono ?_; rintro e w6 ⟨rfl, hB6⟩; have HB6 := hide (Below.to HB4.out hB6 (Nat.le_refl _)); have HL6 := hide (HL4.out.to hB6); obtain ⟨v0, v1, v2, v3, v4, v5⟩ := zL (HL4.out.to hB6); have ll6 := box_lt (HL4.out.to hB6); have o0 := cellOf (box_to HR4.out hB6) 0; have o1 := cellOf (box_to HR4.out hB6) 1; have o2 := cellOf (box_to HR4.out hB6) 2; have o3 := cellOf (box_to HR4.out hB6) 3; have lp6 := box_lt (box_to HR4.out hB6); have HR6 := hide (box_to HR4.out hB6); clear hB6 p0 p1 p2 p3 lp4 u0 u1 u2 u3 u4 u5 ll4) | (go_at_call 202; refine (rspot_any _ _ _ _ _ _ _ _ _ _ _ _ _ l _ _ HA.out).mono ?_; rintro e w4 ⟨rfl, hB4⟩; have HB4 := hide (Below.to HB1.out hB4 (Nat.le_refl _)); have HL4 := hide (HL1.out.to hB4); obtain ⟨u0, u1, u2, u3, u4, u5⟩ := zL (HL1.out.to hB4); have ll4 := box_lt (HL1.out.to hB4); have p0 := cellOf (box_to HR1.out hB4) 0; have p1 := cellOf (box_to HR1.out hB4) 1; have p2 := cellOf (box_to HR1.out hB4) 2; have p3 := cellOf (box_to HR1.out hB4) 3; have lp4 := box_lt (box_to HR1.out hB4); have HR4 := hide (box_to HR1.out hB4); clear hB4 z0 z1 z2 z3 lz d0 d1 d2 d3 d4 d5 ld) | (go_at_call 152; refine (fromB_any _ _ _ _ _ (by first | exact HC.out | exact HD.out)).mono ?_; rintro e w5 ⟨rfl, rfl⟩))
        go_ret
        exact ⟨ret_int HT.out.symm, HB6.out⟩
       | true =>
        have hnn : (ra == rb) = false := by simpa using hN
        have HA := hide hA
        have HB := hide hB
        have HC := hide hC
        have HD := hide hD
        rw [btw_iff] at hA hB hC
        obtain ⟨a1, a2⟩ := hA
        obtain ⟨b1, b2⟩ := hB
        obtain ⟨d1, d2⟩ := hC
        obtain ⟨ka, rfl⟩ := Int.eq_ofNat_of_zero_le a1
        obtain ⟨kb, rfl⟩ := Int.eq_ofNat_of_zero_le b1
        obtain ⟨bf, off, xa, HXA, rfl, hbb, hq, i0', i1', i2'⟩ := H.out.sp (k := ka) (by omega)
        obtain ⟨bf', off', xb, HXB, he, hbb', hq', j0', j1', j2'⟩ := H.out.sp (k := kb) (by omega)
        injection he with he
        injection he with he1 he2
        subst he1 he2
        have hxa : xa.ok = true := by rw [← HXA.out]; exact HOK.out _ (getD_mem3f (by omega))
        have hxb : xb.ok = true := by rw [← HXB.out]; exact HOK.out _ (getD_mem3f (by omega))
        obtain ⟨⟨s1, s2⟩, ⟨s3, s4⟩, s5, s6⟩ := Sp.ok_bd hxa
        obtain ⟨⟨t1, t2⟩, ⟨t3, t4⟩, t5, t6⟩ := Sp.ok_bd hxb
        have hr : Ru.ok l.ss ⟨ka, kb, rl, rr⟩ = decide (sqS xa xb ≤ rl * rl) := by
         unfold Ru.ok
         simp only []
         rw [HA.out, HB.out, hN, HC.out, HD.out, Int.toNat_natCast, Int.toNat_natCast, HXA.out, HXB.out]
         simp
        have HR := hide hr
        have ia : (ka : Int) < (l.ss.length : Int) := by omega
        have ib : (kb : Int) < (l.ss.length : Int) := by omega
        have iq2 : (l.ss.length : Int) ≤ (q2 : Int) := by omega
        have hll := sq_bd (x := rl) (c := 1000000) (by omega) (by omega) (by omega)
        clear hr hN hxa hxb a1 a2 b1 b2 hD
        go_upto_region 9 with (first | (go_at_call 202; have hgd4 := HB4; clear hgd4; refine (rspot_any _ _ _ _ _ _ _ _ _ _ _ _ _ l _ _ HB.out).mono ?_; rintro e w6 ⟨rfl, hB6⟩; have HB6 := hide (Below.to HB4.out hB6 (Nat.le_refl _)); have HL6 := hide (HL4.out.to hB6); obtain ⟨v0, v1, v2, v3, v4, v5⟩ := zL (HL4.out.to hB6); have ll6 := box_lt (HL4.out.to hB6); have o0 := cellOf (box_to HR4.out hB6) 0; have o1 := cellOf (box_to HR4.out hB6) 1; have o2 := cellOf (box_to HR4.out hB6) 2; have o3 := cellOf (box_to HR4.out hB6) 3; have lp6 := box_lt (box_to HR4.out hB6); have HR6 := hide (box_to HR4.out hB6); clear hB6 p0 p1 p2 p3 lp4 u0 u1 u2 u3 u4 u5 ll4) | (go_at_call 202; refine (rspot_any _ _ _ _ _ _ _ _ _ _ _ _ _ l _ _ HA.out).mono ?_; rintro e w4 ⟨rfl, hB4⟩; have HB4 := hide (Below.to HB1.out hB4 (Nat.le_refl _)); have HL4 := hide (HL1.out.to hB4); obtain ⟨u0, u1, u2, u3, u4, u5⟩ := zL (HL1.out.to hB4); have ll4 := box_lt (HL1.out.to hB4); have p0 := cellOf (box_to HR1.out hB4) 0; have p1 := cellOf (box_to HR1.out hB4) 1; have p2 := cellOf (box_to HR1.out hB4) 2; have p3 := cellOf (box_to HR1.out hB4) 3; have lp4 := box_lt (box_to HR1.out hB4); have HR4 := hide (box_to HR1.out hB4); clear hB4 z0 z1 z2 z3 lz d0 d1 d2 d3 d4 d5 ld) | (go_at_call 152; refine (fromB_any _ _ _ _ _ (by first | exact HC.out | exact HD.out)).mono ?_; rintro e w5 ⟨rfl, rfl⟩))
        have g0 := (HB6.out.cell (p := ⟨bf, off + ka * 3, none⟩) hbb).trans i0'
        have g1 := (HB6.out.cell (p := ⟨bf, off + ka * 3 + 1, none⟩) hbb).trans i1'
        have g2 := (HB6.out.cell (p := ⟨bf, off + ka * 3 + 2, none⟩) hbb).trans i2'
        have g3 := (HB6.out.cell (p := ⟨bf, off + kb * 3, none⟩) hbb).trans j0'
        have g4 := (HB6.out.cell (p := ⟨bf, off + kb * 3 + 1, none⟩) hbb).trans j1'
        have g5 := (HB6.out.cell (p := ⟨bf, off + kb * 3 + 2, none⟩) hbb).trans j2'
        have lbf : bf < w6.heap.size := Nat.lt_of_lt_of_le hbb HB6.out.size
        clear i0' i1' i2' j0' j1' j2'
        refine wp_region_held_drew (S := (fun w' => Below w6.heap.size w6 w')) (by kernel_rfl) ?_ (fun hHeld => ?_)
        ·
         try dsimp only
         exact zP
        refine zT 0 rfl ?_
        refine zT 1 rfl ?_
        refine zT 2 rfl ?_
        refine zT 3 rfl ?_
        refine zT 4 rfl ?_
        refine zT 5 rfl ?_
        refine zT 6 rfl ?_
        refine zT 7 rfl ?_
        refine zT 8 rfl ?_
        refine zT 9 rfl ?_
        refine zT 10 rfl ?_
        refine zT 11 rfl ?_
        refine wpAnyH_ready (rs := [12, 13]) (by kernel_rfl) (by simp) ?_
        refine (AllReadyH.cons rfl (fun K hK => ?o1_13_12) (AllReadyH.cons rfl (fun K hK => ?o1_13_13) AllReadyH.nil))
        case' o1_13_12 =>
         go_simp
         refine hK.out _ _ zP fun hNext => ?_; clear hK K hHeld; have hHeld := hNext; clear hNext; (try dsimp only at hHeld); try simp only [zX]
         refine wpAnyH_ready (rs := [13]) (by kernel_rfl) (by simp) ?_
         refine (AllReadyH.cons rfl (fun K hK => ?_) AllReadyH.nil)
         go_simp
         refine hK.out _ _ zP fun hNext => ?_; clear hK K hHeld; have hHeld := hNext; clear hNext; (try dsimp only at hHeld); try simp only [zX]
         refine wpAnyH_ready (rs := [14]) (by kernel_rfl) (by simp) ?_
         refine (AllReadyH.cons rfl (fun K hK => ?_) AllReadyH.nil)
         go_simp
         refine hK.out _ _ zP fun hNext => ?_; clear hK K hHeld; have hHeld := hNext; clear hNext; (try dsimp only at hHeld); try simp only [zX]
         refine wpAnyH_ready (rs := [15]) (by kernel_rfl) (by simp) ?_
         refine (AllReadyH.cons rfl (fun K hK => ?_) AllReadyH.nil)
         go_simp
         refine hK.out _ _ zP fun hNext => ?_; clear hK K hHeld; have hHeld := hNext; clear hNext; (try dsimp only at hHeld); try simp only [zX]
         refine wpAnyH_done (by kernel_rfl) ?_ _
        case' o1_13_13 =>
         go_simp
         refine hK.out _ _ zP fun hNext => ?_; clear hK K hHeld; have hHeld := hNext; clear hNext; (try dsimp only at hHeld); try simp only [zX]
         refine wpAnyH_ready (rs := [12]) (by kernel_rfl) (by simp) ?_
         refine (AllReadyH.cons rfl (fun K hK => ?_) AllReadyH.nil)
         go_simp
         refine hK.out _ _ zP fun hNext => ?_; clear hK K hHeld; have hHeld := hNext; clear hNext; (try dsimp only at hHeld); try simp only [zX]
         refine wpAnyH_ready (rs := [14]) (by kernel_rfl) (by simp) ?_
         refine (AllReadyH.cons rfl (fun K hK => ?_) AllReadyH.nil)
         go_simp
         refine hK.out _ _ zP fun hNext => ?_; clear hK K hHeld; have hHeld := hNext; clear hNext; (try dsimp only at hHeld); try simp only [zX]
         refine wpAnyH_ready (rs := [15]) (by kernel_rfl) (by simp) ?_
         refine (AllReadyH.cons rfl (fun K hK => ?_) AllReadyH.nil)
         go_simp
         refine hK.out _ _ zP fun hNext => ?_; clear hK K hHeld; have hHeld := hNext; clear hNext; (try dsimp only at hHeld); try simp only [zX]
         refine wpAnyH_done (by kernel_rfl) ?_ _
        ·
         generalize hwq : World.drew _ = wq at hHeld ⊢
         obtain ⟨hqa, hqb, hqB, hqs⟩ := alloc2d hwq
         have m0 := cellOf hqa 0
         have m1 := cellOf hqa 1
         have m2 := cellOf hqa 2
         have n0 := cellOf hqb 0
         have n1 := cellOf hqb 1
         have n2 := cellOf hqb 2
         have lm := box_lt hqa
         have ln := box_lt hqb
         have HLq := hide (HL6.out.to hqB)
         have HBq := hide (Below.to HB6.out hqB (Nat.le_refl _))
         have HRq := hide (box_to HR6.out hqB)
         clear hwq hqa hqb hqB hqs hHeld g0 g1 g2 g3 g4 g5 v0 v1 v2 v3 v4 v5 o0 o1 o2 o3
         go_wp2_with fail
         refine wp_region_held_drew (S := (fun w' => Below wq.heap.size wq w')) (by kernel_rfl) ?_ (fun hHeld => ?_)
         ·
          try dsimp only
          exact zP
         refine zT 0 rfl ?_
         refine zT 1 rfl ?_
         refine zT 2 rfl ?_
         refine zT 3 rfl ?_
         refine zT 4 rfl ?_
         refine zT 5 rfl ?_
         refine zT 6 rfl ?_
         refine zT 7 rfl ?_
         refine zT 8 rfl ?_
         refine zT 9 rfl ?_
         refine zT 10 rfl ?_
         refine zT 11 rfl ?_
         refine zT 12 rfl ?_
         refine zT 13 rfl ?_
         refine zT 14 rfl ?_
         refine zT 15 rfl ?_
         refine zT 16 rfl ?_
         refine zT 17 rfl ?_
         refine wpAnyH_done (by kernel_rfl) ?_ _
         have k2 := (hHeld.cell (p := ⟨wr.heap.size, 2, none⟩) (box_lt HRq.out)).trans (cellOf HRq.out 2)
         have lk2 : wr.heap.size < wq.drew.heap.size := box_lt HRq.out
         obtain ⟨x, hx⟩ : ∃ x, xa.x - xb.x = x := ⟨_, rfl⟩
         obtain ⟨y, hy⟩ : ∃ y, xa.y - xb.y = y := ⟨_, rfl⟩
         obtain ⟨z, hz⟩ : ∃ z, xa.z - xb.z = z := ⟨_, rfl⟩
         have hsq : sqS xa xb = x * x + y * y + z * z := by unfold sqS; rw [hx, hy, hz]
         have h1 := sq_bd (x := x) (c := 200000) (by omega) (by omega) (by omega)
         have h2 := sq_bd (x := y) (c := 200000) (by omega) (by omega) (by omega)
         have h3 := sq_bd (x := z) (c := 200000) (by omega) (by omega) (by omega)
         rw [hx, hy, hz]
         have x1 : -200000 ≤ x := by omega
         have x2 : x ≤ 200000 := by omega
         have y1 : -200000 ≤ y := by omega
         have y2 : y ≤ 200000 := by omega
         have z1 : -200000 ≤ z := by omega
         have z2 : z ≤ 200000 := by omega
         have HSQ := hide hsq
         clear hx hy hz hsq m0 m1 m2 n0 n1 n2
         by_cases hc : rl * rl < x * x + y * y + z * z
         ·
          have ht := treE_run (l := l) (all_not (z := Ru.o) hkl (by rw [HRU.out, HR.out, HSQ.out]; exact decide_eq_false (by omega)))
          have HT := hide ht
          clear ht
          go_wp2_with fail
          go_ret
          exact ⟨ret_int HT.out.symm, Below.to HBq.out hHeld (Nat.le_refl _)⟩
         ·
          have hgd : Ru.ok l.ss (l.us.getD k Ru.o) = true := by rw [HRU.out, HR.out, HSQ.out]; exact decide_eq_true (by omega)
          have HGD := hide hgd
          clear hgd
          go_wp2_with fail
          go_roundw
          case rel => exact ⟨k + 1, by omega, by go_num, fun j hj => by
            rcases Nat.lt_or_ge j k with h | h
            ·
             exact hall.out j h
            ·
             rw [show j = k from by omega]; exact HGD.out, HLq.out.to hHeld, Below.to HBq.out hHeld (Nat.le_refl _)⟩
          case measure => simp [intOf]; omega
        ·
         generalize hwq : World.drew _ = wq at hHeld ⊢
         obtain ⟨hqa, hqb, hqB, hqs⟩ := alloc2d hwq
         have m0 := cellOf hqa 0
         have m1 := cellOf hqa 1
         have m2 := cellOf hqa 2
         have n0 := cellOf hqb 0
         have n1 := cellOf hqb 1
         have n2 := cellOf hqb 2
         have lm := box_lt hqa
         have ln := box_lt hqb
         have HLq := hide (HL6.out.to hqB)
         have HBq := hide (Below.to HB6.out hqB (Nat.le_refl _))
         have HRq := hide (box_to HR6.out hqB)
         clear hwq hqa hqb hqB hqs hHeld g0 g1 g2 g3 g4 g5 v0 v1 v2 v3 v4 v5 o0 o1 o2 o3
         go_wp2_with fail
         refine wp_region_held_drew (S := (fun w' => Below wq.heap.size wq w')) (by kernel_rfl) ?_ (fun hHeld => ?_)
         ·
          try dsimp only
          exact zP
         refine zT 0 rfl ?_
         refine zT 1 rfl ?_
         refine zT 2 rfl ?_
         refine zT 3 rfl ?_
         refine zT 4 rfl ?_
         refine zT 5 rfl ?_
         refine zT 6 rfl ?_
         refine zT 7 rfl ?_
         refine zT 8 rfl ?_
         refine zT 9 rfl ?_
         refine zT 10 rfl ?_
         refine zT 11 rfl ?_
         refine zT 12 rfl ?_
         refine zT 13 rfl ?_
         refine zT 14 rfl ?_
         refine zT 15 rfl ?_
         refine zT 16 rfl ?_
         refine zT 17 rfl ?_
         refine wpAnyH_done (by kernel_rfl) ?_ _
         have k2 := (hHeld.cell (p := ⟨wr.heap.size, 2, none⟩) (box_lt HRq.out)).trans (cellOf HRq.out 2)
         have lk2 : wr.heap.size < wq.drew.heap.size := box_lt HRq.out
         obtain ⟨x, hx⟩ : ∃ x, xa.x - xb.x = x := ⟨_, rfl⟩
         obtain ⟨y, hy⟩ : ∃ y, xa.y - xb.y = y := ⟨_, rfl⟩
         obtain ⟨z, hz⟩ : ∃ z, xa.z - xb.z = z := ⟨_, rfl⟩
         have hsq : sqS xa xb = x * x + y * y + z * z := by unfold sqS; rw [hx, hy, hz]
         have h1 := sq_bd (x := x) (c := 200000) (by omega) (by omega) (by omega)
         have h2 := sq_bd (x := y) (c := 200000) (by omega) (by omega) (by omega)
         have h3 := sq_bd (x := z) (c := 200000) (by omega) (by omega) (by omega)
         rw [hx, hy, hz]
         have x1 : -200000 ≤ x := by omega
         have x2 : x ≤ 200000 := by omega
         have y1 : -200000 ≤ y := by omega
         have y2 : y ≤ 200000 := by omega
         have z1 : -200000 ≤ z := by omega
         have z2 : z ≤ 200000 := by omega
         have HSQ := hide hsq
         clear hx hy hz hsq m0 m1 m2 n0 n1 n2
         by_cases hc : rl * rl < x * x + y * y + z * z
         ·
          have ht := treE_run (l := l) (all_not (z := Ru.o) hkl (by rw [HRU.out, HR.out, HSQ.out]; exact decide_eq_false (by omega)))
          have HT := hide ht
          clear ht
          go_wp2_with fail
          go_ret
          exact ⟨ret_int HT.out.symm, Below.to HBq.out hHeld (Nat.le_refl _)⟩
         ·
          have hgd : Ru.ok l.ss (l.us.getD k Ru.o) = true := by rw [HRU.out, HR.out, HSQ.out]; exact decide_eq_true (by omega)
          have HGD := hide hgd
          clear hgd
          go_wp2_with fail
          go_roundw
          case rel => exact ⟨k + 1, by omega, by go_num, fun j hj => by
            rcases Nat.lt_or_ge j k with h | h
            ·
             exact hall.out j h
            ·
             rw [show j = k from by omega]; exact HGD.out, HLq.out.to hHeld, Below.to HBq.out hHeld (Nat.le_refl _)⟩
          case measure => simp [intOf]; omega
  ·
   have hke : k = l.us.length := by omega
   subst hke
   have hal : l.us.all (Ru.ok l.ss) = true := all_yes (z := Ru.o) hall.out
   have HAL := hide hal
   have HIN := hide (Ru.ok_in hal)
   clear hall hal
   have hmk : ∀ W : World, (Instr.makeSlice 35 (.int .i64 l.ss.length) (.int .i64 l.ss.length)).run Tryz.prog W = .ok (.slice (some ⟨W.heap.size, 0, none⟩) l.ss.length l.ss.length) (W.alloc (.cells (madeCells #[.bool false] (l.ss.length * 1)) 4)) := fun W => by
    have h1 := run_make (P := Tryz.prog) W 35 4 i1 (.bool false) Tryz.underlying35 hi1 jz0 .i64 .i64 l.ss.length l.ss.length (by omega) (Int.le_refl _) (by rw [jz2]; omega) (by omega)
    rw [jz1] at h1
    simpa [Value.cells] using h1
   go_upto_region 14 with (fail)
   generalize hw2 : World.alloc _ _ = w2
   obtain ⟨hb2, hB2, hs2⟩ := alloc1 hw2
   have hmz : MkAt w2 wr.heap.size (List.replicate l.ss.length false) := by
    unfold MkAt
    rw [hb2]
    have h1 := made_bools (N := l.ss.length)
    first | rw [h1] | (rw [Nat.mul_one] at h1; rw [h1]) | simp [made_bools]
   have HMZ := hide hmz
   have HL2 := hide (HLr.out.to hB2)
   have HB2 := hide (Below.to HBW.out hB2 (Nat.le_refl _))
   have m0 := hmz.cell (k := 0) (by simp; omega)
   have u0 := unfrozenOf hmz 0
   have lm := box_lt hmz
   have i00 : (0 : Int) < (l.ss.length : Int) := by omega
   clear hw2 hb2 hB2 hs2 hmz c0 c1 c2 c3 c4 c5 hlb hmk
   go_upto_region 15 with (fail)
   generalize hw3 : World.setCell _ _ _ = w3
   have hmk3 := HMZ.out.set hw3
   have hw23 : Below w.heap.size w w3 := by rw [← hw3]; exact Below.setCell HB2.out HBW.out.size _
   have hL3 : LoBox w3 w.heap.size A0 A1 A2 A3 A4 A5 q0 q1 q2 q3 q4 q5 l := by
    rw [← hw3]
    exact (Below.heap_setCell _ _ _ _ (by have := box_lt HLr.out; intro e; exact absurd e (Nat.ne_of_lt this))).trans HL2.out
   have HM3 : Hid (MkAt w3 wr.heap.size (passM l.rs l.ss.length 0)) := hmk3
   have HL3 := hide hL3
   have HB3 := hide hw23
   obtain ⟨bm, hbm⟩ : ∃ bm, wr.heap.size = bm := ⟨_, rfl⟩
   have hbw : w.heap.size ≤ bm := by have := HBW.out.size; omega
   have hlm : w.heap.size ≠ bm := by have := box_lt HLr.out; omega
   rw [hbm] at HM3
   rw [hbm]
   obtain ⟨c0, c1, c2, c3, c4, c5⟩ := zL hL3
   have hlb := box_lt hL3
   clear hw3 hmk3 hw23 hL3 hbm m0 u0 lm HMZ
   go_wp2_with fail
   clear c0 c1 c2 c3 c4 c5 hlb
   go_loopw [11, 12, 13, 125] (fun _ _ _ i wr => ∃ k : Nat, k ≤ l.ss.length ∧ i = .int .i64 k ∧ Hid (MkAt wr bm (passM l.rs l.ss.length k)) ∧ Hid (LoBox wr w.heap.size A0 A1 A2 A3 A4 A5 q0 q1 q2 q3 q4 q5 l) ∧ Hid (Below w.heap.size w wr)) (fun _ _ _ i _ => l.ss.length - (intOf i).toNat)
   case atStart => exact ⟨0, Nat.zero_le _, rfl, HM3.out, HL3.out, HB3.out⟩
   case round =>
    obtain ⟨k, hk, rfl, HM, HL, HBr⟩ := hrel
    obtain ⟨wo, hwo⟩ : ∃ wo : World, wo = wr := ⟨_, rfl⟩
    subst hwo
    by_cases hkn : k < l.ss.length
    ·
     obtain ⟨c0, c1, c2, c3, c4, c5⟩ := zL HL.out
     have hlb := box_lt HL.out
     go_wp2_with fail
     clear c0 c1 c2 c3 c4 c5 hlb
     go_loopw [11, 12, 13] (fun i _ _ wr => ∃ j : Nat, j ≤ l.us.length ∧ i = .int .i64 j ∧ Hid (MkAt wr bm (scanM l.rs (passM l.rs l.ss.length k) j)) ∧ Hid (LoBox wr w.heap.size A0 A1 A2 A3 A4 A5 q0 q1 q2 q3 q4 q5 l) ∧ Hid (Below w.heap.size w wr)) (fun i _ _ _ => l.us.length - (intOf i).toNat)
     case atStart => exact ⟨0, Nat.zero_le _, rfl, HM.out, HL.out, HBr.out⟩
     case round =>
      obtain ⟨j, hj, rfl, HMj, HLj, HBj⟩ := hrel
      obtain ⟨c0, c1, c2, c3, c4, c5⟩ := zL HLj.out
      have hlb := box_lt HLj.out
      by_cases hjl : j < l.us.length
      ·
       obtain ⟨bu, offu, r, HRU, rfl, hbu, hq3, e0, e1, e2, e3⟩ := (H.out.below HBj.out).ru hjl
       have hrin := HIN.out r (by rw [← HRU.out]; exact getD_mem3f hjl)
       obtain ⟨ra, rb, rl, rr⟩ := r
       obtain ⟨a1, a2, b1, b2⟩ := hrin
       simp only at a1 a2 b1 b2 e0 e1 e2 e3
       obtain ⟨ka, rfl⟩ := Int.eq_ofNat_of_zero_le a1
       obtain ⟨kb, rfl⟩ := Int.eq_ofNat_of_zero_le b1
       have hrs : l.rs.getD j (0, 0) = (ka, kb) := by rw [rs_getD l hjl, HRU.out]; simp
       obtain ⟨M, hM⟩ : ∃ M, scanM l.rs (passM l.rs l.ss.length k) j = M := ⟨_, rfl⟩
       have hMl : M.length = l.ss.length := by rw [← hM, scanM_len, passM_len]
       have hstep : scanM l.rs (passM l.rs l.ss.length k) (j + 1) = setM (setM M ka kb) kb ka := by
        show stepM (scanM l.rs (passM l.rs l.ss.length k) j) (l.rs.getD j (0, 0)) = _
        rw [hM, hrs]
        rfl
       rw [hM] at HMj
       have HSTEP := hide hstep
       have lbu : bu < wr.heap.size := Nat.lt_of_lt_of_le hbu HBj.out.size
       have ij0 : (0 : Int) ≤ (j : Int) := by omega
       have ij : (j : Int) < (l.us.length : Int) := by omega
       have iq : (l.us.length : Int) ≤ (q3 : Int) := by omega
       have ia : (ka : Int) < (l.ss.length : Int) := by omega
       have ib : (kb : Int) < (l.ss.length : Int) := by omega
       clear hM hstep hrs
       go_wp2_with fail
       refine wp_region_held_drew (S := (fun w' => Below wr.heap.size wr w')) (by kernel_rfl) ?_ (fun hHeld => ?_)
       ·
        try dsimp only
        exact zP
       refine zT 0 rfl ?_
       refine zT 1 rfl ?_
       refine zT 2 rfl ?_
       refine zT 3 rfl ?_
       refine zT 4 rfl ?_
       refine zT 5 rfl ?_
       refine zT 6 rfl ?_
       refine zT 7 rfl ?_
       refine zT 8 rfl ?_
       refine zT 9 rfl ?_
       refine zT 10 rfl ?_
       refine zT 11 rfl ?_
       refine zT 12 rfl ?_
       refine zT 13 rfl ?_
       refine wpAnyH_done (by kernel_rfl) ?_ _
       have HMd := hide (HMj.out.to hHeld)
       have HLd := hide (HLj.out.to hHeld)
       have HBd := hide (Below.to HBj.out hHeld (Nat.le_refl _))
       clear hHeld c0 c1 c2 c3 c4 c5 hlb e0 e1 e2 e3 lbu
       generalize hwd : World.drew _ = wd at HMd HLd HBd ⊢
       clear hwd
       obtain ⟨va, hva⟩ : ∃ v, M.getD ka false = v := ⟨_, rfl⟩
       obtain ⟨vb, hvb⟩ : ∃ v, M.getD kb false = v := ⟨_, rfl⟩
       have c1 := HMd.out.cell (k := ka) (by omega)
       have c2 := HMd.out.cell (k := kb) (by omega)
       rw [hva] at c1
       rw [hvb] at c2
       have u1 := unfrozenOf HMd.out ka
       have lm := box_lt HMd.out
       have HVA := hide hva
       have HVB := hide hvb
       clear hva hvb
       cases va
       case false =>
        go_upto_region 22 with (fail)
        generalize hwm : World.setCell _ _ _ = wm
        have hmm := HMd.out.set hwm
        have hmm2 : MkAt wm bm (setM M ka kb) := by
         unfold setM
         rw [HVA.out, HVB.out, Bool.false_or]
         exact hmm
        have HMM := hide hmm2
        have HLm : Hid (LoBox wm w.heap.size A0 A1 A2 (some ⟨bu, offu, none⟩) A4 A5 q0 q1 q2 q3 q4 q5 l) := by rw [← hwm]; exact (Below.heap_setCell _ _ _ _ hlm).trans HLd.out
        have HBm : Hid (Below w.heap.size w wm) := by rw [← hwm]; exact Below.setCell HBd.out hbw _
        have hml2 : (setM M ka kb).length = l.ss.length := by unfold setM; rw [List.length_set]; exact hMl
        clear hwm hmm hmm2 c1 c2 u1 lm
        obtain ⟨xa, hxa⟩ : ∃ v, (setM M ka kb).getD kb false = v := ⟨_, rfl⟩
        obtain ⟨xb, hxb⟩ : ∃ v, (setM M ka kb).getD ka false = v := ⟨_, rfl⟩
        have c1 := HMM.out.cell (k := kb) (by omega)
        have c2 := HMM.out.cell (k := ka) (by omega)
        rw [hxa] at c1
        rw [hxb] at c2
        have u1 := unfrozenOf HMM.out kb
        have lm := box_lt HMM.out
        have HXA := hide hxa
        have HXB := hide hxb
        clear hxa hxb
        cases xa
        case false =>
         go_upto_region 19 with (fail)
         generalize hwn : World.setCell _ _ _ = wn
         have hnn := HMM.out.set hwn
         have HNN : Hid (MkAt wn bm (setM (setM M ka kb) kb ka)) := by
          show MkAt wn bm ((setM M ka kb).set kb ((setM M ka kb).getD kb false || (setM M ka kb).getD ka false))
          rw [HXA.out, HXB.out, Bool.false_or]
          exact hnn
         have HLn : Hid (LoBox wn w.heap.size A0 A1 A2 (some ⟨bu, offu, none⟩) A4 A5 q0 q1 q2 q3 q4 q5 l) := by rw [← hwn]; exact (Below.heap_setCell _ _ _ _ hlm).trans HLm.out
         have HBn : Hid (Below w.heap.size w wn) := by rw [← hwn]; exact Below.setCell HBm.out hbw _
         clear hwn hnn c1 c2 u1 lm
         go_wp2_with fail
         go_roundw
         case rel => exact ⟨j + 1, by omega, by go_num, by rw [HSTEP.out]; exact HNN.out, HLn.out, HBn.out⟩
         case measure => simp [intOf]; omega
        case true =>
         go_upto_region 19 with (fail)
         generalize hwn : World.setCell _ _ _ = wn
         have hnn := HMM.out.set hwn
         have HNN : Hid (MkAt wn bm (setM (setM M ka kb) kb ka)) := by
          show MkAt wn bm ((setM M ka kb).set kb ((setM M ka kb).getD kb false || (setM M ka kb).getD ka false))
          rw [HXA.out, Bool.true_or]
          exact hnn
         have HLn : Hid (LoBox wn w.heap.size A0 A1 A2 (some ⟨bu, offu, none⟩) A4 A5 q0 q1 q2 q3 q4 q5 l) := by rw [← hwn]; exact (Below.heap_setCell _ _ _ _ hlm).trans HLm.out
         have HBn : Hid (Below w.heap.size w wn) := by rw [← hwn]; exact Below.setCell HBm.out hbw _
         clear hwn hnn c1 c2 u1 lm
         go_wp2_with fail
         go_roundw
         case rel => exact ⟨j + 1, by omega, by go_num, by rw [HSTEP.out]; exact HNN.out, HLn.out, HBn.out⟩
         case measure => simp [intOf]; omega
       case true =>
        go_upto_region 22 with (fail)
        generalize hwm : World.setCell _ _ _ = wm
        have hmm := HMd.out.set hwm
        have hmm2 : MkAt wm bm (setM M ka kb) := by
         unfold setM
         rw [HVA.out, Bool.true_or]
         exact hmm
        have HMM := hide hmm2
        have HLm : Hid (LoBox wm w.heap.size A0 A1 A2 (some ⟨bu, offu, none⟩) A4 A5 q0 q1 q2 q3 q4 q5 l) := by rw [← hwm]; exact (Below.heap_setCell _ _ _ _ hlm).trans HLd.out
        have HBm : Hid (Below w.heap.size w wm) := by rw [← hwm]; exact Below.setCell HBd.out hbw _
        have hml2 : (setM M ka kb).length = l.ss.length := by unfold setM; rw [List.length_set]; exact hMl
        clear hwm hmm hmm2 c1 c2 u1 lm
        obtain ⟨xa, hxa⟩ : ∃ v, (setM M ka kb).getD kb false = v := ⟨_, rfl⟩
        obtain ⟨xb, hxb⟩ : ∃ v, (setM M ka kb).getD ka false = v := ⟨_, rfl⟩
        have c1 := HMM.out.cell (k := kb) (by omega)
        have c2 := HMM.out.cell (k := ka) (by omega)
        rw [hxa] at c1
        rw [hxb] at c2
        have u1 := unfrozenOf HMM.out kb
        have lm := box_lt HMM.out
        have HXA := hide hxa
        have HXB := hide hxb
        clear hxa hxb
        cases xa
        case false =>
         go_upto_region 19 with (fail)
         generalize hwn : World.setCell _ _ _ = wn
         have hnn := HMM.out.set hwn
         have HNN : Hid (MkAt wn bm (setM (setM M ka kb) kb ka)) := by
          show MkAt wn bm ((setM M ka kb).set kb ((setM M ka kb).getD kb false || (setM M ka kb).getD ka false))
          rw [HXA.out, HXB.out, Bool.false_or]
          exact hnn
         have HLn : Hid (LoBox wn w.heap.size A0 A1 A2 (some ⟨bu, offu, none⟩) A4 A5 q0 q1 q2 q3 q4 q5 l) := by rw [← hwn]; exact (Below.heap_setCell _ _ _ _ hlm).trans HLm.out
         have HBn : Hid (Below w.heap.size w wn) := by rw [← hwn]; exact Below.setCell HBm.out hbw _
         clear hwn hnn c1 c2 u1 lm
         go_wp2_with fail
         go_roundw
         case rel => exact ⟨j + 1, by omega, by go_num, by rw [HSTEP.out]; exact HNN.out, HLn.out, HBn.out⟩
         case measure => simp [intOf]; omega
        case true =>
         go_upto_region 19 with (fail)
         generalize hwn : World.setCell _ _ _ = wn
         have hnn := HMM.out.set hwn
         have HNN : Hid (MkAt wn bm (setM (setM M ka kb) kb ka)) := by
          show MkAt wn bm ((setM M ka kb).set kb ((setM M ka kb).getD kb false || (setM M ka kb).getD ka false))
          rw [HXA.out, Bool.true_or]
          exact hnn
         have HLn : Hid (LoBox wn w.heap.size A0 A1 A2 (some ⟨bu, offu, none⟩) A4 A5 q0 q1 q2 q3 q4 q5 l) := by rw [← hwn]; exact (Below.heap_setCell _ _ _ _ hlm).trans HLm.out
         have HBn : Hid (Below w.heap.size w wn) := by rw [← hwn]; exact Below.setCell HBm.out hbw _
         clear hwn hnn c1 c2 u1 lm
         go_wp2_with fail
         go_roundw
         case rel => exact ⟨j + 1, by omega, by go_num, by rw [HSTEP.out]; exact HNN.out, HLn.out, HBn.out⟩
         case measure => simp [intOf]; omega
      ·
       have hje : j = l.us.length := by omega
       subst hje
       go_wp2_with fail
       go_roundw
       case rel => exact ⟨k + 1, by omega, by go_num, by show MkAt wr bm (scanM l.rs (passM l.rs l.ss.length k) l.rs.length); rw [rs_len]; exact HMj.out, HLj.out, HBj.out⟩
       case measure => simp [intOf]; omega
    ·
     have hke : k = l.ss.length := by omega
     subst hke
     have hfm := full_marks (l := l) (List.all_eq_true.1 HAL.out) p0
     obtain ⟨M, hM⟩ : ∃ M, passM l.rs l.ss.length l.ss.length = M := ⟨_, rfl⟩
     have hMl : M.length = l.ss.length := by rw [← hM, passM_len]
     rw [hM] at hfm HM
     have HFM := hide hfm
     clear hfm hM
     go_wp2_with fail
     go_loop [14] (fun i => ∃ j : Nat, j ≤ l.ss.length ∧ i = .int .i64 j ∧ Hid (∀ m, m < j → M.getD m false = true)) (fun i => l.ss.length - (intOf i).toNat)
     case atStart => exact ⟨0, Nat.zero_le _, rfl, fun m hm => by omega⟩
     case round =>
      obtain ⟨j, hj, rfl, hall⟩ := hrel
      by_cases hjl : j < l.ss.length
      ·
       have c1 := HM.out.cell (k := j) (by omega)
       have lm := box_lt HM.out
       have ij : (j : Int) < (l.ss.length : Int) := by omega
       cases hv : M.getD j false with
       | true =>
        rw [hv] at c1
        have HV := hide hv
        clear hv
        go_wp2_with fail
        go_round
        case rel => exact ⟨j + 1, by omega, by go_num, fun m hm => by
          rcases Nat.lt_or_ge m j with h | h
          ·
           exact hall.out m h
          ·
           rw [show m = j from by omega]; exact HV.out⟩
        case measure => simp [intOf]; omega
       | false =>
        rw [hv] at c1
        have ht := treE_full (l := l) (by
         rw [HFM.out, ← Bool.not_eq_true, List.all_eq_true]
         intro q
         have := q j (by simpa using hjl)
         rw [hv] at this
         cases this)
        have HT := hide ht
        clear hv ht
        go_wp2_with fail
        go_ret
        exact ⟨ret_int HT.out.symm, HBr.out⟩
      ·
       have hje : j = l.ss.length := by omega
       subst hje
       have ht := treE_ok HLEN.out HAL.out (by
        rw [HFM.out, List.all_eq_true]
        intro m hm
        exact hall.out m (by simpa using hm))
       have HT := hide ht
       clear ht
       go_wp2_with fail
       go_ret
       exact ⟨ret_int HT.out.symm, HBr.out⟩
end Go.Proofs.YtehadoecnmfeoaaGreat

/- Part 31 of this claim's texts: walks and plain laws. -/
import Derived.Test.YtehadoecnmfeoaaGreatRows
import Derived.Test.YtehadoecnmfeoaaGreatGBS26
import Derived.Test.YtehadoecnmfeoaaGreatGBS27
import Derived.Test.YtehadoecnmfeoaaGreatGBS30
import Derived.Deep.DeepMust
import Derived.Deep.RegionHeld3
import Derived.Deep.DrawnRows
import Derived.Test.YtehadoecnmfeoaaGreatGBS3
import Derived.Test.YtehadoecnmfeoaaGreatGBS20
import Derived.Laws.EntriesVeiled
import Derived.Test.YtehadoecnmfeoaaGreatGBS2
import Derived.Test.YtehadoecnmfeoaaGreatGBS13
import Derived.Laws.Bits64b
import Derived.Laws.CopyOwn
set_option linter.unusedVariables false
set_option linter.unusedSimpArgs false
set_option linter.unusedSectionVars false
namespace Go.Proofs.YtehadoecnmfeoaaGreat
open Go.RowKit
def pnE (p : Pn) : List Value := [.int .i64 p.1, .int .i64 p.2]
theorem pnE_len (p : Pn) : (pnE p).length = 2 := rfl
theorem pnE_one (p : Pn) : ∀ v ∈ pnE p, v.oneCell' = true := fun v hv => by
 unfold pnE at hv
 simp only [List.mem_cons, List.not_mem_nil, or_false] at hv
 rcases hv with rfl | rfl <;> rfl
def pnF (p : Pn) (j : Nat) : Value := match j with
 | 0 => .int .i64 p.1
 | _ => .int .i64 p.2
theorem pnE_get (p : Pn) {j : Nat} (hj : j < 2) : (pnE p)[j]? = some (pnF p j) := by
 match j, hj with
 | 0, _ => rfl
 | 1, _ => rfl
def Pns (w : World) (B : Nat) (v : Value) (L : List Pn) : Prop := Sl w B 2 v L.length (fun i j => pnF (L.getD i (0, 0)) j)
theorem Pns.of_own {w : World} {B e : Nat} {v : Value} {L : List Pn} (h : w.ownsRow B e 2 v L.length (rowV pnE L)) : Pns w w.heap.size v L :=
 Sl.of_owns h fun i j hi hj => (rowV_get pnE_len (0, 0) hi hj).trans (pnE_get _ hj)
theorem Pns.at8 {w : World} {B : Nat} {A : Option Addr} {m q : Nat} {L : List Pn} (h : Pns w B (.slice A m q) L) {k : Nat} (hk : k < L.length) : ∃ b off a, Hid (L.getD k (0, 0) = a) ∧ A = some ⟨b, off, none⟩ ∧ b < B ∧ L.length ≤ q ∧
  w.cell? ⟨b, off + k * 2, none⟩ = some (.int .i64 a.1) ∧ w.cell? ⟨b, off + k * 2 + 1, none⟩ = some (.int .i64 a.2) := by
 obtain ⟨h1, h2, b, off, h3, h4, h5⟩ := sl_at h hk
 exact ⟨b, off, _, rfl, h3, h4, by omega, h5 0 (by omega), h5 1 (by omega)⟩
theorem Pns.up {w w' : World} {v : Value} {L : List Pn} (h : Pns w w.heap.size v L) (hb : Below w.heap.size w w') : Pns w' w'.heap.size v L := Sl.up h hb
theorem Pns.form {w : World} {B : Nat} {v : Value} {L : List Pn} (h : Pns w B v L) : ∃ A q, v = .slice A L.length q := Sl.form h
theorem own_pn {w : World} {B e n q : Nat} {A : Option Addr} {L : List Pn} (h : w.ownsRow B e 2 (.slice A n q) L.length (rowV pnE L)) {k : Nat} (hk : k < L.length) : ∃ g a, Hid (L.getD k (0, 0) = a) ∧ A = some ⟨g, 0, none⟩ ∧ B ≤ g ∧ g < w.heap.size ∧ n = L.length ∧ L.length ≤ q ∧
  w.cell? ⟨g, k * 2, none⟩ = some (.int .i64 a.1) ∧ w.cell? ⟨g, k * 2 + 1, none⟩ = some (.int .i64 a.2) ∧ (∀ j, w.frozen? ⟨g, j, none⟩ = false) := by
 have hh := h
 rcases hh.2 with ⟨_, hl⟩ | ⟨g, cap, cur, hv, hB, hg, hnc, _⟩
 ·
  omega
 injection hv with e1 e2 e3
 subst e1 e2 e3
 have cellAt : ∀ j, j < 2 → w.cell? ⟨g, k * 2 + j, none⟩ = some (pnF (L.getD k (0, 0)) j) := fun j hj => by
  have h2 := h.cellAt (k * 2 + j) (by have : (k + 1) * 2 ≤ L.length * 2 := Nat.mul_le_mul_right _ hk; omega)
  rw [rowV_get pnE_len (0, 0) hk hj, pnE_get _ hj] at h2
  exact h2
 exact ⟨g, _, rfl, rfl, hB, box_lt hg, rfl, hnc, cellAt 0 (by omega), cellAt 1 (by omega), fun j => h.frozenAt j⟩
theorem idxI_pin (L : List Pn) (p : Pn) : decide (0 ≤ idxI (fun x => x == p) L) = L.contains p := by
 rw [idxI_any, Bool.eq_iff_iff]
 simp
set_option maxRecDepth 100000 in
theorem indexP_any (L : List Pn) (p : Pn) (v : Value) (w : World) (hm : L.length ≤ maxLen) (h : Pns w w.heap.size v L) :
  Calls Tryz.prog 233 #[v, .agg #[.int .i64 p.1, .int .i64 p.2]] w fun e w' => e = .returned (.int .i64 (idxI (fun x => x == p) L)) ∧ Below w.heap.size w w' := by
 unfold maxLen at hm
 obtain ⟨A, cap, rfl⟩ := h.form
 have H := hide h
 clear h
 go_enter Tryz.func233, Tryz.ntmps233
 go_upto_region 1 with (fail)
 generalize hw0 : World.alloc _ _ = w0
 obtain ⟨hb0, hB0, hs0⟩ := alloc1 hw0
 obtain ⟨pb, hpb⟩ : ∃ z, w.heap.size = z := ⟨_, rfl⟩
 have HB0 := hide hB0
 rw [hpb] at hb0 ⊢
 have HX0 := hide hb0
 have HP : Hid (Pns w0 w0.heap.size (.slice A L.length cap) L) := H.out.up HB0.out
 have HBp : Hid (Below pb w w0) := by rw [← hpb]; exact HB0
 have hpw : pb ≤ w0.heap.size := by rw [← hpb]; exact hB0.size
 have HPW := hide hpw
 clear hw0 hB0 hs0 hb0 hpw
 obtain ⟨W0, hW0⟩ : ∃ wo : World, wo = w0 := ⟨_, rfl⟩
 subst hW0
 go_wp2
 go_loopw [5, 8] (fun _ i wr => ∃ k : Nat, k ≤ L.length ∧ i = .int .i64 k ∧ Hid (∀ j, j < k → (L.getD j (0, 0) == p) = false) ∧ Hid (Below W0.heap.size W0 wr)) (fun _ i _ => L.length - (intOf i).toNat)
 case atStart => exact ⟨0, Nat.zero_le _, rfl, fun j hj => by omega, Below.refl _ _⟩
 case round =>
  obtain ⟨k, hk, rfl, hall, HW⟩ := hrel
  by_cases hlt : k < L.length
  case neg =>
   have hlt1 : ¬ (k : Int) < (L.length : Int) := by omega
   go_wp2
   go_ret
   exact ⟨ret_int (idxI_none _ (0, 0) L (fun j hj => hall.out j (by omega))).symm, Below.trans HBp.out (HW.out.mono HPW.out)⟩
  case pos =>
   have hlt1 : (k : Int) < (L.length : Int) := by omega
   have ik0 : (0 : Int) ≤ (k : Int) := by omega
   obtain ⟨b, off, x, HX, hA, hbb, hq, c0, c1⟩ := (HP.out.up HW.out).at8 hlt
   subst hA
   have HXr := hide (box_to HX0.out HW.out)
   have x0 := cellOf HXr.out 0
   have x1 := cellOf HXr.out 1
   have lx := box_lt HXr.out
   have iq : (L.length : Int) ≤ (cap : Int) := by omega
   have he := fun w => pinEq p.1 p.2 x.1 x.2 w
   by_cases hx : x = p
   ·
    have he1 : (p.1 == x.1 && p.2 == x.2) = true := by rw [hx]; simp
    rw [he1] at he
    have HE := hide hx
    clear hx he1 hq
    go_upto_region 4 with (fail)
    refine wp_region_held_drew (S := (fun w' => Below wr.heap.size wr w')) (by kernel_rfl) ?_ (fun hHeld => ?_)
    ·
     try dsimp only
     exact zP
    refine zT 0 rfl ?_
    refine zT 1 rfl ?_
    refine zT 2 rfl ?_
    refine zT 3 rfl ?_
    refine zT 4 rfl ?_
    refine zT 5 rfl ?_
    refine wpAnyH_done (by kernel_rfl) ?_ _
    go_wp2
    go_ret
    exact ⟨ret_int (idxI_at _ (0, 0) L k hall.out hlt (by rw [HX.out, HE.out]; simp)).symm, by first | exact Below.trans HBp.out ((Below.to HW.out hHeld (Nat.le_refl _)).mono HPW.out) | exact Below.trans HB0.out ((Below.to HW.out hHeld (Nat.le_refl _)).mono HB0.out.size)⟩
   ·
    have he1 : (p.1 == x.1 && p.2 == x.2) = false := by
     rw [Bool.eq_false_iff]
     intro h
     rw [Bool.and_eq_true, beq_iff_eq, beq_iff_eq] at h
     exact hx (Prod.ext h.1.symm h.2.symm)
    rw [he1] at he
    have HE := hide hx
    clear hx he1 hq
    go_upto_region 4 with (fail)
    refine wp_region_held_drew (S := (fun w' => Below wr.heap.size wr w')) (by kernel_rfl) ?_ (fun hHeld => ?_)
    ·
     try dsimp only
     exact zP
    refine zT 0 rfl ?_
    refine zT 1 rfl ?_
    refine zT 2 rfl ?_
    refine zT 3 rfl ?_
    refine zT 4 rfl ?_
    refine zT 5 rfl ?_
    refine wpAnyH_done (by kernel_rfl) ?_ _
    go_wp2
    go_roundw
    case rel => exact ⟨k + 1, by omega, by go_num, fun j hj => by
      rcases Nat.lt_or_ge j k with h | h
      ·
       exact hall.out j h
      ·
       rw [show j = k from by omega, HX.out]; simpa using HE.out, Below.to HW.out hHeld (Nat.le_refl _)⟩
    case measure => simp [intOf]; omega
set_option maxRecDepth 100000 in
theorem containsP_any (L : List Pn) (p : Pn) (v : Value) (w : World) (c : Bool) (hm : L.length ≤ maxLen) (h : Pns w w.heap.size v L) (hc : L.contains p = c) :
  Calls Tryz.prog 174 #[v, .agg #[.int .i64 p.1, .int .i64 p.2]] w fun e w' => e = .returned (.bool c) ∧ Below w.heap.size w w' := by
 have he : c = decide (0 ≤ idxI (fun x => x == p) L) := by rw [idxI_pin, hc]
 have HE := hide he
 have H := hide h
 clear he h hc
 go_enter Tryz.func174, Tryz.ntmps174
 go_upto_region 1 with (fail)
 generalize hw0 : World.alloc _ _ = w0
 obtain ⟨hb0, hB0, hs0⟩ := alloc1 hw0
 have x0 := cellOf hb0 0
 have x1 := cellOf hb0 1
 have lx := box_lt hb0
 have HB0 := hide hB0
 clear hw0 hB0 hs0 hb0
 go_wp2_with (go_at_call 233; refine (indexP_any L p v _ hm (H.out.up HB0.out)).mono ?_; rintro e w1 ⟨rfl, hB1⟩; clear x0 x1 lx)
 go_ret
 exact ⟨ret_bool HE.out.symm, Below.to HB0.out hB1 (Nat.le_refl _)⟩
def RelP (L : List Nat) (er : Int) (w : World) (e : Ending) (w' : World) : Prop := ∃ v, e = .returned (.tuple #[v, .int .i64 er]) ∧ Nods w' w'.heap.size v L ∧ Below w.heap.size w w'
def relR (ps : List Int) (len : Int) : List Nat := if relB ps len = true then relL ps len else []
theorem LefAt.same12 {w : World} {b t : Nat} {L L' : Nat → Int} (h : LefAt w b t L) (hL : ∀ i, i < 12 → L i = L' i) : LefAt w b t L' := by
 obtain ⟨C, h1, h2, h3⟩ := h
 exact ⟨C, h1, h2, fun i hi => by rw [← hL i hi]; exact h3 i hi⟩
theorem LefAt.zero {w : World} {b t : Nat} (h : w.heap[b]? = some (.cells #[.int .i64 0, .int .i64 0, .int .i64 0, .int .i64 0, .int .i64 0, .int .i64 0, .int .i64 0, .int .i64 0, .int .i64 0, .int .i64 0, .int .i64 0, .int .i64 0] t (0, 0))) : LefAt w b t (fun _ => 0) :=
 ⟨_, h, rfl, fun i hi => by
  match i, hi with
  | 0, _ => rfl
  | 1, _ => rfl
  | 2, _ => rfl
  | 3, _ => rfl
  | 4, _ => rfl
  | 5, _ => rfl
  | 6, _ => rfl
  | 7, _ => rfl
  | 8, _ => rfl
  | 9, _ => rfl
  | 10, _ => rfl
  | 11, _ => rfl⟩
set_option maxRecDepth 100000 in
set_option maxHeartbeats 4000000 in
theorem Reels_any (ps : List Int) (len : Int) (A : Option Addr) (q : Nat) (w : World) (hm : ps.length ≤ maxLen) (h : Ints w w.heap.size (.slice A ps.length q) ps) :
  Calls Tryz.prog 53 #[.slice A ps.length q, .int .i64 len] w (RelP (relR ps len) (relE ps len) w) := by
 have H := hide h
 have HM := hide hm
 unfold maxLen at hm
 clear h
 by_cases hb : relB ps len = true
 case neg =>
  have h1 : relR ps len = [] := by unfold relR; rw [if_neg hb]
  have h2 : relE ps len = 121 := by unfold relE; rw [if_neg hb]
  rw [h1, h2]
  have hbf : relB ps len = false := by simpa using hb
  unfold relB at hbf
  clear h1 h2 hb
  cases hw : btw len 1 1000000 with
  | false =>
   have HW := hide hw
   clear hw hbf
   go_enter Tryz.func53, Tryz.ntmps53
   go_upto_region 1 with (fail)
   generalize hw0 : World.alloc _ _ = w0
   obtain ⟨hb0, hb1, hB0, hs0⟩ := alloc2 hw0
   have c0 := cellOf hb1 0
   have hl := box_lt hb1
   have HB0 := hide hB0
   clear hw0 hb0 hb1 hB0 hs0
   go_wp2_with (go_at_call 72; refine (bwithin_any _ _ _ _ _ HW.out).mono ?_; rintro e w1 ⟨rfl, rfl⟩)
   go_ret2
   exact ⟨_, rfl, Sl.nil _ _ _ _, HB0.out⟩
  | true =>
   rw [hw, Bool.true_and] at hbf
   have HW := hide hw
   clear hw
   by_cases hlen : ps.length ≤ 12
   case neg =>
    have hgt : (12 : Int) < (ps.length : Int) := by omega
    clear hbf
    go_enter Tryz.func53, Tryz.ntmps53
    go_upto_region 1 with (fail)
    generalize hw0 : World.alloc _ _ = w0
    obtain ⟨hb0, hb1, hB0, hs0⟩ := alloc2 hw0
    have c0 := cellOf hb1 0
    have hl := box_lt hb1
    have d0 := cellOf hb0 0
    have hl0 := box_lt hb0
    have HB0 := hide hB0
    clear hw0 hb0 hb1 hB0 hs0
    go_wp2_with (go_at_call 72; refine (bwithin_any _ _ _ _ _ HW.out).mono ?_; rintro e w1 ⟨rfl, rfl⟩)
    go_ret2
    exact ⟨_, rfl, Sl.nil _ _ _ _, HB0.out⟩
   case pos =>
    rw [decide_eq_true hlen, Bool.true_and] at hbf
    have hany : ps.any (fun p => !btw p 1 len) = true := by
     rw [List.all_eq_false] at hbf
     obtain ⟨x, hx, hx2⟩ := hbf
     exact List.any_eq_true.2 ⟨x, hx, by simpa using hx2⟩
    have hgt : ¬ (12 : Int) < (ps.length : Int) := by omega
    have HANY := hide hany
    clear hbf hany
    go_enter Tryz.func53, Tryz.ntmps53
    go_upto_region 1 with (fail)
    generalize hw0 : World.alloc _ _ = w0
    obtain ⟨hb0, hb1, hB0, hs0⟩ := alloc2 hw0
    have HL1 := hide hb1
    have c0 := cellOf hb1 0
    have hl := box_lt hb1
    have d0 := cellOf hb0 0
    have hl0 := box_lt hb0
    have HB0 := hide hB0
    clear hw0 hb0 hb1 hB0 hs0
    go_wp2_with (first | (go_at_call 72; refine (bwithin_any _ _ _ _ _ HW.out).mono ?_; rintro e w1 ⟨rfl, rfl⟩) | (go_at_call 70; refine (contains_piece (fun p => !btw p 1 len) (.pointer (some ⟨w.heap.size + 1, 0, none⟩)) _ ps w0 HM.out (Ints.up H.out HB0.out) (fun i x W _ _ hW => piece_any x len _ W (box_to HL1.out hW))).mono ?_; rw [HANY.out]; rintro e w2 ⟨rfl, hB2⟩; have HB2 := hide (Below.to HB0.out hB2 (Nat.le_refl _)); clear hB2 c0 hl d0 hl0))
    go_ret2
    exact ⟨_, rfl, Sl.nil _ _ _ _, HB2.out⟩
 case pos =>
 have h1 : relR ps len = relL ps len := by unfold relR; rw [if_pos hb]
 have h2 : relE ps len = 0 := by unfold relE; rw [if_pos hb]
 obtain ⟨Z, hZ⟩ : ∃ Z, relL ps len = Z := ⟨_, rfl⟩
 rw [h1, h2, hZ]
 have HSOME := hide (rel_some hb)
 have HZ := hide hZ
 unfold relB at hb
 simp only [Bool.and_eq_true, decide_eq_true_eq] at hb
 obtain ⟨⟨hw, hlen⟩, hall⟩ := hb
 have hw' := btw_iff.1 hw
 obtain ⟨len1, len2⟩ := hw'
 have HW := hide hw
 have hgt : ¬ (12 : Int) < (ps.length : Int) := by omega
 have hany : ps.any (fun p => !btw p 1 len) = false := by
  rw [List.any_eq_false]
  intro x hx
  have := List.all_eq_true.1 hall x hx
  simp [this]
 have hpr : ∀ p ∈ ps, 1 ≤ p ∧ p ≤ len := fun p hp => btw_iff.1 (List.all_eq_true.1 hall p hp)
 have HPR := hide hpr
 have HANY := hide hany
 clear h1 h2 hZ hw hall hany hpr
 go_enter Tryz.func53, Tryz.ntmps53
 go_upto_region 1 with (fail)
 generalize hw0 : World.alloc _ _ = w0
 obtain ⟨hb0, hb1, hB0, hs0⟩ := alloc2 hw0
 have HL0 := hide hb0
 have HL1 := hide hb1
 have c0 := cellOf hb1 0
 have hl := box_lt hb1
 have d0 := cellOf hb0 0
 have hl0 := box_lt hb0
 have HB0 := hide hB0
 have HS0 := hide hs0
 clear hw0 hb0 hb1 hB0 hs0
 go_upto_region 4 with (first | (go_at_call 72; refine (bwithin_any _ _ _ _ _ HW.out).mono ?_; rintro e w1 ⟨rfl, rfl⟩) | (go_at_call 70; refine (contains_piece (fun p => !btw p 1 len) (.pointer (some ⟨w.heap.size + 1, 0, none⟩)) _ ps w0 HM.out (Ints.up H.out HB0.out) (fun i x W _ _ hW => piece_any x len _ W (box_to HL1.out hW))).mono ?_; rw [HANY.out]; rintro e w2 ⟨rfl, hB2⟩; have HL02 := hide (heap_below HL0.out hB2); have HL12 := hide (heap_below HL1.out hB2); have HB02 := hide hB2; have HB2 := hide (Below.to HB0.out hB2 (Nat.le_refl _)); clear hB2 c0 hl d0 hl0))
 generalize hw3 : World.alloc _ _ = w3
 obtain ⟨hb3, hB3, hs3⟩ := alloc1 hw3
 have HLF := hide (LefAt.zero hb3)
 have HS3 := hide hs3
 have HB3 := hide hB3
 clear hw3 hb3 hB3 hs3
 go_wp2_with fail
 go_loopw [7, 24] (fun _ i wr => ∃ k : Nat, i = .int .i64 k ∧ k ≤ 12 ∧ Hid (Below w2.heap.size w2 wr) ∧ Hid (w2.heap.size < wr.heap.size) ∧ Hid (LefAt wr w2.heap.size 160 (fun i => if i < k then len else 0))) (fun _ i _ => 12 - (intOf i).toNat)
 case atStart => exact ⟨0, rfl, by omega, HB3.out, by show _ < _; have := HS3.out; omega, HLF.out.same (fun i => by simp)⟩
 case round =>
  obtain ⟨k, rfl, hk, HB, HSZ, HLFr⟩ := hrel
  by_cases hk12 : k < 12
  ·
   have ik : (k : Int) < 12 := by omega
   have ik0 : (0 : Int) ≤ (k : Int) := by omega
   obtain ⟨z1, z2, z3⟩ := HLFr.out.cell hk12
   have hb1 := (HB.out.block _ (box_lt HL12.out)).trans HL12.out
   have c0 := cellOf hb1 0
   have hl := box_lt hb1
   clear hb1
   go_upto_region 8 with (fail)
   have hset := HLFr.out.set hk12 len
   have hB9 : Below w2.heap.size w2 (wr.setCell ⟨w2.heap.size, k, none⟩ (.int .i64 len)) := Below.setCell HB.out (Nat.le_refl _) _
   have hsz9 : w2.heap.size < (wr.setCell ⟨w2.heap.size, k, none⟩ (.int .i64 len)).heap.size := by simpa [World.setCell] using HSZ.out
   generalize hw9 : World.setCell _ _ _ = w9 at hset hB9 hsz9 ⊢
   have HSET := hide hset
   have HB9 := hide hB9
   have HSZ9 := hide hsz9
   clear hw9 hset hB9 hsz9 z1 z2 z3 c0 hl
   go_wp2_with fail
   go_roundw
   case rel => exact ⟨k + 1, by go_num, by omega, HB9.out, HSZ9.out, HSET.out.same (fun i => by
    unfold updL
    by_cases e : i = k
    ·
     subst e; simp
    ·
     rw [if_neg e]
     show (if i < k then len else 0) = _
     by_cases e2 : i < k
     ·
      rw [if_pos e2, if_pos (by omega)]
     ·
      rw [if_neg e2, if_neg (by omega)])⟩
   case measure => simp [intOf]; omega
  ·
   have ik : ¬ (k : Int) < 12 := by omega
   go_upto_region 12 with (fail)
   generalize hw10 : World.alloc _ _ = w10
   obtain ⟨ho0, ho1, hB10, hs10⟩ := alloc2 hw10
   obtain ⟨op, hop⟩ : ∃ n, wr.heap.size = n := ⟨_, rfl⟩
   obtain ⟨lp, hlp⟩ : ∃ n, w2.heap.size = n := ⟨_, rfl⟩
   obtain ⟨pp, hpp⟩ : ∃ n, w.heap.size = n := ⟨_, rfl⟩
   have q1 : pp + 2 ≤ lp := by have h1 := HS0.out; have h2 := HB02.out.size; omega
   have q2 : lp < op := by have h1 := HSZ.out; omega
   have hRl : RlAt w w10 (op + 2) op pp lp (op + 1) (.slice A ps.length q) (fun _ => len) (.slice none 0 0) [] := by
    refine ⟨?_, ?_, ?_, ?_, ?_, World.ownsRow_nil _ _ _ _, ⟨?_, ?_, ?_⟩, ⟨?_, ?_, ?_, ?_⟩, ⟨?_, ?_, ?_, ?_, ?_⟩, ?_⟩
    ·
     exact Below.to (Below.to HB2.out HB.out (Nat.le_refl _)) hB10 (Nat.le_refl _)
    ·
     have h1 := (HB.out.block _ (box_lt HL02.out)).trans HL02.out
     rw [← hpp]
     exact heap_below h1 hB10
    ·
     rw [← hlp]
     exact (HLFr.out.of (hB10.block _ HSZ.out)).same12 (fun i hi => by show (if i < k then len else 0) = len; rw [if_pos (by omega)])
    ·
     rw [← hop]; exact ho0
    ·
     rw [← hop, ← hlp, ← hpp]; exact ho1
    all_goals omega
   rw [hop, hlp, hpp]
   have HR := hide hRl
   clear hw10 ho0 ho1 hB10 hs10 hRl hop hlp hpp
   go_wp2_with fail
   go_loopw [10] (fun i wr => ∃ (k : Nat) (ov : Value), i = .int .i64 k ∧ k ≤ ps.length ∧ Hid (∀ j, j < k → rlS j ps (fun _ => len) 0 = none) ∧ Hid (RlAt w wr (op + 2) op pp lp (op + 1) (.slice A ps.length q) (fun _ => len) ov [])) (fun i _ => ps.length - (intOf i).toNat)
   case atStart => exact ⟨0, _, rfl, Nat.zero_le _, fun j hj => absurd hj (by omega), HR.out⟩
   case round =>
    obtain ⟨k3, ov, rfl, hk2, HNO, R⟩ := hrel
    have n0 := cellOf R.out.nc 0
    have ln := box_lt R.out.nc
    have hcl := next_any ps len hlen HPR.out len2 A q w H.out (op + 2) op pp lp (op + 1) k3 (by omega) ps.length [] (fun _ => len) 0 ov _ R.out (by simp) (by omega) (fun _ => ⟨by omega, by omega⟩)
    rw [List.length_nil, List.drop_zero] at hcl
    obtain ⟨rc, hrc⟩ : ∃ rc, rlS k3 ps (fun _ => len) 0 = rc := ⟨_, rfl⟩
    rw [hrc] at hcl
    have HRC := hide hrc
    have HCL := hide hcl
    clear hrc hcl
    cases rc with
    | some R' =>
     have hz := rel_at HNO.out HRC.out hk2
     rw [HZ.out] at hz
     subst hz
     go_wp2_with (go_at_call 118; refine HCL.out.mono ?_; rintro e w6 ⟨ov6, L6, rfl, hW6⟩; have x0 := cellOf hW6.oc 0; have lx := box_lt hW6.oc; have HW6 := hide hW6; clear hW6 n0 ln)
     go_ret2
     exact ⟨_, rfl, Nods.of_own HW6.out.own, HW6.out.below⟩
    | none =>
     have hkn : k3 < ps.length := by
      rcases Nat.lt_or_ge k3 ps.length with h1 | h1
      ·
       exact h1
      ·
       exfalso
       have h2 := HSOME.out
       rw [show ps.length = k3 by omega, HRC.out] at h2
       cases h2
     go_wp2_with (go_at_call 118; refine HCL.out.mono ?_; rintro e w6 ⟨ov6, rfl, hW6⟩; have HW6 := hide hW6; clear hW6 n0 ln)
     go_roundw
     case rel => exact ⟨k3 + 1, _, by go_num, by omega, fun j hj => by
       rcases Nat.lt_or_ge j k3 with h1 | h1
       ·
        exact HNO.out j h1
       ·
        rw [show j = k3 by omega]; exact HRC.out, HW6.out⟩
     case measure => simp [intOf]; omega
theorem ints_own7 {w : World} {base : Nat} {v : Value} {l : List Int} (h : w.ownsRow base 3 1 v l.length (l.map (Value.int .i64))) : Ints w w.heap.size v l :=
 Sl.of_owns h fun i j hi hj => by
  obtain rfl : j = 0 := by omega
  rw [Nat.mul_one, Nat.add_zero, List.getElem?_map]
  simp [hi]
theorem own_at7 {wr : World} {B e sz n q : Nat} {A : Option Addr} {xs : List Value} (h : wr.ownsRow B e sz (.slice A n q) n xs) (hn : 0 < n) : ∃ g, A = some ⟨g, 0, none⟩ ∧ B ≤ g ∧ n ≤ q ∧ ∃ cur, wr.heap[g]? = some (.cells cur e (0, 0)) := by
 rcases h.2 with ⟨_, h0⟩ | ⟨g, cap, cur, hv, hgb, hgh, hnc, _⟩
 ·
  omega
 ·
  injection hv with e1 e2 e3
  subst e1 e3
  exact ⟨g, rfl, hgb, hnc, cur, hgh⟩
def RrP (S : List Nat) (res : Option (List Nat)) (w : World) (e : Ending) (w' : World) : Prop :=
 match res with
 | some R => ∃ v, e = .returned (.tuple #[v, .bool true]) ∧ Nods w' w'.heap.size v (S ++ R) ∧ Below w.heap.size w w'
 | none => e = .returned (.tuple #[.slice none 0 0, .bool false]) ∧ Below w.heap.size w w'
def lefU (len : Int) (U : List Int) (i : Nat) : Int := len - U.getD i 0
set_option maxRecDepth 100000 in
theorem rwithin12_any (n lo hi : Int) (w : World) (b : Bool) (hb : btw n lo hi = b) : Calls Tryz.prog 75 #[.int .i64 n, .int .i64 lo, .int .i64 hi] w fun e w' => e = .returned (.bool b) ∧ w = w' := by
 subst hb
 by_cases h1 : lo ≤ n
 ·
  have hr : btw n lo hi = decide (n ≤ hi) := by simp [btw, h1]
  have HR := hide hr
  have h1' : decide (lo ≤ n) = true := decide_eq_true h1
  clear hr
  by_cases h2 : n ≤ hi
  ·
   go_enter Tryz.func75, Tryz.ntmps75
   go_wp2
   go_ret
   exact ⟨ret_bool (by rw [HR.out]; simp [h2]), rfl⟩
  ·
   go_enter Tryz.func75, Tryz.ntmps75
   go_wp2
   go_ret
   exact ⟨ret_bool (by rw [HR.out]; simp [h2]), rfl⟩
 ·
  have hr : btw n lo hi = false := by simp [btw, h1]
  have HR := hide hr
  clear hr
  go_enter Tryz.func75, Tryz.ntmps75
  go_wp2
  go_ret
  exact ⟨ret_bool (by rw [HR.out]), rfl⟩
theorem made_ints (N : Nat) : madeCells #[.int .i64 0] N = (((List.replicate N (0 : Int)).map (Value.int .i64)).toArray) := by
 apply Array.ext
 ·
  simp [madeCells]
 ·
  intro i h1 h2
  simp [madeCells, Nat.mod_one]
set_option maxRecDepth 100000 in
set_option maxHeartbeats 2000000 in
theorem mul64_one (n : Nat) (hn : n < 4294967296) (w : World) : Calls Tryz.prog 240 #[.int .u64 1, .int .u64 n] w fun e w' => e = .returned (.tuple #[.int .u64 0, .int .u64 n]) ∧ w = w' := by
 have e1 : bits .and .u64 (1 : Int) 4294967295 = 1 := by
  have h := bits_and_u64_nat 1 4294967295 (by omega) (by omega)
  exact h
 have e2 : bits .and .u64 (n : Int) 4294967295 = (n : Int) := by
  have h := bits_and_u64_nat n 4294967295 (by omega) (by omega)
  rw [show n &&& 4294967295 = n % 4294967296 from Nat.and_two_pow_sub_one_eq_mod n 32, Nat.mod_eq_of_lt hn] at h
  exact h
 have e3 : (n : Int) / 4294967296 = 0 := by omega
 have e4 : IntKind.u64.wrap (n : Int) = (n : Int) := by rw [IntKind.wrap_u64]; omega
 have e5 : bits .and .u64 (0 : Int) 4294967295 = 0 := by
  have h := bits_and_u64_nat 0 4294967295 (by omega) (by omega)
  exact h
 go_enter Tryz.func240, Tryz.ntmps240
 go_wp2
 go_ret2
 exact ⟨rfl, rfl⟩
set_option maxRecDepth 100000 in
set_option maxHeartbeats 2000000 in
theorem mul_one6 (n : Nat) (hn : n < 4294967296) (w : World) : Calls Tryz.prog 195 #[.int .u64 1, .int .u64 n] w fun e w' => e = .returned (.tuple #[.int .u64 0, .int .u64 n]) ∧ w = w' := by
 go_enter Tryz.func195, Tryz.ntmps195
 go_wp2_with (go_at_call 240; refine (mul64_one n hn _).mono ?_; rintro e w1 ⟨rfl, rfl⟩)
 go_ret2
 exact ⟨rfl, rfl⟩
def rpC (X : Int) (n c : Nat) : List Value := List.replicate c (.int .i64 X) ++ List.replicate (n - c) (.int .i64 0)
theorem rpC_len (X : Int) {n c : Nat} (h : c ≤ n) : (rpC X n c).length = n := by simp [rpC]; omega
theorem rpC_at (X : Int) {n c j : Nat} (h : j < c) : (rpC X n c)[j]? = some (.int .i64 X) := by
 unfold rpC
 rw [List.getElem?_append_left (by simpa using h), List.getElem?_replicate, if_pos h]
theorem rpC_splice (X : Int) {n c k : Nat} (hc : c ≤ n) (hk : c + k ≤ n) : splice (rpC X n c) c (List.replicate k (.int .i64 X)) = rpC X n (c + k) := by
 unfold splice rpC
 rw [List.take_append_of_le_length (by simp), List.take_of_length_le (by simp), List.length_replicate, List.drop_append, List.drop_eq_nil_of_le (by simp), List.nil_append, List.drop_replicate, ← List.append_assoc, List.replicate_append_replicate]
 congr 2
 simp
 omega
set_option maxRecDepth 100000 in
set_option maxHeartbeats 4000000 in
theorem Repeat_any (X : Int) (n : Nat) (hn1 : 1 ≤ n) (hn2 : n ≤ 1000) (b : Nat) (w : World) (hb : w.heap[b]? = some (.cells #[.int .i64 X] 3 (0, 0))) :
  Calls Tryz.prog 124 #[.slice (some ⟨b, 0, none⟩) 1 1, .int .i64 n] w fun e w' => e = .returned (.slice (some ⟨w.heap.size, 0, none⟩) n n) ∧ w'.ownsRow w.heap.size 3 1 (.slice (some ⟨w.heap.size, 0, none⟩) n n) n (List.replicate n (.int .i64 X)) ∧ Below w.heap.size w w' := by
 obtain ⟨i0, hi0, iz0, iz1, iz2⟩ := info_parts infoInt
 have hsz : (Tryz.prog.info? 3).map (·.size) = some 1 := by rw [hi0]; simp [iz1]
 have hmk : ∀ W : World, (Instr.makeSlice 45 (.int .i64 n) (.int .i64 n)).run Tryz.prog W = .ok (.slice (some ⟨W.heap.size, 0, none⟩) n n) (W.alloc (.cells (madeCells #[.int .i64 0] (n * 1)) 3)) := fun W => by
  have h1 := run_make (P := Tryz.prog) W 45 3 i0 (.int .i64 0) Tryz.underlying45 hi0 iz0 .i64 .i64 n n (by omega) (Int.le_refl _) (by rw [iz2]; omega) (by omega)
  rw [iz1] at h1
  simpa [Value.cells] using h1
 have HB := hide hb
 have u1 : IntKind.u64.wrap (n : Int) = (n : Int) := by rw [IntKind.wrap_u64]; omega
 have g1 : ¬ (n : Int) < 0 := by omega
 have g2 : ¬ (9223372036854775807 : Int) < (n : Int) := by omega
 have hmn : n < 4294967296 := by omega
 clear hb
 go_enter Tryz.func124, Tryz.ntmps124
 go_upto_region 7 with (go_at_call 195; refine (mul_one6 n hmn _).mono ?_; rintro e w1 ⟨rfl, rfl⟩)
 generalize hw1 : World.alloc _ _ = w1
 obtain ⟨hb1, hB1, hs1⟩ := alloc1 hw1
 have hg0 : w1.heap[w.heap.size]? = some (.cells (rpC X n 0).toArray 3 (0, 0)) := by
  rw [hb1]
  unfold rpC
  rw [show (madeCells #[Value.int .i64 0] n) = ((List.replicate n (0 : Int)).map (Value.int .i64)).toArray from made_ints n, List.map_replicate]
  rfl
 have HG0 := hide hg0
 have HB1 := hide hB1
 have HX1 := hide (heap_below HB.out hB1)
 clear hw1 hb1 hB1 hs1 hg0 hmk
 have hcp := run_copy_row (P := Tryz.prog) w1 45 45 3 3 w.heap.size 0 n n ⟨b, 0, none⟩ 1 1 (rpC X n 0).toArray 3 [.int .i64 X] Tryz.underlying45 hsz HG0.out (show 1 = min 1 n by omega) (World.news_of_block HX1.out) (by simp [rpC_len X (Nat.zero_le n)]; omega) (by simp [Value.oneCell'])
 rw [show (rpC X n 0).toArray.toList.take 0 ++ [Value.int .i64 X] ++ (rpC X n 0).toArray.toList.drop (0 + [Value.int .i64 X].length) = rpC X n (0 + 1) from by
  rw [← rpC_splice X (Nat.zero_le n) (by omega)]
  simp [splice]] at hcp
 go_upto_region 8 with (fail)
 generalize hw2 : World.setRow _ _ _ = w2
 have hg2 : w2.heap[w.heap.size]? = some (.cells (rpC X n (0 + 1)).toArray 3 (0, 0)) := by rw [← hw2]; exact setRow_heap w1 _ _ _ _ _ HG0.out
 have hB2 : Below w.heap.size w w2 := by rw [← hw2]; exact below_setRow HB1.out (Nat.le_refl _) _
 have HG2 := hide hg2
 have HB2 := hide hB2
 clear hw2 hg2 hB2 hcp
 go_loopw [8] (fun i wr => ∃ c : Nat, i = .int .i64 c ∧ 1 ≤ c ∧ c ≤ n ∧ Hid (wr.heap[w.heap.size]? = some (.cells (rpC X n c).toArray 3 (0, 0))) ∧ Hid (Below w.heap.size w wr)) (fun i _ => n - (intOf i).toNat)
 case atStart => exact ⟨1, rfl, Nat.le_refl _, hn1, HG2.out, HB2.out⟩
 case round =>
  obtain ⟨c, rfl, hc1, hcn, HG, HBr⟩ := hrel
  by_cases hlt : c < n
  ·
   have i1 : (c : Int) < (n : Int) := by omega
   have i2 : (0 : Int) ≤ (c : Int) := by omega
   have i3 : (c : Int) ≤ (n : Int) := by omega
   have lg := box_lt HG.out
   have hnc : ¬ n = c := by omega
   obtain ⟨m, hm⟩ : ∃ m, Nat.min c (n - c) = m := ⟨_, rfl⟩
   have hm1 : 1 ≤ m := by rw [← hm]; show 1 ≤ min c (n - c); omega
   have hm2 : c + m ≤ n := by rw [← hm]; show c + min c (n - c) ≤ n; omega
   have hm3 : m ≤ c := by rw [← hm]; show min c (n - c) ≤ c; omega
   have HM := hide hm
   have wr1 : IntKind.i64.wrap ((c : Int) + (m : Int)) = (c : Int) + (m : Int) := IntWalk.i64_in _ (by omega)
   clear hm
   have hsrc : ∀ j v, (List.replicate (m) (Value.int .i64 X))[j]? = some v → wr.cell? ((⟨w.heap.size, 0, none⟩ : Addr).add j) = some v := fun j v hj => by
    rw [List.getElem?_replicate] at hj
    split at hj
    ·
     injection hj with hj
     subst hj
     exact World.news_of_block HG.out j _ (rpC_at X (by omega))
    ·
     cases hj
   have HSRC := hide hsrc
   clear hsrc
   go_upto_region 9 with (fail)
   have hBrr := HBr.out
   refine wp_region_held_drew (S := (fun w' => Below w.heap.size w w')) (by kernel_rfl) ?_ (fun hHeld => ?_)
   ·
    try dsimp only
    exact zP
   refine zT 0 rfl ?_
   refine zT 1 rfl ?_
   refine zT 2 rfl ?_
   refine zT 3 rfl ?_
   refine zT 4 rfl ?_
   refine zT 5 rfl ?_
   refine zT 6 rfl ?_
   refine wpAnyH_ready (rs := [7]) (by kernel_rfl) (by simp) ?_
   refine AllReadyH.cons rfl (fun K hK => ?_) AllReadyH.nil
   (refine step_copy_splice (by rfl) (.tmp 41) (.tmp 44) 45 45 (by rfl) 3 Tryz.underlying45 hsz (some ⟨w.heap.size, c, none⟩) (some ⟨w.heap.size, 0, none⟩) (n - c) (n - c) c n (by rfl) (by rfl) w.heap.size c (rpC X n c) 3 HG.out (List.replicate (m) (.int .i64 X)) (by rw [List.length_replicate]; exact HM.out.symm) (fun _ => ⟨rfl, _, rfl, HSRC.out⟩) (by rw [rpC_len X hcn, List.length_replicate]; omega) (by intro v hv; rw [List.mem_replicate] at hv; rw [hv.2]; rfl) w.heap.size w (Below.drew hBrr) (Nat.le_refl _) ?_; intro w4 hg4 hB4; have HG4 := hide (show w4.heap[w.heap.size]? = some (.cells (rpC X n (c + m)).toArray 3 (0, 0)) from by rw [← rpC_splice X hcn (by omega)]; exact hg4.out); clear hg4)
   (try dsimp only)
   refine hK.out _ _ zP fun hNext => ?_; clear hK K hHeld; have hHeld := hNext; clear hNext; (try dsimp only at hHeld); try simp only [zX]
   refine zT 8 rfl ?_
   refine zT 9 rfl ?_
   refine wpAnyH_done (by kernel_rfl) ?_ _
   clear hHeld hBrr
   have HB4 := hide hB4
   clear hB4 lg
   go_wp2_with fail
   go_roundw
   case rel => exact ⟨c + m, by go_num, by omega, by omega, HG4.out, HB4.out⟩
   case measure => simp [intOf]; omega
  ·
   have hce : c = n := by omega
   have i1 : ¬ (c : Int) < (n : Int) := by omega
   go_wp2_with fail
   go_ret
   refine ⟨rfl, ?_, HBr.out⟩
   have h1 := HG.out
   rw [hce] at h1
   refine ⟨by simp, .inr ⟨_, n, _, rfl, Nat.le_refl _, h1, Nat.le_refl _, by unfold maxLen; omega, by simp [rpC_len], ?_⟩⟩
   simp [rpC]
theorem Repeat_g (X : Int) (n : Nat) (hn1 : 1 ≤ n) (hn2 : n ≤ 1000) (b : Nat) (w : World) (hb : w.heap[b]? = some (.cells #[.int .i64 X] 3 (0, 0))) :
  Calls Tryz.prog 124 #[.slice (some ⟨b, 0, none⟩) 1 1, .int .i64 n] w fun e w' => ∃ g, e = .returned (.slice (some ⟨g, 0, none⟩) n n) ∧ w.heap.size ≤ g ∧ w'.ownsRow w.heap.size 3 1 (.slice (some ⟨g, 0, none⟩) n n) n (List.replicate n (.int .i64 X)) ∧ Below w.heap.size w w' :=
 (Repeat_any X n hn1 hn2 b w hb).mono fun e w' => fun ⟨h1, h2, h3⟩ => ⟨_, h1, Nat.le_refl _, h2, h3⟩
end Go.Proofs.YtehadoecnmfeoaaGreat

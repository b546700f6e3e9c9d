/- Part 24 of this claim's texts: walks and plain laws. -/
import Derived.Test.YtehadoecnmfeoaaGreatRows
import Derived.Test.YtehadoecnmfeoaaGreatGBS23
import Derived.Test.YtehadoecnmfeoaaGreatGBS11
import Derived.Test.YtehadoecnmfeoaaGreatGBS3
set_option linter.unusedVariables false
set_option linter.unusedSimpArgs false
set_option linter.unusedSectionVars false
namespace Go.Proofs.YtehadoecnmfeoaaGreat
open Go.RowKit
theorem wi_cap {w : World} {B : Nat} {A : Option Addr} {m q : Nat} {l : List Wi} (h : Wis w B (.slice A m q) l) : m = l.length ∧ l.length ≤ q := by
 obtain ⟨fv, hs, _⟩ := h
 exact sl_cap hs
set_option maxRecDepth 100000 in
set_option maxHeartbeats 16000000 in
theorem ckWire_any (i : Nat) (x : Wi) (Af : Option Addr) (qf : Nat) (A0 A1 A2 A3 A4 A5 : Option Addr) (q0 q1 q2 q3 q4 q5 : Nat) (l : Lo) (lb sb : Nat) (w : World) (hi : i < l.ws.length) (hx : l.ws.getD i Wi.o = x) (hsz : x.name.size ≤ maxLen) (hfl : x.form.length ≤ maxLen) (hp : l.ps.length ≤ maxLen) (hw : l.ws.length ≤ maxLen) (hsm : SizedM l.m) (he : l.m.err = 0) (hL : LoBox w lb A0 A1 A2 A3 A4 A5 q0 q1 q2 q3 q4 q5 l) (hS : FnBox w sb 145 #[.pointer (some ⟨lb, 0, none⟩)] 190) (h : LoA w w.heap.size A0 A1 A2 A3 A4 A5 q0 q1 q2 q3 q4 q5 l) (hok : ∀ k, k < l.ps.length → plOk l k = true) (hf : Ints w w.heap.size (.slice Af x.form.length qf) x.form) :
  Calls Tryz.prog 147 #[.int .i64 i, .agg #[.string x.name, .int .i64 x.fp, .int .i64 x.fc, .int .i64 x.tp, .int .i64 x.tc, .int .i64 x.size, .slice Af x.form.length qf], .pointer (some ⟨lb, 0, none⟩), .pointer (some ⟨sb, 0, none⟩)] w fun e w' => e = .returned (.int .i64 (wiErr l i)) ∧ Below w.heap.size w w' := by
 have H := hide h
 have HL0 := hide hL
 have HSB := hide hS
 have HOK := hide hok
 have HFO := hide hf
 have HSZ := hide hsm
 have hEF : l.m.errF [x.form] = if validF l.m.opts.length x.form = true then 0 else 11 := by
  rw [Mo.errF_ok he, List.all_cons, List.all_nil, Bool.and_true]
  cases validF l.m.opts.length x.form <;> rfl
 clear h hL hS hok hf hsm
 cases hN : lowB (bytes x.name) with
 | false =>
  have hr : wiErr l i = 63 := by
   unfold wiErr
   have h2 : wiOk l i = false := by unfold wiOk; rw [hx]; rw [hN]; simp
   rw [h2]
   rfl
  rw [hr]
  clear hr
  have HN := hide hN
  obtain ⟨tw, htw⟩ : ∃ b, (l.ws.take i).any (fun q => bytes q.name == bytes x.name) = b := ⟨_, rfl⟩
  have HT' := hide htw
  clear htw
  clear hN
  clear hEF
  go_enter Tryz.func147, Tryz.ntmps147
  go_upto_region 1 with (fail)
  generalize hw0 : World.alloc _ _ = w0
  obtain ⟨hb0, hB0, hs0⟩ := alloc1 hw0
  have HP := hide hb0
  have HB0 := hide hB0
  have HL := hide (HL0.out.to hB0)
  have HS0 := hide (HSB.out.to hB0)
  have c0 := cellOf HL.out 5
  have hlb := box_lt HL.out
  have hct := contains_wires (fun q => bytes q.name == bytes x.name) (.pointer (some ⟨w.heap.size, 0, none⟩)) (.slice A5 i q5) (l.ws.take i) w0 (by simp; omega) (Wis.take (H.out.up hB0).w (by omega)) (fun j y Ag qg W _ _ hW => sameWi_any y x Ag Af qg qf x.form.length y.form.length _ W (box_to hb0 hW))
  have HCT := hide hct
  have hiq : (i : Int) ≤ (q5 : Int) := by have := wi_cap (H.out.up hB0).w; omega
  have hiq2 : (i : Int) ≤ (l.ws.length : Int) := by omega
  clear hb0 hB0 hs0 hw0 hct
  go_wp2_with (first | (go_at_call 148; refine HCT.out.mono ?_; rw [HT'.out]; rintro e w1 ⟨rfl, hB1⟩; obtain ⟨y0, y1, y2, y3, y4, y5⟩ := zL (HL.out.to hB1); obtain ⟨z0, z1, z2, z3, z4, z5, z6⟩ := zM (box_to HP.out hB1); have s0 := cellOf (HS0.out.to hB1) 0; have ly := box_lt (HL.out.to hB1); have lz := box_lt (box_to HP.out hB1); have ls := box_lt (HS0.out.to hB1); have HB1 := hide (Below.to HB0.out hB1 (Nat.le_refl _)); have HL1 := hide (HL.out.to hB1); have HS1 := hide (HS0.out.to hB1); have HP1 := hide (box_to HP.out hB1); clear hB1 c0) | (go_at_call 144; refine (low_any _ _ hsz).mono ?_; rw [show lowB x.name.data.toList = _ from HN.out]; rintro e w3 ⟨rfl, rfl⟩))
  go_ret
  exact ⟨rfl, HB1.out⟩
 | true =>
  cases hT : (l.ws.take i).any (fun q => bytes q.name == bytes x.name) with
  | true =>
   have hr : wiErr l i = 63 := by
    unfold wiErr
    have h2 : wiOk l i = false := by unfold wiOk; rw [hx]; rw [hN, hT]; simp
    rw [h2]
    rfl
   rw [hr]
   clear hr
   have HN := hide hN
   have HT' := hide hT
   clear hN hT
   clear hEF
   go_enter Tryz.func147, Tryz.ntmps147
   go_upto_region 1 with (fail)
   generalize hw0 : World.alloc _ _ = w0
   obtain ⟨hb0, hB0, hs0⟩ := alloc1 hw0
   have HP := hide hb0
   have HB0 := hide hB0
   have HL := hide (HL0.out.to hB0)
   have HS0 := hide (HSB.out.to hB0)
   have c0 := cellOf HL.out 5
   have hlb := box_lt HL.out
   have hct := contains_wires (fun q => bytes q.name == bytes x.name) (.pointer (some ⟨w.heap.size, 0, none⟩)) (.slice A5 i q5) (l.ws.take i) w0 (by simp; omega) (Wis.take (H.out.up hB0).w (by omega)) (fun j y Ag qg W _ _ hW => sameWi_any y x Ag Af qg qf x.form.length y.form.length _ W (box_to hb0 hW))
   have HCT := hide hct
   have hiq : (i : Int) ≤ (q5 : Int) := by have := wi_cap (H.out.up hB0).w; omega
   have hiq2 : (i : Int) ≤ (l.ws.length : Int) := by omega
   clear hb0 hB0 hs0 hw0 hct
   go_wp2_with (first | (go_at_call 148; refine HCT.out.mono ?_; rw [HT'.out]; rintro e w1 ⟨rfl, hB1⟩; obtain ⟨y0, y1, y2, y3, y4, y5⟩ := zL (HL.out.to hB1); obtain ⟨z0, z1, z2, z3, z4, z5, z6⟩ := zM (box_to HP.out hB1); have s0 := cellOf (HS0.out.to hB1) 0; have ly := box_lt (HL.out.to hB1); have lz := box_lt (box_to HP.out hB1); have ls := box_lt (HS0.out.to hB1); have HB1 := hide (Below.to HB0.out hB1 (Nat.le_refl _)); have HL1 := hide (HL.out.to hB1); have HS1 := hide (HS0.out.to hB1); have HP1 := hide (box_to HP.out hB1); clear hB1 c0) | (go_at_call 144; refine (low_any _ _ hsz).mono ?_; rw [show lowB x.name.data.toList = _ from HN.out]; rintro e w3 ⟨rfl, rfl⟩))
   go_ret
   exact ⟨rfl, HB1.out⟩
  | false =>
   cases hP : pinOk l x.fp x.fc with
   | false =>
    have hr : wiErr l i = 63 := by
     unfold wiErr
     have h2 : wiOk l i = false := by unfold wiOk; rw [hx]; rw [hN, hT, hP]; simp
     rw [h2]
     rfl
    rw [hr]
    clear hr
    have HN := hide hN
    have HT' := hide hT
    have HP_ := hide hP
    clear hN hT hP
    clear hEF
    go_enter Tryz.func147, Tryz.ntmps147
    go_upto_region 1 with (fail)
    generalize hw0 : World.alloc _ _ = w0
    obtain ⟨hb0, hB0, hs0⟩ := alloc1 hw0
    have HP := hide hb0
    have HB0 := hide hB0
    have HL := hide (HL0.out.to hB0)
    have HS0 := hide (HSB.out.to hB0)
    have c0 := cellOf HL.out 5
    have hlb := box_lt HL.out
    have hct := contains_wires (fun q => bytes q.name == bytes x.name) (.pointer (some ⟨w.heap.size, 0, none⟩)) (.slice A5 i q5) (l.ws.take i) w0 (by simp; omega) (Wis.take (H.out.up hB0).w (by omega)) (fun j y Ag qg W _ _ hW => sameWi_any y x Ag Af qg qf x.form.length y.form.length _ W (box_to hb0 hW))
    have HCT := hide hct
    have hiq : (i : Int) ≤ (q5 : Int) := by have := wi_cap (H.out.up hB0).w; omega
    have hiq2 : (i : Int) ≤ (l.ws.length : Int) := by omega
    clear hb0 hB0 hs0 hw0 hct
    go_wp2_with (first | (go_at_call 148; refine HCT.out.mono ?_; rw [HT'.out]; rintro e w1 ⟨rfl, hB1⟩; obtain ⟨y0, y1, y2, y3, y4, y5⟩ := zL (HL.out.to hB1); obtain ⟨z0, z1, z2, z3, z4, z5, z6⟩ := zM (box_to HP.out hB1); have s0 := cellOf (HS0.out.to hB1) 0; have ly := box_lt (HL.out.to hB1); have lz := box_lt (box_to HP.out hB1); have ls := box_lt (HS0.out.to hB1); have HB1 := hide (Below.to HB0.out hB1 (Nat.le_refl _)); have HL1 := hide (HL.out.to hB1); have HS1 := hide (HS0.out.to hB1); have HP1 := hide (box_to HP.out hB1); clear hB1 c0) | (go_at_call 144; refine (low_any _ _ hsz).mono ?_; rw [show lowB x.name.data.toList = _ from HN.out]; rintro e w3 ⟨rfl, rfl⟩) | (go_at_call 145; refine (pin_any x.fp x.fc _ _ _ _ _ _ _ _ _ _ _ _ l lb _ hp HL1.out (H.out.up HB1.out) HOK.out).mono ?_; rw [HP_.out]; rintro e w4 ⟨rfl, hB4⟩; have HB4 := hide (Below.to HB1.out hB4 (Nat.le_refl _)); have HL4 := hide (HL1.out.to hB4); obtain ⟨p0, p1, p2, p3, p4, p5, p6⟩ := zM (box_to HP1.out hB4); obtain ⟨r0, r1, r2, r3, r4, r5⟩ := zL (HL1.out.to hB4); have s4 := cellOf (HS1.out.to hB4) 0; have HS4 := hide (HS1.out.to hB4); have HP4 := hide (box_to HP1.out hB4); have lp4 := box_lt (box_to HP1.out hB4); have ls4 := box_lt (HS1.out.to hB4); have ll4 := box_lt (HL1.out.to hB4); clear hB4 s0 z0 z1 z2 z3 z4 z5 z6 y0 y1 y2 y3 y4 y5 ly lz ls))
    go_ret
    exact ⟨rfl, HB4.out⟩
   | true =>
    cases hQ : pinOk l x.tp x.tc with
    | false =>
     have hr : wiErr l i = 63 := by
      unfold wiErr
      have h2 : wiOk l i = false := by unfold wiOk; rw [hx]; rw [hN, hT, hP, hQ]; simp
      rw [h2]
      rfl
     rw [hr]
     clear hr
     have HN := hide hN
     have HT' := hide hT
     have HP_ := hide hP
     have HQ_ := hide hQ
     clear hN hT hP hQ
     clear hEF
     go_enter Tryz.func147, Tryz.ntmps147
     go_upto_region 1 with (fail)
     generalize hw0 : World.alloc _ _ = w0
     obtain ⟨hb0, hB0, hs0⟩ := alloc1 hw0
     have HP := hide hb0
     have HB0 := hide hB0
     have HL := hide (HL0.out.to hB0)
     have HS0 := hide (HSB.out.to hB0)
     have c0 := cellOf HL.out 5
     have hlb := box_lt HL.out
     have hct := contains_wires (fun q => bytes q.name == bytes x.name) (.pointer (some ⟨w.heap.size, 0, none⟩)) (.slice A5 i q5) (l.ws.take i) w0 (by simp; omega) (Wis.take (H.out.up hB0).w (by omega)) (fun j y Ag qg W _ _ hW => sameWi_any y x Ag Af qg qf x.form.length y.form.length _ W (box_to hb0 hW))
     have HCT := hide hct
     have hiq : (i : Int) ≤ (q5 : Int) := by have := wi_cap (H.out.up hB0).w; omega
     have hiq2 : (i : Int) ≤ (l.ws.length : Int) := by omega
     clear hb0 hB0 hs0 hw0 hct
     go_wp2_with (first | (go_at_call 148; refine HCT.out.mono ?_; rw [HT'.out]; rintro e w1 ⟨rfl, hB1⟩; obtain ⟨y0, y1, y2, y3, y4, y5⟩ := zL (HL.out.to hB1); obtain ⟨z0, z1, z2, z3, z4, z5, z6⟩ := zM (box_to HP.out hB1); have s0 := cellOf (HS0.out.to hB1) 0; have ly := box_lt (HL.out.to hB1); have lz := box_lt (box_to HP.out hB1); have ls := box_lt (HS0.out.to hB1); have HB1 := hide (Below.to HB0.out hB1 (Nat.le_refl _)); have HL1 := hide (HL.out.to hB1); have HS1 := hide (HS0.out.to hB1); have HP1 := hide (box_to HP.out hB1); clear hB1 c0) | (go_at_call 144; refine (low_any _ _ hsz).mono ?_; rw [show lowB x.name.data.toList = _ from HN.out]; rintro e w3 ⟨rfl, rfl⟩) | (go_at_call 145; refine (pin_any x.tp x.tc _ _ _ _ _ _ _ _ _ _ _ _ l lb _ hp HL4.out (H.out.up HB4.out) HOK.out).mono ?_; rw [HQ_.out]; rintro e w6 ⟨rfl, hB6⟩; have HB6 := hide (Below.to HB4.out hB6 (Nat.le_refl _)); obtain ⟨o0, o1, o2, o3, o4, o5, o6⟩ := zM (box_to HP4.out hB6); obtain ⟨v0, v1, v2, v3, v4, v5⟩ := zL (HL4.out.to hB6); have lp6 := box_lt (box_to HP4.out hB6); have ll6 := box_lt (HL4.out.to hB6); clear hB6 s4 p0 p1 p2 p3 p4 p5 p6 r0 r1 r2 r3 r4 r5 lp4 ls4 ll4) | (go_at_call 145; refine (pin_any x.fp x.fc _ _ _ _ _ _ _ _ _ _ _ _ l lb _ hp HL1.out (H.out.up HB1.out) HOK.out).mono ?_; rw [HP_.out]; rintro e w4 ⟨rfl, hB4⟩; have HB4 := hide (Below.to HB1.out hB4 (Nat.le_refl _)); have HL4 := hide (HL1.out.to hB4); obtain ⟨p0, p1, p2, p3, p4, p5, p6⟩ := zM (box_to HP1.out hB4); obtain ⟨r0, r1, r2, r3, r4, r5⟩ := zL (HL1.out.to hB4); have s4 := cellOf (HS1.out.to hB4) 0; have HS4 := hide (HS1.out.to hB4); have HP4 := hide (box_to HP1.out hB4); have lp4 := box_lt (box_to HP1.out hB4); have ls4 := box_lt (HS1.out.to hB4); have ll4 := box_lt (HL1.out.to hB4); clear hB4 s0 z0 z1 z2 z3 z4 z5 z6 y0 y1 y2 y3 y4 y5 ly lz ls))
     go_ret
     exact ⟨rfl, HB6.out⟩
    | true =>
     cases hE : (decide (x.fp = x.tp) && decide (x.fc = x.tc)) with
     | true =>
      have hr : wiErr l i = 63 := by
       unfold wiErr
       have h2 : wiOk l i = false := by unfold wiOk; rw [hx]; rw [hN, hT, hP, hQ, hE]; simp
       rw [h2]
       rfl
      rw [hr]
      clear hr
      have HN := hide hN
      have HT' := hide hT
      have HP_ := hide hP
      have HQ_ := hide hQ
      clear hN hT hP hQ
      clear hEF
      obtain ⟨n1, n2⟩ : x.fp = x.tp ∧ x.fc = x.tc := by simpa using hE
      have m1 : (x.fp == x.tp) = true := by simp [n1]
      have m2 : (x.fc == x.tc) = true := by simp [n2]
      have N1 := hide n1
      have N2 := hide n2
      clear hE n1 n2
      go_enter Tryz.func147, Tryz.ntmps147
      go_upto_region 1 with (fail)
      generalize hw0 : World.alloc _ _ = w0
      obtain ⟨hb0, hB0, hs0⟩ := alloc1 hw0
      have HP := hide hb0
      have HB0 := hide hB0
      have HL := hide (HL0.out.to hB0)
      have HS0 := hide (HSB.out.to hB0)
      have c0 := cellOf HL.out 5
      have hlb := box_lt HL.out
      have hct := contains_wires (fun q => bytes q.name == bytes x.name) (.pointer (some ⟨w.heap.size, 0, none⟩)) (.slice A5 i q5) (l.ws.take i) w0 (by simp; omega) (Wis.take (H.out.up hB0).w (by omega)) (fun j y Ag qg W _ _ hW => sameWi_any y x Ag Af qg qf x.form.length y.form.length _ W (box_to hb0 hW))
      have HCT := hide hct
      have hiq : (i : Int) ≤ (q5 : Int) := by have := wi_cap (H.out.up hB0).w; omega
      have hiq2 : (i : Int) ≤ (l.ws.length : Int) := by omega
      clear hb0 hB0 hs0 hw0 hct
      go_wp2_with (first | (go_at_call 148; refine HCT.out.mono ?_; rw [HT'.out]; rintro e w1 ⟨rfl, hB1⟩; obtain ⟨y0, y1, y2, y3, y4, y5⟩ := zL (HL.out.to hB1); obtain ⟨z0, z1, z2, z3, z4, z5, z6⟩ := zM (box_to HP.out hB1); have s0 := cellOf (HS0.out.to hB1) 0; have ly := box_lt (HL.out.to hB1); have lz := box_lt (box_to HP.out hB1); have ls := box_lt (HS0.out.to hB1); have HB1 := hide (Below.to HB0.out hB1 (Nat.le_refl _)); have HL1 := hide (HL.out.to hB1); have HS1 := hide (HS0.out.to hB1); have HP1 := hide (box_to HP.out hB1); clear hB1 c0) | (go_at_call 144; refine (low_any _ _ hsz).mono ?_; rw [show lowB x.name.data.toList = _ from HN.out]; rintro e w3 ⟨rfl, rfl⟩) | (go_at_call 145; refine (pin_any x.tp x.tc _ _ _ _ _ _ _ _ _ _ _ _ l lb _ hp HL4.out (H.out.up HB4.out) HOK.out).mono ?_; rw [HQ_.out]; rintro e w6 ⟨rfl, hB6⟩; have HB6 := hide (Below.to HB4.out hB6 (Nat.le_refl _)); obtain ⟨o0, o1, o2, o3, o4, o5, o6⟩ := zM (box_to HP4.out hB6); obtain ⟨v0, v1, v2, v3, v4, v5⟩ := zL (HL4.out.to hB6); have lp6 := box_lt (box_to HP4.out hB6); have ll6 := box_lt (HL4.out.to hB6); clear hB6 s4 p0 p1 p2 p3 p4 p5 p6 r0 r1 r2 r3 r4 r5 lp4 ls4 ll4) | (go_at_call 145; refine (pin_any x.fp x.fc _ _ _ _ _ _ _ _ _ _ _ _ l lb _ hp HL1.out (H.out.up HB1.out) HOK.out).mono ?_; rw [HP_.out]; rintro e w4 ⟨rfl, hB4⟩; have HB4 := hide (Below.to HB1.out hB4 (Nat.le_refl _)); have HL4 := hide (HL1.out.to hB4); obtain ⟨p0, p1, p2, p3, p4, p5, p6⟩ := zM (box_to HP1.out hB4); obtain ⟨r0, r1, r2, r3, r4, r5⟩ := zL (HL1.out.to hB4); have s4 := cellOf (HS1.out.to hB4) 0; have HS4 := hide (HS1.out.to hB4); have HP4 := hide (box_to HP1.out hB4); have lp4 := box_lt (box_to HP1.out hB4); have ls4 := box_lt (HS1.out.to hB4); have ll4 := box_lt (HL1.out.to hB4); clear hB4 s0 z0 z1 z2 z3 z4 z5 z6 y0 y1 y2 y3 y4 y5 ly lz ls))
      go_ret
      exact ⟨rfl, HB6.out⟩
     | false =>
      cases hZ : btw x.size 1 10000 with
      | false =>
       have hr : wiErr l i = 63 := by
        unfold wiErr
        have h2 : wiOk l i = false := by unfold wiOk; rw [hx]; rw [hN, hT, hP, hQ, hE, hZ]; simp
        rw [h2]
        rfl
       rw [hr]
       clear hr
       have HN := hide hN
       have HT' := hide hT
       have HP_ := hide hP
       have HQ_ := hide hQ
       have HZ := hide hZ
       clear hN hT hP hQ hZ
       clear hEF
       by_cases n1 : x.fp = x.tp
       ·
        have m1 : (x.fp == x.tp) = true := by simp [n1]
        have m2 : (x.fc == x.tc) = false := by simpa [n1] using hE
        clear n1 hE
        go_enter Tryz.func147, Tryz.ntmps147
        go_upto_region 1 with (fail)
        generalize hw0 : World.alloc _ _ = w0
        obtain ⟨hb0, hB0, hs0⟩ := alloc1 hw0
        have HP := hide hb0
        have HB0 := hide hB0
        have HL := hide (HL0.out.to hB0)
        have HS0 := hide (HSB.out.to hB0)
        have c0 := cellOf HL.out 5
        have hlb := box_lt HL.out
        have hct := contains_wires (fun q => bytes q.name == bytes x.name) (.pointer (some ⟨w.heap.size, 0, none⟩)) (.slice A5 i q5) (l.ws.take i) w0 (by simp; omega) (Wis.take (H.out.up hB0).w (by omega)) (fun j y Ag qg W _ _ hW => sameWi_any y x Ag Af qg qf x.form.length y.form.length _ W (box_to hb0 hW))
        have HCT := hide hct
        have hiq : (i : Int) ≤ (q5 : Int) := by have := wi_cap (H.out.up hB0).w; omega
        have hiq2 : (i : Int) ≤ (l.ws.length : Int) := by omega
        clear hb0 hB0 hs0 hw0 hct
        go_wp2_with (first | (go_at_call 148; refine HCT.out.mono ?_; rw [HT'.out]; rintro e w1 ⟨rfl, hB1⟩; obtain ⟨y0, y1, y2, y3, y4, y5⟩ := zL (HL.out.to hB1); obtain ⟨z0, z1, z2, z3, z4, z5, z6⟩ := zM (box_to HP.out hB1); have s0 := cellOf (HS0.out.to hB1) 0; have ly := box_lt (HL.out.to hB1); have lz := box_lt (box_to HP.out hB1); have ls := box_lt (HS0.out.to hB1); have HB1 := hide (Below.to HB0.out hB1 (Nat.le_refl _)); have HL1 := hide (HL.out.to hB1); have HS1 := hide (HS0.out.to hB1); have HP1 := hide (box_to HP.out hB1); clear hB1 c0) | (go_at_call 144; refine (low_any _ _ hsz).mono ?_; rw [show lowB x.name.data.toList = _ from HN.out]; rintro e w3 ⟨rfl, rfl⟩) | (go_at_call 145; refine (pin_any x.tp x.tc _ _ _ _ _ _ _ _ _ _ _ _ l lb _ hp HL4.out (H.out.up HB4.out) HOK.out).mono ?_; rw [HQ_.out]; rintro e w6 ⟨rfl, hB6⟩; have HB6 := hide (Below.to HB4.out hB6 (Nat.le_refl _)); obtain ⟨o0, o1, o2, o3, o4, o5, o6⟩ := zM (box_to HP4.out hB6); obtain ⟨v0, v1, v2, v3, v4, v5⟩ := zL (HL4.out.to hB6); have lp6 := box_lt (box_to HP4.out hB6); have ll6 := box_lt (HL4.out.to hB6); clear hB6 s4 p0 p1 p2 p3 p4 p5 p6 r0 r1 r2 r3 r4 r5 lp4 ls4 ll4) | (go_at_call 145; refine (pin_any x.fp x.fc _ _ _ _ _ _ _ _ _ _ _ _ l lb _ hp HL1.out (H.out.up HB1.out) HOK.out).mono ?_; rw [HP_.out]; rintro e w4 ⟨rfl, hB4⟩; have HB4 := hide (Below.to HB1.out hB4 (Nat.le_refl _)); have HL4 := hide (HL1.out.to hB4); obtain ⟨p0, p1, p2, p3, p4, p5, p6⟩ := zM (box_to HP1.out hB4); obtain ⟨r0, r1, r2, r3, r4, r5⟩ := zL (HL1.out.to hB4); have s4 := cellOf (HS1.out.to hB4) 0; have HS4 := hide (HS1.out.to hB4); have HP4 := hide (box_to HP1.out hB4); have lp4 := box_lt (box_to HP1.out hB4); have ls4 := box_lt (HS1.out.to hB4); have ll4 := box_lt (HL1.out.to hB4); clear hB4 s0 z0 z1 z2 z3 z4 z5 z6 y0 y1 y2 y3 y4 y5 ly lz ls) | (go_at_call 106; refine (withinB_any _ _ _ _ _ HZ.out).mono ?_; rintro e w5 ⟨rfl, rfl⟩))
        go_ret
        exact ⟨rfl, HB6.out⟩
       ·
        have m1 : (x.fp == x.tp) = false := by simpa using n1
        clear n1 hE
        go_enter Tryz.func147, Tryz.ntmps147
        go_upto_region 1 with (fail)
        generalize hw0 : World.alloc _ _ = w0
        obtain ⟨hb0, hB0, hs0⟩ := alloc1 hw0
        have HP := hide hb0
        have HB0 := hide hB0
        have HL := hide (HL0.out.to hB0)
        have HS0 := hide (HSB.out.to hB0)
        have c0 := cellOf HL.out 5
        have hlb := box_lt HL.out
        have hct := contains_wires (fun q => bytes q.name == bytes x.name) (.pointer (some ⟨w.heap.size, 0, none⟩)) (.slice A5 i q5) (l.ws.take i) w0 (by simp; omega) (Wis.take (H.out.up hB0).w (by omega)) (fun j y Ag qg W _ _ hW => sameWi_any y x Ag Af qg qf x.form.length y.form.length _ W (box_to hb0 hW))
        have HCT := hide hct
        have hiq : (i : Int) ≤ (q5 : Int) := by have := wi_cap (H.out.up hB0).w; omega
        have hiq2 : (i : Int) ≤ (l.ws.length : Int) := by omega
        clear hb0 hB0 hs0 hw0 hct
        go_wp2_with (first | (go_at_call 148; refine HCT.out.mono ?_; rw [HT'.out]; rintro e w1 ⟨rfl, hB1⟩; obtain ⟨y0, y1, y2, y3, y4, y5⟩ := zL (HL.out.to hB1); obtain ⟨z0, z1, z2, z3, z4, z5, z6⟩ := zM (box_to HP.out hB1); have s0 := cellOf (HS0.out.to hB1) 0; have ly := box_lt (HL.out.to hB1); have lz := box_lt (box_to HP.out hB1); have ls := box_lt (HS0.out.to hB1); have HB1 := hide (Below.to HB0.out hB1 (Nat.le_refl _)); have HL1 := hide (HL.out.to hB1); have HS1 := hide (HS0.out.to hB1); have HP1 := hide (box_to HP.out hB1); clear hB1 c0) | (go_at_call 144; refine (low_any _ _ hsz).mono ?_; rw [show lowB x.name.data.toList = _ from HN.out]; rintro e w3 ⟨rfl, rfl⟩) | (go_at_call 145; refine (pin_any x.tp x.tc _ _ _ _ _ _ _ _ _ _ _ _ l lb _ hp HL4.out (H.out.up HB4.out) HOK.out).mono ?_; rw [HQ_.out]; rintro e w6 ⟨rfl, hB6⟩; have HB6 := hide (Below.to HB4.out hB6 (Nat.le_refl _)); obtain ⟨o0, o1, o2, o3, o4, o5, o6⟩ := zM (box_to HP4.out hB6); obtain ⟨v0, v1, v2, v3, v4, v5⟩ := zL (HL4.out.to hB6); have lp6 := box_lt (box_to HP4.out hB6); have ll6 := box_lt (HL4.out.to hB6); clear hB6 s4 p0 p1 p2 p3 p4 p5 p6 r0 r1 r2 r3 r4 r5 lp4 ls4 ll4) | (go_at_call 145; refine (pin_any x.fp x.fc _ _ _ _ _ _ _ _ _ _ _ _ l lb _ hp HL1.out (H.out.up HB1.out) HOK.out).mono ?_; rw [HP_.out]; rintro e w4 ⟨rfl, hB4⟩; have HB4 := hide (Below.to HB1.out hB4 (Nat.le_refl _)); have HL4 := hide (HL1.out.to hB4); obtain ⟨p0, p1, p2, p3, p4, p5, p6⟩ := zM (box_to HP1.out hB4); obtain ⟨r0, r1, r2, r3, r4, r5⟩ := zL (HL1.out.to hB4); have s4 := cellOf (HS1.out.to hB4) 0; have HS4 := hide (HS1.out.to hB4); have HP4 := hide (box_to HP1.out hB4); have lp4 := box_lt (box_to HP1.out hB4); have ls4 := box_lt (HS1.out.to hB4); have ll4 := box_lt (HL1.out.to hB4); clear hB4 s0 z0 z1 z2 z3 z4 z5 z6 y0 y1 y2 y3 y4 y5 ly lz ls) | (go_at_call 106; refine (withinB_any _ _ _ _ _ HZ.out).mono ?_; rintro e w5 ⟨rfl, rfl⟩))
        go_ret
        exact ⟨rfl, HB6.out⟩
      | true =>
       have hr : wiErr l i = mustE (validF l.m.opts.length x.form) 11 := by
        unfold wiErr
        have h2 : wiOk l i = true := by unfold wiOk; rw [hx]; rw [hN, hT, hP, hQ, hE, hZ]; rfl
        rw [h2, hx]
        cases validF l.m.opts.length x.form <;> rfl
       rw [hr]
       clear hr
       have HN := hide hN
       have HT' := hide hT
       have HP_ := hide hP
       have HQ_ := hide hQ
       have HZ := hide hZ
       clear hN hT hP hQ hZ
       have hef := hEF
       obtain ⟨ef, hef2⟩ : ∃ e, validF l.m.opts.length x.form = e := ⟨_, rfl⟩
       rw [hef2] at hef ⊢
       have hvb : ((if ef = true then (0 : Int) else 11) == 0) = ef := by cases ef <;> rfl
       obtain ⟨en, hen⟩ : ∃ n : Int, (if ef = true then (0 : Int) else 11) = n := ⟨_, rfl⟩
       rw [hen] at hef hvb
       have HEF := hide hef
       clear hef hef2 hen
       clear hEF
       by_cases n1 : x.fp = x.tp
       ·
        have m1 : (x.fp == x.tp) = true := by simp [n1]
        have m2 : (x.fc == x.tc) = false := by simpa [n1] using hE
        clear n1 hE
        go_enter Tryz.func147, Tryz.ntmps147
        go_upto_region 1 with (fail)
        generalize hw0 : World.alloc _ _ = w0
        obtain ⟨hb0, hB0, hs0⟩ := alloc1 hw0
        have HP := hide hb0
        have HB0 := hide hB0
        have HL := hide (HL0.out.to hB0)
        have HS0 := hide (HSB.out.to hB0)
        have c0 := cellOf HL.out 5
        have hlb := box_lt HL.out
        have hct := contains_wires (fun q => bytes q.name == bytes x.name) (.pointer (some ⟨w.heap.size, 0, none⟩)) (.slice A5 i q5) (l.ws.take i) w0 (by simp; omega) (Wis.take (H.out.up hB0).w (by omega)) (fun j y Ag qg W _ _ hW => sameWi_any y x Ag Af qg qf x.form.length y.form.length _ W (box_to hb0 hW))
        have HCT := hide hct
        have hiq : (i : Int) ≤ (q5 : Int) := by have := wi_cap (H.out.up hB0).w; omega
        have hiq2 : (i : Int) ≤ (l.ws.length : Int) := by omega
        clear hb0 hB0 hs0 hw0 hct
        go_wp2_with (first | (go_at_call 148; refine HCT.out.mono ?_; rw [HT'.out]; rintro e w1 ⟨rfl, hB1⟩; obtain ⟨y0, y1, y2, y3, y4, y5⟩ := zL (HL.out.to hB1); obtain ⟨z0, z1, z2, z3, z4, z5, z6⟩ := zM (box_to HP.out hB1); have s0 := cellOf (HS0.out.to hB1) 0; have ly := box_lt (HL.out.to hB1); have lz := box_lt (box_to HP.out hB1); have ls := box_lt (HS0.out.to hB1); have HB1 := hide (Below.to HB0.out hB1 (Nat.le_refl _)); have HL1 := hide (HL.out.to hB1); have HS1 := hide (HS0.out.to hB1); have HP1 := hide (box_to HP.out hB1); clear hB1 c0) | (go_at_call 144; refine (low_any _ _ hsz).mono ?_; rw [show lowB x.name.data.toList = _ from HN.out]; rintro e w3 ⟨rfl, rfl⟩) | (go_at_call 145; refine (pin_any x.tp x.tc _ _ _ _ _ _ _ _ _ _ _ _ l lb _ hp HL4.out (H.out.up HB4.out) HOK.out).mono ?_; rw [HQ_.out]; rintro e w6 ⟨rfl, hB6⟩; have HB6 := hide (Below.to HB4.out hB6 (Nat.le_refl _)); obtain ⟨o0, o1, o2, o3, o4, o5, o6⟩ := zM (box_to HP4.out hB6); obtain ⟨v0, v1, v2, v3, v4, v5⟩ := zL (HL4.out.to hB6); have lp6 := box_lt (box_to HP4.out hB6); have ll6 := box_lt (HL4.out.to hB6); clear hB6 s4 p0 p1 p2 p3 p4 p5 p6 r0 r1 r2 r3 r4 r5 lp4 ls4 ll4) | (go_at_call 145; refine (pin_any x.fp x.fc _ _ _ _ _ _ _ _ _ _ _ _ l lb _ hp HL1.out (H.out.up HB1.out) HOK.out).mono ?_; rw [HP_.out]; rintro e w4 ⟨rfl, hB4⟩; have HB4 := hide (Below.to HB1.out hB4 (Nat.le_refl _)); have HL4 := hide (HL1.out.to hB4); obtain ⟨p0, p1, p2, p3, p4, p5, p6⟩ := zM (box_to HP1.out hB4); obtain ⟨r0, r1, r2, r3, r4, r5⟩ := zL (HL1.out.to hB4); have s4 := cellOf (HS1.out.to hB4) 0; have HS4 := hide (HS1.out.to hB4); have HP4 := hide (box_to HP1.out hB4); have lp4 := box_lt (box_to HP1.out hB4); have ls4 := box_lt (HS1.out.to hB4); have ll4 := box_lt (HL1.out.to hB4); clear hB4 s0 z0 z1 z2 z3 z4 z5 z6 y0 y1 y2 y3 y4 y5 ly lz ls) | (go_at_call 106; refine (withinB_any _ _ _ _ _ HZ.out).mono ?_; rintro e w5 ⟨rfl, rfl⟩) | (go_at_call 150; refine (CheckFormula_any l.m x.form _ _ _ _ HSZ.out hfl (H.out.up HB6.out).m (HFO.out.up HB6.out)).mono ?_; rw [HEF.out]; rintro e w8 ⟨rfl, hB8⟩; have HB8 := hide (Below.to HB6.out hB8 (Nat.le_refl _)); clear hB8) | (go_at_call 134; refine (must_any _ _ _).mono ?_; rintro e w9 ⟨rfl, rfl⟩))
        go_ret
        exact ⟨rfl, HB8.out⟩
       ·
        have m1 : (x.fp == x.tp) = false := by simpa using n1
        clear n1 hE
        go_enter Tryz.func147, Tryz.ntmps147
        go_upto_region 1 with (fail)
        generalize hw0 : World.alloc _ _ = w0
        obtain ⟨hb0, hB0, hs0⟩ := alloc1 hw0
        have HP := hide hb0
        have HB0 := hide hB0
        have HL := hide (HL0.out.to hB0)
        have HS0 := hide (HSB.out.to hB0)
        have c0 := cellOf HL.out 5
        have hlb := box_lt HL.out
        have hct := contains_wires (fun q => bytes q.name == bytes x.name) (.pointer (some ⟨w.heap.size, 0, none⟩)) (.slice A5 i q5) (l.ws.take i) w0 (by simp; omega) (Wis.take (H.out.up hB0).w (by omega)) (fun j y Ag qg W _ _ hW => sameWi_any y x Ag Af qg qf x.form.length y.form.length _ W (box_to hb0 hW))
        have HCT := hide hct
        have hiq : (i : Int) ≤ (q5 : Int) := by have := wi_cap (H.out.up hB0).w; omega
        have hiq2 : (i : Int) ≤ (l.ws.length : Int) := by omega
        clear hb0 hB0 hs0 hw0 hct
        go_wp2_with (first | (go_at_call 148; refine HCT.out.mono ?_; rw [HT'.out]; rintro e w1 ⟨rfl, hB1⟩; obtain ⟨y0, y1, y2, y3, y4, y5⟩ := zL (HL.out.to hB1); obtain ⟨z0, z1, z2, z3, z4, z5, z6⟩ := zM (box_to HP.out hB1); have s0 := cellOf (HS0.out.to hB1) 0; have ly := box_lt (HL.out.to hB1); have lz := box_lt (box_to HP.out hB1); have ls := box_lt (HS0.out.to hB1); have HB1 := hide (Below.to HB0.out hB1 (Nat.le_refl _)); have HL1 := hide (HL.out.to hB1); have HS1 := hide (HS0.out.to hB1); have HP1 := hide (box_to HP.out hB1); clear hB1 c0) | (go_at_call 144; refine (low_any _ _ hsz).mono ?_; rw [show lowB x.name.data.toList = _ from HN.out]; rintro e w3 ⟨rfl, rfl⟩) | (go_at_call 145; refine (pin_any x.tp x.tc _ _ _ _ _ _ _ _ _ _ _ _ l lb _ hp HL4.out (H.out.up HB4.out) HOK.out).mono ?_; rw [HQ_.out]; rintro e w6 ⟨rfl, hB6⟩; have HB6 := hide (Below.to HB4.out hB6 (Nat.le_refl _)); obtain ⟨o0, o1, o2, o3, o4, o5, o6⟩ := zM (box_to HP4.out hB6); obtain ⟨v0, v1, v2, v3, v4, v5⟩ := zL (HL4.out.to hB6); have lp6 := box_lt (box_to HP4.out hB6); have ll6 := box_lt (HL4.out.to hB6); clear hB6 s4 p0 p1 p2 p3 p4 p5 p6 r0 r1 r2 r3 r4 r5 lp4 ls4 ll4) | (go_at_call 145; refine (pin_any x.fp x.fc _ _ _ _ _ _ _ _ _ _ _ _ l lb _ hp HL1.out (H.out.up HB1.out) HOK.out).mono ?_; rw [HP_.out]; rintro e w4 ⟨rfl, hB4⟩; have HB4 := hide (Below.to HB1.out hB4 (Nat.le_refl _)); have HL4 := hide (HL1.out.to hB4); obtain ⟨p0, p1, p2, p3, p4, p5, p6⟩ := zM (box_to HP1.out hB4); obtain ⟨r0, r1, r2, r3, r4, r5⟩ := zL (HL1.out.to hB4); have s4 := cellOf (HS1.out.to hB4) 0; have HS4 := hide (HS1.out.to hB4); have HP4 := hide (box_to HP1.out hB4); have lp4 := box_lt (box_to HP1.out hB4); have ls4 := box_lt (HS1.out.to hB4); have ll4 := box_lt (HL1.out.to hB4); clear hB4 s0 z0 z1 z2 z3 z4 z5 z6 y0 y1 y2 y3 y4 y5 ly lz ls) | (go_at_call 106; refine (withinB_any _ _ _ _ _ HZ.out).mono ?_; rintro e w5 ⟨rfl, rfl⟩) | (go_at_call 150; refine (CheckFormula_any l.m x.form _ _ _ _ HSZ.out hfl (H.out.up HB6.out).m (HFO.out.up HB6.out)).mono ?_; rw [HEF.out]; rintro e w8 ⟨rfl, hB8⟩; have HB8 := hide (Below.to HB6.out hB8 (Nat.le_refl _)); clear hB8) | (go_at_call 134; refine (must_any _ _ _).mono ?_; rintro e w9 ⟨rfl, rfl⟩))
        go_ret
        exact ⟨rfl, HB8.out⟩
end Go.Proofs.YtehadoecnmfeoaaGreat

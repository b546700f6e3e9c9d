/- Part 23 of this claim's texts: walks and plain laws. -/
import Derived.Test.YtehadoecnmfeoaaGreatRows
import Derived.Test.YtehadoecnmfeoaaGreatGBS22
import Derived.Test.YtehadoecnmfeoaaGreatGBS3
import Derived.Deep.RegionHeld3
import Derived.Deep.DrawnRows
set_option linter.unusedVariables false
set_option linter.unusedSimpArgs false
set_option linter.unusedSectionVars false
namespace Go.Proofs.YtehadoecnmfeoaaGreat
open Go.RowKit
theorem sl_cap {w : World} {B sz n : Nat} {A : Option Addr} {m q : Nat} {f : Nat → Nat → Value} (h : Sl w B sz (.slice A m q) n f) : m = n ∧ n ≤ q := by
 obtain ⟨A', b, off, cap, h1, h2, _⟩ := h
 injection h1 with e1 e2 e3
 subst e2 e3
 exact ⟨rfl, h2⟩
set_option maxRecDepth 100000 in
set_option maxHeartbeats 8000000 in
theorem ckPlug_any (i : Nat) (x : Pl) (A0 A1 A2 A3 A4 A5 : Option Addr) (q0 q1 q2 q3 q4 q5 : Nat) (l : Lo) (lb sb : Nat) (w : World) (hi : i < l.ps.length) (hx : l.ps.getD i Pl.o = x) (hsz : x.name.size ≤ maxLen) (hm : l.ss.length ≤ maxLen) (hp : l.ps.length ≤ maxLen) (hL : LoBox w lb A0 A1 A2 A3 A4 A5 q0 q1 q2 q3 q4 q5 l) (hS : FnBox w sb 135 #[.pointer (some ⟨lb, 0, none⟩)] 114) (h : LoA w w.heap.size A0 A1 A2 A3 A4 A5 q0 q1 q2 q3 q4 q5 l) :
  Calls Tryz.prog 141 #[.int .i64 i, .agg #[.string x.name, .int .i64 x.spot, .int .i64 x.cav], .pointer (some ⟨lb, 0, none⟩), .pointer (some ⟨sb, 0, none⟩)] w fun e w' => e = .returned (.int .i64 (mustE (plOk l i) 62)) ∧ Below w.heap.size w w' := by
 have H := hide h
 have HL0 := hide hL
 have HSB := hide hS
 clear h hL hS
 cases hN : lowB (bytes x.name) with
 | false =>
  have hr : plOk l i = false := by unfold plOk; rw [hx]; rw [hN]; simp
  rw [hr]
  clear hr
  have HN := hide hN
  clear hN
  go_enter Tryz.func141, Tryz.ntmps141
  go_upto_region 1 with (fail)
  generalize hw0 : World.alloc _ _ = w0
  obtain ⟨hb0, hB0, hs0⟩ := alloc1 hw0
  have HP := hide hb0
  have HB0 := hide hB0
  have HL := hide (HL0.out.to hB0)
  have HS0 := hide (HSB.out.to hB0)
  have c0 := cellOf HL.out 4
  have hlb := box_lt HL.out
  have hct := contains_plugs (fun q => bytes q.name == bytes x.name) (.pointer (some ⟨w.heap.size, 0, none⟩)) (.slice A4 i q4) (l.ps.take i) w0 (by simp; omega) (Pls.take (H.out.up hB0).p (by omega)) (fun j y W _ _ hW => samePl_any y x _ W (box_to hb0 hW))
  have HCT := hide hct
  have hiq : (i : Int) ≤ (q4 : Int) := by have := sl_cap (H.out.up hB0).p; omega
  have hiq2 : (i : Int) ≤ (l.ps.length : Int) := by omega
  clear hb0 hB0 hs0 hw0 hct
  go_wp2_with (first | (go_at_call 142; refine HCT.out.mono ?_; rintro e w1 ⟨rfl, hB1⟩; obtain ⟨y0, y1, y2, y3, y4, y5⟩ := zL (HL.out.to hB1); have z0 := cellOf (box_to HP.out hB1) 0; have z1 := cellOf (box_to HP.out hB1) 1; have z2 := cellOf (box_to HP.out hB1) 2; have s0 := cellOf (HS0.out.to hB1) 0; have ly := box_lt (HL.out.to hB1); have lz := box_lt (box_to HP.out hB1); have ls := box_lt (HS0.out.to hB1); have HB1 := hide (Below.to HB0.out hB1 (Nat.le_refl _)); have HL1 := hide (HL.out.to hB1); clear hB1 c0) | (go_at_call 144; refine (low_any _ _ hsz).mono ?_; rw [show lowB x.name.data.toList = _ from HN.out]; rintro e w3 ⟨rfl, rfl⟩) | (go_at_call 134; refine (must_any _ _ _).mono ?_; rintro e w9 ⟨rfl, rfl⟩))
  go_ret
  exact ⟨rfl, HB1.out⟩
 | true =>
  cases hT : (l.ps.take i).any (fun q => bytes q.name == bytes x.name) with
  | true =>
   have hr : plOk l i = false := by unfold plOk; rw [hx]; rw [hN, hT]; simp
   rw [hr]
   clear hr
   have HN := hide hN
   have HT := hide hT
   clear hN hT
   go_enter Tryz.func141, Tryz.ntmps141
   go_upto_region 1 with (fail)
   generalize hw0 : World.alloc _ _ = w0
   obtain ⟨hb0, hB0, hs0⟩ := alloc1 hw0
   have HP := hide hb0
   have HB0 := hide hB0
   have HL := hide (HL0.out.to hB0)
   have HS0 := hide (HSB.out.to hB0)
   have c0 := cellOf HL.out 4
   have hlb := box_lt HL.out
   have hct := contains_plugs (fun q => bytes q.name == bytes x.name) (.pointer (some ⟨w.heap.size, 0, none⟩)) (.slice A4 i q4) (l.ps.take i) w0 (by simp; omega) (Pls.take (H.out.up hB0).p (by omega)) (fun j y W _ _ hW => samePl_any y x _ W (box_to hb0 hW))
   have HCT := hide hct
   have hiq : (i : Int) ≤ (q4 : Int) := by have := sl_cap (H.out.up hB0).p; omega
   have hiq2 : (i : Int) ≤ (l.ps.length : Int) := by omega
   clear hb0 hB0 hs0 hw0 hct
   go_wp2_with (first | (go_at_call 142; refine HCT.out.mono ?_; rw [HT.out]; rintro e w1 ⟨rfl, hB1⟩; obtain ⟨y0, y1, y2, y3, y4, y5⟩ := zL (HL.out.to hB1); have z0 := cellOf (box_to HP.out hB1) 0; have z1 := cellOf (box_to HP.out hB1) 1; have z2 := cellOf (box_to HP.out hB1) 2; have s0 := cellOf (HS0.out.to hB1) 0; have ly := box_lt (HL.out.to hB1); have lz := box_lt (box_to HP.out hB1); have ls := box_lt (HS0.out.to hB1); have HB1 := hide (Below.to HB0.out hB1 (Nat.le_refl _)); have HL1 := hide (HL.out.to hB1); clear hB1 c0) | (go_at_call 144; refine (low_any _ _ hsz).mono ?_; rw [show lowB x.name.data.toList = _ from HN.out]; rintro e w3 ⟨rfl, rfl⟩) | (go_at_call 134; refine (must_any _ _ _).mono ?_; rintro e w9 ⟨rfl, rfl⟩))
   go_ret
   exact ⟨rfl, HB1.out⟩
  | false =>
   cases hS : btw x.spot 0 ((l.ss.length : Int) - 1) with
   | false =>
    have hr : plOk l i = false := by unfold plOk; rw [hx]; rw [hN, hT, hS]; simp
    rw [hr]
    clear hr
    have HN := hide hN
    have HT := hide hT
    have HS := hide hS
    clear hN hT hS
    go_enter Tryz.func141, Tryz.ntmps141
    go_upto_region 1 with (fail)
    generalize hw0 : World.alloc _ _ = w0
    obtain ⟨hb0, hB0, hs0⟩ := alloc1 hw0
    have HP := hide hb0
    have HB0 := hide hB0
    have HL := hide (HL0.out.to hB0)
    have HS0 := hide (HSB.out.to hB0)
    have c0 := cellOf HL.out 4
    have hlb := box_lt HL.out
    have hct := contains_plugs (fun q => bytes q.name == bytes x.name) (.pointer (some ⟨w.heap.size, 0, none⟩)) (.slice A4 i q4) (l.ps.take i) w0 (by simp; omega) (Pls.take (H.out.up hB0).p (by omega)) (fun j y W _ _ hW => samePl_any y x _ W (box_to hb0 hW))
    have HCT := hide hct
    have hiq : (i : Int) ≤ (q4 : Int) := by have := sl_cap (H.out.up hB0).p; omega
    have hiq2 : (i : Int) ≤ (l.ps.length : Int) := by omega
    clear hb0 hB0 hs0 hw0 hct
    go_wp2_with (first | (go_at_call 142; refine HCT.out.mono ?_; rw [HT.out]; rintro e w1 ⟨rfl, hB1⟩; obtain ⟨y0, y1, y2, y3, y4, y5⟩ := zL (HL.out.to hB1); have z0 := cellOf (box_to HP.out hB1) 0; have z1 := cellOf (box_to HP.out hB1) 1; have z2 := cellOf (box_to HP.out hB1) 2; have s0 := cellOf (HS0.out.to hB1) 0; have ly := box_lt (HL.out.to hB1); have lz := box_lt (box_to HP.out hB1); have ls := box_lt (HS0.out.to hB1); have HB1 := hide (Below.to HB0.out hB1 (Nat.le_refl _)); have HL1 := hide (HL.out.to hB1); clear hB1 c0) | (go_at_call 144; refine (low_any _ _ hsz).mono ?_; rw [show lowB x.name.data.toList = _ from HN.out]; rintro e w3 ⟨rfl, rfl⟩) | (go_at_call 135; refine (spotN_any _ _ _ _ _ _ _ _ _ _ _ _ _ l lb _ hm HL1.out _ HS.out).mono ?_; rintro e w4 ⟨rfl, rfl⟩) | (go_at_call 134; refine (must_any _ _ _).mono ?_; rintro e w9 ⟨rfl, rfl⟩))
    go_ret
    exact ⟨rfl, HB1.out⟩
   | true =>
    cases hC : btw x.cav 1 40 with
    | false =>
     have hr : plOk l i = false := by unfold plOk; rw [hx]; rw [hN, hT, hS, hC]; simp
     rw [hr]
     clear hr
     have HN := hide hN
     have HT := hide hT
     have HS := hide hS
     have HC := hide hC
     clear hN hT hS hC
     go_enter Tryz.func141, Tryz.ntmps141
     go_upto_region 1 with (fail)
     generalize hw0 : World.alloc _ _ = w0
     obtain ⟨hb0, hB0, hs0⟩ := alloc1 hw0
     have HP := hide hb0
     have HB0 := hide hB0
     have HL := hide (HL0.out.to hB0)
     have HS0 := hide (HSB.out.to hB0)
     have c0 := cellOf HL.out 4
     have hlb := box_lt HL.out
     have hct := contains_plugs (fun q => bytes q.name == bytes x.name) (.pointer (some ⟨w.heap.size, 0, none⟩)) (.slice A4 i q4) (l.ps.take i) w0 (by simp; omega) (Pls.take (H.out.up hB0).p (by omega)) (fun j y W _ _ hW => samePl_any y x _ W (box_to hb0 hW))
     have HCT := hide hct
     have hiq : (i : Int) ≤ (q4 : Int) := by have := sl_cap (H.out.up hB0).p; omega
     have hiq2 : (i : Int) ≤ (l.ps.length : Int) := by omega
     clear hb0 hB0 hs0 hw0 hct
     go_wp2_with (first | (go_at_call 142; refine HCT.out.mono ?_; rw [HT.out]; rintro e w1 ⟨rfl, hB1⟩; obtain ⟨y0, y1, y2, y3, y4, y5⟩ := zL (HL.out.to hB1); have z0 := cellOf (box_to HP.out hB1) 0; have z1 := cellOf (box_to HP.out hB1) 1; have z2 := cellOf (box_to HP.out hB1) 2; have s0 := cellOf (HS0.out.to hB1) 0; have ly := box_lt (HL.out.to hB1); have lz := box_lt (box_to HP.out hB1); have ls := box_lt (HS0.out.to hB1); have HB1 := hide (Below.to HB0.out hB1 (Nat.le_refl _)); have HL1 := hide (HL.out.to hB1); clear hB1 c0) | (go_at_call 144; refine (low_any _ _ hsz).mono ?_; rw [show lowB x.name.data.toList = _ from HN.out]; rintro e w3 ⟨rfl, rfl⟩) | (go_at_call 135; refine (spotN_any _ _ _ _ _ _ _ _ _ _ _ _ _ l lb _ hm HL1.out _ HS.out).mono ?_; rintro e w4 ⟨rfl, rfl⟩) | (go_at_call 106; refine (withinB_any _ _ _ _ _ HC.out).mono ?_; rintro e w5 ⟨rfl, rfl⟩) | (go_at_call 134; refine (must_any _ _ _).mono ?_; rintro e w9 ⟨rfl, rfl⟩))
     go_ret
     exact ⟨rfl, HB1.out⟩
    | true =>
     have hr : plOk l i = true := by unfold plOk; rw [hx]; rw [hN, hT, hS, hC]; rfl
     rw [hr]
     clear hr
     have HN := hide hN
     have HT := hide hT
     have HS := hide hS
     have HC := hide hC
     clear hN hT hS hC
     go_enter Tryz.func141, Tryz.ntmps141
     go_upto_region 1 with (fail)
     generalize hw0 : World.alloc _ _ = w0
     obtain ⟨hb0, hB0, hs0⟩ := alloc1 hw0
     have HP := hide hb0
     have HB0 := hide hB0
     have HL := hide (HL0.out.to hB0)
     have HS0 := hide (HSB.out.to hB0)
     have c0 := cellOf HL.out 4
     have hlb := box_lt HL.out
     have hct := contains_plugs (fun q => bytes q.name == bytes x.name) (.pointer (some ⟨w.heap.size, 0, none⟩)) (.slice A4 i q4) (l.ps.take i) w0 (by simp; omega) (Pls.take (H.out.up hB0).p (by omega)) (fun j y W _ _ hW => samePl_any y x _ W (box_to hb0 hW))
     have HCT := hide hct
     have hiq : (i : Int) ≤ (q4 : Int) := by have := sl_cap (H.out.up hB0).p; omega
     have hiq2 : (i : Int) ≤ (l.ps.length : Int) := by omega
     clear hb0 hB0 hs0 hw0 hct
     go_wp2_with (first | (go_at_call 142; refine HCT.out.mono ?_; rw [HT.out]; rintro e w1 ⟨rfl, hB1⟩; obtain ⟨y0, y1, y2, y3, y4, y5⟩ := zL (HL.out.to hB1); have z0 := cellOf (box_to HP.out hB1) 0; have z1 := cellOf (box_to HP.out hB1) 1; have z2 := cellOf (box_to HP.out hB1) 2; have s0 := cellOf (HS0.out.to hB1) 0; have ly := box_lt (HL.out.to hB1); have lz := box_lt (box_to HP.out hB1); have ls := box_lt (HS0.out.to hB1); have HB1 := hide (Below.to HB0.out hB1 (Nat.le_refl _)); have HL1 := hide (HL.out.to hB1); clear hB1 c0) | (go_at_call 144; refine (low_any _ _ hsz).mono ?_; rw [show lowB x.name.data.toList = _ from HN.out]; rintro e w3 ⟨rfl, rfl⟩) | (go_at_call 135; refine (spotN_any _ _ _ _ _ _ _ _ _ _ _ _ _ l lb _ hm HL1.out _ HS.out).mono ?_; rintro e w4 ⟨rfl, rfl⟩) | (go_at_call 106; refine (withinB_any _ _ _ _ _ HC.out).mono ?_; rintro e w5 ⟨rfl, rfl⟩) | (go_at_call 134; refine (must_any _ _ _).mono ?_; rintro e w9 ⟨rfl, rfl⟩))
     go_ret
     exact ⟨rfl, HB1.out⟩
theorem plOk_cav {l : Lo} {k : Nat} (h : plOk l k = true) : 1 ≤ (l.ps.getD k Pl.o).cav ∧ (l.ps.getD k Pl.o).cav ≤ 40 := by
 unfold plOk at h
 simp only [Bool.and_eq_true, btw_iff] at h
 exact h.2
set_option maxRecDepth 100000 in
set_option maxHeartbeats 1000000 in
theorem pin_any (p c : Int) (A0 A1 A2 A3 A4 A5 : Option Addr) (q0 q1 q2 q3 q4 q5 : Nat) (l : Lo) (lb : Nat) (w : World) (hp : l.ps.length ≤ maxLen) (hL : LoBox w lb A0 A1 A2 A3 A4 A5 q0 q1 q2 q3 q4 q5 l) (h : LoA w w.heap.size A0 A1 A2 A3 A4 A5 q0 q1 q2 q3 q4 q5 l) (hok : ∀ k, k < l.ps.length → plOk l k = true) :
  Calls Tryz.prog 145 #[.agg #[.int .i64 p, .int .i64 c], .pointer (some ⟨lb, 0, none⟩)] w fun e w' => e = .returned (.bool (pinOk l p c)) ∧ Below w.heap.size w w' := by
 have H := hide h
 have HL0 := hide hL
 have HOK := hide hok
 unfold maxLen at hp
 have hwp : IntKind.i64.wrap ((l.ps.length : Int) - 1) = (l.ps.length : Int) - 1 := IntWalk.i64_in _ (by omega)
 clear h hL hok
 cases hb : btw p 0 ((l.ps.length : Int) - 1) with
 | false =>
  have hr : pinOk l p c = false := by unfold pinOk; rw [hb]; rfl
  rw [hr]
  have HB := hide hb
  clear hr hb
  go_enter Tryz.func145, Tryz.ntmps145
  go_upto_region 1 with (fail)
  generalize hw0 : World.alloc _ _ = w0
  obtain ⟨hb0, hB0, hs0⟩ := alloc1 hw0
  have HL := hide (HL0.out.to hB0)
  have HB0 := hide hB0
  have c0 := cellOf hb0 0
  have c1 := cellOf hb0 1
  have d4 := cellOf HL.out 4
  have l0 := box_lt hb0
  have l1 := box_lt HL.out
  clear hw0 hb0 hB0 hs0
  refine wp_region_held_drew (S := (fun w' => Below w0.heap.size w0 w')) (by kernel_rfl) ?_ (fun hHeld => ?_)
  ·
   try dsimp only
   exact zP
  refine zT 0 rfl ?_
  refine zT 1 rfl ?_
  refine zT 2 rfl ?_
  refine zT 3 rfl ?_
  refine zT 4 rfl ?_
  refine zT 5 rfl ?_
  refine wpAnyH_ready (rs := [6]) (by kernel_rfl) (by simp) ?_
  refine AllReadyH.cons rfl (fun K hK => ?_) AllReadyH.nil
  go_simp
  ((go_at_call 106; refine (withinB_any _ _ _ _ _ HB.out).mono ?_; rintro e w5 ⟨rfl, rfl⟩))
  (try dsimp only)
  refine hK.out _ _ zP fun hNext => ?_; clear hK K hHeld; have hHeld := hNext; clear hNext; (try dsimp only at hHeld); try simp only [zX]
  refine zT 7 rfl ?_
  refine zS 8 rfl ?_
  refine zS 9 rfl ?_
  refine zS 10 rfl ?_
  refine zS 11 rfl ?_
  refine zS 12 rfl ?_
  refine zS 13 rfl ?_
  refine zS 14 rfl ?_
  refine zS 15 rfl ?_
  refine zS 16 rfl ?_
  refine zS 17 rfl ?_
  refine zS 18 rfl ?_
  refine zT 19 rfl ?_
  refine zT 20 rfl ?_
  refine wpAnyH_done (by kernel_rfl) ?_ _
  go_wp2_with fail
  go_ret
  exact ⟨rfl, Below.to HB0.out hHeld (Nat.le_refl _)⟩
 | true =>
  obtain ⟨p1, p2⟩ := btw_iff.1 hb
  obtain ⟨k, rfl⟩ := Int.eq_ofNat_of_zero_le p1
  have hk : k < l.ps.length := by omega
  obtain ⟨b, off, x, HX, rfl, hbb, hq, e0, e1, e2⟩ := H.out.pl hk
  have hcav := plOk_cav (HOK.out k hk)
  rw [HX.out] at hcav
  have hr : pinOk l k c = btw c 0 (x.cav - 1) := by unfold pinOk; rw [hb, Int.toNat_natCast, HX.out]; rfl
  obtain ⟨z, hz⟩ : ∃ z, btw c 0 (x.cav - 1) = z := ⟨_, rfl⟩
  rw [hr, hz]
  have HB := hide hb
  have HZ := hide hz
  have ik : (k : Int) < (l.ps.length : Int) := by omega
  have iq : (l.ps.length : Int) ≤ (q4 : Int) := by omega
  obtain ⟨v1, v2⟩ := hcav
  have hwc : IntKind.i64.wrap (x.cav - 1) = x.cav - 1 := IntWalk.i64_in _ (by omega)
  clear hr hb hz p2
  go_enter Tryz.func145, Tryz.ntmps145
  go_upto_region 1 with (fail)
  generalize hw0 : World.alloc _ _ = w0
  obtain ⟨hb0, hB0, hs0⟩ := alloc1 hw0
  have HL := hide (HL0.out.to hB0)
  have HB0 := hide hB0
  have c0 := cellOf hb0 0
  have c1 := cellOf hb0 1
  have d4 := cellOf HL.out 4
  have l0 := box_lt hb0
  have l1 := box_lt HL.out
  have l2 : b < w0.heap.size := by omega
  have g2 := (hB0.cell (p := ⟨b, off + k * 3 + 2, none⟩) hbb).trans e2
  clear hw0 hb0 hB0 hs0 e0 e1 e2
  refine wp_region_held_drew (S := (fun w' => Below w0.heap.size w0 w')) (by kernel_rfl) ?_ (fun hHeld => ?_)
  ·
   try dsimp only
   exact zP
  refine zT 0 rfl ?_
  refine zT 1 rfl ?_
  refine zT 2 rfl ?_
  refine zT 3 rfl ?_
  refine zT 4 rfl ?_
  refine zT 5 rfl ?_
  refine wpAnyH_ready (rs := [6]) (by kernel_rfl) (by simp) ?_
  refine AllReadyH.cons rfl (fun K hK => ?_) AllReadyH.nil
  go_simp
  ((go_at_call 106; refine (withinB_any _ _ _ _ _ (by first | exact HB.out | exact HZ.out)).mono ?_; rintro e w5 ⟨rfl, rfl⟩))
  (try dsimp only)
  refine hK.out _ _ zP fun hNext => ?_; clear hK K hHeld; have hHeld := hNext; clear hNext; (try dsimp only at hHeld); try simp only [zX]
  refine zT 7 rfl ?_
  refine zT 8 rfl ?_
  refine zT 9 rfl ?_
  refine zT 10 rfl ?_
  refine zT 11 rfl ?_
  refine zT 12 rfl ?_
  refine zT 13 rfl ?_
  refine zT 14 rfl ?_
  refine zT 15 rfl ?_
  refine zT 16 rfl ?_
  refine zT 17 rfl ?_
  refine wpAnyH_ready (rs := [18]) (by kernel_rfl) (by simp) ?_
  refine AllReadyH.cons rfl (fun K hK => ?_) AllReadyH.nil
  go_simp
  ((go_at_call 106; refine (withinB_any _ _ _ _ _ (by first | exact HB.out | exact HZ.out)).mono ?_; rintro e w5 ⟨rfl, rfl⟩))
  (try dsimp only)
  refine hK.out _ _ zP fun hNext => ?_; clear hK K hHeld; have hHeld := hNext; clear hNext; (try dsimp only at hHeld); try simp only [zX]
  refine zT 19 rfl ?_
  refine zT 20 rfl ?_
  refine wpAnyH_done (by kernel_rfl) ?_ _
  go_wp2_with fail
  go_ret
  exact ⟨rfl, Below.to HB0.out hHeld (Nat.le_refl _)⟩
end Go.Proofs.YtehadoecnmfeoaaGreat

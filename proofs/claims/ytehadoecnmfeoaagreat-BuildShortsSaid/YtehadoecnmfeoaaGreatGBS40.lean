/- Part 40 of this claim's texts: walks and plain laws. -/
import Derived.Test.YtehadoecnmfeoaaGreatRows
import Derived.Test.YtehadoecnmfeoaaGreatGBS25
import Derived.Test.YtehadoecnmfeoaaGreatGBS31
import Derived.Test.YtehadoecnmfeoaaGreatGBS30
import Derived.Test.YtehadoecnmfeoaaGreatGBS11
import Derived.Deep.DeepMust
import Derived.Deep.RegionHeld3
import Derived.Deep.DrawnRows
import Derived.Test.YtehadoecnmfeoaaGreatGBS3
import Derived.Test.YtehadoecnmfeoaaGreatGBS18
import Derived.Test.YtehadoecnmfeoaaGreatGBS8
import Derived.Test.YtehadoecnmfeoaaGreatGBS10
import Derived.Test.YtehadoecnmfeoaaGreatGBS20
import Derived.Test.YtehadoecnmfeoaaGreatGBS26
import Derived.Test.YtehadoecnmfeoaaGreatGBS32
import Derived.Test.YtehadoecnmfeoaaGreatGBS12
import Derived.Test.YtehadoecnmfeoaaGreatGBS15
import Derived.Test.YtehadoecnmfeoaaGreatGBS13
import Derived.Test.YtehadoecnmfeoaaGreatGBS19
import Derived.Laws.EntriesVeiled
import Derived.Test.YtehadoecnmfeoaaGreatGBS27
set_option linter.unusedVariables false
set_option linter.unusedSimpArgs false
set_option linter.unusedSectionVars false
namespace Go.Proofs.YtehadoecnmfeoaaGreat
open Go.RowKit
theorem bldE_many {l : Lo} {ms : List Md} (h : l.err = 0) (h2 : 60 < ms.length) : bldE l ms = 120 := by
 unfold bldE
 rw [if_neg (by simp [h]), decide_eq_true h2]
 rfl
theorem bldE_no {l : Lo} {ms : List Md} (h : l.err = 0) {k : Nat} (hk : k < ms.length) (h2 : rightB l (ms.getD k Md.o) = false) : bldE l ms = 120 := by
 unfold bldE
 rw [if_neg (by simp [h]), if_pos]
 have h3 : ms.all (rightB l) = false := by
  rw [List.all_eq_false]
  exact ⟨_, getD_mem7 hk, by rw [h2]; simp⟩
 rw [h3]
 simp
theorem bldE_yes {l : Lo} {ms : List Md} (h : l.err = 0) (h60 : ms.length ≤ 60) (h2 : ∀ k, k < ms.length → rightB l (ms.getD k Md.o) = true) : bldE l ms = 0 := by
 unfold bldE
 rw [if_neg (by simp [h]), if_neg]
 have h3 : ms.all (rightB l) = true := by
  rw [List.all_eq_true]
  intro d hd
  obtain ⟨k, hk, he⟩ := List.mem_iff_getElem.1 hd
  have := h2 k hk
  rwa [List.getD_eq_getElem?_getD, List.getElem?_eq_getElem hk, Option.getD_some, he] at this
 rw [h3, decide_eq_false (by omega)]
 simp
theorem right_and (l : Lo) (d : Md) : rightB l d = (wiresB l.ws.length d.ws && validF l.m.opts.length d.f) := rfl
set_option maxRecDepth 100000 in
set_option maxHeartbeats 1000000 in
theorem rbCheck_any (ms : List Md) (Am : Option Addr) (qm : Nat) (A0 A1 A2 A3 A4 A5 : Option Addr) (q0 q1 q2 q3 q4 q5 : Nat) (l : Lo) (w : World) (hs : SizedL l) (hd : SizedD ms) (h : LoA w w.heap.size A0 A1 A2 A3 A4 A5 q0 q1 q2 q3 q4 q5 l) (hm : Mods w w.heap.size (.slice Am ms.length qm) ms) :
  Calls Tryz.prog 27 #[.agg #[.slice A0 l.m.opts.length q0, .slice A1 l.m.rules.length q1, .slice A2 l.ss.length q2, .slice A3 l.us.length q3, .slice A4 l.ps.length q4, .slice A5 l.ws.length q5], .slice Am ms.length qm] w fun e w' => e = .returned (.int .i64 (bldE l ms)) ∧ Below w.heap.size w w' := by
 have H := hide h
 have HS := hide hs
 have HM := hide hm
 have HD := hide hd
 have hdn := hd.n
 have hwl := hs.w
 unfold maxLen at hdn hwl
 clear h hs hm hd
 by_cases hz : l.err = 0
 case neg =>
  rw [bldE_err hz]
  obtain ⟨z, hze⟩ : ∃ z, l.err = z := ⟨_, rfl⟩
  rw [hze] at hz ⊢
  have HZ := hide hze
  have hz1 : (z != 0) = true := by simpa using hz
  clear hz hze
  go_enter Tryz.func27, Tryz.ntmps27
  go_upto_region 1 with (fail)
  generalize hw0 : World.alloc _ _ = w0
  obtain ⟨hb0, hB0, hs0⟩ := alloc1 hw0
  have HB0 := hide hB0
  obtain ⟨c0, c1, c2, c3, c4, c5⟩ := zL hb0
  have hlb := box_lt hb0
  clear hw0 hb0 hB0 hs0
  go_wp2_with (go_at_call 67; refine (rCheck_any A0 A1 A2 A3 A4 A5 q0 q1 q2 q3 q4 q5 l _ HS.out (H.out.up HB0.out)).mono ?_; rw [HZ.out]; rintro e w1 ⟨rfl, hB1⟩; have HB1 := hide (Below.to HB0.out hB1 (Nat.le_refl _)); clear hB1 c0 c1 c2 c3 c4 c5 hlb)
  go_ret
  exact ⟨rfl, HB1.out⟩
 case pos =>
 have HZ := hide hz
 have hmo : l.m.err = 0 := (Lo.err_ok hz).m
 have HMO := hide hmo
 by_cases h60 : 60 < ms.length
 case pos =>
  have hr := bldE_many hz h60
  rw [hr]
  have hgt : (60 : Int) < (ms.length : Int) := by omega
  clear hz hmo hr h60
  go_enter Tryz.func27, Tryz.ntmps27
  go_upto_region 1 with (fail)
  generalize hw0 : World.alloc _ _ = w0
  obtain ⟨hb0, hB0, hs0⟩ := alloc1 hw0
  have HB0 := hide hB0
  obtain ⟨c0, c1, c2, c3, c4, c5⟩ := zL hb0
  have hlb := box_lt hb0
  clear hw0 hb0 hB0 hs0
  go_wp2_with (go_at_call 67; refine (rCheck_any A0 A1 A2 A3 A4 A5 q0 q1 q2 q3 q4 q5 l _ HS.out (H.out.up HB0.out)).mono ?_; rw [HZ.out]; rintro e w1 ⟨rfl, hB1⟩; have HB1 := hide (Below.to HB0.out hB1 (Nat.le_refl _)); clear hB1 c0 c1 c2 c3 c4 c5 hlb)
  go_ret
  exact ⟨rfl, HB1.out⟩
 case neg =>
 have hgt : ¬ (60 : Int) < (ms.length : Int) := by omega
 obtain ⟨res, hres⟩ : ∃ z, bldE l ms = z := ⟨_, rfl⟩
 rw [hres]
 have HRES := hide hres
 clear hz hmo hres
 go_enter Tryz.func27, Tryz.ntmps27
 go_upto_region 1 with (fail)
 generalize hw0 : World.alloc _ _ = w0
 obtain ⟨hb0, hB0, hs0⟩ := alloc1 hw0
 have HB0 := hide hB0
 have HL0 : Hid (LoBox w0 w.heap.size A0 A1 A2 A3 A4 A5 q0 q1 q2 q3 q4 q5 l) := hb0
 obtain ⟨c0, c1, c2, c3, c4, c5⟩ := zL hb0
 have hlb := box_lt hb0
 clear hw0 hb0 hB0 hs0
 go_wp2_with (go_at_call 67; refine (rCheck_any A0 A1 A2 A3 A4 A5 q0 q1 q2 q3 q4 q5 l _ HS.out (H.out.up HB0.out)).mono ?_; rw [HZ.out]; rintro e w1 ⟨rfl, hB1⟩; have HL1 := hide (HL0.out.to hB1); have HB1 := hide (Below.to HB0.out hB1 (Nat.le_refl _)); clear hB1 c0 c1 c2 c3 c4 c5 hlb)
 obtain ⟨W1, hW1⟩ : ∃ wo : World, wo = w1 := ⟨_, rfl⟩
 subst hW1
 go_loopw [6, 7, 8] (fun i _ _ wr => ∃ k : Nat, i = .int .i64 k ∧ k ≤ ms.length ∧ Hid (∀ j, j < k → rightB l (ms.getD j Md.o) = true) ∧ Hid (Below W1.heap.size W1 wr)) (fun i _ _ _ => ms.length - (intOf i).toNat)
 case atStart => exact ⟨0, rfl, Nat.zero_le _, fun j hj => absurd hj (by omega), Below.refl _ _⟩
 case round =>
  obtain ⟨k, rfl, hk, HNO, HW⟩ := hrel
  have HBW := hide (Below.to HB1.out HW.out (Nat.le_refl _))
  by_cases hkl : k < ms.length
  case neg =>
   have hkl1 : ¬ (k : Int) < (ms.length : Int) := by omega
   have hr : res = 0 := by rw [← HRES.out]; exact bldE_yes HZ.out (by omega) fun j hj => HNO.out j (by omega)
   subst hr
   clear hkl
   go_wp2_with fail
   go_ret
   exact ⟨rfl, HBW.out⟩
  case pos =>
  have hkl1 : (k : Int) < (ms.length : Int) := by omega
  have ik0 : (0 : Int) ≤ (k : Int) := by omega
  obtain ⟨b, off, d, Af, qf, Aw, qw, HX, hA, hb, hq, HF, HWS, e0, e1⟩ := HM.out.at hkl
  subst hA
  have z0 := (HBW.out.cell (p := ⟨b, off + k * 2, none⟩) hb).trans e0
  have z1 := (HBW.out.cell (p := ⟨b, off + k * 2 + 1, none⟩) hb).trans e1
  have lb : b < wr.heap.size := Nat.lt_of_lt_of_le hb HBW.out.size
  have iq : (ms.length : Int) ≤ (qm : Int) := by omega
  have hdd := HD.out.f d (by rw [← HX.out]; exact getD_mem7 hkl)
  have hdw := hdd.2
  have HDF := hide hdd.1
  unfold maxLen at hdw
  have HLX := hide (HL1.out.to HW.out)
  obtain ⟨c0, c1, c2, c3, c4, c5⟩ := zL HLX.out
  have hlb := box_lt HLX.out
  have hval : ∀ W, Below wr.heap.size wr W → Calls Tryz.prog 84 #[.slice Af d.f.length qf, .int .i64 l.m.opts.length] W fun e w' => e = .returned (.bool (validF l.m.opts.length d.f)) ∧ W = w' := fun W hW => rValid_any d.f l.m.opts.length (.slice Af d.f.length qf) w.heap.size W HDF.out (HF.out.below (Below.to HBW.out hW (Nat.le_refl _)))
  obtain ⟨vb, hvb⟩ : ∃ z, validF l.m.opts.length d.f = z := ⟨_, rfl⟩
  rw [hvb] at hval
  have HVAL := hide hval
  have HVB := hide hvb
  clear e0 e1 hq hdd hval hvb
  cases vb with
  | false =>
   have hr : res = 120 := by rw [← HRES.out]; exact bldE_no HZ.out hkl (by rw [HX.out, right_and, HVB.out, Bool.and_false])
   subst hr
   go_upto_region 9 with (fail)
   refine wp_region_held_drew (S := (fun w' => Below wr.heap.size wr w')) (by kernel_rfl) ?_ (fun hHeld => ?_)
   ·
    try dsimp only
    exact zP
   refine zT 0 rfl ?_
   refine zT 1 rfl ?_
   refine zT 2 rfl ?_
   refine zT 3 rfl ?_
   refine zT 4 rfl ?_
   refine zT 5 rfl ?_
   refine zT 6 rfl ?_
   refine zT 7 rfl ?_
   refine zT 8 rfl ?_
   refine wpAnyH_ready (rs := [9]) (by kernel_rfl) (by simp) ?_
   refine AllReadyH.cons rfl (fun K hK => ?_) AllReadyH.nil
   go_simp
   ((go_at_call 84; refine (HVAL.out _ zP).mono ?_; rintro e w2 ⟨rfl, rfl⟩))
   (try dsimp only)
   refine hK.out _ _ zP fun hNext => ?_; clear hK K hHeld; have hHeld := hNext; clear hNext; (try dsimp only at hHeld); try simp only [zX]
   refine zT 10 rfl ?_
   refine wpAnyH_done (by kernel_rfl) ?_ _
   go_wp2_with fail
   go_ret
   exact ⟨rfl, Below.to HBW.out hHeld (Nat.le_refl _)⟩
  | true =>
   go_upto_region 9 with (fail)
   refine wp_region_held_drew (S := (fun w' => Below wr.heap.size wr w')) (by kernel_rfl) ?_ (fun hHeld => ?_)
   ·
    try dsimp only
    exact zP
   refine zT 0 rfl ?_
   refine zT 1 rfl ?_
   refine zT 2 rfl ?_
   refine zT 3 rfl ?_
   refine zT 4 rfl ?_
   refine zT 5 rfl ?_
   refine zT 6 rfl ?_
   refine zT 7 rfl ?_
   refine zT 8 rfl ?_
   refine wpAnyH_ready (rs := [9]) (by kernel_rfl) (by simp) ?_
   refine AllReadyH.cons rfl (fun K hK => ?_) AllReadyH.nil
   go_simp
   ((go_at_call 84; refine (HVAL.out _ zP).mono ?_; rintro e w2 ⟨rfl, rfl⟩))
   (try dsimp only)
   refine hK.out _ _ zP fun hNext => ?_; clear hK K hHeld; have hHeld := hNext; clear hNext; (try dsimp only at hHeld); try simp only [zX]
   refine zT 10 rfl ?_
   refine wpAnyH_done (by kernel_rfl) ?_ _
   generalize hwd : World.drew _ = wd at hHeld ⊢
   have z1d := (hHeld.cell (p := ⟨b, off + k * 2 + 1, none⟩) lb).trans z1
   have lbd : b < wd.heap.size := Nat.lt_of_lt_of_le lb hHeld.size
   have HWd := hide (Below.to HW.out hHeld (Nat.le_refl _))
   have HBd := hide (Below.to HB1.out HWd.out (Nat.le_refl _))
   have HWSd := hide (HWS.out.up HBd.out)
   have HLd := hide (HL1.out.to HWd.out)
   clear hwd hHeld z0 z1 lb c0 c1 c2 c3 c4 c5 hlb HVAL
   go_wp2_with fail
   clear z1d lbd
   obtain ⟨W2, hW2⟩ : ∃ wo : World, wo = wd := ⟨_, rfl⟩
   subst hW2
   go_loopw [8] (fun i wr => ∃ t : Nat, i = .int .i64 t ∧ t ≤ d.ws.length ∧ Hid (∀ j, j < t → wireOk l.ws.length d.ws j = true) ∧ Hid (Below W2.heap.size W2 wr)) (fun i _ => d.ws.length - (intOf i).toNat)
   case atStart => exact ⟨0, rfl, Nat.zero_le _, fun j hj => absurd hj (by omega), Below.refl _ _⟩
   case round =>
    obtain ⟨t, rfl, ht, HWO, HW3⟩ := hrel
    by_cases htl : t < d.ws.length
    case neg =>
     have htl1 : ¬ (t : Int) < (d.ws.length : Int) := by omega
     have HNO2 : Hid (∀ j, j < k + 1 → rightB l (ms.getD j Md.o) = true) := fun j hj => by
      rcases Nat.lt_or_ge j k with h1 | h1
      ·
       exact HNO.out j h1
      ·
       rw [show j = k by omega, HX.out, right_and, HVB.out, Bool.and_true]
       exact wires_all fun i hi => HWO.out i (by omega)
     clear htl
     go_wp2_with fail
     go_roundw
     case rel => exact ⟨k + 1, by go_num, by omega, HNO2, Below.to HWd.out HW3.out (Nat.le_refl _)⟩
     case measure => simp [intOf]; omega
    case pos =>
    have htl1 : (t : Int) < (d.ws.length : Int) := by omega
    have it0 : (0 : Int) ≤ (t : Int) := by omega
    obtain ⟨bx, ox, x, HXX, hA2, hbx, hqx, ex0⟩ := HWSd.out.at7 htl
    subst hA2
    have ex : wr.cell? ⟨bx, ox + t, none⟩ = some (.int .i64 x) := (HW3.out.cell (p := ⟨bx, ox + t, none⟩) hbx).trans ex0
    have lbx : bx < wr.heap.size := Nat.lt_of_lt_of_le hbx HW3.out.size
    have iqx : (d.ws.length : Int) ≤ (qw : Int) := by omega
    have HLr := hide (HLd.out.to HW3.out)
    obtain ⟨c0, c1, c2, c3, c4, c5⟩ := zL HLr.out
    have hlb := box_lt HLr.out
    have HBr := hide (Below.to HBd.out HW3.out (Nat.le_refl _))
    have wr9 : IntKind.i64.wrap ((l.ws.length : Int) - 1) = (l.ws.length : Int) - 1 := IntWalk.i64_in _ (by omega)
    obtain ⟨z, hz⟩ : ∃ z, btw x 0 ((l.ws.length : Int) - 1) = z := ⟨_, rfl⟩
    have HZZ := hide hz
    have hwk : wireOk l.ws.length d.ws t = (z && (decide (t = 0) || decide (d.ws.getD (t - 1) 0 < x))) := by unfold wireOk; rw [HXX.out, hz]
    have HWK := hide hwk
    clear hqx hz hwk ex0
    cases z with
    | false =>
     have hr : res = 120 := by rw [← HRES.out]; exact bldE_no HZ.out hkl (by rw [HX.out, right_and, wires_no htl (by rw [HWK.out]; rfl), Bool.false_and])
     subst hr
     go_upto_region 15 with (fail)
     refine wp_region_held_drew (S := (fun w' => Below wr.heap.size wr w')) (by kernel_rfl) ?_ (fun hHeld => ?_)
     ·
      try dsimp only
      exact zP
     refine zT 0 rfl ?_
     refine zT 1 rfl ?_
     refine zT 2 rfl ?_
     refine zT 3 rfl ?_
     refine zT 4 rfl ?_
     refine zT 5 rfl ?_
     refine zT 6 rfl ?_
     refine zT 7 rfl ?_
     refine wpAnyH_ready (rs := [8]) (by kernel_rfl) (by simp) ?_
     refine AllReadyH.cons rfl (fun K hK => ?_) AllReadyH.nil
     go_simp
     ((go_at_call 75; refine (rwithin12_any _ _ _ _ _ HZZ.out).mono ?_; rintro e w4 ⟨rfl, rfl⟩))
     (try dsimp only)
     refine hK.out _ _ zP fun hNext => ?_; clear hK K hHeld; have hHeld := hNext; clear hNext; (try dsimp only at hHeld); try simp only [zX]
     refine zT 9 rfl ?_
     refine zT 10 rfl ?_
     refine zS 11 rfl ?_
     refine zS 12 rfl ?_
     refine zS 13 rfl ?_
     refine zS 14 rfl ?_
     refine zS 15 rfl ?_
     refine zS 16 rfl ?_
     refine zS 17 rfl ?_
     refine zS 18 rfl ?_
     refine zS 19 rfl ?_
     refine zS 20 rfl ?_
     refine zS 21 rfl ?_
     refine zS 22 rfl ?_
     refine zS 23 rfl ?_
     refine zS 24 rfl ?_
     refine zT 25 rfl ?_
     refine wpAnyH_done (by kernel_rfl) ?_ _
     go_wp2_with fail
     go_ret
     exact ⟨rfl, Below.to HBr.out hHeld (Nat.le_refl _)⟩
    | true =>
     by_cases hk0 : t = 0
     ·
      have hok : wireOk l.ws.length d.ws t = true := by rw [HWK.out, decide_eq_true hk0]; rfl
      have HOK := hide hok
      have g1 : ¬ (0 : Int) < (t : Int) := by omega
      have g2 : decide ((0 : Int) < (t : Int)) = false := decide_eq_false g1
      have g3 : decide (0 < t) = false := by simp; omega
      clear hok hk0
      go_upto_region 15 with (fail)
      refine wp_region_held_drew (S := (fun w' => Below wr.heap.size wr w')) (by kernel_rfl) ?_ (fun hHeld => ?_)
      ·
       try dsimp only
       exact zP
      refine zT 0 rfl ?_
      refine zT 1 rfl ?_
      refine zT 2 rfl ?_
      refine zT 3 rfl ?_
      refine zT 4 rfl ?_
      refine zT 5 rfl ?_
      refine zT 6 rfl ?_
      refine zT 7 rfl ?_
      refine wpAnyH_ready (rs := [8]) (by kernel_rfl) (by simp) ?_
      refine AllReadyH.cons rfl (fun K hK => ?_) AllReadyH.nil
      go_simp
      ((go_at_call 75; refine (rwithin12_any _ _ _ _ _ HZZ.out).mono ?_; rintro e w4 ⟨rfl, rfl⟩))
      (try dsimp only)
      refine hK.out _ _ zP fun hNext => ?_; clear hK K hHeld; have hHeld := hNext; clear hNext; (try dsimp only at hHeld); try simp only [zX]
      refine zT 9 rfl ?_
      refine zT 10 rfl ?_
      refine zT 11 rfl ?_
      refine zT 12 rfl ?_
      refine zT 13 rfl ?_
      refine zS 14 rfl ?_
      refine zS 15 rfl ?_
      refine zS 16 rfl ?_
      refine zS 17 rfl ?_
      refine zS 18 rfl ?_
      refine zS 19 rfl ?_
      refine zS 20 rfl ?_
      refine zS 21 rfl ?_
      refine zS 22 rfl ?_
      refine zS 23 rfl ?_
      refine zT 24 rfl ?_
      refine zT 25 rfl ?_
      refine wpAnyH_done (by kernel_rfl) ?_ _
      go_wp2_with fail
      go_roundw
      case rel => exact ⟨t + 1, by go_num, by omega, fun j hj => by
        rcases Nat.lt_or_ge j t with h1 | h1
        ·
         exact HWO.out j h1
        ·
         rw [show j = t by omega]; exact HOK.out, Below.to HW3.out hHeld (Nat.le_refl _)⟩
      case measure => simp [intOf]; omega
     ·
      obtain ⟨j0, hj0⟩ : ∃ j, t - 1 = j := ⟨_, rfl⟩
      have ej1 : (t : Int) - 1 = (j0 : Int) := by omega
      have ej2 : IntKind.i64.wrap (j0 : Int) = (j0 : Int) := IntWalk.i64_in _ (by omega)
      obtain ⟨by1, oy, y, HY, hA3, hby, hqy, ey0⟩ := HWSd.out.at7 (show j0 < d.ws.length by omega)
      injection hA3 with hA3
      injection hA3 with p1 p2
      subst p1 p2
      have ey : wr.cell? ⟨bx, ox + j0, none⟩ = some (.int .i64 y) := (HW3.out.cell (p := ⟨bx, ox + j0, none⟩) hbx).trans ey0
      have j0a : (0 : Int) ≤ (j0 : Int) := by omega
      have j1a : (j0 : Int) < (d.ws.length : Int) := by omega
      have g1 : (0 : Int) < (t : Int) := by omega
      have g2 : decide ((0 : Int) < (t : Int)) = true := decide_eq_true g1
      have g3 : decide (0 < t) = true := by simp; omega
      have hyy : d.ws.getD (t - 1) 0 = y := by rw [hj0]; exact HY.out
      have HYY := hide hyy
      have HK0 := hide hk0
      clear hqy hyy ey0 hj0 hk0
      by_cases hxy : x ≤ y
      ·
       have hr : res = 120 := by
        rw [← HRES.out]
        refine bldE_no HZ.out hkl ?_
        rw [HX.out, right_and, wires_no htl (by rw [HWK.out, HYY.out, decide_eq_false HK0.out, decide_eq_false (by omega)]; rfl), Bool.false_and]
       subst hr
       have g4 : decide (x ≤ y) = true := decide_eq_true hxy
       go_upto_region 15 with (fail)
       refine wp_region_held_drew (S := (fun w' => Below wr.heap.size wr w')) (by kernel_rfl) ?_ (fun hHeld => ?_)
       ·
        try dsimp only
        exact zP
       refine zT 0 rfl ?_
       refine zT 1 rfl ?_
       refine zT 2 rfl ?_
       refine zT 3 rfl ?_
       refine zT 4 rfl ?_
       refine zT 5 rfl ?_
       refine zT 6 rfl ?_
       refine zT 7 rfl ?_
       refine wpAnyH_ready (rs := [8]) (by kernel_rfl) (by simp) ?_
       refine AllReadyH.cons rfl (fun K hK => ?_) AllReadyH.nil
       go_simp
       ((go_at_call 75; refine (rwithin12_any _ _ _ _ _ HZZ.out).mono ?_; rintro e w4 ⟨rfl, rfl⟩))
       (try dsimp only)
       refine hK.out _ _ zP fun hNext => ?_; clear hK K hHeld; have hHeld := hNext; clear hNext; (try dsimp only at hHeld); try simp only [zX]
       refine zT 9 rfl ?_
       refine zT 10 rfl ?_
       refine zT 11 rfl ?_
       refine zT 12 rfl ?_
       refine zT 13 rfl ?_
       refine zT 14 rfl ?_
       refine zT 15 rfl ?_
       refine zT 16 rfl ?_
       refine zT 17 rfl ?_
       refine zT 18 rfl ?_
       refine zT 19 rfl ?_
       refine zT 20 rfl ?_
       refine zT 21 rfl ?_
       refine zT 22 rfl ?_
       refine zT 23 rfl ?_
       refine zT 24 rfl ?_
       refine zT 25 rfl ?_
       refine wpAnyH_done (by kernel_rfl) ?_ _
       go_wp2_with fail
       go_ret
       exact ⟨rfl, Below.to HBr.out hHeld (Nat.le_refl _)⟩
      ·
       have hok : wireOk l.ws.length d.ws t = true := by rw [HWK.out, HYY.out, decide_eq_true (show y < x by omega)]; simp
       have HOK := hide hok
       have g4 : decide (x ≤ y) = false := decide_eq_false hxy
       clear hok
       go_upto_region 15 with (fail)
       refine wp_region_held_drew (S := (fun w' => Below wr.heap.size wr w')) (by kernel_rfl) ?_ (fun hHeld => ?_)
       ·
        try dsimp only
        exact zP
       refine zT 0 rfl ?_
       refine zT 1 rfl ?_
       refine zT 2 rfl ?_
       refine zT 3 rfl ?_
       refine zT 4 rfl ?_
       refine zT 5 rfl ?_
       refine zT 6 rfl ?_
       refine zT 7 rfl ?_
       refine wpAnyH_ready (rs := [8]) (by kernel_rfl) (by simp) ?_
       refine AllReadyH.cons rfl (fun K hK => ?_) AllReadyH.nil
       go_simp
       ((go_at_call 75; refine (rwithin12_any _ _ _ _ _ HZZ.out).mono ?_; rintro e w4 ⟨rfl, rfl⟩))
       (try dsimp only)
       refine hK.out _ _ zP fun hNext => ?_; clear hK K hHeld; have hHeld := hNext; clear hNext; (try dsimp only at hHeld); try simp only [zX]
       refine zT 9 rfl ?_
       refine zT 10 rfl ?_
       refine zT 11 rfl ?_
       refine zT 12 rfl ?_
       refine zT 13 rfl ?_
       refine zT 14 rfl ?_
       refine zT 15 rfl ?_
       refine zT 16 rfl ?_
       refine zT 17 rfl ?_
       refine zT 18 rfl ?_
       refine zT 19 rfl ?_
       refine zT 20 rfl ?_
       refine zT 21 rfl ?_
       refine zT 22 rfl ?_
       refine zT 23 rfl ?_
       refine zT 24 rfl ?_
       refine zT 25 rfl ?_
       refine wpAnyH_done (by kernel_rfl) ?_ _
       go_wp2_with fail
       go_roundw
       case rel => exact ⟨t + 1, by go_num, by omega, fun j hj => by
         rcases Nat.lt_or_ge j t with h1 | h1
         ·
          exact HWO.out j h1
         ·
          rw [show j = t by omega]; exact HOK.out, Below.to HW3.out hHeld (Nat.le_refl _)⟩
       case measure => simp [intOf]; omega
end Go.Proofs.YtehadoecnmfeoaaGreat
namespace Go.Proofs.YtehadoecnmfeoaaGreat
def pckK (ms : List Md) (x : List Bool) (k : Nat) : List Nat := (List.range k).filter fun i => pckB x (ms.getD i Md.o)
def pckL (ms : List Md) (x : List Bool) : List Nat := pckK ms x ms.length
def wsI (ms : List Md) (L : List Nat) : List Int := L.flatMap fun i => (ms.getD i Md.o).ws
def wsP (ms : List Md) (x : List Bool) : List Int := wsI ms (pckL ms x)
def madeN (n : Nat) (ms : List Md) (x : List Bool) : List Nat := (List.range n).flatMap fun w => List.replicate (manyN ms x w) w
def kndB (is : Bool) (n : Nat) : Nat := if is = true ∧ n = 0 then 1 else if is = false ∧ 0 < n then 2 else if 1 < n then 3 else 0
def kndN (l : Lo) (ms : List Md) (x : List Bool) (w : Nat) : Nat := kndB (evF1 (vf x) (l.ws.getD w Wi.o).form) (manyN ms x w)
end Go.Proofs.YtehadoecnmfeoaaGreat
namespace Go.Proofs.YtehadoecnmfeoaaGreat
open Go.RowKit
def occK (ws : List Int) (w k : Nat) : Nat := ((ws.drop k).filter fun x => x == (w : Int)).length
def pikE (l : Lo) (ms : List Md) (x : List Bool) : Int := if bldE l ms = 0 then (if x.length = l.m.opts.length then 0 else 1) else bldE l ms
def pikL (l : Lo) (ms : List Md) (x : List Bool) : List Nat := if pikE l ms x = 0 then pckL ms x else []
def PicP (L : List Nat) (er : Int) (w : World) (e : Ending) (w' : World) : Prop := ∃ v, e = .returned (.tuple #[v, .int .i64 er]) ∧ Nods w' w'.heap.size v L ∧ Below w.heap.size w w'
set_option maxRecDepth 100000 in
set_option maxHeartbeats 4000000 in
theorem bholds_any (f : List Int) (x : List Bool) (Af : Option Addr) (qf : Nat) (vv : Value) (A0 A1 A2 A3 A4 A5 : Option Addr) (q0 q1 q2 q3 q4 q5 : Nat) (l : Lo) (w : World) (hs : SizedL l) (hl : f.length ≤ maxLen) (h : LoA w w.heap.size A0 A1 A2 A3 A4 A5 q0 q1 q2 q3 q4 q5 l) (hf : Ints w w.heap.size (.slice Af f.length qf) f) (hx : Bols w w.heap.size vv x) (hm : l.m.err = 0) (hv : validF l.m.opts.length f = true) (hN : x.length = l.m.opts.length) :
  Calls Tryz.prog 85 #[.agg #[.slice A0 l.m.opts.length q0, .slice A1 l.m.rules.length q1, .slice A2 l.ss.length q2, .slice A3 l.us.length q3, .slice A4 l.ps.length q4, .slice A5 l.ws.length q5], .slice Af f.length qf, vv] w fun e w' => e = .returned (.bool (evF1 (vf x) f)) ∧ Below w.heap.size w w' := by
 have hok := hol_ok (m := l.m) (f := f) (vs := x) (errF_all hm fun g hg => by rw [List.mem_singleton] at hg; rw [hg]; exact hv) hN
 obtain ⟨Ax, qx, hvv⟩ := Sl.form hx
 subst hvv
 have H := hide h
 have HS := hide hs
 have HF := hide hf
 have HX := hide hx
 have HL := hide hl
 obtain ⟨r, hr⟩ : ∃ r, evF1 (vf x) f = r := ⟨_, rfl⟩
 rw [hr] at hok ⊢
 have HOK := hide hok
 clear hok h hs hf hx hl hr hN
 go_enter Tryz.func85, Tryz.ntmps85
 go_upto_region 1 with (fail)
 generalize hw0 : World.alloc _ _ = w0
 obtain ⟨hb0, hB0, hs0⟩ := alloc1 hw0
 have HB0 := hide hB0
 obtain ⟨c0, c1, c2, c3, c4, c5⟩ := zL hb0
 have hlb := box_lt hb0
 clear hw0 hb0 hB0 hs0
 go_wp2_with (go_at_call 37; refine (Holds_any l.m f x _ _ _ _ w0 HS.out.m HL.out (H.out.up HB0.out).m (HF.out.up HB0.out) (Sl.up HX.out HB0.out)).mono ?_; rw [HOK.out.1, HOK.out.2]; rintro e w1 ⟨rfl, hB1⟩; have HB1 := hide (Below.to HB0.out hB1 (Nat.le_refl _)); clear hB1 c0 c1 c2 c3 c4 c5 hlb)
 go_ret
 exact ⟨rfl, HB1.out⟩
end Go.Proofs.YtehadoecnmfeoaaGreat
namespace Go.Proofs.YtehadoecnmfeoaaGreat
def tgB (m : Mo) (f g : List Int) : Bool := (allM m).all fun x => evF1 (vf x) f == evF1 (vf x) g
def sometB (m : Mo) (f : List Int) : Bool := (allM m).any fun x => evF1 (vf x) f
def fmW (l : Lo) (w : Nat) : List Int := (l.ws.getD w Wi.o).form
def fndD (l : Lo) (D : List Md) (w : Nat) : Int := idxI (fun d => tgB l.m d.f (fmW l w)) D
def putD (D : List Md) (k w : Nat) : List Md := D.set k ⟨(D.getD k Md.o).f, (D.getD k Md.o).ws ++ [(w : Int)]⟩
def divS (l : Lo) (D : List Md) (w : Nat) : List Md := if sometB l.m (fmW l w) = true then (if 0 ≤ fndD l D w then putD D (fndD l D w).toNat w else D ++ [⟨fmW l w, [(w : Int)]⟩]) else D
def divN (l : Lo) : Nat → List Md
 | 0 => []
 | n + 1 => divS l (divN l n) n
def divL (l : Lo) : List Md := if l.err = 0 then divN l l.ws.length else []
structure DivI (l : Lo) (n : Nat) (D : List Md) : Prop where
 len : D.length ≤ n
 at_ : ∀ i, i < D.length → ∃ (w0 : Nat) (t : List Int), (D.getD i Md.o).ws = (w0 : Int) :: t ∧ w0 < n ∧ (D.getD i Md.o).f = fmW l w0 ∧ t.length < n
end Go.Proofs.YtehadoecnmfeoaaGreat
namespace Go.Proofs.YtehadoecnmfeoaaGreat
open Go.RowKit
structure WyAt (w0 w : World) (n : Nat) (A0 A1 A2 A3 A4 A5 : Option Addr) (q0 q1 q2 q3 q4 q5 : Nat) (l : Lo) (b : Nat) (sv rv : Value) (S R : List Nat) : Prop where
 below : Below n w0 w
 box : LoBox w n A0 A1 A2 A3 A4 A5 q0 q1 q2 q3 q4 q5 l
 tb : w.heap[n + 1]? = some (.cells #[.int .i64 b] 3 (0, 0))
 s : w.heap[n + 2]? = some (.cells #[sv] 45 (0, 0))
 r : w.heap[n + 3]? = some (.cells #[rv] 45 (0, 0))
 v : w.heap[n + 4]? = some (.cells #[.func (.func 251) #[] #[.pointer (some ⟨n + 2, 0, none⟩), .pointer (some ⟨n + 1, 0, none⟩), .pointer (some ⟨n, 0, none⟩), .pointer (some ⟨n + 3, 0, none⟩), .pointer (some ⟨n + 4, 0, none⟩)]] 161 (0, 0))
 sr : w.ownsRow (n + 5) 3 1 sv S.length (nvL S)
 rr : w.ownsRow (n + 5) 3 1 rv R.length (nvL R)
 ne : ∀ g, sv.ownBlock = some g → rv.ownBlock ≠ some g
 n0 : n = w0.heap.size
section
variable {w0 w w' : World} {n b : Nat} {A0 A1 A2 A3 A4 A5 : Option Addr} {q0 q1 q2 q3 q4 q5 : Nat} {l : Lo} {sv rv v1 : Value} {S R : List Nat} {o : Obj} {a : Nat}
theorem WyAt.size (h : WyAt w0 w n A0 A1 A2 A3 A4 A5 q0 q1 q2 q3 q4 q5 l b sv rv S R) : n + 5 ≤ w.heap.size := by
 have := box_lt h.v
 omega
end
def VyYes (w0 : World) (n : Nat) (A0 A1 A2 A3 A4 A5 : Option Addr) (q0 q1 q2 q3 q4 q5 : Nat) (l : Lo) (back : Int) (a b : Nat) (S R : List Nat) (e : Ending) (w' : World) : Prop :=
 ∃ (P : List Nat) (sv rv : Value), WayP l.rs back a P b ∧ e = .returned (.bool true) ∧ WyAt w0 w' n A0 A1 A2 A3 A4 A5 q0 q1 q2 q3 q4 q5 l b sv rv (S ++ spotsW l.rs a P) (R ++ P)
def VyNo (w0 : World) (n : Nat) (A0 A1 A2 A3 A4 A5 : Option Addr) (q0 q1 q2 q3 q4 q5 : Nat) (l : Lo) (b : Nat) (S R : List Nat) (e : Ending) (w' : World) : Prop :=
 ∃ (sv rv : Value), e = .returned (.bool false) ∧ WyAt w0 w' n A0 A1 A2 A3 A4 A5 q0 q1 q2 q3 q4 q5 l b sv rv S R
def disB (l : Lo) (a b : Int) : Bool := btw a 0 ((l.ss.length : Int) - 1) && btw b 0 ((l.ss.length : Int) - 1)
def disE (l : Lo) (a b : Int) : Int := havE l (disB l a b)
open Classical in
noncomputable def disN (l : Lo) (a b : Int) : Int := if disE l a b = 0 then distN l.rs (runLen l) a.toNat b.toNat else 0
end Go.Proofs.YtehadoecnmfeoaaGreat
namespace Go.Proofs.YtehadoecnmfeoaaGreat
open Go.RowKit
open Classical in
noncomputable def wayL (l : Lo) (a b : Nat) : List Nat := if h : ∃ P, WayP l.rs (-1) a P b then Classical.choose h else []
def rouE (l : Lo) (i : Int) : Int := havE l (btw i 0 ((l.ws.length : Int) - 1))
noncomputable def rouW (l : Lo) (i : Nat) : List Nat := spotsW l.rs (endF l i) (wayL l (endF l i) (endT l i))
noncomputable def rouL (l : Lo) (i : Int) : List Nat := if rouE l i = 0 then rouW l i.toNat else []
noncomputable def lenW (l : Lo) (i : Nat) : Int := distN l.rs (runLen l) (endF l i) (endT l i)
noncomputable def lenN (l : Lo) (i : Int) : Int := if rouE l i = 0 then lenW l i.toNat else 0
end Go.Proofs.YtehadoecnmfeoaaGreat
namespace Go.Proofs.YtehadoecnmfeoaaGreat
open Go.RowKit
noncomputable def copF (l : Lo) (v : List Bool) (i : Nat) : Int := if inB l v i then lenW l i * (l.ws.getD i Wi.o).size else 0
def copE (l : Lo) (v : List Bool) : Int := havE l (decide (v.length = l.m.opts.length))
noncomputable def copN (l : Lo) (v : List Bool) : Int := if copE l v = 0 then sumN (copF l v) l.ws.length else 0
end Go.Proofs.YtehadoecnmfeoaaGreat

/- Sorts and Copper answer as the elder program does: for every loom and variant; no condition. -/
import Derived.Test.YtmabfnddedffoaaGreatRows
import Derived.Test.YtmabfnddedffoaaGreatGLS29
import Derived.Test.YtmabfnddedffoaaGreatGLS39
import Derived.Test.YtmabfnddedffoaaGreatGLS40
import Derived.Test.YtmabfnddedffoaaGreatGLS41
import Derived.Deep.RegionHeld3
import Derived.Deep.DrawnRows
namespace Go.Proofs.YtmabfnddedffoaaGreat
open Go.Joins Go.ChangeShapes Go.WideShapes Go.ChangeAt Go.RowKit Go.Deep
set_option linter.unusedVariables false
set_option linter.unusedSimpArgs false
set_option maxRecDepth 100000 in
set_option maxHeartbeats 4000000 in
theorem loomSorts_walk (v : List Bool) (Av : Option Addr) (qv : Nat) (A0 A1 A2 A3 A4 A5 : Option Addr) (q0 q1 q2 q3 q4 q5 : Nat) (l : Lo) (w : World) (hs : SizedL l) (h : LoA w w.heap.size A0 A1 A2 A3 A4 A5 q0 q1 q2 q3 q4 q5 l) (hv : Bols w w.heap.size (.slice Av v.length qv) v) :
    Calls Tryz.prog 3 #[.agg #[.slice A0 l.m.opts.length q0, .slice A1 l.m.rules.length q1, .slice A2 l.ss.length q2, .slice A3 l.us.length q3, .slice A4 l.ps.length q4, .slice A5 l.ws.length q5], .slice Av v.length qv] w fun e w' => e = .returned (.bool true) ∧ Below w.heap.size w w' := by
  have H := hide h
  have HS := hide hs
  have HV := hide hv
  clear h hs hv
  cases hfar : farB l with
  | true =>
    have HFAR := hide hfar
    clear hfar
    go_enter Tryz.func3, Tryz.ntmps3
    go_upto_region 1 with (fail)
    generalize hw0 : World.alloc _ _ = w0
    obtain ⟨hb0, hB0, hs0⟩ := alloc1 hw0
    have HB0 := hide hB0
    have c0 := cellOf hb0 0; have c1 := cellOf hb0 1; have c2 := cellOf hb0 2; have c3 := cellOf hb0 3; have c4 := cellOf hb0 4; have c5 := cellOf hb0 5
    have hlb := box_lt hb0
    clear hw0 hb0 hB0 hs0
    go_wp2_with (first | (go_at_call 4; refine (Far_any A0 A1 A2 A3 A4 A5 q0 q1 q2 q3 q4 q5 l _ HS.out (H.out.up HB0.out)).mono ?_; rw [HFAR.out]; rintro e w1 ⟨rfl, hB1⟩; have HB1 := hide (Below.to HB0.out hB1 (Nat.le_refl _)); clear hB1 c0 c1 c2 c3 c4 c5 hlb) | (go_at_call 5; refine (works_loom _).mono ?_; rintro e w2 ⟨rfl, hB2⟩))
    go_ret
    exact ⟨rfl, Below.to HB1.out hB2 (Nat.le_refl _)⟩
  | false =>
  have HFAR := hide hfar
  have hfar2 := hfar
  clear hfar
  by_cases h50 : v.length ≤ 50
  case neg =>
    have hgt : (50 : Int) < (v.length : Int) := by omega
    clear h50 hfar2
    go_enter Tryz.func3, Tryz.ntmps3
    go_upto_region 1 with (fail)
    generalize hw0 : World.alloc _ _ = w0
    obtain ⟨hb0, hB0, hs0⟩ := alloc1 hw0
    have HB0 := hide hB0
    have c0 := cellOf hb0 0; have c1 := cellOf hb0 1; have c2 := cellOf hb0 2; have c3 := cellOf hb0 3; have c4 := cellOf hb0 4; have c5 := cellOf hb0 5
    have hlb := box_lt hb0
    clear hw0 hb0 hB0 hs0
    go_wp2_with (first | (go_at_call 4; refine (Far_any A0 A1 A2 A3 A4 A5 q0 q1 q2 q3 q4 q5 l _ HS.out (H.out.up HB0.out)).mono ?_; rw [HFAR.out]; rintro e w1 ⟨rfl, hB1⟩; have HB1 := hide (Below.to HB0.out hB1 (Nat.le_refl _)); clear hB1 c0 c1 c2 c3 c4 c5 hlb) | (go_at_call 5; refine (works_loom _).mono ?_; rintro e w2 ⟨rfl, hB2⟩))
    go_ret
    exact ⟨rfl, Below.to HB1.out hB2 (Nat.le_refl _)⟩
  case pos =>
  have hsm := far_small hfar2
  have hN : l.m.opts.length ≤ 12 := by omega
  have hw12 := hsm.2.2.2.2.2
  obtain ⟨X, hX⟩ : ∃ z, srtA l = z := ⟨_, rfl⟩
  obtain ⟨Y, hY⟩ : ∃ z, srtN l = z := ⟨_, rfl⟩
  obtain ⟨er, her⟩ : ∃ z, srtE l = z := ⟨_, rfl⟩
  obtain ⟨n, hn⟩ : ∃ z, copN l v = z := ⟨_, rfl⟩
  obtain ⟨ec, hec⟩ : ∃ z, copE l v = z := ⟨_, rfl⟩
  have hXl : X.length ≤ maxLen := by
    rw [← hX]
    unfold srtA maxLen
    split
    · have := filter_len6 (alwB l) l.ws.length (Nat.le_refl _)
      omega
    · simp
  have hYl : Y.length ≤ maxLen := by
    rw [← hY]
    unfold srtN maxLen
    split
    · have := filter_len6 (nevB l) l.ws.length (Nat.le_refl _)
      omega
    · simp
  have HX := hide hX
  have HY := hide hY
  have HE := hide her
  have HN := hide hn
  have HEC := hide hec
  have n1 : (n == n) = true := by simp
  have n2 : (er == er) = true := by simp
  have n3 : (ec == ec) = true := by simp
  have hgt : ¬ (50 : Int) < (v.length : Int) := by omega
  have hle : (v.length : Int) ≤ 50 := by omega
  have hv1000 : v.length ≤ 1000 := by omega
  clear hX hY her hn hec h50 hsm hfar2
  go_enter Tryz.func3, Tryz.ntmps3
  go_upto_region 1 with (fail)
  generalize hw0 : World.alloc _ _ = w0
  obtain ⟨hb0, hB0, hs0⟩ := alloc1 hw0
  have HL0 : Hid (LoBox w0 w.heap.size A0 A1 A2 A3 A4 A5 q0 q1 q2 q3 q4 q5 l) := hb0
  have HB0 := hide hB0
  have c0 := cellOf hb0 0; have c1 := cellOf hb0 1; have c2 := cellOf hb0 2; have c3 := cellOf hb0 3; have c4 := cellOf hb0 4; have c5 := cellOf hb0 5
  have hlb := box_lt hb0
  clear hw0 hb0 hB0 hs0
  go_upto_region 3 with (go_at_call 4; refine (Far_any A0 A1 A2 A3 A4 A5 q0 q1 q2 q3 q4 q5 l _ HS.out (H.out.up HB0.out)).mono ?_; rw [HFAR.out]; rintro e w1 ⟨rfl, hB1⟩; have d0 := cellOf (HL0.out.to hB1) 0; have d1 := cellOf (HL0.out.to hB1) 1; have d2 := cellOf (HL0.out.to hB1) 2; have d3 := cellOf (HL0.out.to hB1) 3; have d4 := cellOf (HL0.out.to hB1) 4; have d5 := cellOf (HL0.out.to hB1) 5; have ld := box_lt (HL0.out.to hB1); have HL1 := hide (HL0.out.to hB1); have HB1 := hide (Below.to HB0.out hB1 (Nat.le_refl _)); clear hB1 c0 c1 c2 c3 c4 c5 hlb)
  go_upto_region 4 with (first | (go_at_call 7; refine (Copy_any A0 A1 A2 A3 A4 A5 q0 q1 q2 q3 q4 q5 l _ HS.out HFAR.out (H.out.up HB1.out)).mono ?_; rintro e w2 ⟨C0, C1, C2, C3, C4, C5, r0, r1, r2, r3, r4, r5, rfl, hl2, hB2⟩; have HC2 := hide hl2; have HL2 := hide (HL1.out.to hB2); have HB2 := hide (Below.to HB1.out hB2 (Nat.le_refl _)); clear hl2 hB2 d0 d1 d2 d3 d4 d5 ld) | (go_at_call 6; refine (Sorts_any C0 C1 C2 C3 C4 C5 r0 r1 r2 r3 r4 r5 l _ HS.out HC2.out hN).mono ?_; rw [HX.out, HY.out, HE.out]; rintro e w4 ⟨va, vn, rfl, hva, hvn, hB4⟩; have HVA := hide hva; have HVN := hide hvn; have HL4 := hide (HL2.out.to hB4); have HB4 := hide (Below.to HB2.out hB4 (Nat.le_refl _)); have e0 := cellOf (HL2.out.to hB4) 0; have e1 := cellOf (HL2.out.to hB4) 1; have e2 := cellOf (HL2.out.to hB4) 2; have e3 := cellOf (HL2.out.to hB4) 3; have e4 := cellOf (HL2.out.to hB4) 4; have e5 := cellOf (HL2.out.to hB4) 5; have le := box_lt (HL2.out.to hB4); clear hva hvn hB4))
  go_upto_region 5 with (go_at_call 8; refine (rSorts_any A0 A1 A2 A3 A4 A5 q0 q1 q2 q3 q4 q5 l _ HS.out (H.out.up HB4.out) hN).mono ?_; rw [HX.out, HY.out, HE.out]; rintro e w5 ⟨vc, vd, rfl, hvc, hvd, hB5⟩; have HVC := hide hvc; have HVD := hide hvd; have HVA5 := hide (Sl.up HVA.out hB5); have HVN5 := hide (Sl.up HVN.out hB5); have HL5 := hide (HL4.out.to hB5); have HB5 := hide (Below.to HB4.out hB5 (Nat.le_refl _)); have f0 := cellOf (HL4.out.to hB5) 0; have f1 := cellOf (HL4.out.to hB5) 1; have f2 := cellOf (HL4.out.to hB5) 2; have f3 := cellOf (HL4.out.to hB5) 3; have f4 := cellOf (HL4.out.to hB5) 4; have f5 := cellOf (HL4.out.to hB5) 5; have lf := box_lt (HL4.out.to hB5); clear hvc hvd hB5 e0 e1 e2 e3 e4 e5 le)
  go_upto_region 6 with (first | (go_at_call 7; refine (Copy_any A0 A1 A2 A3 A4 A5 q0 q1 q2 q3 q4 q5 l _ HS.out HFAR.out (H.out.up HB5.out)).mono ?_; rintro e w6 ⟨D0, D1, D2, D3, D4, D5, s0, s1, s2, s3, s4, s5, rfl, hl6, hB6⟩; have HC6 := hide hl6; have HL6 := hide (HL5.out.to hB6); have HBS6 := hide hB6; have HB6 := hide (Below.to HB5.out hB6 (Nat.le_refl _)); clear hl6 hB6 f0 f1 f2 f3 f4 f5 lf) | (go_at_call 10; refine (bools_any v _ _ hv1000 (Sl.up HV.out HB6.out)).mono ?_; rintro e w7 ⟨Ac, qc, rfl, hb7, hB7⟩; have HBL7 := hide hb7; have HC7 := hide (HC6.out.up hB7); have HL7 := hide (HL6.out.to hB7); have HBS7 := hide (Below.to HBS6.out hB7 (Nat.le_refl _)); have HB7 := hide (Below.to HB6.out hB7 (Nat.le_refl _)); clear hb7 hB7) | (go_at_call 9; refine (Copper_any v Ac qc _ _ _ _ _ _ _ _ _ _ _ _ l _ HS.out HC7.out HBL7.out).mono ?_; rw [HN.out, HEC.out]; rintro e w8 ⟨rfl, hB8⟩; have HL8 := hide (HL7.out.to hB8); have HBS8 := hide (Below.to HBS7.out hB8 (Nat.le_refl _)); have HB8 := hide (Below.to HB7.out hB8 (Nat.le_refl _)); have g0 := cellOf (HL7.out.to hB8) 0; have g1 := cellOf (HL7.out.to hB8) 1; have g2 := cellOf (HL7.out.to hB8) 2; have g3 := cellOf (HL7.out.to hB8) 3; have g4 := cellOf (HL7.out.to hB8) 4; have g5 := cellOf (HL7.out.to hB8) 5; have lg := box_lt (HL7.out.to hB8); clear hB8))
  go_upto_region 7 with (go_at_call 11; refine (rCopper_any v Av qv A0 A1 A2 A3 A4 A5 q0 q1 q2 q3 q4 q5 l _ HS.out (H.out.up HB8.out) (Sl.up HV.out HB8.out)).mono ?_; rw [HN.out, HEC.out]; rintro e w9 ⟨rfl, hB9⟩; have HBS9 := hide (Below.to HBS8.out hB9 (Nat.le_refl _)); have HB9 := hide (Below.to HB8.out hB9 (Nat.le_refl _)); clear hB9 g0 g1 g2 g3 g4 g5 lg)
  go_wp2_with (first | (go_at_call 12; first | (have hgd := HBT10; clear hgd; refine (sameInts6_any Y _ _ _ hYl (Sl.up HVN5.out HBT10.out) (Sl.up HVD.out HBT10.out)).mono ?_; rintro e w12 ⟨rfl, hB12⟩; have HB12 := hide (Below.to HB10.out hB12 (Nat.le_refl _)); clear hB12) | (refine (sameInts6_any X _ _ _ hXl (Sl.up HVA5.out HBS9.out) (Sl.up HVC.out HBS9.out)).mono ?_; rintro e w10 ⟨rfl, hB10⟩; have HBT10 := hide (Below.to HBS9.out hB10 (Nat.le_refl _)); have HB10 := hide (Below.to HB9.out hB10 (Nat.le_refl _)); clear hB10)) | (go_at_call 5; refine (works_loom _).mono ?_; rintro e w11 ⟨rfl, hB11⟩; have HB11 := hide (Below.to HB12.out hB11 (Nat.le_refl _)); clear hB11))
  go_ret
  exact ⟨rfl, HB11.out⟩
theorem own_LoomSorts : ownKnob Tryz.prog.godebug = none := by kernel_rfl
theorem laid_LoomSorts : laidOutB Tryz.prog = true := by kernel_rfl
theorem par_LoomSorts : ∀ t ∈ Tryz.f3.params.toList, Tryz.prog.readableRec t = true ∧ t < Tryz.prog.types.size := by
  rw [Tryz.params3]
  intro t ht
  simp only [List.mem_cons, List.not_mem_nil, or_false] at ht
  rcases ht with rfl | rfl <;> exact ⟨by kernel_rfl, of_decide_eq_true (by kernel_rfl)⟩
set_option maxRecDepth 100000 in
theorem loomSorts_lifted (os : Os) (started : os.Started) (H : Type) (enc : TypeId × Value → H) :
    ReturnsInHanded {} Tryz.checked os 3 .any (Rows.loomSortsSpec.pre6 enc Tryz.prog Tryz.f3 Rows.loomSortsRow.domain false) (Rows.loomSortsSpec.post enc Tryz.prog Tryz.f3 false true false false) := by
  refine returnsInHanded_of_change (C := Tryz.checked) own_LoomSorts started (by kernel_rfl) Tryz.func3
    (ChangeSpec.witness6 (enc := enc) (C := Tryz.checked) false ⟨#[], #[.agg #[.slice none 0 0, .slice none 0 0, .slice none 0 0, .slice none 0 0, .slice none 0 0, .slice none 0 0], .slice none 0 0], []⟩ 8 (by kernel_rfl) (by kernel_rfl) (by kernel_rfl) (by kernel_rfl)) ?_
  intro W base args ds gs before hval0 hW hcnd _
  have hval : ∀ (j : Nat) t v, Tryz.f3.params[j]? = some t → args[j]? = some v → Value.okWide Tryz.prog W .any base t v := hval0
  have hW' := hW
  obtain ⟨p, q, hA0, hV, rfl, hfz, hnd⟩ := hW
  have hA : DataW.TrodAll enc Tryz.prog W 0 (fun _ => true) true Tryz.f3.params.toList args.toList ds p := hA0
  have hAll := hA
  have hltp : ∀ x ∈ p, x.block < W.heap.size := fun x hx => hW'.lt x (List.mem_append_left _ hx)
  rw [Tryz.params3] at hA hval
  obtain ⟨v0, v1, d0, d1, p0, p1, rfl, rfl, rfl, h0, h1⟩ := trodAll_two hA
  obtain ⟨rfl, rfl⟩ := trodVars_none hV
  obtain ⟨A0, A1, A2, A3, A4, A5, q0, q1, q2, q3, q4, q5, l, rfl, hla, hsz⟩ := open_lo (hval 0 31 v0 rfl rfl) h0
  obtain ⟨vs, hvs, hvl⟩ := open_bools (hval 1 32 v1 rfl rfl) h1
  obtain ⟨Av, qv, rfl⟩ := Sl.form hvs
  refine (loomSorts_walk vs Av qv A0 A1 A2 A3 A4 A5 q0 q1 q2 q3 q4 q5 l W hsz hla hvs).mono fun e W2 ⟨he, hb⟩ => ?_
  subst he
  exact ⟨_, rfl, post_of_below (pv := []) hW' (fun _ _ _ => trodAll_mk1 (shut_bool Tryz.underlying4 _)) (fun sp hsp => trodAll_stays laid_LoomSorts hb sp _ _ _ _ par_LoomSorts hAll hltp (fun x hx => hsp x (List.mem_append_left _ hx))) (fun _ _ => rfl) rfl hb
    (ok_one (by kernel_rfl) rfl (okWide_bool_mk Tryz.underlying4 _))⟩
theorem loomSorts_holds : Rows.LoomSortsSaid :=
  OpenClaim.holds_of_wide 3 Tryz.f3 rfl rfl rfl rfl rfl rfl rfl ⟨rfl, rfl, rfl, rfl, rfl⟩ rfl rfl rfl rfl rfl (by kernel_rfl) Tryz.func3 (by kernel_rfl)
    (of_decide_eq_true (by kernel_rfl)) (by unfold Func.isWrapper; first | (rw [if_pos (by decide +kernel)]; kernel_rfl) | (rw [if_neg (by decide +kernel)]; exact ⟨rfl, rfl⟩))
    (fun os started H enc _ => loomSorts_lifted os started H enc)
#print axioms loomSorts_holds

end Go.Proofs.YtmabfnddedffoaaGreat

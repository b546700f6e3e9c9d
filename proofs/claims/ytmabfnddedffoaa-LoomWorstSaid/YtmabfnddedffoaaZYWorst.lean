/- Worst and Tight answer as the elder program does: for every loom and run; no condition. -/
import Derived.Test.YtmabfnddedffoaaRows
import Derived.Test.YtmabfnddedffoaaGLW7
import Derived.Test.YtmabfnddedffoaaGLW8
import Derived.Test.YtmabfnddedffoaaGLW10
import Derived.Deep.RegionHeld3
import Derived.Deep.DrawnRows
namespace Go.Proofs.Ytmabfnddedffoaa
open Go.Joins Go.ChangeShapes Go.WideShapes Go.ChangeAt Go.RowKit Go.Deep
set_option linter.unusedVariables false
set_option linter.unusedSimpArgs false
theorem mosX_le6 {m : Mo} {l : List (List Int)} {ws : List Int} (hN : m.opts.length ≤ 12) : (mosX m l ws).length ≤ 1000 := by
  unfold mosX
  split
  · cases hf : (exts m.opts.length []).find? (fun y => valF m l ws y == bestF m l ws) with
    | none => simp
    | some x =>
      have h1 := exts_len _ _ _ (List.mem_of_find?_eq_some hf)
      simp at h1 ⊢
      omega
  · simp
theorem tigL_len (l : Lo) : (tigL l).length ≤ l.us.length := by
  unfold tigL
  split
  · exact filter_range_len _ _
  · simp
set_option maxRecDepth 100000 in
set_option maxHeartbeats 4000000 in
theorem loomWorst_walk (run : Int) (A0 A1 A2 A3 A4 A5 : Option Addr) (q0 q1 q2 q3 q4 q5 : Nat) (l : Lo) (w : World) (hs : SizedL l) (h : LoA w w.heap.size A0 A1 A2 A3 A4 A5 q0 q1 q2 q3 q4 q5 l) :
    Calls Try.prog 4 #[.agg #[.slice A0 l.m.opts.length q0, .slice A1 l.m.rules.length q1, .slice A2 l.ss.length q2, .slice A3 l.us.length q3, .slice A4 l.ps.length q4, .slice A5 l.ws.length q5], .int .i64 run] w fun e w' => e = .returned (.bool true) ∧ Below w.heap.size w w' := by
  have H := hide h
  have HS := hide hs
  have hu := hs.u
  clear h hs
  cases hfar : farB l with
  | true =>
    have HFAR := hide hfar
    clear hfar
    go_enter Try.func4, Try.ntmps4
    go_upto_region 1 with (fail)
    generalize hw0 : World.alloc _ _ = w0
    obtain ⟨hb0, hB0, hs0⟩ := alloc1 hw0
    have HB0 := hide hB0
    have c0 := cellOf hb0 0; have c1 := cellOf hb0 1; have c2 := cellOf hb0 2; have c3 := cellOf hb0 3; have c4 := cellOf hb0 4; have c5 := cellOf hb0 5
    have hlb := box_lt hb0
    clear hw0 hb0 hB0 hs0
    go_wp2_with (first | (go_at_call 14; refine (Far_any A0 A1 A2 A3 A4 A5 q0 q1 q2 q3 q4 q5 l _ HS.out (H.out.up HB0.out)).mono ?_; rw [HFAR.out]; rintro e w1 ⟨rfl, hB1⟩; have HB1 := hide (Below.to HB0.out hB1 (Nat.le_refl _)); clear hB1 c0 c1 c2 c3 c4 c5 hlb) | (go_at_call 15; refine (works_loom _).mono ?_; rintro e w2 ⟨rfl, hB2⟩))
    go_ret
    exact ⟨rfl, Below.to HB1.out hB2 (Nat.le_refl _)⟩
  | false =>
    have HFAR := hide hfar
    obtain ⟨hopt, _⟩ := far_small hfar
    have hN : l.m.opts.length ≤ 12 := by omega
    obtain ⟨n, hn⟩ : ∃ z, (if wrsE l run = 0 then worN l run.toNat else 0) = z := ⟨_, rfl⟩
    obtain ⟨X, hX⟩ : ∃ z, (if wrsE l run = 0 then worX l run.toNat else []) = z := ⟨_, rfl⟩
    obtain ⟨er, her⟩ : ∃ z, (if wrsE l run = 0 then worE l run.toNat else wrsE l run) = z := ⟨_, rfl⟩
    obtain ⟨L, hL⟩ : ∃ z, tigL l = z := ⟨_, rfl⟩
    obtain ⟨z, hz⟩ : ∃ z, l.err = z := ⟨_, rfl⟩
    have hXl : X.length ≤ maxLen := by
      rw [← hX]
      unfold maxLen
      split
      · unfold worX
        have := mosX_le6 (m := l.m) (l := fmsL l (thruL l run.toNat)) (ws := szsL l (thruL l run.toNat)) hN
        omega
      · simp
    have hLl : L.length ≤ maxLen := by rw [← hL]; exact Nat.le_trans (tigL_len l) hu
    have HN := hide hn
    have HX := hide hX
    have HE := hide her
    have HL := hide hL
    have HZ := hide hz
    have n1 : (n == n) = true := by simp
    have n2 : (er == er) = true := by simp
    have n3 : (z == z) = true := by simp
    clear hfar hn hX her hL hz
    go_enter Try.func4, Try.ntmps4
    go_upto_region 1 with (fail)
    generalize hw0 : World.alloc _ _ = w0
    obtain ⟨hb0, hB0, hs0⟩ := alloc1 hw0
    have HL0 : Hid (LoBox w0 w.heap.size A0 A1 A2 A3 A4 A5 q0 q1 q2 q3 q4 q5 l) := hb0
    have HB0 := hide hB0
    have c0 := cellOf hb0 0; have c1 := cellOf hb0 1; have c2 := cellOf hb0 2; have c3 := cellOf hb0 3; have c4 := cellOf hb0 4; have c5 := cellOf hb0 5
    have hlb := box_lt hb0
    clear hw0 hb0 hB0 hs0
    go_upto_region 3 with (go_at_call 14; refine (Far_any A0 A1 A2 A3 A4 A5 q0 q1 q2 q3 q4 q5 l _ HS.out (H.out.up HB0.out)).mono ?_; rw [HFAR.out]; rintro e w1 ⟨rfl, hB1⟩; have d0 := cellOf (HL0.out.to hB1) 0; have d1 := cellOf (HL0.out.to hB1) 1; have d2 := cellOf (HL0.out.to hB1) 2; have d3 := cellOf (HL0.out.to hB1) 3; have d4 := cellOf (HL0.out.to hB1) 4; have d5 := cellOf (HL0.out.to hB1) 5; have ld := box_lt (HL0.out.to hB1); have HL1 := hide (HL0.out.to hB1); have HB1 := hide (Below.to HB0.out hB1 (Nat.le_refl _)); clear hB1 c0 c1 c2 c3 c4 c5 hlb)
    go_upto_region 4 with (first | (go_at_call 16; refine (Copy_any A0 A1 A2 A3 A4 A5 q0 q1 q2 q3 q4 q5 l _ HS.out HFAR.out (H.out.up HB1.out)).mono ?_; rintro e w2 ⟨C0, C1, C2, C3, C4, C5, r0, r1, r2, r3, r4, r5, rfl, hl2, hB2⟩; have HC2 := hide hl2; have HL2 := hide (HL1.out.to hB2); have HB2 := hide (Below.to HB1.out hB2 (Nat.le_refl _)); clear hl2 hB2 d0 d1 d2 d3 d4 d5 ld) | (go_at_call 20; refine (Worst_any run C0 C1 C2 C3 C4 C5 r0 r1 r2 r3 r4 r5 l _ HS.out HC2.out hN).mono ?_; rw [HN.out, HX.out, HE.out]; rintro e w3 ⟨v3, rfl, hv3, hB3⟩; have HV3 := hide hv3; have HL3 := hide (HL2.out.to hB3); have HB3 := hide (Below.to HB2.out hB3 (Nat.le_refl _)); have e0 := cellOf (HL2.out.to hB3) 0; have e1 := cellOf (HL2.out.to hB3) 1; have e2 := cellOf (HL2.out.to hB3) 2; have e3 := cellOf (HL2.out.to hB3) 3; have e4 := cellOf (HL2.out.to hB3) 4; have e5 := cellOf (HL2.out.to hB3) 5; have le := box_lt (HL2.out.to hB3); clear hv3 hB3))
    go_upto_region 5 with (go_at_call 21; refine (rWorst_any run A0 A1 A2 A3 A4 A5 q0 q1 q2 q3 q4 q5 l _ HS.out (H.out.up HB3.out) hN).mono ?_; rw [HN.out, HX.out, HE.out]; rintro e w4 ⟨v4, rfl, hv4, hB4⟩; have HV4 := hide hv4; have HV34 := hide (Sl.up HV3.out hB4); have HL4 := hide (HL3.out.to hB4); have HB4 := hide (Below.to HB3.out hB4 (Nat.le_refl _)); have f0 := cellOf (HL3.out.to hB4) 0; have f1 := cellOf (HL3.out.to hB4) 1; have f2 := cellOf (HL3.out.to hB4) 2; have f3 := cellOf (HL3.out.to hB4) 3; have f4 := cellOf (HL3.out.to hB4) 4; have f5 := cellOf (HL3.out.to hB4) 5; have lf := box_lt (HL3.out.to hB4); clear hv4 hB4 e0 e1 e2 e3 e4 e5 le)
    go_upto_region 6 with (first | (go_at_call 16; refine (Copy_any A0 A1 A2 A3 A4 A5 q0 q1 q2 q3 q4 q5 l _ HS.out HFAR.out (H.out.up HB4.out)).mono ?_; rintro e w5 ⟨D0, D1, D2, D3, D4, D5, s0, s1, s2, s3, s4, s5, rfl, hl5, hB5⟩; have HC5 := hide hl5; have HL5 := hide (HL4.out.to hB5); have HV5 := hide (Sl.up HV4.out hB5); have HV35 := hide (Sl.up HV34.out hB5); have HB5 := hide (Below.to HB4.out hB5 (Nat.le_refl _)); clear hl5 hB5 f0 f1 f2 f3 f4 f5 lf) | (go_at_call 22; refine (Tight_any _ _ _ _ _ _ _ _ _ _ _ _ l _ HS.out HC5.out hN).mono ?_; rw [HL.out, HZ.out]; rintro e w6 ⟨v6, rfl, hv6, hB6⟩; have HT6 := hide hv6; have HL6 := hide (HL5.out.to hB6); have HV6 := hide (Sl.up HV5.out hB6); have HV36 := hide (Sl.up HV35.out hB6); have HB6 := hide (Below.to HB5.out hB6 (Nat.le_refl _)); have g0 := cellOf (HL5.out.to hB6) 0; have g1 := cellOf (HL5.out.to hB6) 1; have g2 := cellOf (HL5.out.to hB6) 2; have g3 := cellOf (HL5.out.to hB6) 3; have g4 := cellOf (HL5.out.to hB6) 4; have g5 := cellOf (HL5.out.to hB6) 5; have lg := box_lt (HL5.out.to hB6); clear hv6 hB6))
    go_upto_region 7 with (go_at_call 23; refine (rTight_any A0 A1 A2 A3 A4 A5 q0 q1 q2 q3 q4 q5 l _ HS.out (H.out.up HB6.out) hN).mono ?_; rw [HL.out, HZ.out]; rintro e w7 ⟨v7, rfl, hv7, hB7⟩; have HT7 := hide hv7; have HT67 := hide (Sl.up HT6.out hB7); have HV7 := hide (Sl.up HV6.out hB7); have HV37 := hide (Sl.up HV36.out hB7); have HB7 := hide (Below.to HB6.out hB7 (Nat.le_refl _)); clear hv7 hB7 g0 g1 g2 g3 g4 g5 lg)
    go_wp2_with (first | (go_at_call 24; refine (sameBools6_any X _ _ _ hXl HV37.out HV7.out).mono ?_; rintro e w8 ⟨rfl, hB8⟩; have HT8 := hide (Nods.up HT7.out hB8); have HT68 := hide (Nods.up HT67.out hB8); have HB8 := hide (Below.to HB7.out hB8 (Nat.le_refl _)); clear hB8) | (go_at_call 25; refine (sameInts6_any L _ _ _ hLl HT68.out HT8.out).mono ?_; rintro e w9 ⟨rfl, hB9⟩; have HB9 := hide (Below.to HB8.out hB9 (Nat.le_refl _)); clear hB9) | (go_at_call 15; refine (works_loom _).mono ?_; rintro e w10 ⟨rfl, hB10⟩; have HB10 := hide (Below.to HB9.out hB10 (Nat.le_refl _)); clear hB10))
    go_ret
    exact ⟨rfl, HB10.out⟩
theorem own_LoomWorst : ownKnob Try.prog.godebug = none := by kernel_rfl
theorem laid_LoomWorst : laidOutB Try.prog = true := by kernel_rfl
theorem par_LoomWorst : ∀ t ∈ Try.f4.params.toList, Try.prog.readableRec t = true ∧ t < Try.prog.types.size := by
  rw [Try.params4]
  intro t ht
  simp only [List.mem_cons, List.not_mem_nil, or_false] at ht
  rcases ht with rfl | rfl <;> exact ⟨by kernel_rfl, of_decide_eq_true (by kernel_rfl)⟩
set_option maxRecDepth 100000 in
theorem loomWorst_lifted (os : Os) (started : os.Started) (H : Type) (enc : TypeId × Value → H) :
    ReturnsInHanded {} Try.checked os 4 .any (Rows.loomWorstSpec.pre6 enc Try.prog Try.f4 Rows.loomWorstRow.domain false) (Rows.loomWorstSpec.post enc Try.prog Try.f4 false true false false) := by
  refine returnsInHanded_of_change (C := Try.checked) own_LoomWorst started (by kernel_rfl) Try.func4
    (ChangeSpec.witness6 (enc := enc) (C := Try.checked) false ⟨#[], #[.agg #[.slice none 0 0, .slice none 0 0, .slice none 0 0, .slice none 0 0, .slice none 0 0, .slice none 0 0], .int .i64 0], []⟩ 8 (by kernel_rfl) (by kernel_rfl) (by kernel_rfl) (by kernel_rfl)) ?_
  intro W base args ds gs before hval0 hW hcnd _
  have hval : ∀ (j : Nat) t v, Try.f4.params[j]? = some t → args[j]? = some v → Value.okWide Try.prog W .any base t v := hval0
  have hW' := hW
  obtain ⟨p, q, hA0, hV, rfl, hfz, hnd⟩ := hW
  have hA : DataW.TrodAll enc Try.prog W 0 (fun _ => true) true Try.f4.params.toList args.toList ds p := hA0
  have hAll := hA
  have hltp : ∀ x ∈ p, x.block < W.heap.size := fun x hx => hW'.lt x (List.mem_append_left _ hx)
  rw [Try.params4] at hA hval
  obtain ⟨v0, v1, d0, d1, p0, p1, rfl, rfl, rfl, h0, h1⟩ := trodAll_two hA
  obtain ⟨rfl, rfl⟩ := trodVars_none hV
  obtain ⟨A0, A1, A2, A3, A4, A5, q0, q1, q2, q3, q4, q5, l, rfl, hla, hsz⟩ := open_lo (hval 0 31 v0 rfl rfl) h0
  obtain ⟨run, rfl, _⟩ := open_int (hval 1 3 v1 rfl rfl) h1
  refine (loomWorst_walk run A0 A1 A2 A3 A4 A5 q0 q1 q2 q3 q4 q5 l W hsz hla).mono fun e W2 ⟨he, hb⟩ => ?_
  subst he
  exact ⟨_, rfl, post_of_below (pv := []) hW' (fun _ _ _ => trodAll_mk1 (shut_bool Try.underlying4 _)) (fun sp hsp => trodAll_stays laid_LoomWorst hb sp _ _ _ _ par_LoomWorst hAll hltp (fun x hx => hsp x (List.mem_append_left _ hx))) (fun _ _ => rfl) rfl hb
    (ok_one (by kernel_rfl) rfl (okWide_bool_mk Try.underlying4 _))⟩
theorem loomWorst_holds : Rows.LoomWorstSaid :=
  OpenClaim.holds_of_wide 4 Try.f4 rfl rfl rfl rfl rfl rfl rfl ⟨rfl, rfl, rfl, rfl, rfl⟩ rfl rfl rfl rfl rfl (by kernel_rfl) Try.func4 (by kernel_rfl)
    (of_decide_eq_true (by kernel_rfl)) (by unfold Func.isWrapper; first | (rw [if_pos (by decide +kernel)]; kernel_rfl) | (rw [if_neg (by decide +kernel)]; exact ⟨rfl, rfl⟩))
    (fun os started H enc _ => loomWorst_lifted os started H enc)
#print axioms loomWorst_holds

end Go.Proofs.Ytmabfnddedffoaa

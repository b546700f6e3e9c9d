/- Route and Length answer as the elder program does: for every loom and number; no condition. -/
import Derived.Test.YtmabfnddedffoaaRows
import Derived.Test.YtmabfnddedffoaaGLR29
import Derived.Test.YtmabfnddedffoaaGLR30
import Derived.Test.YtmabfnddedffoaaGLR42
import Derived.Deep.RegionHeld3
import Derived.Deep.DrawnRows
namespace Go.Proofs.Ytmabfnddedffoaa
open Go.Joins Go.ChangeShapes Go.WideShapes Go.ChangeAt Go.RowKit Go.Deep
set_option linter.unusedVariables false
set_option linter.unusedSimpArgs false
theorem rouL_len (l : Lo) (i : Int) : (rouL l i).length ≤ maxLen := by
  unfold rouL
  split
  · rename_i h
    obtain ⟨ok, i0, i1⟩ := rouE_ok h
    obtain ⟨hea, heb⟩ := ok.ends (show i.toNat < l.ws.length by omega)
    have hP := wayL_is ok hea heb
    have h2 := nodup_len (n := l.rs.length) (hP.mem ok.tree).1 (fun j hj => hP.lt j hj)
    have h3 := ok.u40
    rw [rs_len] at h2
    unfold rouW maxLen
    rw [spotsW_len]
    omega
  · simp
set_option maxRecDepth 100000 in
set_option maxHeartbeats 4000000 in
theorem loomRoutes_walk (i : Int) (A0 A1 A2 A3 A4 A5 : Option Addr) (q0 q1 q2 q3 q4 q5 : Nat) (l : Lo) (w : World) (hs : SizedL l) (h : LoA w w.heap.size A0 A1 A2 A3 A4 A5 q0 q1 q2 q3 q4 q5 l) :
    Calls Try.prog 7 #[.agg #[.slice A0 l.m.opts.length q0, .slice A1 l.m.rules.length q1, .slice A2 l.ss.length q2, .slice A3 l.us.length q3, .slice A4 l.ps.length q4, .slice A5 l.ws.length q5], .int .i64 i] w fun e w' => e = .returned (.bool true) ∧ Below w.heap.size w w' := by
  have H := hide h
  have HS := hide hs
  clear h hs
  cases hfar : farB l with
  | true =>
    have HFAR := hide hfar
    clear hfar
    go_enter Try.func7, Try.ntmps7
    go_upto_region 1 with (fail)
    generalize hw0 : World.alloc _ _ = w0
    obtain ⟨hb0, hB0, hs0⟩ := alloc1 hw0
    have HB0 := hide hB0
    have c0 := cellOf hb0 0; have c1 := cellOf hb0 1; have c2 := cellOf hb0 2; have c3 := cellOf hb0 3; have c4 := cellOf hb0 4; have c5 := cellOf hb0 5
    have hlb := box_lt hb0
    clear hw0 hb0 hB0 hs0
    go_wp2_with (first | (go_at_call 14; refine (Far_any A0 A1 A2 A3 A4 A5 q0 q1 q2 q3 q4 q5 l _ HS.out (H.out.up HB0.out)).mono ?_; rw [HFAR.out]; rintro e w1 ⟨rfl, hB1⟩; have HB1 := hide (Below.to HB0.out hB1 (Nat.le_refl _)); clear hB1 c0 c1 c2 c3 c4 c5 hlb) | (go_at_call 15; refine (works_loom _).mono ?_; rintro e w2 ⟨rfl, hB2⟩))
    go_ret
    exact ⟨rfl, Below.to HB1.out hB2 (Nat.le_refl _)⟩
  | false =>
  have HFAR := hide hfar
  clear hfar
  obtain ⟨n, hn⟩ : ∃ z, lenN l i = z := ⟨_, rfl⟩
  obtain ⟨er, her⟩ : ∃ z, rouE l i = z := ⟨_, rfl⟩
  obtain ⟨L, hL⟩ : ∃ z, rouL l i = z := ⟨_, rfl⟩
  have hLl : L.length ≤ maxLen := by rw [← hL]; exact rouL_len l i
  have HN := hide hn
  have HL := hide hL
  have HE := hide her
  have n1 : (n == n) = true := by simp
  have n2 : (er == er) = true := by simp
  clear hn hL her
  go_enter Try.func7, Try.ntmps7
  go_upto_region 1 with (fail)
  generalize hw0 : World.alloc _ _ = w0
  obtain ⟨hb0, hB0, hs0⟩ := alloc1 hw0
  have HL0 : Hid (LoBox w0 w.heap.size A0 A1 A2 A3 A4 A5 q0 q1 q2 q3 q4 q5 l) := hb0
  have HB0 := hide hB0
  have c0 := cellOf hb0 0; have c1 := cellOf hb0 1; have c2 := cellOf hb0 2; have c3 := cellOf hb0 3; have c4 := cellOf hb0 4; have c5 := cellOf hb0 5
  have hlb := box_lt hb0
  clear hw0 hb0 hB0 hs0
  go_upto_region 3 with (go_at_call 14; refine (Far_any A0 A1 A2 A3 A4 A5 q0 q1 q2 q3 q4 q5 l _ HS.out (H.out.up HB0.out)).mono ?_; rw [HFAR.out]; rintro e w1 ⟨rfl, hB1⟩; have d0 := cellOf (HL0.out.to hB1) 0; have d1 := cellOf (HL0.out.to hB1) 1; have d2 := cellOf (HL0.out.to hB1) 2; have d3 := cellOf (HL0.out.to hB1) 3; have d4 := cellOf (HL0.out.to hB1) 4; have d5 := cellOf (HL0.out.to hB1) 5; have ld := box_lt (HL0.out.to hB1); have HL1 := hide (HL0.out.to hB1); have HB1 := hide (Below.to HB0.out hB1 (Nat.le_refl _)); clear hB1 c0 c1 c2 c3 c4 c5 hlb)
  go_upto_region 4 with (first | (go_at_call 16; refine (Copy_any A0 A1 A2 A3 A4 A5 q0 q1 q2 q3 q4 q5 l _ HS.out HFAR.out (H.out.up HB1.out)).mono ?_; rintro e w2 ⟨C0, C1, C2, C3, C4, C5, r0, r1, r2, r3, r4, r5, rfl, hl2, hB2⟩; have HC2 := hide hl2; have HL2 := hide (HL1.out.to hB2); have HB2 := hide (Below.to HB1.out hB2 (Nat.le_refl _)); clear hl2 hB2 d0 d1 d2 d3 d4 d5 ld) | (go_at_call 32; refine (Route_any i C0 C1 C2 C3 C4 C5 r0 r1 r2 r3 r4 r5 l _ HS.out HC2.out).mono ?_; rw [HL.out, HE.out]; rintro e w4 ⟨v4, rfl, hv4, hB4⟩; have HV4 := hide hv4; have HL4 := hide (HL2.out.to hB4); have HB4 := hide (Below.to HB2.out hB4 (Nat.le_refl _)); have e0 := cellOf (HL2.out.to hB4) 0; have e1 := cellOf (HL2.out.to hB4) 1; have e2 := cellOf (HL2.out.to hB4) 2; have e3 := cellOf (HL2.out.to hB4) 3; have e4 := cellOf (HL2.out.to hB4) 4; have e5 := cellOf (HL2.out.to hB4) 5; have le := box_lt (HL2.out.to hB4); clear hv4 hB4))
  go_upto_region 5 with (go_at_call 33; refine (rRoute_any i A0 A1 A2 A3 A4 A5 q0 q1 q2 q3 q4 q5 l _ HS.out (H.out.up HB4.out)).mono ?_; rw [HL.out, HE.out]; rintro e w5 ⟨v5, rfl, hv5, hB5⟩; have HV5 := hide hv5; have HV45 := hide (Sl.up HV4.out hB5); have HL5 := hide (HL4.out.to hB5); have HB5 := hide (Below.to HB4.out hB5 (Nat.le_refl _)); have f0 := cellOf (HL4.out.to hB5) 0; have f1 := cellOf (HL4.out.to hB5) 1; have f2 := cellOf (HL4.out.to hB5) 2; have f3 := cellOf (HL4.out.to hB5) 3; have f4 := cellOf (HL4.out.to hB5) 4; have f5 := cellOf (HL4.out.to hB5) 5; have lf := box_lt (HL4.out.to hB5); clear hv5 hB5 e0 e1 e2 e3 e4 e5 le)
  go_upto_region 6 with (first | (go_at_call 16; refine (Copy_any A0 A1 A2 A3 A4 A5 q0 q1 q2 q3 q4 q5 l _ HS.out HFAR.out (H.out.up HB5.out)).mono ?_; rintro e w6 ⟨D0, D1, D2, D3, D4, D5, s0, s1, s2, s3, s4, s5, rfl, hl6, hB6⟩; have HC6 := hide hl6; have HL6 := hide (HL5.out.to hB6); have HV6 := hide (Sl.up HV5.out hB6); have HV46 := hide (Sl.up HV45.out hB6); have HB6 := hide (Below.to HB5.out hB6 (Nat.le_refl _)); clear hl6 hB6 f0 f1 f2 f3 f4 f5 lf) | (go_at_call 34; refine (Length_any i _ _ _ _ _ _ _ _ _ _ _ _ l _ HS.out HC6.out).mono ?_; rw [HN.out, HE.out]; rintro e w8 ⟨rfl, hB8⟩; have HL8 := hide (HL6.out.to hB8); have HV8 := hide (Sl.up HV6.out hB8); have HV48 := hide (Sl.up HV46.out hB8); have HB8 := hide (Below.to HB6.out hB8 (Nat.le_refl _)); have g0 := cellOf (HL6.out.to hB8) 0; have g1 := cellOf (HL6.out.to hB8) 1; have g2 := cellOf (HL6.out.to hB8) 2; have g3 := cellOf (HL6.out.to hB8) 3; have g4 := cellOf (HL6.out.to hB8) 4; have g5 := cellOf (HL6.out.to hB8) 5; have lg := box_lt (HL6.out.to hB8); clear hB8))
  go_upto_region 7 with (go_at_call 35; refine (rLength_any i A0 A1 A2 A3 A4 A5 q0 q1 q2 q3 q4 q5 l _ HS.out (H.out.up HB8.out)).mono ?_; rw [HN.out, HE.out]; rintro e w9 ⟨rfl, hB9⟩; have HV9 := hide (Sl.up HV8.out hB9); have HV49 := hide (Sl.up HV48.out hB9); have HB9 := hide (Below.to HB8.out hB9 (Nat.le_refl _)); clear hB9 g0 g1 g2 g3 g4 g5 lg)
  go_wp2_with (first | (go_at_call 25; refine (sameInts6_any L _ _ _ hLl HV49.out HV9.out).mono ?_; rintro e w10 ⟨rfl, hB10⟩; have HB10 := hide (Below.to HB9.out hB10 (Nat.le_refl _)); clear hB10) | (go_at_call 15; refine (works_loom _).mono ?_; rintro e w11 ⟨rfl, hB11⟩; have HB11 := hide (Below.to HB10.out hB11 (Nat.le_refl _)); clear hB11))
  go_ret
  exact ⟨rfl, HB11.out⟩
theorem own_LoomRoutes : ownKnob Try.prog.godebug = none := by kernel_rfl
theorem laid_LoomRoutes : laidOutB Try.prog = true := by kernel_rfl
theorem par_LoomRoutes : ∀ t ∈ Try.f7.params.toList, Try.prog.readableRec t = true ∧ t < Try.prog.types.size := by
  rw [Try.params7]
  intro t ht
  simp only [List.mem_cons, List.not_mem_nil, or_false] at ht
  rcases ht with rfl | rfl <;> exact ⟨by kernel_rfl, of_decide_eq_true (by kernel_rfl)⟩
set_option maxRecDepth 100000 in
theorem loomRoutes_lifted (os : Os) (started : os.Started) (H : Type) (enc : TypeId × Value → H) :
    ReturnsInHanded {} Try.checked os 7 .any (Rows.loomRoutesSpec.pre6 enc Try.prog Try.f7 Rows.loomRoutesRow.domain false) (Rows.loomRoutesSpec.post enc Try.prog Try.f7 false true false false) := by
  refine returnsInHanded_of_change (C := Try.checked) own_LoomRoutes started (by kernel_rfl) Try.func7
    (ChangeSpec.witness6 (enc := enc) (C := Try.checked) false ⟨#[], #[.agg #[.slice none 0 0, .slice none 0 0, .slice none 0 0, .slice none 0 0, .slice none 0 0, .slice none 0 0], .int .i64 0], []⟩ 8 (by kernel_rfl) (by kernel_rfl) (by kernel_rfl) (by kernel_rfl)) ?_
  intro W base args ds gs before hval0 hW hcnd _
  have hval : ∀ (j : Nat) t v, Try.f7.params[j]? = some t → args[j]? = some v → Value.okWide Try.prog W .any base t v := hval0
  have hW' := hW
  obtain ⟨p, q, hA0, hV, rfl, hfz, hnd⟩ := hW
  have hA : DataW.TrodAll enc Try.prog W 0 (fun _ => true) true Try.f7.params.toList args.toList ds p := hA0
  have hAll := hA
  have hltp : ∀ x ∈ p, x.block < W.heap.size := fun x hx => hW'.lt x (List.mem_append_left _ hx)
  rw [Try.params7] at hA hval
  obtain ⟨v0, v1, d0, d1, p0, p1, rfl, rfl, rfl, h0, h1⟩ := trodAll_two hA
  obtain ⟨rfl, rfl⟩ := trodVars_none hV
  obtain ⟨A0, A1, A2, A3, A4, A5, q0, q1, q2, q3, q4, q5, l, rfl, hla, hsz⟩ := open_lo (hval 0 31 v0 rfl rfl) h0
  obtain ⟨i, rfl, _⟩ := open_int (hval 1 3 v1 rfl rfl) h1
  refine (loomRoutes_walk i A0 A1 A2 A3 A4 A5 q0 q1 q2 q3 q4 q5 l W hsz hla).mono fun e W2 ⟨he, hb⟩ => ?_
  subst he
  exact ⟨_, rfl, post_of_below (pv := []) hW' (fun _ _ _ => trodAll_mk1 (shut_bool Try.underlying4 _)) (fun sp hsp => trodAll_stays laid_LoomRoutes hb sp _ _ _ _ par_LoomRoutes hAll hltp (fun x hx => hsp x (List.mem_append_left _ hx))) (fun _ _ => rfl) rfl hb
    (ok_one (by kernel_rfl) rfl (okWide_bool_mk Try.underlying4 _))⟩
theorem loomRoutes_holds : Rows.LoomRoutesSaid :=
  OpenClaim.holds_of_wide 7 Try.f7 rfl rfl rfl rfl rfl rfl rfl ⟨rfl, rfl, rfl, rfl, rfl⟩ rfl rfl rfl rfl rfl (by kernel_rfl) Try.func7 (by kernel_rfl)
    (of_decide_eq_true (by kernel_rfl)) (by unfold Func.isWrapper; first | (rw [if_pos (by decide +kernel)]; kernel_rfl) | (rw [if_neg (by decide +kernel)]; exact ⟨rfl, rfl⟩))
    (fun os started H enc _ => loomRoutes_lifted os started H enc)
#print axioms loomRoutes_holds

end Go.Proofs.Ytmabfnddedffoaa

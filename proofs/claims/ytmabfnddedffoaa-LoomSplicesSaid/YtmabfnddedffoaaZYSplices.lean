/- Splice and Joined answer as the elder program does: for every loom and list of numbers; no condition. -/
import Derived.Test.YtmabfnddedffoaaRows
import Derived.Test.YtmabfnddedffoaaGLP29
import Derived.Test.YtmabfnddedffoaaGLP31
import Derived.Test.YtmabfnddedffoaaGLP41
import Derived.Test.YtmabfnddedffoaaGLP42
import Derived.Deep.RegionHeld3
import Derived.Deep.DrawnRows
namespace Go.Proofs.Ytmabfnddedffoaa
open Go.Joins Go.ChangeShapes Go.WideShapes Go.ChangeAt Go.RowKit Go.Deep
set_option linter.unusedVariables false
set_option linter.unusedSimpArgs false
set_option maxRecDepth 100000 in
set_option maxHeartbeats 4000000 in
theorem loomSplices_walk (As : Option Addr) (qs : Nat) (ts : List Int) (A0 A1 A2 A3 A4 A5 : Option Addr) (q0 q1 q2 q3 q4 q5 : Nat) (l : Lo) (w : World) (hs : SizedL l) (hm : ts.length ≤ maxLen) (h : LoA w w.heap.size A0 A1 A2 A3 A4 A5 q0 q1 q2 q3 q4 q5 l) (hv : Ints w w.heap.size (.slice As ts.length qs) ts) :
    Calls Try.prog 6 #[.agg #[.slice A0 l.m.opts.length q0, .slice A1 l.m.rules.length q1, .slice A2 l.ss.length q2, .slice A3 l.us.length q3, .slice A4 l.ps.length q4, .slice A5 l.ws.length q5], .slice As ts.length qs] w fun e w' => e = .returned (.bool true) ∧ Below w.heap.size w w' := by
  obtain ⟨i0, hi0, iz0, iz1, iz2⟩ := info_parts infoInt
  have H := hide h
  have HS := hide hs
  have HV := hide hv
  have hm2 := hm
  unfold maxLen at hm2
  clear h hs hv
  cases hfar : farB l with
  | true =>
    have HFAR := hide hfar
    clear hfar
    go_enter Try.func6, Try.ntmps6
    go_upto_region 1 with (fail)
    generalize hw0 : World.alloc _ _ = w0
    obtain ⟨hb0, hB0, hs0⟩ := alloc1 hw0
    have HB0 := hide hB0
    have c0 := cellOf hb0 0; have c1 := cellOf hb0 1; have c2 := cellOf hb0 2; have c3 := cellOf hb0 3; have c4 := cellOf hb0 4; have c5 := cellOf hb0 5
    have hlb := box_lt hb0
    clear hw0 hb0 hB0 hs0
    go_wp2_with (first | (go_at_call 14; refine (Far_any A0 A1 A2 A3 A4 A5 q0 q1 q2 q3 q4 q5 l _ HS.out (H.out.up HB0.out)).mono ?_; rw [HFAR.out]; rintro e w1 ⟨rfl, hB1⟩; have HB1 := hide (Below.to HB0.out hB1 (Nat.le_refl _)); clear hB1 c0 c1 c2 c3 c4 c5 hlb) | (go_at_call 15; refine (works_loom _).mono ?_; rintro e w2 ⟨rfl, hB2⟩))
    go_ret
    exact ⟨rfl, Below.to HB1.out hB2 (Nat.le_refl _)⟩
  | false =>
  have HFAR := hide hfar
  clear hfar
  by_cases h50 : ts.length ≤ 50
  case neg =>
    have hgt : (50 : Int) < (ts.length : Int) := by omega
    clear h50
    go_enter Try.func6, Try.ntmps6
    go_upto_region 1 with (fail)
    generalize hw0 : World.alloc _ _ = w0
    obtain ⟨hb0, hB0, hs0⟩ := alloc1 hw0
    have HB0 := hide hB0
    have c0 := cellOf hb0 0; have c1 := cellOf hb0 1; have c2 := cellOf hb0 2; have c3 := cellOf hb0 3; have c4 := cellOf hb0 4; have c5 := cellOf hb0 5
    have hlb := box_lt hb0
    clear hw0 hb0 hB0 hs0
    go_wp2_with (first | (go_at_call 14; refine (Far_any A0 A1 A2 A3 A4 A5 q0 q1 q2 q3 q4 q5 l _ HS.out (H.out.up HB0.out)).mono ?_; rw [HFAR.out]; rintro e w1 ⟨rfl, hB1⟩; have HB1 := hide (Below.to HB0.out hB1 (Nat.le_refl _)); clear hB1 c0 c1 c2 c3 c4 c5 hlb) | (go_at_call 15; refine (works_loom _).mono ?_; rintro e w2 ⟨rfl, hB2⟩))
    go_ret
    exact ⟨rfl, Below.to HB1.out hB2 (Nat.le_refl _)⟩
  case pos =>
  obtain ⟨s1, hs1⟩ : ∃ z, splS l ts = z := ⟨_, rfl⟩
  obtain ⟨s2, hs2⟩ : ∃ z, splM l ts = z := ⟨_, rfl⟩
  obtain ⟨er, her⟩ : ∃ z, givE l ts = z := ⟨_, rfl⟩
  obtain ⟨n, hn⟩ : ∃ z, joiN l ts = z := ⟨_, rfl⟩
  have HS1 := hide hs1
  have HS2 := hide hs2
  have HN := hide hn
  have HE := hide her
  have n1 : (n == n) = true := by simp
  have n2 : (er == er) = true := by simp
  have n3 : (s1 == s1) = true := by simp
  have n4 : (s2 == s2) = true := by simp
  have hgt : ¬ (50 : Int) < (ts.length : Int) := by omega
  have hle : (ts.length : Int) ≤ 50 := by omega
  clear hs1 hs2 hn her
  go_enter Try.func6, Try.ntmps6
  go_upto_region 1 with (fail)
  generalize hw0 : World.alloc _ _ = w0
  obtain ⟨hb0, hB0, hs0⟩ := alloc1 hw0
  have HL0 : Hid (LoBox w0 w.heap.size A0 A1 A2 A3 A4 A5 q0 q1 q2 q3 q4 q5 l) := hb0
  have HB0 := hide hB0
  have c0 := cellOf hb0 0; have c1 := cellOf hb0 1; have c2 := cellOf hb0 2; have c3 := cellOf hb0 3; have c4 := cellOf hb0 4; have c5 := cellOf hb0 5
  have hlb := box_lt hb0
  clear hw0 hb0 hB0 hs0
  go_upto_region 3 with (go_at_call 14; refine (Far_any A0 A1 A2 A3 A4 A5 q0 q1 q2 q3 q4 q5 l _ HS.out (H.out.up HB0.out)).mono ?_; rw [HFAR.out]; rintro e w1 ⟨rfl, hB1⟩; have d0 := cellOf (HL0.out.to hB1) 0; have d1 := cellOf (HL0.out.to hB1) 1; have d2 := cellOf (HL0.out.to hB1) 2; have d3 := cellOf (HL0.out.to hB1) 3; have d4 := cellOf (HL0.out.to hB1) 4; have d5 := cellOf (HL0.out.to hB1) 5; have ld := box_lt (HL0.out.to hB1); have HL1 := hide (HL0.out.to hB1); have HB1 := hide (Below.to HB0.out hB1 (Nat.le_refl _)); clear hB1 c0 c1 c2 c3 c4 c5 hlb)
  go_wp2_with (first
    | (go_at_call 15; refine (works_loom _).mono ?_; rintro e w11 ⟨rfl, hB11⟩; have HB11 := hide (Below.to HB9.out hB11 (Nat.le_refl _)); clear hB11)
    | (go_at_call 31; refine (rJoined_any As qs ts A0 A1 A2 A3 A4 A5 q0 q1 q2 q3 q4 q5 l _ HS.out hm (H.out.up HB8.out) (Ints.up HV.out HB8.out)).mono ?_; rw [HN.out, HE.out]; rintro e w9 ⟨rfl, hB9⟩; have HB9 := hide (Below.to HB8.out hB9 (Nat.le_refl _)); clear hB9 g0 g1 g2 g3 g4 g5 lg)
    | (go_at_call 30; refine (Joined_any Ap7 cap7 ts _ _ _ _ _ _ _ _ _ _ _ _ l _ HS.out hm HC7.out HX7.out).mono ?_; rw [HN.out, HE.out]; rintro e w8 ⟨rfl, hB8⟩; have HL8 := hide (HL7.out.to hB8); have HB8 := hide (Below.to HB7.out hB8 (Nat.le_refl _)); have g0 := cellOf (HL7.out.to hB8) 0; have g1 := cellOf (HL7.out.to hB8) 1; have g2 := cellOf (HL7.out.to hB8) 2; have g3 := cellOf (HL7.out.to hB8) 3; have g4 := cellOf (HL7.out.to hB8) 4; have g5 := cellOf (HL7.out.to hB8) 5; have lg := box_lt (HL7.out.to hB8); clear hB8)
    | (go_at_call 16; have hgd := HB5; clear hgd; refine (Copy_any A0 A1 A2 A3 A4 A5 q0 q1 q2 q3 q4 q5 l _ HS.out HFAR.out (H.out.up HB5.out)).mono ?_; rintro e w6 ⟨D0, D1, D2, D3, D4, D5, t0, t1, t2, t3, t4, t5, rfl, hl6, hB6⟩; have HC6 := hide hl6; have HL6 := hide (HL5.out.to hB6); have HB6 := hide (Below.to HB5.out hB6 (Nat.le_refl _)); clear hl6 hB6 f0 f1 f2 f3 f4 f5 lf)
    | (have hgd := HC6; clear hgd; at_builtin; refine wpList_append_any _ rfl (.tmp 43) (.tmp 44) _ rfl w6.heap.size 3 i0 _ 1 8 Try.underlying41 hi0 iz0 iz1 iz2 rfl (by decide) _ 0 [] rfl (World.ownsRow_made w6 #[] 0 (Nat.le_refl _) (by unfold maxLen; omega) rfl) w6.heap.size As ts.length qs (ts.map (Value.int .i64)) rfl ((Ints.flat6 (Ints.up HV.out HB6.out)).alloc (Nat.le_refl _) _) one_ints6 (by unfold maxLen; omega) (by omega) (by simp) ?_; intro v7 w7 hown7 hg7 _; rw [Nat.zero_add, List.nil_append] at hown7; obtain ⟨Ap7, cap7, hv7⟩ := owns_form hown7; subst hv7; have HX7 := hide (ints_own6 hown7); have hBn7 := Below.grown (Below.allocT (Below.refl w6.heap.size w6) (Nat.le_refl _) _) hg7 (by simp) (fun j hj => by injection hj with hj; exact Nat.le_of_eq hj); clear hown7 hg7; have HC7 := hide (HC6.out.up hBn7); have HL7 := hide (HL6.out.to hBn7); have HB7 := hide (Below.to HB6.out hBn7 (Nat.le_refl _)); clear hBn7)
    | (go_at_call 29; refine (rSplice_any As qs ts A0 A1 A2 A3 A4 A5 q0 q1 q2 q3 q4 q5 l _ HS.out hm (H.out.up HB4.out) (Ints.up HV.out HB4.out)).mono ?_; rw [HS1.out, HS2.out, HE.out]; rintro e w5 ⟨rfl, hB5⟩; have HL5 := hide (HL4.out.to hB5); have f0 := cellOf (HL4.out.to hB5) 0; have f1 := cellOf (HL4.out.to hB5) 1; have f2 := cellOf (HL4.out.to hB5) 2; have f3 := cellOf (HL4.out.to hB5) 3; have f4 := cellOf (HL4.out.to hB5) 4; have f5 := cellOf (HL4.out.to hB5) 5; have lf := box_lt (HL4.out.to hB5); have HB5 := hide (Below.to HB4.out hB5 (Nat.le_refl _)); clear hB5 e0 e1 e2 e3 e4 e5 le)
    | (go_at_call 28; refine (Splice_any Ap3 cap3 ts C0 C1 C2 C3 C4 C5 r0 r1 r2 r3 r4 r5 l _ HS.out hm HC3.out HX3.out).mono ?_; rw [HS1.out, HS2.out, HE.out]; rintro e w4 ⟨rfl, hB4⟩; have HL4 := hide (HL3.out.to hB4); have HB4 := hide (Below.to HB3.out hB4 (Nat.le_refl _)); have e0 := cellOf (HL3.out.to hB4) 0; have e1 := cellOf (HL3.out.to hB4) 1; have e2 := cellOf (HL3.out.to hB4) 2; have e3 := cellOf (HL3.out.to hB4) 3; have e4 := cellOf (HL3.out.to hB4) 4; have e5 := cellOf (HL3.out.to hB4) 5; have le := box_lt (HL3.out.to hB4); clear hB4)
    | (have hgd := HC2; clear hgd; at_builtin; refine wpList_append_any _ rfl (.tmp 26) (.tmp 27) _ rfl w2.heap.size 3 i0 _ 1 8 Try.underlying41 hi0 iz0 iz1 iz2 rfl (by decide) _ 0 [] rfl (World.ownsRow_made w2 #[] 0 (Nat.le_refl _) (by unfold maxLen; omega) rfl) w2.heap.size As ts.length qs (ts.map (Value.int .i64)) rfl ((Ints.flat6 (Ints.up HV.out HB2.out)).alloc (Nat.le_refl _) _) one_ints6 (by unfold maxLen; omega) (by omega) (by simp) ?_; intro v3 w3 hown3 hg3 _; rw [Nat.zero_add, List.nil_append] at hown3; obtain ⟨Ap3, cap3, hv3⟩ := owns_form hown3; subst hv3; have HX3 := hide (ints_own6 hown3); have hBn3 := Below.grown (Below.allocT (Below.refl w2.heap.size w2) (Nat.le_refl _) _) hg3 (by simp) (fun j hj => by injection hj with hj; exact Nat.le_of_eq hj); clear hown3 hg3; have HC3 := hide (HC2.out.up hBn3); have HL3 := hide (HL2.out.to hBn3); have HB3 := hide (Below.to HB2.out hBn3 (Nat.le_refl _)); clear hBn3)
    | (go_at_call 16; refine (Copy_any A0 A1 A2 A3 A4 A5 q0 q1 q2 q3 q4 q5 l _ HS.out HFAR.out (H.out.up HB1.out)).mono ?_; rintro e w2 ⟨C0, C1, C2, C3, C4, C5, r0, r1, r2, r3, r4, r5, rfl, hl2, hB2⟩; have HC2 := hide hl2; have HL2 := hide (HL1.out.to hB2); have HB2 := hide (Below.to HB1.out hB2 (Nat.le_refl _)); clear hl2 hB2 d0 d1 d2 d3 d4 d5 ld))
  go_ret
  exact ⟨rfl, HB11.out⟩
theorem own_LoomSplices : ownKnob Try.prog.godebug = none := by kernel_rfl
theorem laid_LoomSplices : laidOutB Try.prog = true := by kernel_rfl
theorem par_LoomSplices : ∀ t ∈ Try.f6.params.toList, Try.prog.readableRec t = true ∧ t < Try.prog.types.size := by
  rw [Try.params6]
  intro t ht
  simp only [List.mem_cons, List.not_mem_nil, or_false] at ht
  rcases ht with rfl | rfl <;> exact ⟨by kernel_rfl, of_decide_eq_true (by kernel_rfl)⟩
set_option maxRecDepth 100000 in
theorem loomSplices_lifted (os : Os) (started : os.Started) (H : Type) (enc : TypeId × Value → H) :
    ReturnsInHanded {} Try.checked os 6 .any (Rows.loomSplicesSpec.pre6 enc Try.prog Try.f6 Rows.loomSplicesRow.domain false) (Rows.loomSplicesSpec.post enc Try.prog Try.f6 false true false false) := by
  refine returnsInHanded_of_change (C := Try.checked) own_LoomSplices started (by kernel_rfl) Try.func6
    (ChangeSpec.witness6 (enc := enc) (C := Try.checked) false ⟨#[], #[.agg #[.slice none 0 0, .slice none 0 0, .slice none 0 0, .slice none 0 0, .slice none 0 0, .slice none 0 0], .slice none 0 0], []⟩ 8 (by kernel_rfl) (by kernel_rfl) (by kernel_rfl) (by kernel_rfl)) ?_
  intro W base args ds gs before hval0 hW hcnd _
  have hval : ∀ (j : Nat) t v, Try.f6.params[j]? = some t → args[j]? = some v → Value.okWide Try.prog W .any base t v := hval0
  have hW' := hW
  obtain ⟨p, q, hA0, hV, rfl, hfz, hnd⟩ := hW
  have hA : DataW.TrodAll enc Try.prog W 0 (fun _ => true) true Try.f6.params.toList args.toList ds p := hA0
  have hAll := hA
  have hltp : ∀ x ∈ p, x.block < W.heap.size := fun x hx => hW'.lt x (List.mem_append_left _ hx)
  rw [Try.params6] at hA hval
  obtain ⟨v0, v1, d0, d1, p0, p1, rfl, rfl, rfl, h0, h1⟩ := trodAll_two hA
  obtain ⟨rfl, rfl⟩ := trodVars_none hV
  obtain ⟨A0, A1, A2, A3, A4, A5, q0, q1, q2, q3, q4, q5, l, rfl, hla, hsz⟩ := open_lo (hval 0 31 v0 rfl rfl) h0
  obtain ⟨ts, hts, htl⟩ := open_formula Try.underlying41 (hval 1 41 v1 rfl rfl) h1
  obtain ⟨As, qs, rfl⟩ := Ints.form hts
  refine (loomSplices_walk As qs ts A0 A1 A2 A3 A4 A5 q0 q1 q2 q3 q4 q5 l W hsz htl.1 hla hts).mono fun e W2 ⟨he, hb⟩ => ?_
  subst he
  exact ⟨_, rfl, post_of_below (pv := []) hW' (fun _ _ _ => trodAll_mk1 (shut_bool Try.underlying4 _)) (fun sp hsp => trodAll_stays laid_LoomSplices hb sp _ _ _ _ par_LoomSplices hAll hltp (fun x hx => hsp x (List.mem_append_left _ hx))) (fun _ _ => rfl) rfl hb
    (ok_one (by kernel_rfl) rfl (okWide_bool_mk Try.underlying4 _))⟩
theorem loomSplices_holds : Rows.LoomSplicesSaid :=
  OpenClaim.holds_of_wide 6 Try.f6 rfl rfl rfl rfl rfl rfl rfl ⟨rfl, rfl, rfl, rfl, rfl⟩ rfl rfl rfl rfl rfl (by kernel_rfl) Try.func6 (by kernel_rfl)
    (of_decide_eq_true (by kernel_rfl)) (by unfold Func.isWrapper; first | (rw [if_pos (by decide +kernel)]; kernel_rfl) | (rw [if_neg (by decide +kernel)]; exact ⟨rfl, rfl⟩))
    (fun os started H enc _ => loomSplices_lifted os started H enc)
#print axioms loomSplices_holds

end Go.Proofs.Ytmabfnddedffoaa

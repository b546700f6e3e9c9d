/- Clashes and Bends answer as the elder program does: for every loom; no condition. -/
import Derived.Test.YtmabfnddedffoaaRows
import Derived.Test.YtmabfnddedffoaaGLC28
import Derived.Test.YtmabfnddedffoaaGLC30
import Derived.Test.YtmabfnddedffoaaGLC37
import Derived.Test.YtmabfnddedffoaaGLC41
import Derived.Test.YtmabfnddedffoaaGLC42
import Derived.Deep.RegionHeld3
import Derived.Deep.DrawnRows
import Derived.Test.YtmabfnddedffoaaGLC3
namespace Go.Proofs.Ytmabfnddedffoaa
open Go.Joins Go.ChangeShapes Go.WideShapes Go.ChangeAt Go.RowKit Go.Deep
set_option linter.unusedVariables false
set_option linter.unusedSimpArgs false
theorem Prs.at {w : World} {B : Nat} {A : Option Addr} {m q : Nat} {K : List (Nat × Nat)} (h : Prs w B (.slice A m q) K) {k : Nat} (hk : k < K.length) : ∃ b off x y, Hid (K.getD k (0, 0) = (x, y)) ∧ A = some ⟨b, off, none⟩ ∧ b < B ∧ K.length ≤ q ∧ w.cell? ⟨b, off + k * 2, none⟩ = some (.int .i64 (x : Nat)) ∧ w.cell? ⟨b, off + k * 2 + 1, none⟩ = some (.int .i64 (y : Nat)) := by
  obtain ⟨h1, h2, b, off, h3, h4, h5⟩ := sl_at h hk
  exact ⟨b, off, _, _, rfl, h3, h4, by omega, h5 0 (by omega), h5 1 (by omega)⟩
theorem claE_len (l : Lo) : (claE l).length ≤ maxLen := by
  unfold claE
  split
  · rename_i h
    have h1 := claO_len l l.ws.length
    have h2 := (Lo.err_ok h).w60
    have h3 : l.ws.length * l.ws.length ≤ 60 * 60 := Nat.mul_le_mul h2 h2
    unfold maxLen
    omega
  · simp
theorem benE_len (l : Lo) : (benE l).length ≤ maxLen := by
  unfold benE
  split
  · rename_i h
    have h1 := benO_len (Lo.err_ok h) l.ws.length (Nat.le_refl _)
    have h2 := (Lo.err_ok h).w60
    unfold maxLen
    omega
  · simp
set_option maxRecDepth 100000 in
set_option maxHeartbeats 4000000 in
theorem loomClashes_walk (A0 A1 A2 A3 A4 A5 : Option Addr) (q0 q1 q2 q3 q4 q5 : Nat) (l : Lo) (w : World) (hs : SizedL l) (h : LoA w w.heap.size A0 A1 A2 A3 A4 A5 q0 q1 q2 q3 q4 q5 l) :
    Calls Try.prog 10 #[.agg #[.slice A0 l.m.opts.length q0, .slice A1 l.m.rules.length q1, .slice A2 l.ss.length q2, .slice A3 l.us.length q3, .slice A4 l.ps.length q4, .slice A5 l.ws.length q5]] w fun e w' => e = .returned (.bool true) ∧ Below w.heap.size w w' := by
  have H := hide h
  have HS := hide hs
  clear h hs
  cases hfar : farB l with
  | true =>
    have HFAR := hide hfar
    clear hfar
    go_enter Try.func10, Try.ntmps10
    go_upto_region 1 with (fail)
    generalize hw0 : World.alloc _ _ = w0
    obtain ⟨hb0, hB0, hs0⟩ := alloc1 hw0
    have HB0 := hide hB0
    have c0 := cellOf hb0 0; have c1 := cellOf hb0 1; have c2 := cellOf hb0 2; have c3 := cellOf hb0 3; have c4 := cellOf hb0 4; have c5 := cellOf hb0 5
    have hlb := box_lt hb0
    clear hw0 hb0 hB0 hs0
    go_wp2_with (first | (go_at_call 14; refine (Far_any A0 A1 A2 A3 A4 A5 q0 q1 q2 q3 q4 q5 l _ HS.out (H.out.up HB0.out)).mono ?_; rw [HFAR.out]; rintro e w1 ⟨rfl, hB1⟩; have HB1 := hide (Below.to HB0.out hB1 (Nat.le_refl _)); clear hB1 c0 c1 c2 c3 c4 c5 hlb) | (go_at_call 15; refine (works_loom _).mono ?_; rintro e w2 ⟨rfl, hB2⟩))
    go_ret
    exact ⟨rfl, Below.to HB1.out hB2 (Nat.le_refl _)⟩
  | false =>
  have HFAR := hide hfar
  obtain ⟨hopt, _⟩ := far_small hfar
  have hN : l.m.opts.length ≤ 12 := by omega
  clear hfar
  obtain ⟨K, hK⟩ : ∃ z, claE l = z := ⟨_, rfl⟩
  obtain ⟨L, hL⟩ : ∃ z, benE l = z := ⟨_, rfl⟩
  obtain ⟨er, her⟩ : ∃ z, l.err = z := ⟨_, rfl⟩
  have hKl : K.length ≤ maxLen := by rw [← hK]; exact claE_len l
  have hLl : L.length ≤ maxLen := by rw [← hL]; exact benE_len l
  unfold maxLen at hKl hLl
  have HK := hide hK
  have HL := hide hL
  have HE := hide her
  have n1 : ((K.length : Int) != (K.length : Int)) = false := by simp
  have n2 : (er != er) = false := by simp
  have n3 : ((L.length : Int) != (L.length : Int)) = false := by simp
  clear hK hL her
  go_enter Try.func10, Try.ntmps10
  go_upto_region 1 with (fail)
  generalize hw0 : World.alloc _ _ = w0
  obtain ⟨hb0, hB0, hs0⟩ := alloc1 hw0
  have HL0 : Hid (LoBox w0 w.heap.size A0 A1 A2 A3 A4 A5 q0 q1 q2 q3 q4 q5 l) := hb0
  have HB0 := hide hB0
  have c0 := cellOf hb0 0; have c1 := cellOf hb0 1; have c2 := cellOf hb0 2; have c3 := cellOf hb0 3; have c4 := cellOf hb0 4; have c5 := cellOf hb0 5
  have hlb := box_lt hb0
  clear hw0 hb0 hB0 hs0
  go_upto_region 3 with (go_at_call 14; refine (Far_any A0 A1 A2 A3 A4 A5 q0 q1 q2 q3 q4 q5 l _ HS.out (H.out.up HB0.out)).mono ?_; rw [HFAR.out]; rintro e w1 ⟨rfl, hB1⟩; have d0 := cellOf (HL0.out.to hB1) 0; have d1 := cellOf (HL0.out.to hB1) 1; have d2 := cellOf (HL0.out.to hB1) 2; have d3 := cellOf (HL0.out.to hB1) 3; have d4 := cellOf (HL0.out.to hB1) 4; have d5 := cellOf (HL0.out.to hB1) 5; have ld := box_lt (HL0.out.to hB1); have HL1 := hide (HL0.out.to hB1); have HB1 := hide (Below.to HB0.out hB1 (Nat.le_refl _)); clear hB1 c0 c1 c2 c3 c4 c5 hlb)
  go_upto_region 4 with (first | (go_at_call 16; refine (Copy_any A0 A1 A2 A3 A4 A5 q0 q1 q2 q3 q4 q5 l _ HS.out HFAR.out (H.out.up HB1.out)).mono ?_; rintro e w2 ⟨C0, C1, C2, C3, C4, C5, r0, r1, r2, r3, r4, r5, rfl, hl2, hB2⟩; have HC2 := hide hl2; have HL2 := hide (HL1.out.to hB2); have HB2 := hide (Below.to HB1.out hB2 (Nat.le_refl _)); clear hl2 hB2 d0 d1 d2 d3 d4 d5 ld) | (go_at_call 43; refine (Clashes_any C0 C1 C2 C3 C4 C5 r0 r1 r2 r3 r4 r5 l _ HS.out HC2.out hN).mono ?_; rw [HK.out, HE.out]; rintro e w4 ⟨v4, rfl, hv4, hB4⟩; obtain ⟨Aa, ca, hva⟩ := Sl.form hv4; subst hva; have HV4 := hide hv4; have HL4 := hide (HL2.out.to hB4); have HB4 := hide (Below.to HB2.out hB4 (Nat.le_refl _)); have e0 := cellOf (HL2.out.to hB4) 0; have e1 := cellOf (HL2.out.to hB4) 1; have e2 := cellOf (HL2.out.to hB4) 2; have e3 := cellOf (HL2.out.to hB4) 3; have e4 := cellOf (HL2.out.to hB4) 4; have e5 := cellOf (HL2.out.to hB4) 5; have le := box_lt (HL2.out.to hB4); clear hv4 hB4))
  go_upto_region 5 with (go_at_call 44; refine (rClashes_any A0 A1 A2 A3 A4 A5 q0 q1 q2 q3 q4 q5 l _ HS.out (H.out.up HB4.out) hN).mono ?_; rw [HK.out, HE.out]; rintro e w5 ⟨v5, rfl, hv5, hB5⟩; obtain ⟨Ab, cb, hvb⟩ := Sl.form hv5; subst hvb; have HV5 := hide hv5; have HV45 := hide (Sl.up HV4.out hB5); have HL5 := hide (HL4.out.to hB5); have HB5 := hide (Below.to HB4.out hB5 (Nat.le_refl _)); have f0 := cellOf (HL4.out.to hB5) 0; have f1 := cellOf (HL4.out.to hB5) 1; have f2 := cellOf (HL4.out.to hB5) 2; have f3 := cellOf (HL4.out.to hB5) 3; have f4 := cellOf (HL4.out.to hB5) 4; have f5 := cellOf (HL4.out.to hB5) 5; have lf := box_lt (HL4.out.to hB5); clear hv5 hB5 e0 e1 e2 e3 e4 e5 le)
  go_upto_region 6 with (first | (go_at_call 16; refine (Copy_any A0 A1 A2 A3 A4 A5 q0 q1 q2 q3 q4 q5 l _ HS.out HFAR.out (H.out.up HB5.out)).mono ?_; rintro e w6 ⟨D0, D1, D2, D3, D4, D5, s0, s1, s2, s3, s4, s5, rfl, hl6, hB6⟩; have HC6 := hide hl6; have HL6 := hide (HL5.out.to hB6); have HV6 := hide (Sl.up HV5.out hB6); have HV46 := hide (Sl.up HV45.out hB6); have HB6 := hide (Below.to HB5.out hB6 (Nat.le_refl _)); clear hl6 hB6 f0 f1 f2 f3 f4 f5 lf) | (go_at_call 45; refine (Bends_any _ _ _ _ _ _ _ _ _ _ _ _ l _ HS.out HC6.out).mono ?_; rw [HL.out, HE.out]; rintro e w8 ⟨v8, rfl, hv8, hB8⟩; obtain ⟨Ac, cc, hvc⟩ := Sl.form hv8; subst hvc; have HX8 := hide hv8; have HL8 := hide (HL6.out.to hB8); have HV8 := hide (Sl.up HV6.out hB8); have HV48 := hide (Sl.up HV46.out hB8); have HB8 := hide (Below.to HB6.out hB8 (Nat.le_refl _)); have g0 := cellOf (HL6.out.to hB8) 0; have g1 := cellOf (HL6.out.to hB8) 1; have g2 := cellOf (HL6.out.to hB8) 2; have g3 := cellOf (HL6.out.to hB8) 3; have g4 := cellOf (HL6.out.to hB8) 4; have g5 := cellOf (HL6.out.to hB8) 5; have lg := box_lt (HL6.out.to hB8); clear hv8 hB8))
  go_upto_region 7 with (go_at_call 46; refine (rBends_any A0 A1 A2 A3 A4 A5 q0 q1 q2 q3 q4 q5 l _ HS.out (H.out.up HB8.out)).mono ?_; rw [HL.out, HE.out]; rintro e w9 ⟨v9, rfl, hv9, hB9⟩; obtain ⟨Ad, cd, hvd⟩ := Sl.form hv9; subst hvd; have HX9 := hide hv9; have HX89 := hide (Sl.up HX8.out hB9); have HV9 := hide (Sl.up HV8.out hB9); have HV49 := hide (Sl.up HV48.out hB9); have HB9 := hide (Below.to HB8.out hB9 (Nat.le_refl _)); clear hv9 hB9 g0 g1 g2 g3 g4 g5 lg)
  go_wp2_with fail
  go_loopw [11] (fun i wr => ∃ k : Nat, i = .int .i64 k ∧ k ≤ K.length ∧ Hid (Below w9.heap.size w9 wr)) (fun i _ => K.length - (intOf i).toNat)
  case atStart => exact ⟨0, rfl, Nat.zero_le _, Below.refl _ _⟩
  case round =>
    obtain ⟨k, rfl, hk, HBr⟩ := hrel
    by_cases hkl : k < K.length
    · obtain ⟨b1, o1, x, y, HX, rfl, hb1, hq1, f0, f1⟩ := (show Prs wr wr.heap.size (.slice Aa K.length ca) K from Sl.up HV49.out HBr.out).at hkl
      obtain ⟨b2, o2, x', y', HX', rfl, hb2, hq2, g0, g1⟩ := (show Prs wr wr.heap.size (.slice Ab K.length cb) K from Sl.up HV9.out HBr.out).at hkl
      have hxy := HX.out.symm.trans HX'.out
      injection hxy with hx hy
      subst hx hy
      have ik : (k : Int) < (K.length : Int) := by omega
      have iq1 : (K.length : Int) ≤ (ca : Int) := by omega
      have iq2 : (K.length : Int) ≤ (cb : Int) := by omega
      go_upto_region 12 with (fail)
      refine wp_region_held_drew (S := (fun w' => Below wr.heap.size wr w')) (by kernel_rfl) ?_ (fun hHeld => ?_)
      · try dsimp only
        exact (by repeat (first | exact Below.refl _ _ | assumption | refine Below.drew ?_ | refine Below.drewN ?_ _ | refine Below.allocT ?_ (Nat.le_refl _) _ | refine Below.setCell ?_ (by simp <;> omega) _ | refine Below.to ?_ (by assumption) (Nat.le_refl _)))
      refine zT 0 rfl ?_
      try simp only [zX]
      refine zT 1 rfl ?_
      try simp only [zX]
      refine zT 2 rfl ?_
      try simp only [zX]
      refine zT 3 rfl ?_
      try simp only [zX]
      refine zT 4 rfl ?_
      try simp only [zX]
      refine zT 5 rfl ?_
      try simp only [zX]
      refine zT 6 rfl ?_
      try simp only [zX]
      refine zT 7 rfl ?_
      try simp only [zX]
      refine zT 8 rfl ?_
      try simp only [zX]
      refine wpAnyH_done (by kernel_rfl) ?_ _
      generalize World.drew wr = wd at hHeld ⊢
      have HB10 := hide (Below.to HBr.out hHeld (Nat.le_refl _))
      clear hHeld f0 f1 g0 g1 hb1 hb2
      go_wp2_with fail
      go_roundw
      case rel => exact ⟨k + 1, by go_num, by omega, HB10.out⟩
      case measure => simp [intOf]; omega
    · have hke : k = K.length := by omega
      subst hke
      go_wp2_with fail
      go_loopw [12] (fun i wr => ∃ k : Nat, i = .int .i64 k ∧ k ≤ L.length ∧ Hid (Below w9.heap.size w9 wr)) (fun i _ => L.length - (intOf i).toNat)
      case atStart => exact ⟨0, rfl, Nat.zero_le _, HBr.out⟩
      case round =>
        clear HBr
        obtain ⟨k, rfl, hk, HBr⟩ := hrel
        by_cases hkl : k < L.length
        · obtain ⟨b1, o1, x, y, HX, rfl, hb1, hq1, f0, f1⟩ := (show Prs wr wr.heap.size (.slice Ac L.length cc) L from Sl.up HX89.out HBr.out).at hkl
          obtain ⟨b2, o2, x', y', HX', rfl, hb2, hq2, g0, g1⟩ := (show Prs wr wr.heap.size (.slice Ad L.length cd) L from Sl.up HX9.out HBr.out).at hkl
          have hxy := HX.out.symm.trans HX'.out
          injection hxy with hx hy
          subst hx hy
          have ik : (k : Int) < (L.length : Int) := by omega
          have iq1 : (L.length : Int) ≤ (cc : Int) := by omega
          have iq2 : (L.length : Int) ≤ (cd : Int) := by omega
          go_upto_region 17 with (fail)
          refine wp_region_held_drew (S := (fun w' => Below wr.heap.size wr w')) (by kernel_rfl) ?_ (fun hHeld => ?_)
          · try dsimp only
            exact (by repeat (first | exact Below.refl _ _ | assumption | refine Below.drew ?_ | refine Below.drewN ?_ _ | refine Below.allocT ?_ (Nat.le_refl _) _ | refine Below.setCell ?_ (by simp <;> omega) _ | refine Below.to ?_ (by assumption) (Nat.le_refl _)))
          refine zT 0 rfl ?_
          try simp only [zX]
          refine zT 1 rfl ?_
          try simp only [zX]
          refine zT 2 rfl ?_
          try simp only [zX]
          refine zT 3 rfl ?_
          try simp only [zX]
          refine zT 4 rfl ?_
          try simp only [zX]
          refine zT 5 rfl ?_
          try simp only [zX]
          refine zT 6 rfl ?_
          try simp only [zX]
          refine zT 7 rfl ?_
          try simp only [zX]
          refine zT 8 rfl ?_
          try simp only [zX]
          refine wpAnyH_done (by kernel_rfl) ?_ _
          generalize World.drew wr = wd at hHeld ⊢
          have HB10 := hide (Below.to HBr.out hHeld (Nat.le_refl _))
          clear hHeld f0 f1 g0 g1 hb1 hb2
          go_wp2_with fail
          go_roundw
          case rel => exact ⟨k + 1, by go_num, by omega, HB10.out⟩
          case measure => simp [intOf]; omega
        · have hke : k = L.length := by omega
          subst hke
          go_wp2_with (go_at_call 15; refine (works_loom _).mono ?_; rintro e w11 ⟨rfl, hB11⟩)
          go_ret
          exact ⟨rfl, Below.to (Below.to HB9.out HBr.out (Nat.le_refl _)) hB11 (Nat.le_refl _)⟩
theorem own_LoomClashes : ownKnob Try.prog.godebug = none := by kernel_rfl
theorem laid_LoomClashes : laidOutB Try.prog = true := by kernel_rfl
theorem par_LoomClashes : ∀ t ∈ Try.f10.params.toList, Try.prog.readableRec t = true ∧ t < Try.prog.types.size := by
  rw [Try.params10]
  intro t ht
  simp only [List.mem_cons, List.not_mem_nil, or_false] at ht
  rcases ht with rfl <;> exact ⟨by kernel_rfl, of_decide_eq_true (by kernel_rfl)⟩
set_option maxRecDepth 100000 in
theorem loomClashes_lifted (os : Os) (started : os.Started) (H : Type) (enc : TypeId × Value → H) :
    ReturnsInHanded {} Try.checked os 10 .any (Rows.loomClashesSpec.pre6 enc Try.prog Try.f10 Rows.loomClashesRow.domain false) (Rows.loomClashesSpec.post enc Try.prog Try.f10 false true false false) := by
  refine returnsInHanded_of_change (C := Try.checked) own_LoomClashes started (by kernel_rfl) Try.func10
    (ChangeSpec.witness6 (enc := enc) (C := Try.checked) false ⟨#[], #[.agg #[.slice none 0 0, .slice none 0 0, .slice none 0 0, .slice none 0 0, .slice none 0 0, .slice none 0 0]], []⟩ 8 (by kernel_rfl) (by kernel_rfl) (by kernel_rfl) (by kernel_rfl)) ?_
  intro W base args ds gs before hval0 hW hcnd _
  have hval : ∀ (j : Nat) t v, Try.f10.params[j]? = some t → args[j]? = some v → Value.okWide Try.prog W .any base t v := hval0
  have hW' := hW
  obtain ⟨p, q, hA0, hV, rfl, hfz, hnd⟩ := hW
  have hA : DataW.TrodAll enc Try.prog W 0 (fun _ => true) true Try.f10.params.toList args.toList ds p := hA0
  have hAll := hA
  have hltp : ∀ x ∈ p, x.block < W.heap.size := fun x hx => hW'.lt x (List.mem_append_left _ hx)
  rw [Try.params10] at hA hval
  obtain ⟨v0, d0, rfl, rfl, h0⟩ := trodAll_one hA
  obtain ⟨rfl, rfl⟩ := trodVars_none hV
  obtain ⟨A0, A1, A2, A3, A4, A5, q0, q1, q2, q3, q4, q5, l, rfl, hla, hsz⟩ := open_lo (hval 0 31 v0 rfl rfl) h0
  refine (loomClashes_walk A0 A1 A2 A3 A4 A5 q0 q1 q2 q3 q4 q5 l W hsz hla).mono fun e W2 ⟨he, hb⟩ => ?_
  subst he
  exact ⟨_, rfl, post_of_below (pv := []) hW' (fun _ _ _ => trodAll_mk1 (shut_bool Try.underlying4 _)) (fun sp hsp => trodAll_stays laid_LoomClashes hb sp _ _ _ _ par_LoomClashes hAll hltp (fun x hx => hsp x (List.mem_append_left _ hx))) (fun _ _ => rfl) rfl hb
    (ok_one (by kernel_rfl) rfl (okWide_bool_mk Try.underlying4 _))⟩
theorem loomClashes_holds : Rows.LoomClashesSaid :=
  OpenClaim.holds_of_wide 10 Try.f10 rfl rfl rfl rfl rfl rfl rfl ⟨rfl, rfl, rfl, rfl, rfl⟩ rfl rfl rfl rfl rfl (by kernel_rfl) Try.func10 (by kernel_rfl)
    (of_decide_eq_true (by kernel_rfl)) (by unfold Func.isWrapper; first | (rw [if_pos (by decide +kernel)]; kernel_rfl) | (rw [if_neg (by decide +kernel)]; exact ⟨rfl, rfl⟩))
    (fun os started H enc _ => loomClashes_lifted os started H enc)
#print axioms loomClashes_holds

end Go.Proofs.Ytmabfnddedffoaa

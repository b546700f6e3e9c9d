/- Part 28 of this claim's texts: walks and plain laws. -/
import Derived.Test.YtehadoecnmfeoaaGreatRows
import Derived.Test.YtehadoecnmfeoaaGreatGBT27
import Derived.Deep.DeepMust
import Derived.Deep.RegionHeld3
import Derived.Deep.DrawnRows
import Derived.Test.YtehadoecnmfeoaaGreatGBT3
/- The first variant that has a wire twice: walk. -/
namespace Go.Proofs.YtehadoecnmfeoaaGreat
open Go.RowKit
set_option linter.unusedVariables false
set_option linter.unusedSimpArgs false
theorem forms_three {w : World} {b B : Nat} {fv gv hv : Value} {f g h : List Int} {t : Nat} (hb : w.heap[b]? = some (.cells #[fv, gv, hv] t (0, 0))) (hB : b < B) (h1 : Ints w B fv f) (h2 : Ints w B gv g) (h3 : Ints w B hv h) : Forms w B (.slice (some ⟨b, 0, none⟩) 3 3) [f, g, h] :=
  ⟨fun i => if i = 0 then fv else if i = 1 then gv else hv, ⟨_, b, 0, 3, rfl, Nat.le_refl _, .inl ⟨rfl, hB⟩, fun i j hi hj => by
    simp at hi
    obtain rfl : j = 0 := by omega
    rcases (by omega : i = 0 ∨ i = 1 ∨ i = 2) with rfl | rfl | rfl
    · exact cellOf hb 0
    · exact cellOf hb 1
    · exact cellOf hb 2⟩, fun i hi => by
    simp at hi
    rcases (by omega : i = 0 ∨ i = 1 ∨ i = 2) with rfl | rfl | rfl
    · exact h1
    · exact h2
    · exact h3⟩
theorem sized_three {f g h : List Int} (h1 : f.length ≤ maxLen) (h2 : g.length ≤ maxLen) (h3 : h.length ≤ maxLen) : Sized [f, g, h] := ⟨by unfold maxLen; simp, fun x hx => by simp at hx; rcases hx with rfl | rfl | rfl <;> assumption⟩
theorem dub_head (m : Mo) (f g h : List Int) : (meeL m [f, g, h]).head? = (allM m).find? fun x => evF1 (vf x) f && (evF1 (vf x) g && evF1 (vf x) h) := by
  rw [mee_head]
  congr 1
  funext x
  simp [allF]
set_option maxRecDepth 100000 in
set_option maxHeartbeats 4000000 in
theorem double_any (k0 : Nat) (fs : List (List Int)) (Aw : Option Addr) (qw : Nat) (A0 A1 A2 A3 A4 A5 : Option Addr) (q0 q1 q2 q3 q4 q5 : Nat) (l : Lo) (w : World) (hs : SizedL l) (h : LoA w w.heap.size A0 A1 A2 A3 A4 A5 q0 q1 q2 q3 q4 q5 l) (ok : LoOk l) (hk : k0 < l.ws.length) (hf : Forms w w.heap.size (.slice Aw fs.length qw) fs) (h60 : fs.length ≤ 60) (hv : ∀ f ∈ fs, validF l.m.opts.length f = true) (hN : l.m.opts.length ≤ 12) :
    Calls Tryz.prog 58 #[.agg #[.slice A0 l.m.opts.length q0, .slice A1 l.m.rules.length q1, .slice A2 l.ss.length q2, .slice A3 l.us.length q3, .slice A4 l.ps.length q4, .slice A5 l.ws.length q5], .int .i64 k0, .slice Aw fs.length qw] w (LokP (frstV l.m (l.ws.getD k0 Wi.o).form fs 3) w) := by
  obtain ⟨bw, offw, x, Af, qf, HX, hA, hbw, hq5, HFO, e0, e1, e2, e3, e4, e5, e6⟩ := h.wi hk
  subst hA
  rw [HX.out]
  have hxv : validF l.m.opts.length x.form = true := by
    have h1 := (LoOk.wi ok hk).2
    rw [HX.out] at h1
    exact h1
  have hxl : x.form.length ≤ maxLen := (hs.wn x (by rw [← HX.out]; exact getD_mem7 hk)).2
  obtain ⟨res, hres⟩ : ∃ r, frstV l.m x.form fs 3 = r := ⟨_, rfl⟩
  rw [hres]
  have HRES := hide hres
  have H := hide h
  have HS := hide hs
  have HF := hide hf
  have HV := hide hv
  have HXV := hide hxv
  have OK := hide ok
  have E6 := hide e6
  have ii : (k0 : Int) < (l.ws.length : Int) := by omega
  have ik0 : (0 : Int) ≤ (k0 : Int) := by omega
  have iq : (l.ws.length : Int) ≤ (q5 : Int) := by omega
  clear h hs hf hv hxv ok hres e0 e1 e2 e3 e4 e5 e6 hq5
  go_enter Tryz.func58, Tryz.ntmps58
  go_upto_region 2 with (fail)
  generalize hw0 : World.alloc _ _ = w0
  obtain ⟨hb0, hb1, hB0, hs0⟩ := alloc2 hw0
  have HL0 : Hid (LoBox w0 w.heap.size A0 A1 A2 A3 A4 (some ⟨bw, offw, none⟩) q0 q1 q2 q3 q4 q5 l) := hb0
  have HE0 : Hid (EarAt w0 (w.heap.size + 1) l.m.opts.length (dubV l.m x.form fs 0 0)) := by
    rw [dubV_zero]
    exact ⟨_, hb1, rfl, fun x hx => by cases hx⟩
  have HB0 := hide hB0
  clear hw0 hb0 hb1 hB0 hs0
  go_wp2_with fail
  go_loopw [8, 9, 11, 12, 13, 14, 17] (fun _ _ _ _ _ _ i wr => ∃ k : Nat, i = .int .i64 k ∧ k ≤ fs.length ∧ Hid (Below w.heap.size w wr) ∧ Hid (LoBox wr w.heap.size A0 A1 A2 A3 A4 (some ⟨bw, offw, none⟩) q0 q1 q2 q3 q4 q5 l) ∧ Hid (EarAt wr (w.heap.size + 1) l.m.opts.length (dubV l.m x.form fs k 0))) (fun _ _ _ _ _ _ i _ => fs.length - (intOf i).toNat)
  case atStart => exact ⟨0, rfl, Nat.zero_le _, HB0.out, HL0.out, HE0.out⟩
  case round =>
    obtain ⟨k, rfl, hk2, HB, HL, HE⟩ := hrel
    by_cases hkl : k < fs.length
    · obtain ⟨bf, off, f, Ag, qg, HFK, hA2, hbf, hqf, HG, ef⟩ := HF.out.at7 hkl
      subst hA2
      have hfv : validF l.m.opts.length f = true := by rw [← HFK.out]; exact HV.out _ (getD_mem7 hkl)
      have hfl : f.length ≤ maxLen := by have := (validF_pos hfv).2; unfold maxLen; omega
      have z0 := (HB.out.cell (p := ⟨bf, off + k, none⟩) hbf).trans ef
      have lbf : bf < wr.heap.size := Nat.lt_of_lt_of_le hbf HB.out.size
      have i0 : (0 : Int) ≤ (k : Int) := by omega
      have i1 : (k : Int) < (fs.length : Int) := by omega
      have iqf : (fs.length : Int) ≤ (qw : Int) := by omega
      have ikq : (k : Int) ≤ (qw : Int) := by omega
      have HFV := hide hfv
      obtain ⟨wo, hwo⟩ : ∃ wo : World, wo = wr := ⟨_, rfl⟩
      subst hwo
      clear hqf ef hfv
      go_wp2_with fail
      clear z0 lbf
      go_loopw [11, 12, 13, 14, 26] (fun _ _ _ _ i wr => ∃ j : Nat, i = .int .i64 j ∧ j ≤ k ∧ Hid (Below w.heap.size w wr) ∧ Hid (LoBox wr w.heap.size A0 A1 A2 A3 A4 (some ⟨bw, offw, none⟩) q0 q1 q2 q3 q4 q5 l) ∧ Hid (EarAt wr (w.heap.size + 1) l.m.opts.length (dubV l.m x.form fs k j))) (fun _ _ _ _ i _ => k - (intOf i).toNat)
      case atStart => exact ⟨0, rfl, Nat.zero_le _, HB.out, HL.out, HE.out⟩
      case round =>
        clear HB HL HE
        obtain ⟨j, rfl, hj2, HB, HL, HE⟩ := hrel
        by_cases hjl : j < k
        · obtain ⟨bg, offg, g, Ah, qh, HGK, hA3, hbg, hqg, HG2, eg⟩ := HF.out.at7 (show j < fs.length by omega)
          injection hA3 with hA3
          injection hA3 with q1' q2'
          subst q1' q2'
          have hgv : validF l.m.opts.length g = true := by rw [← HGK.out]; exact HV.out _ (getD_mem7 (by omega))
          have hgl : g.length ≤ maxLen := by have := (validF_pos hgv).2; unfold maxLen; omega
          have z1 := (HB.out.cell (p := ⟨bf, off + j, none⟩) hbf).trans eg
          have lbf : bf < wr.heap.size := Nat.lt_of_lt_of_le hbf HB.out.size
          have j0 : (0 : Int) ≤ (j : Int) := by omega
          have j1 : (j : Int) < (k : Int) := by omega
          have hef : l.m.errF [x.form, f, g] = 0 := errF_all OK.out.m (fun y hy => by
            simp only [List.mem_cons, List.not_mem_nil, or_false] at hy
            rcases hy with h1 | h1 | h1
            · rw [h1]; exact HXV.out
            · rw [h1]; exact HFV.out
            · rw [h1]; exact hgv)
          obtain ⟨o, ho⟩ : ∃ o, (meeL l.m [x.form, f, g]).head? = o := ⟨_, rfl⟩
          have hoe : (!(meeL l.m [x.form, f, g]).isEmpty) = !o.isNone := by rw [empty_head, ho]
          have hstep : dubV l.m x.form fs k (j + 1) = soon (dubV l.m x.form fs k j) o := by rw [dubV_in hjl hkl, ← ho, dub_head, HFK.out, HGK.out]
          have hol : ∀ y, o = some y → y.length = l.m.opts.length := fun y hy => by
            rw [dub_head] at ho
            exact find_len (ho.trans hy)
          have HEF := hide hef
          have HO := hide ho
          have HOE := hide hoe
          have HST := hide hstep
          have HOL := hide hol
          clear hgv hqg eg hef ho hoe hstep hol
          go_upto_region 8 with (fail)
          clear z1 lbf
          have g6 := (HB.out.cell (p := ⟨bw, offw + k0 * 7 + 6, none⟩) hbw).trans E6.out
          have lbw : bw < wr.heap.size := Nat.lt_of_lt_of_le hbw HB.out.size
          have c0 := cellOf HL.out 0; have c1 := cellOf HL.out 1; have c2 := cellOf HL.out 2; have c3 := cellOf HL.out 3; have c4 := cellOf HL.out 4; have c5 := cellOf HL.out 5
          have lc := box_lt HL.out
          have HHr := hide (H.out.up HB.out)
          have HGr := hide (HG.out.up HB.out)
          have HG2r := hide (HG2.out.up HB.out)
          have HXr := hide (HFO.out.up HB.out)
          refine wp_region_held_drew (S := (fun w' => Below wr.heap.size wr w')) (by kernel_rfl) ?_ (fun hHeld => ?_)
          · try dsimp only
            exact (by repeat (first | exact Below.refl _ _ | assumption | refine Below.drew ?_ | refine Below.drewN ?_ _ | refine Below.allocT ?_ (Nat.le_refl _) _ | refine Below.setCell ?_ (by simp <;> omega) _ | refine Below.to ?_ (by assumption) (Nat.le_refl _)))
          refine zT 0 rfl ?_
          refine zT 1 rfl ?_
          refine zT 2 rfl ?_
          refine zT 3 rfl ?_
          refine zT 4 rfl ?_
          refine zT 5 rfl ?_
          refine zT 6 rfl ?_
          refine zT 7 rfl ?_
          refine zT 8 rfl ?_
          refine zT 9 rfl ?_
          refine wpAnyH_ready (rs := [10]) (by kernel_rfl) (by simp) ?_
          refine AllReadyH.cons rfl (fun K hK => ?_) AllReadyH.nil
          go_simp
          refine hK.out _ _ ?_ (fun hNext => ?_)
          · try dsimp only
            exact (by repeat (first | exact Below.refl _ _ | assumption | refine Below.drew ?_ | refine Below.drewN ?_ _ | refine Below.allocT ?_ (Nat.le_refl _) _ | refine Below.setCell ?_ (by simp <;> omega) _ | refine Below.to ?_ (by assumption) (Nat.le_refl _)))
          clear hK K hHeld
          have hHeld := hNext
          clear hNext
          (try dsimp only at hHeld)
          try simp only [zX]
          refine wpAnyH_ready (rs := [11]) (by kernel_rfl) (by simp) ?_
          refine AllReadyH.cons rfl (fun K hK => ?_) AllReadyH.nil
          go_simp
          ((go_at_call 54; refine (Meets_n l.m [x.form, f, g] _ _ _ _ HS.out.m (sized_three hxl hfl hgl) (HHr.out.up hHeld).m (forms_three (heap_new _ _ _ rfl) (by simp) (HXr.out.up hHeld) (HGr.out.up hHeld) (HG2r.out.up hHeld)) HEF.out hN (by simp)).mono ?_; rw [HO.out, HOE.out]; rintro e w2 ⟨v2, rfl, hop, hB2⟩))
          (try dsimp only)
          refine hK.out _ _ ?_ (fun hNext => ?_)
          · try dsimp only
            exact (by repeat (first | exact Below.refl _ _ | assumption | refine Below.drew ?_ | refine Below.drewN ?_ _ | refine Below.allocT ?_ (Nat.le_refl _) _ | refine Below.setCell ?_ (by simp <;> omega) _ | refine Below.to ?_ (by assumption) (Nat.le_refl _)))
          clear hK K hHeld
          have hHeld := hNext
          clear hNext
          (try dsimp only at hHeld)
          try simp only [zX]
          refine zT 12 rfl ?_
          refine zT 13 rfl ?_
          refine zT 14 rfl ?_
          refine zT 15 rfl ?_
          refine zT 16 rfl ?_
          refine zT 17 rfl ?_
          refine zT 18 rfl ?_
          refine wpAnyH_done (by kernel_rfl) ?_ _
          obtain ⟨Av, nv, qv, hv2, _⟩ := hop.form
          subst hv2
          have HOP := hide hop
          have HB2 := hide hHeld
          have HL2 := hide (HL.out.to hHeld)
          have HE2 := hide (HE.out.up hHeld)
          clear hHeld hop c0 c1 c2 c3 c4 c5 lc g6 lbw
          cases o with
          | none =>
            have hxe : dubV l.m x.form fs k (j + 1) = dubV l.m x.form fs k j := by
              rw [HST.out]
              cases dubV l.m x.form fs k j <;> rfl
            have HXE := hide hxe
            clear hxe
            go_wp2_with fail
            go_roundw
            case rel => exact ⟨j + 1, by go_num, by omega, Below.to HB.out HB2.out (Nat.le_refl _), HL2.out, by rw [HXE.out]; exact HE2.out⟩
            case measure => simp [intOf]; omega
          | some y =>
            go_wp2_with (go_at_call 127; refine (show_any (w.heap.size + 1) l.m.opts.length (dubV l.m x.form fs k j) (some y) _ w2 (by omega) HE2.out HOP.out HOL.out).mono ?_; rintro e w3 ⟨rfl, hE3, hg3⟩; have HE3 := hide hE3; have HG3 := hide hg3; clear hE3 hg3)
            go_roundw
            case rel => exact ⟨j + 1, by go_num, by omega, Below.grown (Below.to HB.out HB2.out (Nat.le_refl _)) HG3.out (Nat.le_trans HB.out.size HB2.out.size) (fun j hj => by injection hj with hj; omega), by
              obtain ⟨cv, hcv, _⟩ := HE2.out
              exact HL2.out.grown hcv (by decide) HG3.out, by rw [HST.out]; exact HE3.out⟩
            case measure => simp [intOf]; omega
        · have hje : j = k := by omega
          have j1 : ¬ (j : Int) < (k : Int) := by omega
          have HJE := hide hje
          clear hje
          go_wp2_with fail
          go_roundw
          case rel => exact ⟨k + 1, by go_num, by omega, HB.out, HL.out, by rw [← dubV_next]; have h1 := HE.out; rw [HJE.out] at h1; exact h1⟩
          case measure => simp [intOf]; omega
    · have hke : k = fs.length := by omega
      subst hke
      obtain ⟨cv, hcv, hop, _⟩ := HE.out
      rw [dubV_all, HRES.out] at hop
      have x0 := cellOf hcv 0
      have lx := box_lt hcv
      have HOP := hide hop
      clear hcv hop
      go_wp2_with fail
      go_ret
      exact ⟨_, rfl, HOP.out, HB.out⟩
end Go.Proofs.YtehadoecnmfeoaaGreat

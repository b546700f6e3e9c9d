/- Part 7 of this claim's texts: walks and plain laws. -/
import Derived.Test.YtmabfnddedffoaaRows
import Derived.Test.YtmabfnddedffoaaGLW6
import Derived.Deep.RegionHeld3
import Derived.Deep.DrawnRows
import Derived.Test.YtmabfnddedffoaaGLW5
import Derived.Test.YtmabfnddedffoaaGLW3
import Derived.Test.YtmabfnddedffoaaGLW0
/- The greatest sum as the elder program has it: walk. -/
namespace Go.Proofs.Ytmabfnddedffoaa
open Go.RowKit
set_option linter.unusedVariables false
set_option linter.unusedSimpArgs false
/-- Whether weights are in their range. -/
def wOk (ws : List Int) : Bool := ws.all fun x => decide (-1000000 ≤ x) && decide (x ≤ 1000000)
theorem wOk_iff {ws : List Int} : wOk ws = true ↔ ∀ x ∈ ws, -1000000 ≤ x ∧ x ≤ 1000000 := by simp [wOk]
theorem wOk_not {ws : List Int} {k : Nat} (hk : k < ws.length) (h : ¬ (-1000000 ≤ ws.getD k 0 ∧ ws.getD k 0 ≤ 1000000)) : wOk ws = false := by
  cases hw : wOk ws with
  | false => rfl
  | true => exact absurd (wOk_iff.1 hw _ (getD_mem hk)) h
theorem wOk_all {ws : List Int} (h : ∀ k, k < ws.length → -1000000 ≤ ws.getD k 0 ∧ ws.getD k 0 ≤ 1000000) : wOk ws = true := by
  rw [wOk_iff]
  intro x hx
  obtain ⟨j, hj, rfl⟩ := List.getElem_of_mem hx
  have := h j hj
  simpa [hj] using this
/-- What Most returns. -/
def mosE (m : Mo) (l : List (List Int)) (ws : List Int) : Int := if frmE m l ≠ 0 then frmE m l else if ws.length ≠ l.length ∨ wOk ws = false then 1 else if allM m = [] then 12 else 0
def mosN (m : Mo) (l : List (List Int)) (ws : List Int) : Int := if mosE m l ws = 0 then bestF m l ws else 0
def mosX (m : Mo) (l : List (List Int)) (ws : List Int) : List Bool := if mosE m l ws = 0 then ((exts m.opts.length []).find? (fun y => valF m l ws y == bestF m l ws)).getD [] else []
theorem mos_bad {m : Mo} {l : List (List Int)} {ws : List Int} {z : Int} (h : mosE m l ws = z) (hz : z ≠ 0) : mosN m l ws = 0 ∧ mosX m l ws = [] := by
  unfold mosN mosX
  rw [h, if_neg hz, if_neg hz]
  exact ⟨rfl, rfl⟩
theorem mos_frm {m : Mo} {l : List (List Int)} {ws : List Int} (h : frmE m l ≠ 0) : mosE m l ws = frmE m l := by unfold mosE; rw [if_pos h]
theorem mos_arg {m : Mo} {l : List (List Int)} {ws : List Int} (h : frmE m l = 0) (h2 : ws.length ≠ l.length ∨ wOk ws = false) : mosE m l ws = 1 := by unfold mosE; rw [if_neg (by simp [h]), if_pos h2]
theorem mos_none {m : Mo} {l : List (List Int)} {ws : List Int} (h : frmE m l = 0) (h2 : ws.length = l.length) (h3 : wOk ws = true) (h4 : allM m = []) : mosE m l ws = 12 := by unfold mosE; rw [if_neg (by simp [h]), if_neg (by simp [h2, h3]), if_pos h4]
theorem mos_ok {m : Mo} {l : List (List Int)} {ws : List Int} (h : frmE m l = 0) (h2 : ws.length = l.length) (h3 : wOk ws = true) (h4 : allM m ≠ []) : mosE m l ws = 0 := by unfold mosE; rw [if_neg (by simp [h]), if_neg (by simp [h2, h3]), if_neg h4]
def MosP (n : Int) (x : List Bool) (er : Int) (w : World) (e : Ending) (w' : World) : Prop := ∃ v, e = .returned (.tuple #[.int .i64 n, v, .int .i64 er]) ∧ Bols w' w'.heap.size v x ∧ Below w.heap.size w w'
theorem MosP.bad {m : Mo} {l : List (List Int)} {ws : List Int} {z : Int} {w w' : World} (h : mosE m l ws = z) (hz : z ≠ 0) (hb : Below w.heap.size w w') : MosP (mosN m l ws) (mosX m l ws) (mosE m l ws) w (.returned (.tuple #[.int .i64 0, .slice none 0 0, .int .i64 z])) w' := by
  obtain ⟨h1, h2⟩ := mos_bad h hz
  rw [h1, h2, h]
  exact ⟨_, rfl, Sl.nil _ _ _ _, hb⟩
set_option maxRecDepth 100000 in
set_option maxHeartbeats 8000000 in
theorem rMost_any (m : Mo) (l : List (List Int)) (ws : List Int) (ov rv lv wv : Value) (w : World) (hs : SizedM m) (hl : Sized l) (h : MoAt w w.heap.size ov rv m) (hf : Forms w w.heap.size lv l) (hws : Ints w w.heap.size wv ws) (hwl : ws.length ≤ maxLen) (hN : m.err = 0 → m.opts.length ≤ 12) :
    Calls Try.prog 139 #[.agg #[ov, rv], lv, wv] w (MosP (mosN m l ws) (mosX m l ws) (mosE m l ws) w) := by
  obtain ⟨A, cap, hov⟩ := Sl.form h.o
  obtain ⟨Ar, capr, hrv⟩ := h.r.form
  have HFO := hide hf
  obtain ⟨fvs, ⟨Al, bl, offl, capl, rfl, hncl, hAl, hcl⟩, hfi⟩ := hf
  obtain ⟨Aw, bw, offw, capw, rfl, hncw, hAw, hcw⟩ := hws
  have H := hide h
  have HS := hide hs
  have HAL := hide hAl
  have HCL := hide hcl
  have HFI := hide hfi
  have HL := hide hl
  have HAW := hide hAw
  have HCW := hide hcw
  have HN := hide hN
  unfold maxLen at hwl
  subst hov hrv
  clear h hs hAl hcl hfi hl hAw hcw hN
  go_enter Try.func139, Try.ntmps139
  go_upto_region 1 with (fail)
  generalize hw0 : World.alloc _ _ = w0
  obtain ⟨hb0, hB0, hs0⟩ := alloc1 hw0
  clear hw0
  have HX0 : Hid (MoBox w0 w.heap.size (.slice A m.opts.length cap) (.slice Ar m.rules.length capr)) := hb0
  have HB0 := hide hB0
  have c0 := cellOf hb0 0
  have c1 := cellOf hb0 1
  have hck := rcheckForms_any m l (.slice A m.opts.length cap) (.slice Ar m.rules.length capr) (.slice Al l.length capl) w0 HS.out HL.out (H.out.up hB0) (HFO.out.up hB0)
  have HCK := hide hck
  clear hb0 hB0 hs0 hck
  by_cases he : frmE m l = 0
  · have HE := hide he
    obtain ⟨heF, hl200⟩ := frm_ok he
    have HEF := hide (Mo.okF heF)
    have hN2 := HN.out (Mo.okF heF).1
    clear he heF
    go_upto_region 4 with (go_at_call 151; refine HCK.out.mono ?_; rw [HE.out]; rintro e w1 ⟨rfl, hB1⟩; have HX1 := hide (box_to HX0.out hB1); have HB1 : Hid (Below w.heap.size w w1) := Below.to HB0.out hB1 (Nat.le_refl _); clear hB1 c0 c1)
    by_cases hlw : ws.length = l.length
    · have hlw1 : ((ws.length : Int) != (l.length : Int)) = false := by simp [hlw]
      have HLW := hide hlw
      have hlw2 : ws.length ≤ 200 := by omega
      clear hlw
      go_wp2_with fail
      go_loop [10] (fun i => ∃ k : Nat, k ≤ ws.length ∧ i = .int .i64 k ∧ Hid (∀ j, j < k → -1000000 ≤ ws.getD j 0 ∧ ws.getD j 0 ≤ 1000000)) (fun i => ws.length - (intOf i).toNat)
      case atStart => exact ⟨0, Nat.zero_le _, rfl, fun j hj => by omega⟩
      case round =>
        obtain ⟨k, hk, rfl, hall⟩ := hrel
        by_cases hkl : k < ws.length
        · obtain ⟨rfl, hbb⟩ : Aw = some ⟨bw, offw, none⟩ ∧ bw < w.heap.size := by
            rcases HAW.out with h | h
            · exact h
            · omega
          obtain ⟨x, hx⟩ : ∃ x, ws.getD k 0 = x := ⟨_, rfl⟩
          have c2 : w1.cell? ⟨bw, offw + k, none⟩ = some (.int .i64 x) := by
            have h1 := HCW.out k 0 hkl (by omega)
            rw [Nat.mul_one, Nat.add_zero, hx] at h1
            exact (HB1.out.cell (p := ⟨bw, offw + k, none⟩) hbb).trans h1
          have j1 : (k : Int) < (ws.length : Int) := by omega
          have HX := hide hx
          clear hx
          by_cases h1 : x < -1000000
          · have hee := mos_arg HE.out (l := l) (.inr (wOk_not hkl (by rw [HX.out]; omega)))
            have HEE := hide hee
            clear hee
            go_wp2_with fail
            go_ret3
            exact MosP.bad HEE.out (by omega) HB1.out
          · by_cases h2 : 1000000 < x
            · have hee := mos_arg HE.out (l := l) (.inr (wOk_not hkl (by rw [HX.out]; omega)))
              have HEE := hide hee
              clear hee
              go_wp2_with fail
              go_ret3
              exact MosP.bad HEE.out (by omega) HB1.out
            · go_wp2_with fail
              go_round
              case rel => exact ⟨k + 1, by omega, by go_num, fun j hj => by
                  rcases Nat.lt_or_ge j k with h | h
                  · exact hall.out j h
                  · rw [show j = k from by omega, HX.out]; omega⟩
              case measure => simp [intOf]; omega
        · have hwok := wOk_all (fun j hj => hall.out j (by omega))
          have HWOK := hide hwok
          have hbx := HX1.out
          have x0 := cellOf hbx 0
          have x1 := cellOf hbx 1
          have hle := allM_le4 hN2
          obtain ⟨M, hM⟩ : ∃ M, allM m = M := ⟨_, rfl⟩
          have HM := hide hM
          rw [hM] at hle
          clear hwok hbx hM
          by_cases hM0 : M = []
          · subst hM0
            have hee := mos_none HE.out HLW.out HWOK.out HM.out
            have HEE := hide hee
            clear hee
            go_wp2_with (go_at_call 152; refine (Variants_any m _ _ _ (H.out.up HB1.out) HEF.out.1 hN2).mono ?_; rw [HM.out]; rintro e w2 ⟨v2, rfl, hv2, hB2⟩; obtain ⟨A2, cap2, hA2, _, _⟩ := hv2.form; subst hA2; have HB2 : Hid (Below w.heap.size w w2) := Below.to HB1.out hB2 (Nat.le_refl _); clear hv2 hB2)
            go_ret3
            exact MosP.bad HEE.out (by omega) HB2.out
          · have hee := mos_ok HE.out HLW.out HWOK.out (by rw [HM.out]; exact hM0)
            have HEE := hide hee
            have hMl : ((M.length : Int) == 0) = false := by
              have := List.length_pos_iff.2 hM0
              simp; omega
            have HM0 := hide hM0
            clear hee hM0
            go_wp2_with (go_at_call 152; refine (Variants_any m _ _ _ (H.out.up HB1.out) HEF.out.1 hN2).mono ?_; rw [HM.out]; rintro e w2 ⟨v2, rfl, hv2, hB2⟩; obtain ⟨A2, cap2, hA2, _, _⟩ := hv2.form; subst hA2; have HV2 := hide hv2.rows; have HB2 : Hid (Below w.heap.size w w2) := Below.to HB1.out hB2 (Nat.le_refl _); clear hv2 hB2)
            obtain ⟨rvs, ⟨A9, bm, offm, cap9, hse, hncm, hAm, hcm⟩, hrm⟩ := HV2.out
            injection hse with e1 e2 e3
            subst e1 e3
            have HAM := hide hAm
            have HCM := hide hcm
            have HRM := hide hrm
            clear hAm hcm hrm e2
            go_loopw [12, 13, 14] (fun bv av i wr => ∃ (k : Nat) (b a : Int), k ≤ M.length ∧ i = .int .i64 k ∧ bv = .int .i64 b ∧ av = .int .i64 a ∧ Hid (FirstMax (fun j => fsum (vf (M.getD j [])) l ws) k b a) ∧ Hid (Below w2.heap.size w2 wr)) (fun _ _ i _ => M.length - (intOf i).toNat)
            case atStart => exact ⟨0, 0, -1, Nat.zero_le _, rfl, rfl, rfl, FirstMax.start _, Below.refl _ _⟩
            case round =>
              obtain ⟨k, b, a, hk, rfl, rfl, rfl, hFM, hB⟩ := hrel
              by_cases hkl : k < M.length
              · obtain ⟨rfl, hbm, Ax, capx, q0, q1⟩ := rows_get (enc := Value.bool) (z := false) HAM.out HCM.out HRM.out hkl
                obtain ⟨x, hx⟩ : ∃ x, M.getD k [] = x := ⟨_, rfl⟩
                rw [hx] at q0 q1
                have hxN : x.length = m.opts.length := allM_len (m := m) (by rw [HM.out, ← hx]; exact getD_mem hkl)
                have hsum : Hid (fsum (vf (M.getD k [])) l ws = fsum (vf x) l ws) := by rw [hx]; exact hide rfl
                obtain ⟨wo, hwo⟩ : ∃ wo : World, wo = wr := ⟨_, rfl⟩
                subst hwo
                have hBW := Below.to HB2.out hB.out (Nat.le_refl _)
                have HBW := hide hBW
                have HXN := hide hxN
                have HQ0 := hide q0
                have HQ1 := hide q1
                have hsz2 := HB2.out.size
                clear hx q0 q1 hxN hBW
                go_wp2_with fail
                go_loopw [15, 16] (fun sv i wr => ∃ t : Nat, t ≤ l.length ∧ i = .int .i64 t ∧ sv = .int .i64 (fsum (vf x) (l.take t) ws) ∧ Hid (Below wo.heap.size wo wr)) (fun _ i _ => l.length - (intOf i).toNat)
                case atStart => exact ⟨0, Nat.zero_le _, rfl, by simp [fsum], Below.refl _ _⟩
                case round =>
                  obtain ⟨t, ht, rfl, rfl, hBi⟩ := hrel
                  have hBr2 := Below.to hB.out hBi.out (Nat.le_refl _)
                  have hBr := Below.to HBW.out hBi.out (Nat.le_refl _)
                  have HBR := hide hBr
                  have HBR2 := hide hBr2
                  have hfb := fsum_bd (vf x) (l.take t) ws (wOk_iff.1 HWOK.out)
                  have hlt200 : ((l.take t).length : Int) ≤ 200 := by simp; omega
                  by_cases htl : t < l.length
                  · obtain ⟨rfl, hbb, Af, capf, p0, p1⟩ := rows_get (enc := Value.int .i64) (z := 0) HAL.out HCL.out HFI.out htl
                    obtain ⟨f, hfe⟩ : ∃ f, l.getD t [] = f := ⟨_, rfl⟩
                    rw [hfe] at p0 p1
                    have hfv : validF m.opts.length f = true := HEF.out.2 f (by rw [← hfe]; exact getD_mem htl)
                    have c0 : wr.cell? ⟨bl, offl + t, none⟩ = some (.slice Af f.length capf) := (hBr.cell (p := ⟨bl, offl + t, none⟩) hbb).trans p0
                    have c1 : wr.cell? ⟨bm, offm + k, none⟩ = some (.slice Ax x.length capx) := (hBr2.cell (p := ⟨bm, offm + k, none⟩) hbm).trans HQ0.out
                    have l0 : bl < wr.heap.size := Nat.lt_of_lt_of_le hbb hBr.size
                    have l1 : bm < wr.heap.size := Nat.lt_of_lt_of_le hbm hBr2.size
                    have htr : ∀ W, Below wr.heap.size wr W → Calls Try.prog 127 #[.slice Af f.length capf, .slice Ax x.length capx] W fun e w' => e = .returned (.bool (evF1 (vf x) f)) ∧ W = w' :=
                      fun W hW => True_any f m.opts.length x _ _ w2.heap.size W (GRow.more (enc := Value.int .i64) (z := 0) (GRow.below (enc := Value.int .i64) (z := 0) p1 (Below.to HBR.out hW (Nat.le_refl _))) hsz2) (GRow.below (enc := Value.bool) (z := false) HQ1.out (Below.to HBR2.out hW (Nat.le_refl _))) HXN.out hfv
                    have hsn := fsum_snoc (vf x) l ws t HLW.out.symm htl
                    rw [hfe] at hsn
                    obtain ⟨s, hs⟩ : ∃ s, fsum (vf x) (l.take t) ws = s := ⟨_, rfl⟩
                    rw [hs] at hsn hfb
                    rw [hs]
                    have j0 : (t : Int) < (l.length : Int) := by omega
                    have j1 : (k : Int) < (M.length : Int) := by omega
                    have j2 : -200000000 ≤ s := by omega
                    have j3 : s ≤ 200000000 := by omega
                    obtain ⟨rfl, hbw⟩ : Aw = some ⟨bw, offw, none⟩ ∧ bw < w.heap.size := by
                      rcases HAW.out with h | h
                      · exact h
                      · have := HLW.out; omega
                    have htw : t < ws.length := by have := HLW.out; omega
                    obtain ⟨y, hy⟩ : ∃ y, ws.getD t 0 = y := ⟨_, rfl⟩
                    rw [hy] at hsn
                    have hyb := wOk_iff.1 HWOK.out y (by rw [← hy]; exact getD_mem htw)
                    obtain ⟨j4, j5⟩ := hyb
                    have c2 : wr.cell? ⟨bw, offw + t, none⟩ = some (.int .i64 y) := by
                      have h1 := HCW.out t 0 htw (by omega)
                      rw [Nat.mul_one, Nat.add_zero, hy] at h1
                      exact (hBr.cell (p := ⟨bw, offw + t, none⟩) hbw).trans h1
                    have c2' : ∀ W, Below wr.heap.size wr W → W.cell? ⟨bw, offw + t, none⟩ = some (.int .i64 y) := fun W hW => (hW.cell (p := ⟨bw, offw + t, none⟩) (Nat.lt_of_lt_of_le hbw HBR.out.size)).trans c2
                    have j6 : (t : Int) < (ws.length : Int) := by omega
                    have HC2 := hide c2'
                    have HP1 := hide p1
                    clear p0 p1 hfe hs hy hfb hBr hBr2 c2 c2' hfv
                    cases hev : evF1 (vf x) f with
                    | true =>
                      rw [hev] at htr hsn
                      have HT := hide htr
                      have HSN := hide hsn
                      clear hev htr hsn
                      go_wp2_with fail
                      refine wp_region_held_drew (S := (fun w' => Below wr.heap.size wr w')) (by kernel_rfl) ?_ (fun hHeld => ?_)
                      · try dsimp only
                        exact (by repeat (first | exact Below.refl _ _ | assumption | refine Below.drew ?_ | refine Below.drewN ?_ _ | refine Below.allocT ?_ (Nat.le_refl _) _ | refine Below.setCell ?_ (by simp <;> omega) _ | refine Below.to ?_ (by assumption) (Nat.le_refl _)))
                      refine wpAnyH_take (i := 0) (v := ?v1_0) rfl (by kernel_rfl) (by kernel_rfl) (by kernel_rfl) (fun _ _ _ h => h) (Or.inl ⟨by rfl, ?y1_0⟩) (by assumption) ?r1_0
                      case' y1_0 => (intro w hSw; (try dsimp only at hSw); (try have hlS := HLK.out _ hSw); obtain ⟨hcS, hfS⟩ := bcell hSw; clear hSw; go_simp; try with_reducible rfl)
                      try simp only [Act.put, zA, zB, zC, zD, zE, zF]
                      refine wpAnyH_take (i := 1) (v := ?v1_1) rfl (by kernel_rfl) (by kernel_rfl) (by kernel_rfl) (fun _ _ _ h => h) (Or.inl ⟨by rfl, ?y1_1⟩) (by assumption) ?r1_1
                      case' y1_1 => (intro w hSw; (try dsimp only at hSw); (try have hlS := HLK.out _ hSw); obtain ⟨hcS, hfS⟩ := bcell hSw; clear hSw; go_simp; try with_reducible rfl)
                      try simp only [Act.put, zA, zB, zC, zD, zE, zF]
                      refine wpAnyH_take (i := 2) (v := ?v1_2) rfl (by kernel_rfl) (by kernel_rfl) (by kernel_rfl) (fun _ _ _ h => h) (Or.inl ⟨by rfl, ?y1_2⟩) (by assumption) ?r1_2
                      case' y1_2 => (intro w hSw; (try dsimp only at hSw); (try have hlS := HLK.out _ hSw); obtain ⟨hcS, hfS⟩ := bcell hSw; clear hSw; go_simp; try with_reducible rfl)
                      try simp only [Act.put, zA, zB, zC, zD, zE, zF]
                      refine wpAnyH_take (i := 3) (v := ?v1_3) rfl (by kernel_rfl) (by kernel_rfl) (by kernel_rfl) (fun _ _ _ h => h) (Or.inl ⟨by rfl, ?y1_3⟩) (by assumption) ?r1_3
                      case' y1_3 => (intro w hSw; (try dsimp only at hSw); (try have hlS := HLK.out _ hSw); obtain ⟨hcS, hfS⟩ := bcell hSw; clear hSw; go_simp; try with_reducible rfl)
                      try simp only [Act.put, zA, zB, zC, zD, zE, zF]
                      refine wpAnyH_take (i := 4) (v := ?v1_4) rfl (by kernel_rfl) (by kernel_rfl) (by kernel_rfl) (fun _ _ _ h => h) (Or.inl ⟨by rfl, ?y1_4⟩) (by assumption) ?r1_4
                      case' y1_4 => (intro w hSw; (try dsimp only at hSw); (try have hlS := HLK.out _ hSw); obtain ⟨hcS, hfS⟩ := bcell hSw; clear hSw; go_simp; try with_reducible rfl)
                      try simp only [Act.put, zA, zB, zC, zD, zE, zF]
                      refine wpAnyH_take (i := 5) (v := ?v1_5) rfl (by kernel_rfl) (by kernel_rfl) (by kernel_rfl) (fun _ _ _ h => h) (Or.inl ⟨by rfl, ?y1_5⟩) (by assumption) ?r1_5
                      case' y1_5 => (intro w hSw; (try dsimp only at hSw); (try have hlS := HLK.out _ hSw); obtain ⟨hcS, hfS⟩ := bcell hSw; clear hSw; go_simp; try with_reducible rfl)
                      try simp only [Act.put, zA, zB, zC, zD, zE, zF]
                      refine wpAnyH_take (i := 6) (v := ?v1_6) rfl (by kernel_rfl) (by kernel_rfl) (by kernel_rfl) (fun _ _ _ h => h) (Or.inl ⟨by rfl, ?y1_6⟩) (by assumption) ?r1_6
                      case' y1_6 => (intro w hSw; (try dsimp only at hSw); (try have hlS := HLK.out _ hSw); obtain ⟨hcS, hfS⟩ := bcell hSw; clear hSw; go_simp; try with_reducible rfl)
                      try simp only [Act.put, zA, zB, zC, zD, zE, zF]
                      refine wpAnyH_take (i := 7) (v := ?v1_7) rfl (by kernel_rfl) (by kernel_rfl) (by kernel_rfl) (fun _ _ _ h => h) (Or.inl ⟨by rfl, ?y1_7⟩) (by assumption) ?r1_7
                      case' y1_7 => (intro w hSw; (try dsimp only at hSw); (try have hlS := HLK.out _ hSw); obtain ⟨hcS, hfS⟩ := bcell hSw; clear hSw; go_simp; try with_reducible rfl)
                      try simp only [Act.put, zA, zB, zC, zD, zE, zF]
                      refine wpAnyH_ready (rs := [8]) (by kernel_rfl) (by simp) ?_
                      refine AllReadyH.cons rfl (fun K hK => ?_) AllReadyH.nil
                      go_simp
                      ((go_at_call 127; refine (HT.out _ (by repeat (first | exact Below.refl _ _ | assumption | refine Below.drew ?_ | refine Below.drewN ?_ _ | refine Below.allocT ?_ (Nat.le_refl _) _ | refine Below.setCell ?_ (by simp <;> omega) _ | refine Below.to ?_ (by assumption) (Nat.le_refl _)))).mono ?_; rintro e w1 ⟨rfl, rfl⟩))
                      (try dsimp only)
                      refine hK.out _ _ ?_ (fun hNext => ?_)
                      · try dsimp only
                        exact (by repeat (first | exact Below.refl _ _ | assumption | refine Below.drew ?_ | refine Below.drewN ?_ _ | refine Below.allocT ?_ (Nat.le_refl _) _ | refine Below.setCell ?_ (by simp <;> omega) _ | refine Below.to ?_ (by assumption) (Nat.le_refl _)))
                      clear hK K hHeld
                      have hHeld := hNext
                      clear hNext
                      (try dsimp only at hHeld)
                      try simp only [Act.put, zA, zB, zC, zD, zE, zF]
                      refine wpAnyH_done (by kernel_rfl) ?_ _
                      have c2 := HC2.out _ hHeld
                      go_wp2_with fail
                      go_roundw
                      case rel => exact ⟨t + 1, by omega, by go_num, by rw [HSN.out]; rfl, Below.to hBi.out hHeld (Nat.le_refl _)⟩
                      case measure => simp [intOf]; omega
                    | false =>
                      rw [hev] at htr hsn
                      have HT := hide htr
                      have HSN := hide hsn
                      clear hev htr hsn
                      go_wp2_with fail
                      refine wp_region_held_drew (S := (fun w' => Below wr.heap.size wr w')) (by kernel_rfl) ?_ (fun hHeld => ?_)
                      · try dsimp only
                        exact (by repeat (first | exact Below.refl _ _ | assumption | refine Below.drew ?_ | refine Below.drewN ?_ _ | refine Below.allocT ?_ (Nat.le_refl _) _ | refine Below.setCell ?_ (by simp <;> omega) _ | refine Below.to ?_ (by assumption) (Nat.le_refl _)))
                      refine wpAnyH_take (i := 0) (v := ?v2_0) rfl (by kernel_rfl) (by kernel_rfl) (by kernel_rfl) (fun _ _ _ h => h) (Or.inl ⟨by rfl, ?y2_0⟩) (by assumption) ?r2_0
                      case' y2_0 => (intro w hSw; (try dsimp only at hSw); (try have hlS := HLK.out _ hSw); obtain ⟨hcS, hfS⟩ := bcell hSw; clear hSw; go_simp; try with_reducible rfl)
                      try simp only [Act.put, zA, zB, zC, zD, zE, zF]
                      refine wpAnyH_take (i := 1) (v := ?v2_1) rfl (by kernel_rfl) (by kernel_rfl) (by kernel_rfl) (fun _ _ _ h => h) (Or.inl ⟨by rfl, ?y2_1⟩) (by assumption) ?r2_1
                      case' y2_1 => (intro w hSw; (try dsimp only at hSw); (try have hlS := HLK.out _ hSw); obtain ⟨hcS, hfS⟩ := bcell hSw; clear hSw; go_simp; try with_reducible rfl)
                      try simp only [Act.put, zA, zB, zC, zD, zE, zF]
                      refine wpAnyH_take (i := 2) (v := ?v2_2) rfl (by kernel_rfl) (by kernel_rfl) (by kernel_rfl) (fun _ _ _ h => h) (Or.inl ⟨by rfl, ?y2_2⟩) (by assumption) ?r2_2
                      case' y2_2 => (intro w hSw; (try dsimp only at hSw); (try have hlS := HLK.out _ hSw); obtain ⟨hcS, hfS⟩ := bcell hSw; clear hSw; go_simp; try with_reducible rfl)
                      try simp only [Act.put, zA, zB, zC, zD, zE, zF]
                      refine wpAnyH_take (i := 3) (v := ?v2_3) rfl (by kernel_rfl) (by kernel_rfl) (by kernel_rfl) (fun _ _ _ h => h) (Or.inl ⟨by rfl, ?y2_3⟩) (by assumption) ?r2_3
                      case' y2_3 => (intro w hSw; (try dsimp only at hSw); (try have hlS := HLK.out _ hSw); obtain ⟨hcS, hfS⟩ := bcell hSw; clear hSw; go_simp; try with_reducible rfl)
                      try simp only [Act.put, zA, zB, zC, zD, zE, zF]
                      refine wpAnyH_take (i := 4) (v := ?v2_4) rfl (by kernel_rfl) (by kernel_rfl) (by kernel_rfl) (fun _ _ _ h => h) (Or.inl ⟨by rfl, ?y2_4⟩) (by assumption) ?r2_4
                      case' y2_4 => (intro w hSw; (try dsimp only at hSw); (try have hlS := HLK.out _ hSw); obtain ⟨hcS, hfS⟩ := bcell hSw; clear hSw; go_simp; try with_reducible rfl)
                      try simp only [Act.put, zA, zB, zC, zD, zE, zF]
                      refine wpAnyH_take (i := 5) (v := ?v2_5) rfl (by kernel_rfl) (by kernel_rfl) (by kernel_rfl) (fun _ _ _ h => h) (Or.inl ⟨by rfl, ?y2_5⟩) (by assumption) ?r2_5
                      case' y2_5 => (intro w hSw; (try dsimp only at hSw); (try have hlS := HLK.out _ hSw); obtain ⟨hcS, hfS⟩ := bcell hSw; clear hSw; go_simp; try with_reducible rfl)
                      try simp only [Act.put, zA, zB, zC, zD, zE, zF]
                      refine wpAnyH_take (i := 6) (v := ?v2_6) rfl (by kernel_rfl) (by kernel_rfl) (by kernel_rfl) (fun _ _ _ h => h) (Or.inl ⟨by rfl, ?y2_6⟩) (by assumption) ?r2_6
                      case' y2_6 => (intro w hSw; (try dsimp only at hSw); (try have hlS := HLK.out _ hSw); obtain ⟨hcS, hfS⟩ := bcell hSw; clear hSw; go_simp; try with_reducible rfl)
                      try simp only [Act.put, zA, zB, zC, zD, zE, zF]
                      refine wpAnyH_take (i := 7) (v := ?v2_7) rfl (by kernel_rfl) (by kernel_rfl) (by kernel_rfl) (fun _ _ _ h => h) (Or.inl ⟨by rfl, ?y2_7⟩) (by assumption) ?r2_7
                      case' y2_7 => (intro w hSw; (try dsimp only at hSw); (try have hlS := HLK.out _ hSw); obtain ⟨hcS, hfS⟩ := bcell hSw; clear hSw; go_simp; try with_reducible rfl)
                      try simp only [Act.put, zA, zB, zC, zD, zE, zF]
                      refine wpAnyH_ready (rs := [8]) (by kernel_rfl) (by simp) ?_
                      refine AllReadyH.cons rfl (fun K hK => ?_) AllReadyH.nil
                      go_simp
                      ((go_at_call 127; refine (HT.out _ (by repeat (first | exact Below.refl _ _ | assumption | refine Below.drew ?_ | refine Below.drewN ?_ _ | refine Below.allocT ?_ (Nat.le_refl _) _ | refine Below.setCell ?_ (by simp <;> omega) _ | refine Below.to ?_ (by assumption) (Nat.le_refl _)))).mono ?_; rintro e w1 ⟨rfl, rfl⟩))
                      (try dsimp only)
                      refine hK.out _ _ ?_ (fun hNext => ?_)
                      · try dsimp only
                        exact (by repeat (first | exact Below.refl _ _ | assumption | refine Below.drew ?_ | refine Below.drewN ?_ _ | refine Below.allocT ?_ (Nat.le_refl _) _ | refine Below.setCell ?_ (by simp <;> omega) _ | refine Below.to ?_ (by assumption) (Nat.le_refl _)))
                      clear hK K hHeld
                      have hHeld := hNext
                      clear hNext
                      (try dsimp only at hHeld)
                      try simp only [Act.put, zA, zB, zC, zD, zE, zF]
                      refine wpAnyH_done (by kernel_rfl) ?_ _
                      go_wp2_with fail
                      go_roundw
                      case rel => exact ⟨t + 1, by omega, by go_num, by rw [HSN.out]; simp, Below.to hBi.out hHeld (Nat.le_refl _)⟩
                      case measure => simp [intOf]; omega
                  · obtain rfl : t = l.length := by omega
                    rw [List.take_length]
                    obtain ⟨s, hs⟩ : ∃ s, fsum (vf x) l ws = s := ⟨_, rfl⟩
                    have hsum2 : Hid (fsum (vf (M.getD k [])) l ws = s) := hsum.out.trans hs
                    rw [hs]
                    clear hs hfb hBr hBr2
                    have htake : a < 0 ∨ b < s → FirstMax (fun j => fsum (vf (M.getD j [])) l ws) (k + 1) s k := fun hh => by
                      have h1 := hFM.out.take (k := k) (by show a < 0 ∨ b < fsum (vf (M.getD k [])) l ws; rw [hsum2.out]; exact hh)
                      have h2 : FirstMax (fun j => fsum (vf (M.getD j [])) l ws) (k + 1) (fsum (vf (M.getD k [])) l ws) k := h1
                      rwa [hsum2.out] at h2
                    have hkeep : 0 ≤ a → s ≤ b → FirstMax (fun j => fsum (vf (M.getD j [])) l ws) (k + 1) b a := fun h0 h1 =>
                      hFM.out.keep h0 (by show fsum (vf (M.getD k [])) l ws ≤ b; rw [hsum2.out]; exact h1)
                    have HT := hide htake
                    have HK := hide hkeep
                    have hB2 : Hid (Below w2.heap.size w2 wr) := Below.to hB.out hBi.out (Nat.le_refl _)
                    clear htake hkeep
                    by_cases ha : a < 0
                    · go_wp2_with fail
                      go_roundw
                      case rel => exact ⟨k + 1, s, k, by omega, by go_num, rfl, rfl, HT.out (.inl ha), hB2.out⟩
                      case measure => simp [intOf]; omega
                    · by_cases hbs : b < s
                      · go_wp2_with fail
                        go_roundw
                        case rel => exact ⟨k + 1, s, k, by omega, by go_num, rfl, rfl, HT.out (.inr hbs), hB2.out⟩
                        case measure => simp [intOf]; omega
                      · go_wp2_with fail
                        go_roundw
                        case rel => exact ⟨k + 1, b, a, by omega, by go_num, rfl, rfl, HK.out (by omega) (by omega), hB2.out⟩
                        case measure => simp [intOf]; omega
              · obtain rfl : k = M.length := by omega
                obtain ⟨hbe, a0, rfl, ha0, hfind⟩ := most_first (m := m) (l := l) (ws := ws) (best := b) (at_ := a) (wOk_iff.1 HWOK.out) (by omega) (by rw [HM.out]; exact HM0.out) (by rw [HM.out]; exact hFM.out)
                rw [HM.out] at ha0 hfind
                obtain ⟨rfl, hbm, Ax, capx, q0, q1⟩ := rows_get (enc := Value.bool) (z := false) HAM.out HCM.out HRM.out ha0
                obtain ⟨x, hx⟩ : ∃ x, M.getD a0 [] = x := ⟨_, rfl⟩
                rw [hx] at q0 q1 hfind
                have c1 : wr.cell? ⟨bm, offm + a0, none⟩ = some (.slice Ax x.length capx) := (hB.out.cell (p := ⟨bm, offm + a0, none⟩) hbm).trans q0
                have l1 : bm < wr.heap.size := Nat.lt_of_lt_of_le hbm hB.out.size
                have j0 : (a0 : Int) < (M.length : Int) := by omega
                have HQ1 := hide q1
                have HFD := hide hfind
                have HBE := hide hbe
                clear q0 q1 hx hfind hbe
                go_wp2_with fail
                refine wp_region_held_drew (S := (fun w' => Below wr.heap.size wr w')) (by kernel_rfl) ?_ (fun hHeld => ?_)
                · try dsimp only
                  exact (by repeat (first | exact Below.refl _ _ | assumption | refine Below.drew ?_ | refine Below.drewN ?_ _ | refine Below.allocT ?_ (Nat.le_refl _) _ | refine Below.setCell ?_ (by simp <;> omega) _ | refine Below.to ?_ (by assumption) (Nat.le_refl _)))
                refine wpAnyH_take (i := 0) (v := ?v3_0) rfl (by kernel_rfl) (by kernel_rfl) (by kernel_rfl) (fun _ _ _ h => h) (Or.inl ⟨by rfl, ?y3_0⟩) (by assumption) ?r3_0
                case' y3_0 => (intro w hSw; (try dsimp only at hSw); (try have hlS := HLK.out _ hSw); obtain ⟨hcS, hfS⟩ := bcell hSw; clear hSw; go_simp; try with_reducible rfl)
                try simp only [Act.put, zA, zB, zC, zD, zE, zF]
                refine wpAnyH_take (i := 1) (v := ?v3_1) rfl (by kernel_rfl) (by kernel_rfl) (by kernel_rfl) (fun _ _ _ h => h) (Or.inl ⟨by rfl, ?y3_1⟩) (by assumption) ?r3_1
                case' y3_1 => (intro w hSw; (try dsimp only at hSw); (try have hlS := HLK.out _ hSw); obtain ⟨hcS, hfS⟩ := bcell hSw; clear hSw; go_simp; try with_reducible rfl)
                try simp only [Act.put, zA, zB, zC, zD, zE, zF]
                refine wpAnyH_take (i := 2) (v := ?v3_2) rfl (by kernel_rfl) (by kernel_rfl) (by kernel_rfl) (fun _ _ _ h => h) (Or.inl ⟨by rfl, ?y3_2⟩) (by assumption) ?r3_2
                case' y3_2 => (intro w hSw; (try dsimp only at hSw); (try have hlS := HLK.out _ hSw); obtain ⟨hcS, hfS⟩ := bcell hSw; clear hSw; go_simp; try with_reducible rfl)
                try simp only [Act.put, zA, zB, zC, zD, zE, zF]
                refine wpAnyH_take (i := 3) (v := ?v3_3) rfl (by kernel_rfl) (by kernel_rfl) (by kernel_rfl) (fun _ _ _ h => h) (Or.inl ⟨by rfl, ?y3_3⟩) (by assumption) ?r3_3
                case' y3_3 => (intro w hSw; (try dsimp only at hSw); (try have hlS := HLK.out _ hSw); obtain ⟨hcS, hfS⟩ := bcell hSw; clear hSw; go_simp; try with_reducible rfl)
                try simp only [Act.put, zA, zB, zC, zD, zE, zF]
                refine wpAnyH_take (i := 4) (v := ?v3_4) rfl (by kernel_rfl) (by kernel_rfl) (by kernel_rfl) (fun _ _ _ h => h) (Or.inl ⟨by rfl, ?y3_4⟩) (by assumption) ?r3_4
                case' y3_4 => (intro w hSw; (try dsimp only at hSw); (try have hlS := HLK.out _ hSw); obtain ⟨hcS, hfS⟩ := bcell hSw; clear hSw; go_simp; try with_reducible rfl)
                try simp only [Act.put, zA, zB, zC, zD, zE, zF]
                refine wpAnyH_take (i := 5) (v := ?v3_5) rfl (by kernel_rfl) (by kernel_rfl) (by kernel_rfl) (fun _ _ _ h => h) (Or.inl ⟨by rfl, ?y3_5⟩) (by assumption) ?r3_5
                case' y3_5 => (intro w hSw; (try dsimp only at hSw); (try have hlS := HLK.out _ hSw); obtain ⟨hcS, hfS⟩ := bcell hSw; clear hSw; go_simp; try with_reducible rfl)
                try simp only [Act.put, zA, zB, zC, zD, zE, zF]
                refine wpAnyH_take (i := 6) (v := ?v3_6) rfl (by kernel_rfl) (by kernel_rfl) (by kernel_rfl) (fun _ _ _ h => h) (Or.inl ⟨by rfl, ?y3_6⟩) (by assumption) ?r3_6
                case' y3_6 => (intro w hSw; (try dsimp only at hSw); (try have hlS := HLK.out _ hSw); obtain ⟨hcS, hfS⟩ := bcell hSw; clear hSw; go_simp; try with_reducible rfl)
                try simp only [Act.put, zA, zB, zC, zD, zE, zF]
                refine wpAnyH_take (i := 7) (v := ?v3_7) rfl (by kernel_rfl) (by kernel_rfl) (by kernel_rfl) (fun _ _ _ h => h) (Or.inl ⟨by rfl, ?y3_7⟩) (by assumption) ?r3_7
                case' y3_7 => (intro w hSw; (try dsimp only at hSw); (try have hlS := HLK.out _ hSw); obtain ⟨hcS, hfS⟩ := bcell hSw; clear hSw; go_simp; try with_reducible rfl)
                try simp only [Act.put, zA, zB, zC, zD, zE, zF]
                refine wpAnyH_done (by kernel_rfl) ?_ _
                go_wp2_with fail
                go_ret3
                have hx1 : mosX m l ws = x := by unfold mosX; rw [HEE.out, if_pos rfl, HFD.out]; rfl
                have hn1 : mosN m l ws = b := by unfold mosN; rw [HEE.out, if_pos rfl, HBE.out]
                rw [hx1, hn1, HEE.out]
                refine ⟨_, rfl, Sl.more (GRow.below (enc := Value.bool) (z := false) HQ1.out (Below.to hB.out hHeld (Nat.le_refl _))) (Below.to hB.out hHeld (Nat.le_refl _)).size, Below.to (Below.to HB2.out hB.out (Nat.le_refl _)) hHeld (Nat.le_refl _)⟩
    · have hlw1 : ((ws.length : Int) != (l.length : Int)) = true := by simp; omega
      have hee := mos_arg HE.out (ws := ws) (.inl hlw)
      have HEE := hide hee
      clear hee hlw
      go_wp2_with fail
      go_ret3
      exact MosP.bad HEE.out (by omega) HB1.out
  · have hee := mos_frm (ws := ws) he
    obtain ⟨z, hz⟩ : ∃ z, frmE m l = z := ⟨_, rfl⟩
    rw [hz] at he hee
    have hz1 : (z != 0) = true := by simpa using he
    have HZ := hide hz
    have HEE := hide hee
    have HZ0 := hide he
    clear he hz hee
    go_wp2_with (go_at_call 151; refine HCK.out.mono ?_; rw [HZ.out]; rintro e w1 ⟨rfl, hB1⟩)
    go_ret3
    exact MosP.bad HEE.out HZ0.out (Below.to HB0.out hB1 (Nat.le_refl _))
end Go.Proofs.Ytmabfnddedffoaa
/- The greatest sum, with its errors: walk. -/
namespace Go.Proofs.Ytmabfnddedffoaa
open Go.RowKit
set_option linter.unusedVariables false
set_option linter.unusedSimpArgs false
set_option maxRecDepth 100000 in
set_option maxHeartbeats 4000000 in
theorem Most_model (m : Mo) (l : List (List Int)) (ws : List Int) (ov rv lv wv : Value) (w : World) (hs : SizedM m) (hl : Sized l) (h : MoAt w w.heap.size ov rv m) (hf : Forms w w.heap.size lv l) (hws : Ints w w.heap.size wv ws) (hwl : ws.length ≤ maxLen) (hm : m.err ≠ 0) :
    Calls Try.prog 138 #[.agg #[ov, rv], lv, wv] w (MosP (mosN m l ws) (mosX m l ws) (mosE m l ws) w) := by
  obtain ⟨A, cap, hov⟩ := Sl.form h.o
  obtain ⟨Ar, capr, hrv⟩ := h.r.form
  have H := hide h
  have HF := hide hf
  have HS := hide hs
  have HL := hide hl
  obtain ⟨Al, capl, hlv⟩ := hf.form
  obtain ⟨Aw, bw, offw, capw, rfl, hncw, hAw, hcw⟩ := hws
  have HAW := hide hAw
  have HCW := hide hcw
  subst hov hrv hlv
  unfold maxLen at hwl
  have hee := mos_frm (ws := ws) (l := l) (by rw [frm_err hm]; exact hm)
  rw [frm_err hm] at hee
  obtain ⟨z, hz⟩ : ∃ z, m.err = z := ⟨_, rfl⟩
  rw [hz] at hm hee
  have hz1 : (z != 0) = true := by simpa using hm
  have HM := hide hz
  have HEE := hide hee
  have HZ0 := hide hm
  clear h hf hs hl hAw hcw hm hz hee
  go_enter Try.func138, Try.ntmps138
  go_upto_region 1 with (fail)
  generalize hw0 : World.alloc _ _ = w0
  obtain ⟨hb0, hB0, hs0⟩ := alloc1 hw0
  clear hw0
  have c0 := cellOf hb0 0
  have c1 := cellOf hb0 1
  have HX0 : Hid (MoBox w0 w.heap.size (.slice A m.opts.length cap) (.slice Ar m.rules.length capr)) := hb0
  have HB0 := hide hB0
  have hck := CheckModel_any m (.slice A m.opts.length cap) (.slice Ar m.rules.length capr) w0 HS.out (H.out.up hB0)
  have HCK := hide hck
  clear hb0 hB0 hs0 hck
  go_wp2_with (go_at_call 52; refine HCK.out.mono ?_; rw [HM.out]; rintro e w1 ⟨rfl, hB1⟩; have hbx := box_to HX0.out hB1; have d0 := cellOf hbx 0; have d1 := cellOf hbx 1; have HB1 : Hid (Below w.heap.size w w1) := Below.to HB0.out hB1 (Nat.le_refl _); clear hbx hB1 c0 c1)
  go_ret3
  exact MosP.bad HEE.out HZ0.out HB1.out
set_option maxRecDepth 100000 in
set_option maxHeartbeats 4000000 in
theorem Most_many (m : Mo) (l : List (List Int)) (ws : List Int) (ov rv lv wv : Value) (w : World) (hs : SizedM m) (hl : Sized l) (h : MoAt w w.heap.size ov rv m) (hf : Forms w w.heap.size lv l) (hws : Ints w w.heap.size wv ws) (hwl : ws.length ≤ maxLen) (hm : m.err = 0) (h200 : 200 < l.length) :
    Calls Try.prog 138 #[.agg #[ov, rv], lv, wv] w (MosP (mosN m l ws) (mosX m l ws) (mosE m l ws) w) := by
  obtain ⟨A, cap, hov⟩ := Sl.form h.o
  obtain ⟨Ar, capr, hrv⟩ := h.r.form
  have H := hide h
  have HF := hide hf
  have HS := hide hs
  have HL := hide hl
  obtain ⟨Al, capl, hlv⟩ := hf.form
  obtain ⟨Aw, bw, offw, capw, rfl, hncw, hAw, hcw⟩ := hws
  have HAW := hide hAw
  have HCW := hide hcw
  subst hov hrv hlv
  unfold maxLen at hwl
  have hee := mos_frm (ws := ws) (l := l) (by rw [frm_many hm h200]; omega)
  rw [frm_many hm h200] at hee
  have hz1 : (200 : Int) < (l.length : Int) := by omega
  have HM := hide hm
  have HEE := hide hee
  clear h hf hs hl hAw hcw hm hee h200
  go_enter Try.func138, Try.ntmps138
  go_upto_region 1 with (fail)
  generalize hw0 : World.alloc _ _ = w0
  obtain ⟨hb0, hB0, hs0⟩ := alloc1 hw0
  clear hw0
  have c0 := cellOf hb0 0
  have c1 := cellOf hb0 1
  have HX0 : Hid (MoBox w0 w.heap.size (.slice A m.opts.length cap) (.slice Ar m.rules.length capr)) := hb0
  have HB0 := hide hB0
  have hck := CheckModel_any m (.slice A m.opts.length cap) (.slice Ar m.rules.length capr) w0 HS.out (H.out.up hB0)
  have HCK := hide hck
  clear hb0 hB0 hs0 hck
  go_wp2_with (go_at_call 52; refine HCK.out.mono ?_; rw [HM.out]; rintro e w1 ⟨rfl, hB1⟩; have hbx := box_to HX0.out hB1; have d0 := cellOf hbx 0; have d1 := cellOf hbx 1; have HB1 : Hid (Below w.heap.size w w1) := Below.to HB0.out hB1 (Nat.le_refl _); clear hbx hB1 c0 c1)
  go_ret3
  exact MosP.bad HEE.out (by omega) HB1.out
set_option maxRecDepth 100000 in
set_option maxHeartbeats 4000000 in
theorem Most_form (m : Mo) (l : List (List Int)) (ws : List Int) (ov rv lv wv : Value) (w : World) (hs : SizedM m) (hl : Sized l) (h : MoAt w w.heap.size ov rv m) (hf : Forms w w.heap.size lv l) (hws : Ints w w.heap.size wv ws) (hwl : ws.length ≤ maxLen) (hm : m.err = 0) (h200 : l.length ≤ 200) (he : m.errF l ≠ 0) :
    Calls Try.prog 138 #[.agg #[ov, rv], lv, wv] w (MosP (mosN m l ws) (mosX m l ws) (mosE m l ws) w) := by
  obtain ⟨A, cap, hov⟩ := Sl.form h.o
  obtain ⟨Ar, capr, hrv⟩ := h.r.form
  have H := hide h
  have HF := hide hf
  have HS := hide hs
  have HL := hide hl
  obtain ⟨Al, capl, hlv⟩ := hf.form
  obtain ⟨Aw, bw, offw, capw, rfl, hncw, hAw, hcw⟩ := hws
  have HAW := hide hAw
  have HCW := hide hcw
  subst hov hrv hlv
  unfold maxLen at hwl
  have hee := mos_frm (ws := ws) (l := l) (by rw [frm_rest hm h200]; exact he)
  rw [frm_rest hm h200] at hee
  have hz1 : ¬ (200 : Int) < (l.length : Int) := by omega
  obtain ⟨z, hz⟩ : ∃ z, m.errF l = z := ⟨_, rfl⟩
  have HE0 := hide he
  rw [hz] at he hee
  have hz2 : (z != 0) = true := by simpa using he
  have HM := hide hm
  have HZ := hide hz
  have HZ0 := hide he
  have HEE := hide hee
  clear h hf hs hl hAw hcw hm hee h200 he hz
  go_enter Try.func138, Try.ntmps138
  go_upto_region 1 with (fail)
  generalize hw0 : World.alloc _ _ = w0
  obtain ⟨hb0, hB0, hs0⟩ := alloc1 hw0
  clear hw0
  have c0 := cellOf hb0 0
  have c1 := cellOf hb0 1
  have HX0 : Hid (MoBox w0 w.heap.size (.slice A m.opts.length cap) (.slice Ar m.rules.length capr)) := hb0
  have HB0 := hide hB0
  have hck := CheckModel_any m (.slice A m.opts.length cap) (.slice Ar m.rules.length capr) w0 HS.out (H.out.up hB0)
  have HCK := hide hck
  clear hb0 hB0 hs0 hck
  go_wp2_with (first | (go_at_call 52; refine HCK.out.mono ?_; rw [HM.out]; rintro e w1 ⟨rfl, hB1⟩; have hbx := box_to HX0.out hB1; have d0 := cellOf hbx 0; have d1 := cellOf hbx 1; have HB1 : Hid (Below w.heap.size w w1) := Below.to HB0.out hB1 (Nat.le_refl _); clear hbx hB1 c0 c1) | (go_at_call 147; refine (begin_err m l _ _ _ _ HS.out HL.out (H.out.up HB1.out) (HF.out.up HB1.out) HE0.out).mono ?_; rw [HZ.out]; rintro e w2 ⟨rfl, hB2⟩; have HB2 : Hid (Below w.heap.size w w2) := Below.to HB1.out hB2 (Nat.le_refl _); clear hB2))
  go_ret3
  exact MosP.bad HEE.out HZ0.out HB2.out
set_option maxRecDepth 100000 in
set_option maxHeartbeats 4000000 in
theorem Most_arg (m : Mo) (l : List (List Int)) (ws : List Int) (ov rv lv wv : Value) (w : World) (hs : SizedM m) (hl : Sized l) (h : MoAt w w.heap.size ov rv m) (hf : Forms w w.heap.size lv l) (hws : Ints w w.heap.size wv ws) (hwl : ws.length ≤ maxLen) (he : m.errF l = 0) (hN : m.opts.length ≤ 12) (h200 : l.length ≤ 200) (hlw : ws.length ≠ l.length) :
    Calls Try.prog 138 #[.agg #[ov, rv], lv, wv] w (MosP (mosN m l ws) (mosX m l ws) (mosE m l ws) w) := by
  obtain ⟨A, cap, hov⟩ := Sl.form h.o
  obtain ⟨Ar, capr, hrv⟩ := h.r.form
  have H := hide h
  have HF := hide hf
  have HS := hide hs
  have HL := hide hl
  obtain ⟨Al, capl, hlv⟩ := hf.form
  obtain ⟨Aw, bw, offw, capw, rfl, hncw, hAw, hcw⟩ := hws
  have HAW := hide hAw
  have HCW := hide hcw
  subst hov hrv hlv
  unfold maxLen at hwl
  have hm := (Mo.okF he).1
  have hee := mos_arg (m := m) (ws := ws) (l := l) (by rw [frm_rest hm h200]; exact he) (.inl hlw)
  have hz1 : ¬ (200 : Int) < (l.length : Int) := by omega
  have hz2 : ((ws.length : Int) != (l.length : Int)) = true := by simp; omega
  have HE := hide he
  have HM := hide hm
  have HEE := hide hee
  clear h hf hs hl hAw hcw hm hee h200 he hlw
  go_enter Try.func138, Try.ntmps138
  go_upto_region 1 with (fail)
  generalize hw0 : World.alloc _ _ = w0
  obtain ⟨hb0, hB0, hs0⟩ := alloc1 hw0
  clear hw0
  have c0 := cellOf hb0 0
  have c1 := cellOf hb0 1
  have HX0 : Hid (MoBox w0 w.heap.size (.slice A m.opts.length cap) (.slice Ar m.rules.length capr)) := hb0
  have HB0 := hide hB0
  have hck := CheckModel_any m (.slice A m.opts.length cap) (.slice Ar m.rules.length capr) w0 HS.out (H.out.up hB0)
  have HCK := hide hck
  clear hb0 hB0 hs0 hck
  go_wp2_with (first | (go_at_call 52; refine HCK.out.mono ?_; rw [HM.out]; rintro e w1 ⟨rfl, hB1⟩; have hbx := box_to HX0.out hB1; have d0 := cellOf hbx 0; have d1 := cellOf hbx 1; have HB1 : Hid (Below w.heap.size w w1) := Below.to HB0.out hB1 (Nat.le_refl _); clear hbx hB1 c0 c1) | (go_at_call 147; refine (begin_ok m l _ _ _ _ HS.out HL.out (H.out.up HB1.out) (HF.out.up HB1.out) HE.out hN).mono ?_; rintro e w2 ⟨F, n, rfl, r1⟩; have R1 : Hid (BegR m w w2 F n) := r1.of HB1.out; clear r1 d0 d1))
  go_ret3
  exact MosP.bad HEE.out (by omega) R1.out.below
set_option maxRecDepth 100000 in
set_option maxHeartbeats 4000000 in
theorem Most_loop (m : Mo) (l : List (List Int)) (ws : List Int) (ov rv lv wv : Value) (w : World) (hs : SizedM m) (hl : Sized l) (h : MoAt w w.heap.size ov rv m) (hf : Forms w w.heap.size lv l) (hws : Ints w w.heap.size wv ws) (hwl : ws.length ≤ maxLen) (he : m.errF l = 0) (hN : m.opts.length ≤ 12) (h200 : l.length ≤ 200) (hlw : ws.length = l.length) (hno : wOk ws = true → allM m = []) :
    Calls Try.prog 138 #[.agg #[ov, rv], lv, wv] w (MosP (mosN m l ws) (mosX m l ws) (mosE m l ws) w) := by
  obtain ⟨A, cap, hov⟩ := Sl.form h.o
  obtain ⟨Ar, capr, hrv⟩ := h.r.form
  have H := hide h
  have HF := hide hf
  have HS := hide hs
  have HL := hide hl
  obtain ⟨Al, capl, hlv⟩ := hf.form
  obtain ⟨Aw, bw, offw, capw, rfl, hncw, hAw, hcw⟩ := hws
  have HAW := hide hAw
  have HCW := hide hcw
  subst hov hrv hlv
  unfold maxLen at hwl
  have hm := (Mo.okF he).1
  have hfr : frmE m l = 0 := by rw [frm_rest hm h200]; exact he
  have hz1 : ¬ (200 : Int) < (l.length : Int) := by omega
  have hz2 : ((ws.length : Int) != (l.length : Int)) = false := by rw [hlw]; simp
  have hz4 : (ws.length : Int) ≤ 200 := by omega
  have HE := hide he
  have HM := hide hm
  have HFR := hide hfr
  have HLW := hide hlw
  have HNO := hide hno
  clear h hf hs hl hAw hcw hm hfr h200 he hlw hno
  go_enter Try.func138, Try.ntmps138
  go_upto_region 1 with (fail)
  generalize hw0 : World.alloc _ _ = w0
  obtain ⟨hb0, hB0, hs0⟩ := alloc1 hw0
  clear hw0
  have c0 := cellOf hb0 0
  have c1 := cellOf hb0 1
  have HX0 : Hid (MoBox w0 w.heap.size (.slice A m.opts.length cap) (.slice Ar m.rules.length capr)) := hb0
  have HB0 := hide hB0
  have hck := CheckModel_any m (.slice A m.opts.length cap) (.slice Ar m.rules.length capr) w0 HS.out (H.out.up hB0)
  have HCK := hide hck
  clear hb0 hB0 hs0 hck
  go_wp2_with (first | (go_at_call 52; refine HCK.out.mono ?_; rw [HM.out]; rintro e w1 ⟨rfl, hB1⟩; have hbx := box_to HX0.out hB1; have d0 := cellOf hbx 0; have d1 := cellOf hbx 1; have HB1 : Hid (Below w.heap.size w w1) := Below.to HB0.out hB1 (Nat.le_refl _); clear hbx hB1 c0 c1) | (go_at_call 147; refine (begin_ok m l _ _ _ _ HS.out HL.out (H.out.up HB1.out) (HF.out.up HB1.out) HE.out hN).mono ?_; rintro e w2 ⟨F, n, rfl, r1⟩; have R1 : Hid (BegR m w w2 F n) := r1.of HB1.out; clear r1 d0 d1))
  go_loop [44] (fun i => ∃ k : Nat, k ≤ ws.length ∧ i = .int .i64 k ∧ Hid (∀ j, j < k → -1000000 ≤ ws.getD j 0 ∧ ws.getD j 0 ≤ 1000000)) (fun i => ws.length - (intOf i).toNat)
  case atStart => exact ⟨0, Nat.zero_le _, rfl, fun j hj => by omega⟩
  case round =>
    obtain ⟨k, hk, rfl, hall⟩ := hrel
    by_cases hkl : k < ws.length
    · obtain ⟨rfl, hbb⟩ : Aw = some ⟨bw, offw, none⟩ ∧ bw < w.heap.size := by
        rcases HAW.out with h | h
        · exact h
        · omega
      obtain ⟨x, hx⟩ : ∃ x, ws.getD k 0 = x := ⟨_, rfl⟩
      have c2 : w2.cell? ⟨bw, offw + k, none⟩ = some (.int .i64 x) := by
        have h1 := HCW.out k 0 hkl (by omega)
        rw [Nat.mul_one, Nat.add_zero, hx] at h1
        exact (R1.out.below.cell (p := ⟨bw, offw + k, none⟩) hbb).trans h1
      have j1 : (k : Int) < (ws.length : Int) := by omega
      have HX := hide hx
      clear hx
      by_cases h1 : x < -1000000
      · have hee := mos_arg HFR.out (l := l) (.inr (wOk_not hkl (by rw [HX.out]; omega)))
        have HEE := hide hee
        clear hee
        go_wp2_with fail
        go_ret3
        exact MosP.bad HEE.out (by omega) R1.out.below
      · by_cases h2 : 1000000 < x
        · have hee := mos_arg HFR.out (l := l) (.inr (wOk_not hkl (by rw [HX.out]; omega)))
          have HEE := hide hee
          clear hee
          go_wp2_with fail
          go_ret3
          exact MosP.bad HEE.out (by omega) R1.out.below
        · go_wp2_with fail
          go_round
          case rel => exact ⟨k + 1, by omega, by go_num, fun j hj => by
              rcases Nat.lt_or_ge j k with h | h
              · exact hall.out j h
              · rw [show j = k from by omega, HX.out]; omega⟩
          case measure => simp [intOf]; omega
    · have hwok := wOk_all (fun j hj => hall.out j (by omega))
      have hnone := HNO.out hwok
      have hee := mos_none HFR.out HLW.out hwok hnone
      have hn0 : n = 0 := by
        rcases Nat.eq_zero_or_pos n with h0 | h0
        · exact h0
        · exfalso
          refine sat_ne R1.out.here.wf R1.out.lt (l := []) (by omega) (Nat.zero_le _) ?_
          rw [satM_node (m := m) (p := fun _ => true) R1.out.N (fun v => by rw [R1.out.ev v, Bool.and_true]), satM_true]
          exact hnone
      have HEE := hide hee
      clear hwok hnone hee
      subst hn0
      go_wp2_with fail
      go_ret3
      exact MosP.bad HEE.out (by omega) R1.out.below
theorem Most_any (m : Mo) (l : List (List Int)) (ws : List Int) (ov rv lv wv : Value) (w : World) (hs : SizedM m) (hl : Sized l) (h : MoAt w w.heap.size ov rv m) (hf : Forms w w.heap.size lv l) (hws : Ints w w.heap.size wv ws) (hwl : ws.length ≤ maxLen) (hN : m.err = 0 → m.opts.length ≤ 12) :
    Calls Try.prog 138 #[.agg #[ov, rv], lv, wv] w (MosP (mosN m l ws) (mosX m l ws) (mosE m l ws) w) := by
  by_cases hm : m.err = 0
  · by_cases h200 : l.length ≤ 200
    · by_cases he : m.errF l = 0
      · by_cases hlw : ws.length = l.length
        · by_cases hno : wOk ws = true → allM m = []
          · exact Most_loop m l ws ov rv lv wv w hs hl h hf hws hwl he (hN hm) h200 hlw hno
          · have hw : wOk ws = true := by
              cases hw : wOk ws with
              | true => rfl
              | false => exact absurd (fun h => by simp [hw] at h) hno
            have ha : allM m ≠ [] := fun h => hno fun _ => h
            have hee := mos_ok (by rw [frm_rest hm h200]; exact he) hlw hw ha
            refine (Most_ok m l ws ov rv lv wv w hs hl h hf hws he (hN hm) h200 hlw (wOk_iff.1 hw) (by rw [satM_true]; exact ha)).mono ?_
            rintro e w' ⟨v, x, h1, h2, h3, h4, h5⟩
            have hx1 : mosX m l ws = x := by unfold mosX; rw [hee, if_pos rfl, h2]; rfl
            have hn1 : mosN m l ws = bestF m l ws := by unfold mosN; rw [hee, if_pos rfl]
            rw [hx1, hn1, hee]
            exact ⟨v, h1, h4, h5⟩
        · exact Most_arg m l ws ov rv lv wv w hs hl h hf hws hwl he (hN hm) h200 hlw
      · exact Most_form m l ws ov rv lv wv w hs hl h hf hws hwl hm h200 he
    · exact Most_many m l ws ov rv lv wv w hs hl h hf hws hwl hm (by omega)
  · exact Most_model m l ws ov rv lv wv w hs hl h hf hws hwl hm
end Go.Proofs.Ytmabfnddedffoaa
/- The order of variants. Plain laws. -/
namespace Go.Proofs.Ytmabfnddedffoaa
set_option linter.unusedVariables false
/-- Whether a variant comes before another one. -/
def befB : List Bool → List Bool → Bool
  | a :: x, b :: y => if a = b then befB x y else b
  | _, _ => false
end Go.Proofs.Ytmabfnddedffoaa
/- The first variant in which a node holds. Plain laws. -/
namespace Go.Proofs.Ytmabfnddedffoaa
set_option linter.unusedVariables false
structure HeadI (ks : List Kn) (N n : Nat) (l : List Bool) (m : Nat) : Prop where
  head : (sat ks N n []).head? = (sat ks N m l).head?
  ne : m ≠ 0
  lt : m < ks.length
  top : l.length ≤ topK ks m
theorem HeadI.start {ks : List Kn} {N n : Nat} (hn : n < ks.length) (h0 : n ≠ 0) : HeadI ks N n [] n := ⟨rfl, h0, hn, Nat.zero_le _⟩
theorem HeadI.next {ks : List Kn} {N n m : Nat} {l : List Bool} (hw : WF N ks) (h : HeadI ks N n l m) (hl : l.length < N) : HeadI ks N n (l ++ [decide (brK ks m l.length false = 0)]) (brK ks m l.length (decide (brK ks m l.length false = 0))) := by
  have hst := sat_step hw h.lt hl
  have hne := sat_ne hw h.lt h.ne h.top
  by_cases h0 : brK ks m l.length false = 0
  · have hd : decide (brK ks m l.length false = 0) = true := decide_eq_true h0
    rw [hd]
    rw [h0, sat_zero, List.nil_append] at hst
    refine ⟨h.head.trans (by rw [hst]), fun e => ?_, brK_lt hw h.lt hl, ?_⟩
    · rw [e, sat_zero] at hst
      exact hne hst
    · rw [List.length_append]; exact brK_top hw h.lt hl h.top
  · have hd : decide (brK ks m l.length false = 0) = false := decide_eq_false h0
    rw [hd]
    have hb := brK_lt hw (b := false) h.lt hl
    have htop : (l ++ [false]).length ≤ topK ks (brK ks m l.length false) := by rw [List.length_append]; exact brK_top hw h.lt hl h.top
    refine ⟨h.head.trans ?_, h0, hb, htop⟩
    rw [hst]
    have h5 := sat_ne hw hb h0 htop
    match sat ks N (brK ks m l.length false) (l ++ [false]), h5 with
    | [], h5 => exact absurd rfl h5
    | x :: r, _ => rfl
theorem HeadI.finish {ks : List Kn} {N n m : Nat} {l : List Bool} (hw : WF N ks) (h : HeadI ks N n l m) (hl : l.length = N) : (sat ks N n []).head? = some l := by
  have h1 : m = 1 := by
    rcases Nat.lt_or_ge m 2 with h2 | h2
    · have := h.ne; omega
    · have h3 := hw.opt m h2 h.lt
      have h4 := h.top
      omega
  rw [h.head, h1, sat_one, hl, Nat.sub_self]
  rfl
end Go.Proofs.Ytmabfnddedffoaa
/- The first variant in which a node holds: walk. -/
namespace Go.Proofs.Ytmabfnddedffoaa
open Go.RowKit
set_option linter.unusedVariables false
set_option linter.unusedSimpArgs false
def FirR (F : Fo) (n : Nat) (w : World) (e : Ending) (w' : World) : Prop := ∃ x : List Bool, e = .returned (.slice (some ⟨w.heap.size, 0, none⟩) F.N F.N) ∧ VarAt w' w.heap.size F.N x ∧ x.length = F.N ∧ (sat F.ks F.N n []).head? = some x ∧ Below w.heap.size w w'
end Go.Proofs.Ytmabfnddedffoaa
/- Whether formulas can be met; whether one implies another: walks. -/
namespace Go.Proofs.Ytmabfnddedffoaa
open Go.RowKit
set_option linter.unusedVariables false
set_option linter.unusedSimpArgs false
/-- A variant (or none), whether so, and an error. -/
def MeeP (x : List Bool) (is : Bool) (er : Int) (w : World) (e : Ending) (w' : World) : Prop := ∃ v, e = .returned (.tuple #[v, .bool is, .int .i64 er]) ∧ Bols w' w'.heap.size v x ∧ Below w.heap.size w w'
/-- What Meets returns. -/
def meeL (m : Mo) (l : List (List Int)) : List (List Bool) := satM m fun v => allF v l
def meeX (m : Mo) (l : List (List Int)) : List Bool := if frmE m l = 0 then (meeL m l).head?.getD [] else []
def meeB (m : Mo) (l : List (List Int)) : Bool := if frmE m l = 0 then !(meeL m l).isEmpty else false
theorem MeeP.bad {x : List Bool} {b : Bool} {er : Int} {w w' : World} (h : x = [] ∧ b = false) (hb : Below w.heap.size w w') : MeeP x b er w (.returned (.tuple #[.slice none 0 0, .bool false, .int .i64 er])) w' := by
  obtain ⟨rfl, rfl⟩ := h
  exact ⟨_, rfl, Sl.nil _ _ _ _, hb⟩
/-- What Implies returns. -/
def impL (m : Mo) (f g : List Int) : List (List Bool) := satM m fun v => evF1 v f && !evF1 v g
def impX (m : Mo) (f g : List Int) : List Bool := if m.errF [f, g] = 0 then (impL m f g).head?.getD [] else []
def impB (m : Mo) (f g : List Int) : Bool := if m.errF [f, g] = 0 then (impL m f g).isEmpty else false
theorem FirR.bols {F : Fo} {b : Nat} {w' : World} {x : List Bool} (hV : VarAt w' b F.N x) (hx : x.length = F.N) : Bols w' w'.heap.size (.slice (some ⟨b, 0, none⟩) F.N F.N) x := by
  have h1 := VarAt.bols (w := w') (b := b) (l := x) (by rw [hx]; exact hV)
  rw [hx] at h1
  exact h1
/-- first, in one: the variant that it gives. -/
def FstP (F : Fo) (n : Nat) (w : World) (e : Ending) (w' : World) : Prop := ∃ v, e = .returned v ∧ Bols w' w'.heap.size v ((sat F.ks F.N n []).head?.getD []) ∧ Below w.heap.size w w'
end Go.Proofs.Ytmabfnddedffoaa
/- The rules because of which no variant meets a formula. Plain laws. -/
namespace Go.Proofs.Ytmabfnddedffoaa
set_option linter.unusedVariables false
/-- Some rules of a model, by number. -/
def rulesAt (m : Mo) (K : List Nat) : List (List Int) := K.map fun k => m.rules.getD k []
/-- The variants in which a formula, some rules, and those from one on hold. -/
def corS (m : Mo) (f : List Int) (K : List Nat) (j : Nat) : List (List Bool) := (exts m.opts.length []).filter fun x => evF1 (vf x) f && (allF (vf x) (rulesAt m K) && allF (vf x) (m.rules.drop j))
/-- Those of the first i rules that are left. -/
def kept (m : Mo) (f : List Int) : Nat → List Nat
  | 0 => []
  | i + 1 => if (corS m f (kept m f i) (i + 1)).isEmpty then kept m f i else kept m f i ++ [i]
/-- A model with some of the rules. -/
def fewM (m : Mo) (K : List Nat) : Mo := ⟨m.opts, rulesAt m K⟩
/-- What Core returns. -/
def corE (m : Mo) (f : List Int) : Int := if m.errF [f] ≠ 0 then m.errF [f] else if whereF (allM m) f ≠ [] then 1 else 0
def corL (m : Mo) (f : List Int) : List Nat := if corE m f = 0 then kept m f m.rules.length else []
end Go.Proofs.Ytmabfnddedffoaa
/- The rules because of which no variant meets a formula: walk. -/
namespace Go.Proofs.Ytmabfnddedffoaa
open Go.RowKit
set_option linter.unusedVariables false
set_option linter.unusedSimpArgs false
/-- A list of rules and an error. -/
def CorP (l : List Nat) (er : Int) (w : World) (e : Ending) (w' : World) : Prop := ∃ v, e = .returned (.tuple #[v, .int .i64 er]) ∧ Nods w' w'.heap.size v l ∧ Below w.heap.size w w'
theorem CorP.none (er : Int) {w w' : World} (h : Below w.heap.size w w') : CorP [] er w (.returned (.tuple #[.slice none 0 0, .int .i64 er])) w' := ⟨_, rfl, Sl.nil _ _ _ _, h⟩
/-- What a slice from k on gives. -/
def slcV (A : Option Addr) (n cap k : Nat) : Value := sliced A k n cap 1
theorem Forms.drop {w : World} {B n cap : Nat} {A : Option Addr} {l : List (List Int)} {k : Nat} (h : Forms w B (.slice A n cap) l) (hk : k ≤ l.length) : Forms w B (slcV A n cap k) (l.drop k) := by
  obtain ⟨fv, ⟨A1, b1, off1, cap1, hv, hn, hA, hc⟩, h2⟩ := h
  injection hv with e1 e2 e3
  subst e1 e2 e3
  unfold slcV sliced
  split
  · rename_i hck
    have h0 : l.drop k = [] := List.drop_eq_nil_of_le (by omega)
    rw [h0, show l.length - k = 0 by omega, show cap - k = 0 by omega]
    exact ⟨fun _ => undef, ⟨A, b1, off1, 0, rfl, Nat.le_refl _, .inr rfl, fun i j hi hj => by simp at hi⟩, fun i hi => by simp at hi⟩
  · refine ⟨fun i => fv (k + i), ⟨A.map (·.add (k * 1)), b1, off1 + k, cap - k, by rw [List.length_drop], by rw [List.length_drop]; omega, ?_, fun i j hi hj => ?_⟩, fun i hi => ?_⟩
    · rcases hA with ⟨hA, hb⟩ | hA
      · subst hA
        refine .inl ⟨?_, hb⟩
        simp only [Option.map_some, Nat.mul_one]
        congr 1
        unfold Addr.add
        split
        · rename_i h0; rw [h0]; rfl
        · rfl
      · exact .inr (by rw [List.length_drop]; omega)
    · rw [List.length_drop] at hi
      have := hc (k + i) j (by omega) hj
      rw [show off1 + k + (i * 1 + j) = off1 + ((k + i) * 1 + j) by omega]
      exact this
    · rw [List.length_drop] at hi
      have := h2 (k + i) (by omega)
      rw [show (l.drop k).getD i [] = l.getD (k + i) [] by simp [List.getD_eq_getElem?_getD]]
      exact this
/-- What holds of the forest between two rules of Core. -/
structure CorI (m : Mo) (f : List Int) (w1 : World) (F : Fo) (a k : Nat) (w2 : World) (F1 : Fo) : Prop where
  op : OpR k w1 F w2 F1
  lt : a < F1.ks.length
  ev : ∀ v, ev F1.ks v a = evF1 v f
theorem CorI.step {m : Mo} {f : List Int} {w1 : World} {F : Fo} {a k l : Nat} {w2 w3 : World} {F1 F2 : Fo} (h : CorI m f w1 F a k w2 F1) (r : OpR l w2 F1 w3 F2) : CorI m f w1 F a (k + l) w3 F2 :=
  ⟨h.op.trans r, Nat.lt_of_lt_of_le h.lt r.st.le, fun v => by rw [r.st.ev h.op.st.here.wf h.lt, h.ev v]⟩
end Go.Proofs.Ytmabfnddedffoaa
/- Core as the elder program has it: walk. -/
namespace Go.Proofs.Ytmabfnddedffoaa
open Go.RowKit
set_option linter.unusedVariables false
set_option linter.unusedSimpArgs false
/-- A list of numbers of the call's own, above block B. -/
def NStk (B : Nat) (w : World) (sv : Value) (S : List Nat) : Prop := w.ownsRow B 3 1 sv S.length (S.map fun (n : Nat) => Value.int .i64 n)
theorem NStk.nil (w : World) (B : Nat) : NStk B w (.slice none 0 0) [] := World.ownsRow_nil w B 3 1
theorem NStk.below {B : Nat} {w w' : World} {sv : Value} {S : List Nat} (h : NStk B w sv S) (hb : Below w.heap.size w w') : NStk B w' sv S := owns_below h hb
theorem NStk.same {B : Nat} {w w' : World} {sv : Value} {S : List Nat} (h : NStk B w sv S) (hs : ∀ b, sv.ownBlock = some b → w'.heap[b]? = w.heap[b]?) : NStk B w' sv S := ownsRow_same h hs
theorem NStk.shape {B : Nat} {w : World} {sv : Value} {S : List Nat} (h : NStk B w sv S) : ∃ A cap, sv = .slice A S.length cap ∧ S.length ≤ cap ∧ cap ≤ maxLen := by
  rcases h.2 with ⟨h1, h2⟩ | ⟨g, cap, cur, h1, _, _, h2, h3, _⟩
  · exact ⟨none, 0, by rw [h1, h2], by omega, by unfold maxLen; omega⟩
  · exact ⟨_, cap, h1, h2, h3⟩
theorem NStk.cells {B : Nat} {w : World} {A : Option Addr} {n cap : Nat} {S : List Nat} (h : NStk B w (.slice A n cap) S) (hn : 0 < S.length) : ∃ g, A = some ⟨g, 0, none⟩ ∧ g < w.heap.size ∧ B ≤ g ∧ ∀ i, i < S.length → w.cell? ⟨g, i, none⟩ = some (.int .i64 (S.getD i 0 : Nat)) := by
  obtain ⟨g, cap', hv, hgb, hl⟩ := World.ownsRow.form h hn
  injection hv with h1 h2 h3
  subst h1
  refine ⟨g, rfl, hl, hgb, fun i hi => ?_⟩
  have := World.ownsRow.cells (g := g) h rfl i (.int .i64 (S.getD i 0 : Nat)) (by simp [hi])
  have he : (⟨g, 0, none⟩ : Addr).add i = ⟨g, i, none⟩ := by
    unfold Addr.add
    split
    · rename_i h0; rw [h0]
    · rw [Nat.zero_add]
  rwa [he] at this
theorem NStk.push {B : Nat} {w1 : World} {S : List Nat} {v1 : Value} {m : Nat} (hown : w1.ownsRow B 3 1 v1 (S.length + 1) ((S.map fun (n : Nat) => Value.int .i64 n) ++ [.int .i64 (m : Nat)])) : NStk B w1 v1 (S ++ [m]) := by
  unfold NStk
  rw [List.length_append, List.map_append]
  exact hown
theorem NStk.base {B B' : Nat} {w : World} {sv : Value} {S : List Nat} (h : NStk B w sv S) (hB : B' ≤ B) : NStk B' w sv S := owns_base h hB
/-- Numbers but one. -/
def butN (i : Nat) (S : List Nat) : List Nat := S.filter fun k => !(k == i)
/-- Formulas of an elder world w, in a slice of the call's own. -/
structure OFs (w : World) (e B : Nat) (wr : World) (sv : Value) (L : List (List Int)) (vs : List Value) : Prop where
  len : vs.length = L.length
  own : wr.ownsRow B e 1 sv L.length vs
  row : ∀ i, i < L.length → Ints w w.heap.size (vs.getD i undef) (L.getD i [])
theorem OFs.nil (w : World) (e B : Nat) (wr : World) : OFs w e B wr (.slice none 0 0) [] [] := ⟨rfl, World.ownsRow_nil wr B e 1, fun i hi => by simp at hi⟩
theorem OFs.same {w : World} {e B : Nat} {wr wr' : World} {sv : Value} {L : List (List Int)} {vs : List Value} (h : OFs w e B wr sv L vs) (hs : ∀ b, sv.ownBlock = some b → wr'.heap[b]? = wr.heap[b]?) : OFs w e B wr' sv L vs := ⟨h.len, ownsRow_same h.own hs, h.row⟩
theorem OFs.push {w : World} {e B : Nat} {wr wr' : World} {sv v1 : Value} {L : List (List Int)} {vs : List Value} {l : List Int} {x : Value} (h : OFs w e B wr sv L vs) (hx : Ints w w.heap.size x l) (hown : wr'.ownsRow B e 1 v1 (L.length + 1) (vs ++ [x])) : OFs w e B wr' v1 (L ++ [l]) (vs ++ [x]) := by
  have hl := h.len
  refine ⟨by simp [hl], by rw [List.length_append]; exact hown, fun i hi => ?_⟩
  rw [getD_push, getD_push, hl]
  by_cases h1 : i < L.length
  · rw [if_pos h1, if_pos h1]
    exact h.row i h1
  · have : i = L.length := by simp at hi; omega
    rw [if_neg h1, if_pos this, if_neg h1, if_pos this]
    exact hx
theorem OFs.forms {w : World} {e B : Nat} {wr : World} {sv : Value} {L : List (List Int)} {vs : List Value} (h : OFs w e B wr sv L vs) (hb : Below w.heap.size w wr) : Forms wr wr.heap.size sv L := by
  refine ⟨fun i => vs.getD i undef, Sl.of_owns h.own fun i j hi hj => ?_, fun i hi => ((h.row i hi).below hb).more hb.size⟩
  obtain rfl : j = 0 := by omega
  have := h.len
  have hi2 : i < vs.length := by omega
  rw [Nat.mul_one, Nat.add_zero]
  simp [hi2]
theorem OFs.shape {w : World} {e B : Nat} {wr : World} {sv : Value} {L : List (List Int)} {vs : List Value} (h : OFs w e B wr sv L vs) : ∃ A cap, sv = .slice A L.length cap ∧ L.length ≤ cap ∧ cap ≤ maxLen := by
  rcases h.own.2 with ⟨h1, h2⟩ | ⟨g, cap, cur, h1, _, _, h2, h3, _⟩
  · exact ⟨none, 0, by rw [h1, h2], by omega, by unfold maxLen; omega⟩
  · exact ⟨_, cap, h1, h2, h3⟩
/-- The blocks that change when a rule is appended in a box. -/
def fewS (fb : Nat) (rv : Value) (k : Nat) : Prop := k = fb ∨ rv.ownBlock = some k
end Go.Proofs.Ytmabfnddedffoaa
/- The greatest fill of a run: walk. -/
namespace Go.Proofs.Ytmabfnddedffoaa
open Go.RowKit
set_option linter.unusedVariables false
set_option linter.unusedSimpArgs false
/-- The formulas and the sizes of some wires. -/
def fmsL (l : Lo) (T : List Nat) : List (List Int) := T.map fun i => (l.ws.getD i Wi.o).form
def szsL (l : Lo) (T : List Nat) : List Int := T.map fun i => (l.ws.getD i Wi.o).size
theorem ownsKeep {w w' : World} {b e sz n b2 e2 sz2 n2 : Nat} {v v2 : Value} {xs xs2 : List Value} {o : Obj} (h : w.ownsRow b e sz v n xs) (h2 : w.ownsRow b2 e2 sz2 v2 n2 xs2) (hne : e ≠ e2) (hg : (w.alloc o).grownBy w' v2.ownBlock) : w'.ownsRow b e sz v n xs := by
  refine (h.alloc o).kept hg ?_
  cases hv : v2.ownBlock with
  | none =>
    cases hv1 : v.ownBlock with
    | none => exact .inl rfl
    | some g => exact .inr (by simp)
  | some g =>
    right
    obtain ⟨_, ⟨h3, _⟩ | ⟨g', cap, cur, h3, _, h4, _⟩⟩ := h2
    · rw [h3] at hv; cases hv
    · rw [h3] at hv
      injection hv with hv
      simp only at hv
      subst hv
      exact ownsNot h h4 hne
/-- What worst has gathered. -/
structure WorS (w0 wr : World) (B lb : Nat) (A0 A1 A2 A3 A4 A5 : Option Addr) (q0 q1 q2 q3 q4 q5 : Nat) (l : Lo) (fv sv : Value) (Fs : List (List Int)) (Ss : List Int) (vs : List Value) : Prop where
  below : Below w0.heap.size w0 wr
  box : LoBox wr lb A0 A1 A2 A3 A4 A5 q0 q1 q2 q3 q4 q5 l
  f : OFs w0 66 B wr fv Fs vs
  s : wr.ownsRow B 3 1 sv Ss.length (Ss.map fun (n : Int) => Value.int .i64 n)
  lt : w0.heap.size ≤ B ∧ B ≤ wr.heap.size
section
variable {w0 wr w' : World} {B lb : Nat} {A0 A1 A2 A3 A4 A5 : Option Addr} {q0 q1 q2 q3 q4 q5 : Nat} {l : Lo} {fv sv v1 x : Value} {Fs : List (List Int)} {Ss : List Int} {vs : List Value} {m : Int} {o : Obj} {f : List Int}
theorem own_box {b e sz n t : Nat} {v : Value} {xs : List Value} {C : Array Value} {g : Nat} (h : wr.ownsRow b e sz v n xs) (hg : (wr.alloc o).grownBy w' v.ownBlock) (hb : wr.heap[g]? = some (.cells C t (0, 0))) (hne : e ≠ t) : w'.heap[g]? = some (.cells C t (0, 0)) :=
  (hg.block g (by have := box_lt hb; simp; omega) (fun q => ownsNot h hb hne q.symm)).trans (box_to hb ((Below.refl _ _).alloc (Nat.le_refl _) _))
theorem own_low {b e sz n : Nat} {v : Value} {xs : List Value} (h0 : Below w0.heap.size w0 wr) (h : wr.ownsRow b e sz v n xs) (hb : w0.heap.size ≤ b) (hg : (wr.alloc o).grownBy w' v.ownBlock) : Below w0.heap.size w0 w' :=
  Below.grown (Below.to h0 ((Below.refl wr.heap.size wr).alloc (Nat.le_refl _) o) (Nat.le_refl _)) hg (by have := h0.size; simp; omega) (fun k hk => Nat.le_trans hb (h.lt k hk).1)
theorem WorS.pushF (h : WorS w0 wr B lb A0 A1 A2 A3 A4 A5 q0 q1 q2 q3 q4 q5 l fv sv Fs Ss vs) (hx : Ints w0 w0.heap.size x f) (hown : w'.ownsRow B 66 1 v1 (Fs.length + 1) (vs ++ [x])) (hg : (wr.alloc o).grownBy w' fv.ownBlock) : WorS w0 w' B lb A0 A1 A2 A3 A4 A5 q0 q1 q2 q3 q4 q5 l v1 sv (Fs ++ [f]) Ss (vs ++ [x]) :=
  ⟨own_low h.below h.f.own h.lt.1 hg, own_box h.f.own hg h.box (by decide), h.f.push hx hown, ownsKeep h.s h.f.own (by decide) hg, h.lt.1, by have := hg.size; simp at this; have := h.lt.2; omega⟩
theorem WorS.pushS (h : WorS w0 wr B lb A0 A1 A2 A3 A4 A5 q0 q1 q2 q3 q4 q5 l fv sv Fs Ss vs) (hown : w'.ownsRow B 3 1 v1 (Ss.length + 1) ((Ss.map fun (n : Int) => Value.int .i64 n) ++ [.int .i64 m])) (hg : (wr.alloc o).grownBy w' sv.ownBlock) : WorS w0 w' B lb A0 A1 A2 A3 A4 A5 q0 q1 q2 q3 q4 q5 l fv v1 Fs (Ss ++ [m]) vs :=
  ⟨own_low h.below h.s h.lt.1 hg, own_box h.s hg h.box (by decide), ⟨h.f.len, ownsKeep h.f.own h.s (by decide) hg, h.f.row⟩, by rw [List.length_append, List.length_singleton, List.map_append]; exact hown, h.lt.1, by have := hg.size; simp at this; have := h.lt.2; omega⟩
end
theorem Ints.of_own {w : World} {base : Nat} {v : Value} {S : List Int} (h : w.ownsRow base 3 1 v S.length (S.map fun (n : Int) => Value.int .i64 n)) : Ints w w.heap.size v S :=
  Sl.of_owns h fun i j hi hj => by
    obtain rfl : j = 0 := by omega
    rw [Nat.mul_one, Nat.add_zero]
    simp [hi]
theorem fmsL_snoc (l : Lo) (T : List Nat) (k : Nat) : fmsL l (T ++ [k]) = fmsL l T ++ [(l.ws.getD k Wi.o).form] := by simp [fmsL]
theorem szsL_snoc (l : Lo) (T : List Nat) (k : Nat) : szsL l (T ++ [k]) = szsL l T ++ [(l.ws.getD k Wi.o).size] := by simp [szsL]
theorem take_snoc {T : List Nat} {k : Nat} (h : k < T.length) : T.take (k + 1) = T.take k ++ [T.getD k 0] := by
  rw [List.take_add_one, List.getElem?_eq_getElem h, List.getD_eq_getElem?_getD, List.getElem?_eq_getElem h]
  rfl
theorem thruL_mem {l : Lo} {run i : Nat} (h : i ∈ thruL l run) : i < l.ws.length := by
  unfold thruL at h
  have := (List.mem_filter.1 h).1
  simpa using this
theorem thruL_len (l : Lo) (run : Nat) : (thruL l run).length ≤ l.ws.length := filter_range_len _ _
theorem fms_sized {l : Lo} (hs : SizedL l) (hw : l.ws.length ≤ 60) {T : List Nat} (hT : ∀ i ∈ T, i < l.ws.length) (hl : T.length ≤ 60) : Sized (fmsL l T) := by
  refine ⟨by unfold fmsL maxLen; simp; omega, fun f hf => ?_⟩
  unfold fmsL at hf
  obtain ⟨i, hi, rfl⟩ := List.mem_map.1 hf
  exact (hs.wn _ (getD_mem3 (hT i hi))).2
/-- The greatest fill of a run, its variant, the error. -/
def worN (l : Lo) (run : Nat) : Int := mosN l.m (fmsL l (thruL l run)) (szsL l (thruL l run))
def worX (l : Lo) (run : Nat) : List Bool := mosX l.m (fmsL l (thruL l run)) (szsL l (thruL l run))
def worE (l : Lo) (run : Nat) : Int := mosE l.m (fmsL l (thruL l run)) (szsL l (thruL l run))
set_option maxRecDepth 100000 in
set_option maxHeartbeats 4000000 in
theorem worst_any (run : Nat) (A0 A1 A2 A3 A4 A5 : Option Addr) (q0 q1 q2 q3 q4 q5 : Nat) (l : Lo) (w : World) (hs : SizedL l) (h : LoA w w.heap.size A0 A1 A2 A3 A4 A5 q0 q1 q2 q3 q4 q5 l) (ok : LoOk l) (hr : run < l.us.length) (hN : l.m.opts.length ≤ 12) :
    Calls Try.prog 84 #[.agg #[.slice A0 l.m.opts.length q0, .slice A1 l.m.rules.length q1, .slice A2 l.ss.length q2, .slice A3 l.us.length q3, .slice A4 l.ps.length q4, .slice A5 l.ws.length q5], .int .i64 run] w (MosP (worN l run) (worX l run) (worE l run) w) := by
  obtain ⟨i0, hi0, iz0, iz1, iz2⟩ := info_parts infoInt
  obtain ⟨i1, hi1, jz0, jz1, jz2⟩ := info_parts infoForm
  have H := hide h
  have OK := hide ok
  have HS := hide hs
  have w60 := ok.w60
  obtain ⟨T, hT⟩ : ∃ T, thruL l run = T := ⟨_, rfl⟩
  have hTm : ∀ i ∈ T, i < l.ws.length := fun i hi => thruL_mem (by rw [hT]; exact hi)
  have hTl : T.length ≤ 60 := by rw [← hT]; exact Nat.le_trans (thruL_len l run) w60
  have HT := hide hT
  have HTM := hide hTm
  unfold worN worX worE
  rw [hT]
  clear h ok hs hT hTm
  go_enter Try.func84, Try.ntmps84
  go_upto_region 1 with (fail)
  generalize hw0 : World.alloc _ _ = w0
  obtain ⟨hb0, hB0, hs0⟩ := alloc1 hw0
  have HL0 : Hid (LoBox w0 w.heap.size A0 A1 A2 A3 A4 A5 q0 q1 q2 q3 q4 q5 l) := hb0
  have l0 := box_lt hb0
  have c0 := cellOf hb0 0; have c1 := cellOf hb0 1; have c2 := cellOf hb0 2; have c3 := cellOf hb0 3; have c4 := cellOf hb0 4; have c5 := cellOf hb0 5
  have hth := through_any run A0 A1 A2 A3 A4 A5 q0 q1 q2 q3 q4 q5 l w0 (H.out.up hB0) OK.out hr
  rw [HT.out] at hth
  have HTH := hide hth
  have HB0 := hide hB0
  clear hw0 hb0 hB0 hs0 hth
  go_wp2_with (go_at_call 110; refine HTH.out.mono ?_; rintro e w1 ⟨v1, rfl, hn1, hB1⟩; obtain ⟨At, qt, hv1⟩ := Sl.form hn1; subst hv1; have HN1 := hide hn1; have HL1 := hide (HL0.out.to hB1); have HB1 := hide (Below.to HB0.out hB1 (Nat.le_refl _)); clear hn1 hB1 c0 c1 c2 c3 c4 c5 l0)
  go_loopw [7, 8, 10, 15] (fun fo so _ i wr => ∃ (k : Nat) (A A' : Option Addr) (cap cap' : Nat) (Fs : List (List Int)) (Ss : List Int) (vs : List Value), i = .int .i64 k ∧ fo = .slice A Fs.length cap ∧ so = .slice A' Ss.length cap' ∧ k ≤ T.length ∧ Hid (fmsL l (T.take k) = Fs) ∧ Hid (szsL l (T.take k) = Ss) ∧ Hid (Below w1.heap.size w1 wr) ∧ Hid (WorS w wr w1.heap.size w.heap.size A0 A1 A2 A3 A4 A5 q0 q1 q2 q3 q4 q5 l (.slice A Fs.length cap) (.slice A' Ss.length cap') Fs Ss vs)) (fun _ _ _ i _ => T.length - (intOf i).toNat)
  case atStart => exact ⟨0, _, _, _, _, [], [], [], rfl, rfl, rfl, Nat.zero_le _, rfl, rfl, Below.refl _ _, ⟨HB1.out, HL1.out, OFs.nil _ _ _ _, World.ownsRow_nil _ _ _ _, HB1.out.size, Nat.le_refl _⟩⟩
  case round =>
    obtain ⟨k, A, A', cap, cap', Fs, Ss, vs, rfl, rfl, rfl, hk, HFs, HSs, HBr, R⟩ := hrel
    by_cases hkl : k < T.length
    · have hFl : Fs.length ≤ 60 := by rw [← HFs.out]; unfold fmsL; simp; omega
      have hSl : Ss.length ≤ 60 := by rw [← HSs.out]; unfold szsL; simp; omega
      obtain ⟨bt, ot, rfl, hbt, _, ct⟩ := (HN1.out.up HBr.out).at hkl
      have hqt := Nods.cap HN1.out
      obtain ⟨i, hi⟩ : ∃ i, T.getD k 0 = i := ⟨_, rfl⟩
      have hil : i < l.ws.length := HTM.out i (by rw [← hi]; exact getD_mem3 hkl)
      rw [hi] at ct
      have htk : T.take (k + 1) = T.take k ++ [i] := by rw [take_snoc hkl, hi]
      have hnf : fmsL l (T.take (k + 1)) = Fs ++ [(l.ws.getD i Wi.o).form] := by rw [htk, fmsL_snoc, HFs.out]
      have hns : szsL l (T.take (k + 1)) = Ss ++ [(l.ws.getD i Wi.o).size] := by rw [htk, szsL_snoc, HSs.out]
      obtain ⟨bw, offw, x, Af, qf, HX, rfl, hbw, hq5, HFO, _, _, _, _, _, e5, e6⟩ := H.out.wi hil
      rw [HX.out] at hnf hns
      have HNF := hide hnf
      have HNS := hide hns
      have g5 := (R.out.below.cell (p := ⟨bw, offw + i * 7 + 5, none⟩) hbw).trans e5
      have g6 := (R.out.below.cell (p := ⟨bw, offw + i * 7 + 6, none⟩) hbw).trans e6
      have lbw : bw < wr.heap.size := Nat.lt_of_lt_of_le hbw R.out.below.size
      have ik : (k : Int) < (T.length : Int) := by omega
      have iqt : (T.length : Int) ≤ (qt : Int) := by omega
      have ii : (i : Int) < (l.ws.length : Int) := by omega
      have iq5 : (l.ws.length : Int) ≤ (q5 : Int) := by omega
      have d5 := cellOf R.out.box 5
      have l1 := box_lt R.out.box
      clear hi htk hnf hns hqt
      go_upto_region 7 with (at_builtin; go_must (refine wpList_append_own_at _ rfl (.tmp 19) (.tmp 26) _ rfl (w1.heap.size) 66 i1 _ 1 24 Try.underlying23 hi1 jz0 jz1 jz2 rfl (by omega) _ _ _ rfl ((R.out.f.own).alloc _) ⟨wr.heap.size, 0, none⟩ 1 1 [.slice Af x.form.length qf] rfl rfl (World.news_of_block (heap_alloc_new wr _)) (by simp [Value.oneCell']) (by have h1 := hFl; unfold maxLen; omega) (by have h1 := hFl; omega) (by have h1 := R.out.lt.2; simp; omega) ?_); intro v1 w3 hown1 hg1 _ hat1; obtain ⟨A2', cap2, hv2⟩ := owns_form hown1; subst hv2; have R2 := hide (R.out.pushF HFO.out hown1 hg1); have HBr2 := hide (own_low HBr.out R.out.f.own (Nat.le_refl _) hg1); have z5 := (R2.out.below.cell (p := ⟨bw, offw + i * 7 + 5, none⟩) hbw).trans e5; have y5 := cellOf R2.out.box 5; have l2 := box_lt R2.out.box; have lbw2 : bw < w3.heap.size := Nat.lt_of_lt_of_le hbw R2.out.below.size; clear hown1 hg1 hat1 g5 g6 d5 l1 lbw ct)
      obtain ⟨wm, hwm⟩ : ∃ wm : World, wm = w3 := ⟨_, rfl⟩
      subst hwm
      go_wp2_with (at_builtin; go_must (refine wpList_append_own_at _ rfl (.tmp 28) (.tmp 35) _ rfl (w1.heap.size) 3 i0 _ 1 8 Try.underlying41 hi0 iz0 iz1 iz2 rfl (by omega) _ _ _ rfl ((R2.out.s).alloc _) ⟨wm.heap.size, 0, none⟩ 1 1 [.int .i64 x.size] rfl rfl (World.news_of_block (heap_alloc_new wm _)) (by simp [Value.oneCell']) (by have h1 := hSl; unfold maxLen; omega) (by have h1 := hSl; omega) (by have h1 := R2.out.lt.2; simp; omega) ?_); intro v1 w3 hown1 hg1 _ hat1; obtain ⟨A3', cap3, hv3⟩ := owns_form hown1; subst hv3; have R3 := hide (R2.out.pushS hown1 hg1); have HBr3 := hide (own_low HBr2.out R2.out.s (Nat.le_refl _) hg1); clear hown1 hg1 hat1)
      go_roundw
      case rel => exact ⟨k + 1, A2', A3', cap2, cap3, Fs ++ [x.form], Ss ++ [x.size], _, by go_num, by rw [List.length_append, List.length_singleton], by rw [List.length_append, List.length_singleton], by omega, HNF.out, HNS.out, HBr3.out, by rw [List.length_append, List.length_singleton, List.length_append, List.length_singleton]; exact R3.out⟩
      case measure => simp [intOf]; omega
    · have hke : k = T.length := by omega
      subst hke
      have hFs := HFs.out
      have hSs := HSs.out
      rw [List.take_length] at hFs hSs
      subst hFs
      subst hSs
      have hmo := Most_any l.m (fmsL l T) (szsL l T) _ _ _ _ wr HS.out.m (fms_sized HS.out w60 HTM.out hTl) (H.out.up R.out.below).m (R.out.f.forms R.out.below) (Ints.of_own R.out.s) (by unfold szsL maxLen; simp; omega) (fun _ => hN)
      obtain ⟨a, ha⟩ : ∃ z, mosN l.m (fmsL l T) (szsL l T) = z := ⟨_, rfl⟩
      obtain ⟨b, hb⟩ : ∃ z, mosX l.m (fmsL l T) (szsL l T) = z := ⟨_, rfl⟩
      obtain ⟨c, hc⟩ : ∃ z, mosE l.m (fmsL l T) (szsL l T) = z := ⟨_, rfl⟩
      rw [ha, hb, hc] at hmo
      have HMO := hide hmo
      have HA := hide ha
      have HB := hide hb
      have HC := hide hc
      have d0 := cellOf R.out.box 0; have d1 := cellOf R.out.box 1; have d2 := cellOf R.out.box 2; have d3 := cellOf R.out.box 3; have d4 := cellOf R.out.box 4; have d5 := cellOf R.out.box 5
      have l1 := box_lt R.out.box
      clear hmo ha hb hc
      go_wp2_with (go_at_call 138; refine HMO.out.mono ?_; rintro e w2 ⟨v2, rfl, hv2, hB2⟩; have HV2 := hide hv2; have HB2 := hide (Below.to R.out.below hB2 (Nat.le_refl _)); clear hv2 hB2 d0 d1 d2 d3 d4 d5 l1)
      go_ret3
      exact ⟨v2, by rw [HA.out, HC.out]; rfl, by rw [HB.out]; exact HV2.out, HB2.out⟩
end Go.Proofs.Ytmabfnddedffoaa
/- The greatest fill, asked from outside: walk. -/
namespace Go.Proofs.Ytmabfnddedffoaa
open Go.RowKit
set_option linter.unusedVariables false
set_option linter.unusedSimpArgs false
/-- The loom's error, or an argument's. -/
def havE (l : Lo) (b : Bool) : Int := if l.err ≠ 0 then l.err else mustE b 1
theorem havE_ok {l : Lo} {b : Bool} (h : havE l b = 0) : LoOk l ∧ b = true := by
  unfold havE at h
  by_cases h1 : l.err = 0
  · rw [if_neg (by simp [h1])] at h
    refine ⟨Lo.err_ok h1, ?_⟩
    cases b with
    | true => rfl
    | false => exact absurd h (by decide)
  · rw [if_pos h1] at h
    exact absurd h h1
set_option maxRecDepth 100000 in
set_option maxHeartbeats 1000000 in
theorem have_worst (p0 p1 : Value) (b : Bool) (A0 A1 A2 A3 A4 A5 : Option Addr) (q0 q1 q2 q3 q4 q5 : Nat) (l : Lo) (w : World) (hs : SizedL l) (h : LoA w w.heap.size A0 A1 A2 A3 A4 A5 q0 q1 q2 q3 q4 q5 l)
    (hf : l.err = 0 → ∀ W, Below w.heap.size w W → Calls Try.prog 83 #[p0, p1] W fun e w' => e = .returned (.bool b) ∧ Below W.heap.size W w') :
    Calls Try.prog 82 #[.agg #[.slice A0 l.m.opts.length q0, .slice A1 l.m.rules.length q1, .slice A2 l.ss.length q2, .slice A3 l.us.length q3, .slice A4 l.ps.length q4, .slice A5 l.ws.length q5], .func (.func 83) #[] #[p0, p1]] w fun e w' => e = .returned (.int .i64 (havE l b)) ∧ Below w.heap.size w w' := by
  have H := hide h
  have HF := hide hf
  obtain ⟨z, hz⟩ : ∃ z, l.err = z := ⟨_, rfl⟩
  have HZ := hide hz
  clear h hf
  by_cases hz0 : z = 0
  · subst hz0
    have hr : havE l b = mustE b 1 := by unfold havE; rw [hz]; rfl
    rw [hr]
    have hf := HF.out hz
    have HF2 := hide hf
    clear hf hz hr
    go_enter Try.func82, Try.ntmps82
    go_upto_region 1 with (fail)
    generalize hw0 : World.alloc _ _ = w0
    obtain ⟨hb0, hB0, hs0⟩ := alloc1 hw0
    have c0 := cellOf hb0 0; have c1 := cellOf hb0 1; have c2 := cellOf hb0 2; have c3 := cellOf hb0 3; have c4 := cellOf hb0 4; have c5 := cellOf hb0 5
    have hlb := box_lt hb0
    have hck := Check_any A0 A1 A2 A3 A4 A5 q0 q1 q2 q3 q4 q5 l w0 hs (H.out.up hB0)
    rw [HZ.out] at hck
    have HCK := hide hck
    have HB0 := hide hB0
    clear hw0 hb0 hB0 hs0 hck
    go_wp2_with (first | (go_at_call 17; refine HCK.out.mono ?_; rintro e w1 ⟨rfl, hB1⟩; have HB1 := hide (Below.to HB0.out hB1 (Nat.le_refl _)); clear hB1 c0 c1 c2 c3 c4 c5 hlb) | (go_at_call 83; refine (HF2.out _ HB1.out).mono ?_; rintro e w2 ⟨rfl, hB2⟩; have HB2 := hide (Below.to HB1.out hB2 (Nat.le_refl _)); clear hB2) | (go_at_call 57; refine (must_any _ _ _).mono ?_; rintro e w3 ⟨rfl, rfl⟩))
    go_ret
    exact ⟨rfl, HB2.out⟩
  · have hr : havE l b = z := by unfold havE; rw [hz, if_pos hz0]
    have hz1 : (z != 0) = true := by simpa using hz0
    rw [hr]
    clear hz hr hz0
    go_enter Try.func82, Try.ntmps82
    go_upto_region 1 with (fail)
    generalize hw0 : World.alloc _ _ = w0
    obtain ⟨hb0, hB0, hs0⟩ := alloc1 hw0
    have c0 := cellOf hb0 0; have c1 := cellOf hb0 1; have c2 := cellOf hb0 2; have c3 := cellOf hb0 3; have c4 := cellOf hb0 4; have c5 := cellOf hb0 5
    have hlb := box_lt hb0
    have hck := Check_any A0 A1 A2 A3 A4 A5 q0 q1 q2 q3 q4 q5 l w0 hs (H.out.up hB0)
    rw [HZ.out] at hck
    have HCK := hide hck
    have HB0 := hide hB0
    clear hw0 hb0 hB0 hs0 hck
    go_wp2_with (go_at_call 17; refine HCK.out.mono ?_; rintro e w1 ⟨rfl, hB1⟩; have HB1 := hide (Below.to HB0.out hB1 (Nat.le_refl _)); clear hB1 c0 c1 c2 c3 c4 c5 hlb)
    go_ret
    exact ⟨rfl, HB1.out⟩

set_option maxRecDepth 100000 in
theorem worst1_any (run : Int) (A0 A1 A2 A3 A4 A5 : Option Addr) (q0 q1 q2 q3 q4 q5 : Nat) (l : Lo) (rb lb : Nat) (w : World) (hm : l.us.length ≤ maxLen) (hr : w.heap[rb]? = some (.cells #[.int .i64 run] 3 (0, 0))) (h : LoBox w lb A0 A1 A2 A3 A4 A5 q0 q1 q2 q3 q4 q5 l) :
    Calls Try.prog 83 #[.pointer (some ⟨rb, 0, none⟩), .pointer (some ⟨lb, 0, none⟩)] w fun e w' => e = .returned (.bool (btw run 0 ((l.us.length : Int) - 1))) ∧ Below w.heap.size w w' := by
  have c3 := cellOf h 3
  have d0 := cellOf hr 0
  have hlb := box_lt h
  have hlr := box_lt hr
  unfold maxLen at hm
  clear h hr
  go_enter Try.func83, Try.ntmps83
  go_wp2_with (go_at_call 54; refine (within_any _ _ _ _).mono ?_; rintro e w1 ⟨rfl, rfl⟩)
  go_ret
  exact ⟨rfl, Below.refl _ _⟩
/-- What Worst answers. -/
def wrsE (l : Lo) (run : Int) : Int := havE l (btw run 0 ((l.us.length : Int) - 1))
set_option maxRecDepth 100000 in
set_option maxHeartbeats 2000000 in
theorem Worst_any (run : Int) (A0 A1 A2 A3 A4 A5 : Option Addr) (q0 q1 q2 q3 q4 q5 : Nat) (l : Lo) (w : World) (hs : SizedL l) (h : LoA w w.heap.size A0 A1 A2 A3 A4 A5 q0 q1 q2 q3 q4 q5 l) (hN : l.m.opts.length ≤ 12) :
    Calls Try.prog 20 #[.agg #[.slice A0 l.m.opts.length q0, .slice A1 l.m.rules.length q1, .slice A2 l.ss.length q2, .slice A3 l.us.length q3, .slice A4 l.ps.length q4, .slice A5 l.ws.length q5], .int .i64 run] w (MosP (if wrsE l run = 0 then worN l run.toNat else 0) (if wrsE l run = 0 then worX l run.toNat else []) (if wrsE l run = 0 then worE l run.toNat else wrsE l run) w) := by
  have H := hide h
  have HS := hide hs
  obtain ⟨z, hz⟩ : ∃ z, wrsE l run = z := ⟨_, rfl⟩
  have HZ := hide hz
  have hu := hs.u
  clear h hs
  by_cases hz0 : z = 0
  · subst hz0
    rw [hz]
    have hok := havE_ok hz
    obtain ⟨hok, hb⟩ := hok
    obtain ⟨b1, b2⟩ := btw_iff.1 hb
    obtain ⟨k, rfl⟩ := Int.eq_ofNat_of_zero_le b1
    have hk : k < l.us.length := by omega
    rw [if_pos rfl, if_pos rfl, if_pos rfl, Int.toNat_natCast]
    have OK := hide hok
    clear hz hok hb b1 b2
    go_enter Try.func20, Try.ntmps20
    go_upto_region 1 with (fail)
    generalize hw0 : World.alloc _ _ = w0
    obtain ⟨hb0, hb1, hB0, hs0⟩ := alloc2 hw0
    have c0 := cellOf hb0 0; have c1 := cellOf hb0 1; have c2 := cellOf hb0 2; have c3 := cellOf hb0 3; have c4 := cellOf hb0 4; have c5 := cellOf hb0 5
    have d0 := cellOf hb1 0
    have hlb := box_lt hb0
    have hlr := box_lt hb1
    have hhv := have_worst (.pointer (some ⟨w.heap.size + 1, 0, none⟩)) (.pointer (some ⟨w.heap.size, 0, none⟩)) (btw (k : Int) 0 ((l.us.length : Int) - 1)) A0 A1 A2 A3 A4 A5 q0 q1 q2 q3 q4 q5 l w0 HS.out (H.out.up hB0) (fun _ W hW => worst1_any k A0 A1 A2 A3 A4 A5 q0 q1 q2 q3 q4 q5 l _ _ W hu (box_to hb1 hW) (LoBox.to hb0 hW))
    rw [show havE l (btw (k : Int) 0 ((l.us.length : Int) - 1)) = 0 from HZ.out] at hhv
    have HHV := hide hhv
    have HB0 := hide hB0
    have HL0 : Hid (LoBox w0 w.heap.size A0 A1 A2 A3 A4 A5 q0 q1 q2 q3 q4 q5 l) := hb0
    have HR0 := hide hb1
    clear hw0 hb0 hb1 hB0 hs0 hhv
    go_wp2_with (first | (go_at_call 82; refine HHV.out.mono ?_; rintro e w1 ⟨rfl, hB1⟩; have e0 := cellOf (HL0.out.to hB1) 0; have e1 := cellOf (HL0.out.to hB1) 1; have e2 := cellOf (HL0.out.to hB1) 2; have e3 := cellOf (HL0.out.to hB1) 3; have e4 := cellOf (HL0.out.to hB1) 4; have e5 := cellOf (HL0.out.to hB1) 5; have f0 := cellOf (box_to HR0.out hB1) 0; have lb1 := box_lt (HL0.out.to hB1); have lr1 := box_lt (box_to HR0.out hB1); have HB1 := hide (Below.to HB0.out hB1 (Nat.le_refl _)); clear hB1 c0 c1 c2 c3 c4 c5 d0 hlb hlr) | (go_at_call 84; refine (worst_any k A0 A1 A2 A3 A4 A5 q0 q1 q2 q3 q4 q5 l _ HS.out (H.out.up HB1.out) OK.out hk hN).mono ?_; rintro e w2 ⟨v2, rfl, hv2, hB2⟩; have HV2 := hide hv2; have HB2 := hide (Below.to HB1.out hB2 (Nat.le_refl _)); clear hB2 hv2))
    go_ret3
    exact ⟨v2, rfl, HV2.out, HB2.out⟩
  · rw [if_neg (by rw [hz]; exact hz0), if_neg (by rw [hz]; exact hz0), if_neg (by rw [hz]; exact hz0), hz]
    have hz1 : (z != 0) = true := by simpa using hz0
    clear hz hz0
    go_enter Try.func20, Try.ntmps20
    go_upto_region 1 with (fail)
    generalize hw0 : World.alloc _ _ = w0
    obtain ⟨hb0, hb1, hB0, hs0⟩ := alloc2 hw0
    have c0 := cellOf hb0 0; have c1 := cellOf hb0 1; have c2 := cellOf hb0 2; have c3 := cellOf hb0 3; have c4 := cellOf hb0 4; have c5 := cellOf hb0 5
    have hlb := box_lt hb0
    have hhv := have_worst (.pointer (some ⟨w.heap.size + 1, 0, none⟩)) (.pointer (some ⟨w.heap.size, 0, none⟩)) (btw run 0 ((l.us.length : Int) - 1)) A0 A1 A2 A3 A4 A5 q0 q1 q2 q3 q4 q5 l w0 HS.out (H.out.up hB0) (fun _ W hW => worst1_any run A0 A1 A2 A3 A4 A5 q0 q1 q2 q3 q4 q5 l _ _ W hu (box_to hb1 hW) (LoBox.to hb0 hW))
    rw [show havE l (btw run 0 ((l.us.length : Int) - 1)) = z from HZ.out] at hhv
    have HHV := hide hhv
    have HB0 := hide hB0
    clear hw0 hb0 hb1 hB0 hs0 hhv
    go_wp2_with (go_at_call 82; refine HHV.out.mono ?_; rintro e w1 ⟨rfl, hB1⟩; have HB1 := hide (Below.to HB0.out hB1 (Nat.le_refl _)); clear hB1)
    go_ret3
    exact ⟨_, rfl, Sl.nil _ _ _ _, HB1.out⟩
end Go.Proofs.Ytmabfnddedffoaa
/- The example of the laws: walk. -/
namespace Go.Proofs.Ytmabfnddedffoaa
open Go.RowKit
set_option linter.unusedVariables false
set_option linter.unusedSimpArgs false
def exL : Lo := ⟨⟨[⟨#[116, 111, 119]⟩, ⟨#[104, 101, 97, 116]⟩], []⟩, [⟨0, 0, 0⟩, ⟨100, 0, 0⟩, ⟨100, 50, 0⟩, ⟨200, 0, 0⟩], [⟨0, 1, 110, 5⟩, ⟨1, 2, 50, 3⟩, ⟨1, 3, 100, 3⟩],
  [⟨⟨#[97]⟩, 0, 2⟩, ⟨⟨#[98]⟩, 2, 2⟩, ⟨⟨#[99]⟩, 3, 2⟩], [⟨⟨#[120]⟩, 0, 0, 1, 0, 2, [0]⟩, ⟨⟨#[121]⟩, 0, 1, 2, 0, 2, [1]⟩, ⟨⟨#[122]⟩, 0, 0, 2, 1, 1, [1]⟩]⟩
theorem exL_n : worN exL 0 = 5 := by decide +kernel
theorem exL_x : worX exL 0 = [true, true] := by decide +kernel
theorem exL_e : worE exL 0 = 0 := by decide +kernel
def allocs (w : World) : List Obj → World
  | [] => w
  | o :: r => allocs (w.alloc o) r
theorem allocs_size (w : World) : ∀ os : List Obj, (allocs w os).heap.size = w.heap.size + os.length
  | [] => rfl
  | o :: r => by
    show (allocs (w.alloc o) r).heap.size = _
    rw [allocs_size (w.alloc o) r]
    simp
    omega
theorem allocs_below (w : World) (B : Nat) (hB : B ≤ w.heap.size) : ∀ os : List Obj, Below B w (allocs w os)
  | [] => Below.refl _ _
  | o :: r => ((Below.refl B w).alloc hB o).trans (allocs_below (w.alloc o) B (by simp; omega) r)
theorem allocs_get (w : World) : ∀ (os : List Obj) (i : Nat), i < os.length → (allocs w os).heap[w.heap.size + i]? = os[i]?
  | o :: r, 0, _ => by
    show (allocs (w.alloc o) r).heap[w.heap.size]? = some o
    exact ((allocs_below (w.alloc o) (w.heap.size + 1) (by simp) r).block _ (by omega)).trans (heap_alloc_new w o)
  | o :: r, i + 1, h => by
    have := allocs_get (w.alloc o) r i (by simpa using h)
    show (allocs (w.alloc o) r).heap[w.heap.size + (i + 1)]? = r[i]?
    rw [← this]
    congr 1
    simp
    omega
theorem alloc10 {w w0 : World} {o0 o1 o2 o3 o4 o5 o6 o7 o8 o9 : Obj} (h : (((((((((w.alloc o0).alloc o1).alloc o2).alloc o3).alloc o4).alloc o5).alloc o6).alloc o7).alloc o8).alloc o9 = w0) : w0.heap[w.heap.size]? = some o0 ∧ w0.heap[w.heap.size + 1]? = some o1 ∧ w0.heap[w.heap.size + 2]? = some o2 ∧ w0.heap[w.heap.size + 3]? = some o3 ∧ w0.heap[w.heap.size + 4]? = some o4 ∧ w0.heap[w.heap.size + 5]? = some o5 ∧ w0.heap[w.heap.size + 6]? = some o6 ∧ w0.heap[w.heap.size + 7]? = some o7 ∧ w0.heap[w.heap.size + 8]? = some o8 ∧ w0.heap[w.heap.size + 9]? = some o9 ∧ Below w.heap.size w w0 ∧ w0.heap.size = w.heap.size + 10 := by
  have hw : allocs w [o0, o1, o2, o3, o4, o5, o6, o7, o8, o9] = w0 := h
  subst hw
  exact ⟨allocs_get w _ 0 (by simp), allocs_get w _ 1 (by simp), allocs_get w _ 2 (by simp), allocs_get w _ 3 (by simp), allocs_get w _ 4 (by simp), allocs_get w _ 5 (by simp), allocs_get w _ 6 (by simp), allocs_get w _ 7 (by simp), allocs_get w _ 8 (by simp), allocs_get w _ 9 (by simp), allocs_below w _ (Nat.le_refl _) _, allocs_size w _⟩
theorem sl_boxes {w : World} {b B sz n t : Nat} {C : Array Value} {f : Nat → Nat → Value} (hb : w.heap[b]? = some (.cells C t (0, 0))) (hB : b < B) (h : ∀ i, i < n → ∀ j, j < sz → C[i * sz + j]? = some (f i j)) : Sl w B sz (.slice (some ⟨b, 0, none⟩) n n) n f :=
  ⟨_, b, 0, n, rfl, Nat.le_refl _, .inl ⟨rfl, hB⟩, fun i j hi hj => by
    rw [Nat.zero_add, cellOf hb]
    exact h i hi j hj⟩
set_option maxRecDepth 100000 in
set_option maxHeartbeats 2000000 in
theorem example_any (w : World) :
    Calls Try.prog 50 #[] w fun e w' => ∃ (A0 A1 A2 A3 A4 A5 : Option Addr) (q0 q1 q2 q3 q4 q5 : Nat), e = .returned (.agg #[.slice A0 exL.m.opts.length q0, .slice A1 exL.m.rules.length q1, .slice A2 exL.ss.length q2, .slice A3 exL.us.length q3, .slice A4 exL.ps.length q4, .slice A5 exL.ws.length q5]) ∧ LoA w' w'.heap.size A0 A1 A2 A3 A4 A5 q0 q1 q2 q3 q4 q5 exL ∧ Below w.heap.size w w' := by
  go_enter Try.func50, Try.ntmps50
  go_wp2_with fail
  generalize hw0 : World.alloc _ _ = w0
  obtain ⟨h0, h1, h2, h3, h4, h5, h6, h7, h8, h9, hB, hs⟩ := alloc10 hw0
  clear hw0
  have e0 := cellOf h0 0
  have e1 := cellOf h0 1
  have e2 := cellOf h0 2
  have e3 := cellOf h0 3
  have e4 := cellOf h0 4
  have e5 := cellOf h0 5
  have hl : LoA w0 w0.heap.size (some ⟨w.heap.size + 1, 0, none⟩) none (some ⟨w.heap.size + 3, 0, none⟩) (some ⟨w.heap.size + 4, 0, none⟩) (some ⟨w.heap.size + 5, 0, none⟩) (some ⟨w.heap.size + 9, 0, none⟩) 2 0 4 3 3 3 exL := by
    refine ⟨⟨names_box (l := exL.m.opts) h1 (by omega), fun _ => undef, Sl.nil _ _ _ _, fun i hi => absurd (show i < 0 from hi) (by omega)⟩, sl_boxes h3 (by omega) (fun i hi j hj => by
      have hi' : i < 4 := hi
      rcases (by omega : i = 0 ∨ i = 1 ∨ i = 2 ∨ i = 3) with rfl | rfl | rfl | rfl <;> (rcases (by omega : j = 0 ∨ j = 1 ∨ j = 2) with rfl | rfl | rfl) <;> rfl), sl_boxes h4 (by omega) (fun i hi j hj => by
      have hi' : i < 3 := hi
      rcases (by omega : i = 0 ∨ i = 1 ∨ i = 2) with rfl | rfl | rfl <;> (rcases (by omega : j = 0 ∨ j = 1 ∨ j = 2 ∨ j = 3) with rfl | rfl | rfl | rfl) <;> rfl), sl_boxes h5 (by omega) (fun i hi j hj => by
      have hi' : i < 3 := hi
      rcases (by omega : i = 0 ∨ i = 1 ∨ i = 2) with rfl | rfl | rfl <;> (rcases (by omega : j = 0 ∨ j = 1 ∨ j = 2) with rfl | rfl | rfl) <;> rfl), fun i => .slice (some ⟨w.heap.size + 6 + i, 0, none⟩) 1 1, sl_boxes h9 (by omega) ?_, ?_⟩
    · intro i hi j hj
      have hi3 : i < 3 := hi
      match i, hi3, j, hj with
      | 0, _, 0, _ => rfl
      | 0, _, 1, _ => rfl
      | 0, _, 2, _ => rfl
      | 0, _, 3, _ => rfl
      | 0, _, 4, _ => rfl
      | 0, _, 5, _ => rfl
      | 0, _, 6, _ => rfl
      | 1, _, 0, _ => rfl
      | 1, _, 1, _ => rfl
      | 1, _, 2, _ => rfl
      | 1, _, 3, _ => rfl
      | 1, _, 4, _ => rfl
      | 1, _, 5, _ => rfl
      | 1, _, 6, _ => rfl
      | 2, _, 0, _ => rfl
      | 2, _, 1, _ => rfl
      | 2, _, 2, _ => rfl
      | 2, _, 3, _ => rfl
      | 2, _, 4, _ => rfl
      | 2, _, 5, _ => rfl
      | 2, _, 6, _ => rfl
    · intro i hi
      have hi3 : i < 3 := hi
      match i, hi3 with
      | 0, _ => exact ints_box (l := [0]) h6 (by omega)
      | 1, _ => exact ints_box (l := [1]) h7 (by omega)
      | 2, _ => exact ints_box (l := [1]) h8 (by omega)
  have HL := hide hl
  have HB := hide hB
  clear h0 h1 h2 h3 h4 h5 h6 h7 h8 h9 hs hl hB
  refine bodyPost_ret (v := .agg #[.slice (some ⟨w.heap.size + 1, 0, none⟩) 2 2, .slice none 0 0, .slice (some ⟨w.heap.size + 3, 0, none⟩) 4 4, .slice (some ⟨w.heap.size + 4, 0, none⟩) 3 3, .slice (some ⟨w.heap.size + 5, 0, none⟩) 3 3, .slice (some ⟨w.heap.size + 9, 0, none⟩) 3 3]) ?_ rfl ⟨_, _, _, _, _, _, _, _, _, _, _, _, rfl, HL.out, HB.out⟩
  rw [results_cell1 rfl]
  go_simp
end Go.Proofs.Ytmabfnddedffoaa
/- The look at the example: walk. -/
namespace Go.Proofs.Ytmabfnddedffoaa
open Go.RowKit
set_option linter.unusedVariables false
set_option linter.unusedSimpArgs false
theorem exL_wrs : wrsE exL 0 = 0 := by decide +kernel
theorem exL_sized : SizedL exL := by
  have hm : ∀ n : Nat, n ≤ 100 → n ≤ maxLen := fun n hn => by unfold maxLen; omega
  refine ⟨⟨hm _ (by decide), fun x hx => hm _ ?_, hm _ (by decide), fun f hf => ?_⟩, hm _ (by decide), hm _ (by decide), hm _ (by decide), hm _ (by decide), fun x hx => hm _ ?_, fun x hx => ⟨hm _ ?_, hm _ ?_⟩⟩
  · have : x = ⟨#[116, 111, 119]⟩ ∨ x = ⟨#[104, 101, 97, 116]⟩ := by simpa [exL] using hx
    rcases this with rfl | rfl <;> decide
  · simp [exL] at hf
  · simp [exL] at hx
    rcases hx with rfl | rfl | rfl <;> decide
  · simp [exL] at hx
    rcases hx with rfl | rfl | rfl <;> decide
  · simp [exL] at hx
    rcases hx with rfl | rfl | rfl <;> decide
set_option maxRecDepth 100000 in
set_option maxHeartbeats 2000000 in
theorem works_loom (w : World) :
    Calls Try.prog 15 #[] w fun e w' => e = .returned (.bool true) ∧ Below w.heap.size w w' := by
  go_enter Try.func15, Try.ntmps15
  go_upto_region 2 with (first
    | (go_at_call 20; refine (Worst_any 0 _ _ _ _ _ _ _ _ _ _ _ _ exL w1 exL_sized HL1.out (by decide)).mono ?_; rw [exL_wrs, if_pos rfl, if_pos rfl, if_pos rfl, show (0 : Int).toNat = 0 from rfl, exL_n, exL_x, exL_e]; rintro e w2 ⟨v2, rfl, hv2, hB2⟩; have HV2 := hide hv2; have HB2 := hide (Below.to HB1.out hB2 (Nat.le_refl _)); clear hB2 hv2)
    | (go_at_call 50; refine (example_any w).mono ?_; rintro e w1 ⟨A0, A1, A2, A3, A4, A5, q0, q1, q2, q3, q4, q5, rfl, hl1, hB1⟩; have HL1 := hide hl1; have HB1 := hide hB1; clear hl1 hB1))
  obtain ⟨Av, qv, hv⟩ := Sl.form HV2.out
  subst hv
  obtain ⟨_, hq, b, off, rfl, hb, h1⟩ := sl_at HV2.out (k := 0) (by decide)
  obtain ⟨_, _, b', off', he, _, h2⟩ := sl_at HV2.out (k := 1) (by decide)
  injection he with he
  injection he with he1 he2
  subst he1 he2
  have c0 := h1 0 (by decide)
  have c1 := h2 0 (by decide)
  simp only [Nat.zero_mul, Nat.one_mul, Nat.zero_add, Nat.add_zero] at c0 c1
  have HB2' := HB2.out
  have hq2 : 2 ≤ qv := hq
  clear h1 h2 hq
  go_wp2_with fail
  go_ret
  exact ⟨rfl, HB2'⟩
end Go.Proofs.Ytmabfnddedffoaa
/- Whether a loom is larger than a statement looks at: walk. -/
namespace Go.Proofs.Ytmabfnddedffoaa
open Go.RowKit
set_option linter.unusedVariables false
set_option linter.unusedSimpArgs false
theorem any_yes {α : Type} {z : α} {p : α → Bool} {l : List α} {k : Nat} (hk : k < l.length) (h : p (l.getD k z) = true) : l.any p = true :=
  List.any_eq_true.2 ⟨_, by rw [List.getD_eq_getElem?_getD, List.getElem?_eq_getElem hk]; exact List.getElem_mem hk, h⟩
theorem any_no {α : Type} {z : α} {p : α → Bool} {l : List α} (h : ∀ j, j < l.length → p (l.getD j z) = false) : l.any p = false := by
  rw [← Bool.not_eq_true, List.any_eq_true]
  rintro ⟨x, hx, hp⟩
  obtain ⟨i, hi, rfl⟩ := List.mem_iff_getElem.1 hx
  have := h i hi
  rw [List.getD_eq_getElem?_getD, List.getElem?_eq_getElem hi, Option.getD_some, hp] at this
  cases this
theorem getD_mem3f {α : Type} {l : List α} {z : α} {k : Nat} (h : k < l.length) : l.getD k z ∈ l := by
  rw [List.getD_eq_getElem?_getD, List.getElem?_eq_getElem h]
  exact List.getElem_mem h
def farN (l : Lo) : Bool := decide (10 < l.m.opts.length) || decide (10 < l.m.rules.length) || decide (12 < l.ss.length) || decide (12 < l.us.length) || decide (10 < l.ps.length) || decide (12 < l.ws.length)
def farW (x : Wi) : Bool := decide (100 < x.name.size) || decide (40 < x.form.length)
/-- Whether a loom is larger than a statement looks at. -/
def farB (l : Lo) : Bool := farN l || (l.m.rules.any fun f => decide (40 < f.length)) || (l.m.opts.any fun s => decide (100 < s.size)) || (l.ps.any fun p => decide (100 < p.name.size)) || l.ws.any farW
theorem far_small {l : Lo} (h : farB l = false) : l.m.opts.length ≤ 10 ∧ l.m.rules.length ≤ 10 ∧ l.ss.length ≤ 12 ∧ l.us.length ≤ 12 ∧ l.ps.length ≤ 10 ∧ l.ws.length ≤ 12 := by
  unfold farB farN at h
  simp only [Bool.or_eq_false_iff, decide_eq_false_iff_not] at h
  omega
theorem MoAt.rule_at {w : World} {B : Nat} {ov : Value} {A : Option Addr} {n q : Nat} {m : Mo} (h : MoAt w B ov (.slice A n q) m) {k : Nat} (hk : k < m.rules.length) : ∃ b off f Af qf, Hid (m.rules.getD k [] = f) ∧ A = some ⟨b, off, none⟩ ∧ b < B ∧ m.rules.length ≤ q ∧ Hid (Ints w B (.slice Af f.length qf) f) ∧ w.cell? ⟨b, off + k, none⟩ = some (.slice Af f.length qf) := by
  obtain ⟨fv, hs, hf⟩ := h.r
  obtain ⟨h1, h2, b, off, h3, h4, h5⟩ := sl_at hs hk
  have h6 := hf k hk
  obtain ⟨Af, qf, e⟩ := Sl.form h6
  rw [e] at h6
  have h7 := h5 0 (by omega)
  rw [e, Nat.mul_one, Nat.add_zero] at h7
  exact ⟨b, off, _, Af, qf, rfl, h3, h4, h1 ▸ h2, h6, h7⟩
theorem MoAt.opt_at {w : World} {B : Nat} {rv : Value} {A : Option Addr} {n q : Nat} {m : Mo} (h : MoAt w B (.slice A n q) rv m) {k : Nat} (hk : k < m.opts.length) : ∃ b off s, Hid (m.opts.getD k ByteArray.empty = s) ∧ A = some ⟨b, off, none⟩ ∧ b < B ∧ m.opts.length ≤ q ∧ w.cell? ⟨b, off + k, none⟩ = some (.string s) := by
  obtain ⟨h1, h2, b, off, h3, h4, h5⟩ := sl_at h.o hk
  have h7 := h5 0 (by omega)
  rw [Nat.mul_one, Nat.add_zero] at h7
  exact ⟨b, off, _, rfl, h3, h4, h1 ▸ h2, h7⟩
set_option maxRecDepth 100000 in
set_option maxHeartbeats 8000000 in
theorem Far_any (A0 A1 A2 A3 A4 A5 : Option Addr) (q0 q1 q2 q3 q4 q5 : Nat) (l : Lo) (w : World) (hs : SizedL l) (h : LoA w w.heap.size A0 A1 A2 A3 A4 A5 q0 q1 q2 q3 q4 q5 l) :
    Calls Try.prog 14 #[.agg #[.slice A0 l.m.opts.length q0, .slice A1 l.m.rules.length q1, .slice A2 l.ss.length q2, .slice A3 l.us.length q3, .slice A4 l.ps.length q4, .slice A5 l.ws.length q5]] w fun e w' => e = .returned (.bool (farB l)) ∧ Below w.heap.size w w' := by
  have H := hide h
  have HS := hide hs
  clear h hs
  go_enter Try.func14, Try.ntmps14
  go_upto_region 1 with (fail)
  generalize hw0 : World.alloc _ _ = w0
  obtain ⟨hb0, hB0, hs0⟩ := alloc1 hw0
  have HB0 := hide hB0
  have c0 := cellOf hb0 0; have c1 := cellOf hb0 1; have c2 := cellOf hb0 2; have c3 := cellOf hb0 3; have c4 := cellOf hb0 4; have c5 := cellOf hb0 5
  have hlb := box_lt hb0
  have H0 := hide (H.out.up hB0)
  clear hw0 hb0 hB0 hs0
  by_cases t0 : (10 : Int) < (l.m.opts.length : Int)
  · have hz2 : farB l = true := by
      have : farN l = true := by unfold farN; rw [decide_eq_true (by omega : 10 < l.m.opts.length)]; simp
      unfold farB
      rw [this]
      rfl
    have HZ2 := hide hz2
    clear hz2
    go_wp2_with fail
    go_ret
    exact ⟨ret_bool HZ2.out.symm, HB0.out⟩
  by_cases t1 : (10 : Int) < (l.m.rules.length : Int)
  · have hz2 : farB l = true := by
      have : farN l = true := by unfold farN; rw [decide_eq_true (by omega : 10 < l.m.rules.length)]; simp
      unfold farB
      rw [this]
      rfl
    have HZ2 := hide hz2
    clear hz2
    go_wp2_with fail
    go_ret
    exact ⟨ret_bool HZ2.out.symm, HB0.out⟩
  by_cases t2 : (12 : Int) < (l.ss.length : Int)
  · have hz2 : farB l = true := by
      have : farN l = true := by unfold farN; rw [decide_eq_true (by omega : 12 < l.ss.length)]; simp
      unfold farB
      rw [this]
      rfl
    have HZ2 := hide hz2
    clear hz2
    go_wp2_with fail
    go_ret
    exact ⟨ret_bool HZ2.out.symm, HB0.out⟩
  by_cases t3 : (12 : Int) < (l.us.length : Int)
  · have hz2 : farB l = true := by
      have : farN l = true := by unfold farN; rw [decide_eq_true (by omega : 12 < l.us.length)]; simp
      unfold farB
      rw [this]
      rfl
    have HZ2 := hide hz2
    clear hz2
    go_wp2_with fail
    go_ret
    exact ⟨ret_bool HZ2.out.symm, HB0.out⟩
  by_cases t4 : (10 : Int) < (l.ps.length : Int)
  · have hz2 : farB l = true := by
      have : farN l = true := by unfold farN; rw [decide_eq_true (by omega : 10 < l.ps.length)]; simp
      unfold farB
      rw [this]
      rfl
    have HZ2 := hide hz2
    clear hz2
    go_wp2_with fail
    go_ret
    exact ⟨ret_bool HZ2.out.symm, HB0.out⟩
  by_cases t5 : (12 : Int) < (l.ws.length : Int)
  · have hz2 : farB l = true := by
      have : farN l = true := by unfold farN; rw [decide_eq_true (by omega : 12 < l.ws.length)]; simp
      unfold farB
      rw [this]
      rfl
    have HZ2 := hide hz2
    clear hz2
    go_wp2_with fail
    go_ret
    exact ⟨ret_bool HZ2.out.symm, HB0.out⟩
  have hfn : farN l = false := by
    unfold farN
    rw [decide_eq_false (by omega : ¬ 10 < l.m.opts.length), decide_eq_false (by omega : ¬ 10 < l.m.rules.length), decide_eq_false (by omega : ¬ 12 < l.ss.length), decide_eq_false (by omega : ¬ 12 < l.us.length), decide_eq_false (by omega : ¬ 10 < l.ps.length), decide_eq_false (by omega : ¬ 12 < l.ws.length)]
    rfl
  have HFN := hide hfn
  clear hfn
  go_wp2_with fail
  go_loop [3] (fun i => ∃ k : Nat, k ≤ l.m.rules.length ∧ i = .int .i64 k ∧ Hid (∀ j, j < k → (fun f : List Int => decide (40 < f.length)) (l.m.rules.getD j []) = false)) (fun i => l.m.rules.length - (intOf i).toNat)
  case atStart => exact ⟨0, Nat.zero_le _, rfl, fun j hj => by omega⟩
  case round =>
    obtain ⟨k, hk, rfl, hall⟩ := hrel
    by_cases hlt : k < l.m.rules.length
    · obtain ⟨b, off, x, Af, qf, HX, rfl, hbb, hq, HFO, e0⟩ := H0.out.m.rule_at hlt
      have hsz := (HS.out.m.r).2 x (by rw [← HX.out]; exact getD_mem3f hlt)
      have ik : (k : Int) < (l.m.rules.length : Int) := by omega
      have iq : (l.m.rules.length : Int) ≤ (q1 : Int) := by omega
      unfold maxLen at hsz
      by_cases hc : (40 : Int) < (x.length : Int)
      · have hz2 : farB l = true := by
          have h1 : l.m.rules.any (fun f : List Int => decide (40 < f.length)) = true := any_yes (z := []) hlt (by rw [HX.out]; exact decide_eq_true (by omega))
          unfold farB
          rw [h1]
          simp
        have HZ2 := hide hz2
        clear hz2
        go_wp2_with fail
        go_ret
        exact ⟨ret_bool HZ2.out.symm, HB0.out⟩
      · have hno : (fun f : List Int => decide (40 < f.length)) (l.m.rules.getD k []) = false := by rw [HX.out]; exact decide_eq_false (by omega)
        have HNO := hide hno
        clear hno
        go_wp2_with fail
        go_round
        case rel => exact ⟨k + 1, by omega, by go_num, fun j hj => by
            rcases Nat.lt_or_ge j k with h | h
            · exact hall.out j h
            · rw [show j = k from by omega]; exact HNO.out⟩
        case measure => simp [intOf]; omega
    · have hke : k = l.m.rules.length := by omega
      subst hke
      have HA1 : Hid (l.m.rules.any (fun f : List Int => decide (40 < f.length)) = false) := any_no (z := []) hall.out
      clear hall
      go_wp2_with fail
      go_loop [4] (fun i => ∃ k : Nat, k ≤ l.m.opts.length ∧ i = .int .i64 k ∧ Hid (∀ j, j < k → (fun s : ByteArray => decide (100 < s.size)) (l.m.opts.getD j ByteArray.empty) = false)) (fun i => l.m.opts.length - (intOf i).toNat)
      case atStart => exact ⟨0, Nat.zero_le _, rfl, fun j hj => by omega⟩
      case round =>
        obtain ⟨k, hk, rfl, hall⟩ := hrel
        by_cases hlt : k < l.m.opts.length
        · obtain ⟨b, off, x, HX, rfl, hbb, hq, e0⟩ := H0.out.m.opt_at hlt
          have hsz := HS.out.m.s x (by rw [← HX.out]; exact getD_mem3f hlt)
          have ik : (k : Int) < (l.m.opts.length : Int) := by omega
          have iq : (l.m.opts.length : Int) ≤ (q0 : Int) := by omega
          unfold maxLen at hsz
          by_cases hc : (100 : Int) < (x.size : Int)
          · have hz2 : farB l = true := by
              have h1 : l.m.opts.any (fun s : ByteArray => decide (100 < s.size)) = true := any_yes (z := ByteArray.empty) hlt (by rw [HX.out]; exact decide_eq_true (by omega))
              unfold farB
              rw [h1]
              simp
            have HZ2 := hide hz2
            clear hz2
            go_wp2_with fail
            go_ret
            exact ⟨ret_bool HZ2.out.symm, HB0.out⟩
          · have hno : (fun s : ByteArray => decide (100 < s.size)) (l.m.opts.getD k ByteArray.empty) = false := by rw [HX.out]; exact decide_eq_false (by omega)
            have HNO := hide hno
            clear hno
            go_wp2_with fail
            go_round
            case rel => exact ⟨k + 1, by omega, by go_num, fun j hj => by
                rcases Nat.lt_or_ge j k with h | h
                · exact hall.out j h
                · rw [show j = k from by omega]; exact HNO.out⟩
            case measure => simp [intOf]; omega
        · have hke : k = l.m.opts.length := by omega
          subst hke
          have HA2 : Hid (l.m.opts.any (fun s : ByteArray => decide (100 < s.size)) = false) := any_no (z := ByteArray.empty) hall.out
          clear hall
          go_wp2_with fail
          go_loop [5] (fun i => ∃ k : Nat, k ≤ l.ps.length ∧ i = .int .i64 k ∧ Hid (∀ j, j < k → (fun p : Pl => decide (100 < p.name.size)) (l.ps.getD j Pl.o) = false)) (fun i => l.ps.length - (intOf i).toNat)
          case atStart => exact ⟨0, Nat.zero_le _, rfl, fun j hj => by omega⟩
          case round =>
            obtain ⟨k, hk, rfl, hall⟩ := hrel
            by_cases hlt : k < l.ps.length
            · obtain ⟨b, off, x, HX, rfl, hbb, hq, e0, e1, e2⟩ := H0.out.pl hlt
              have hsz := HS.out.pn x (by rw [← HX.out]; exact getD_mem3f hlt)
              have ik : (k : Int) < (l.ps.length : Int) := by omega
              have iq : (l.ps.length : Int) ≤ (q4 : Int) := by omega
              unfold maxLen at hsz
              by_cases hc : (100 : Int) < (x.name.size : Int)
              · have hz2 : farB l = true := by
                  have h1 : l.ps.any (fun p : Pl => decide (100 < p.name.size)) = true := any_yes (z := Pl.o) hlt (by rw [HX.out]; exact decide_eq_true (by omega))
                  unfold farB
                  rw [h1]
                  simp
                have HZ2 := hide hz2
                clear hz2
                go_wp2_with fail
                go_ret
                exact ⟨ret_bool HZ2.out.symm, HB0.out⟩
              · have hno : (fun p : Pl => decide (100 < p.name.size)) (l.ps.getD k Pl.o) = false := by rw [HX.out]; exact decide_eq_false (by omega)
                have HNO := hide hno
                clear hno
                go_wp2_with fail
                go_round
                case rel => exact ⟨k + 1, by omega, by go_num, fun j hj => by
                    rcases Nat.lt_or_ge j k with h | h
                    · exact hall.out j h
                    · rw [show j = k from by omega]; exact HNO.out⟩
                case measure => simp [intOf]; omega
            · have hke : k = l.ps.length := by omega
              subst hke
              have HA3 : Hid (l.ps.any (fun p : Pl => decide (100 < p.name.size)) = false) := any_no (z := Pl.o) hall.out
              clear hall
              go_wp2_with fail
              go_loop [6] (fun i => ∃ k : Nat, k ≤ l.ws.length ∧ i = .int .i64 k ∧ Hid (∀ j, j < k → farW (l.ws.getD j Wi.o) = false)) (fun i => l.ws.length - (intOf i).toNat)
              case atStart => exact ⟨0, Nat.zero_le _, rfl, fun j hj => by omega⟩
              case round =>
                obtain ⟨k, hk, rfl, hall⟩ := hrel
                by_cases hlt : k < l.ws.length
                · obtain ⟨b, off, x, Af, qf, HX, rfl, hbb, hq, HFO, e0, e1, e2, e3, e4, e5, e6⟩ := H0.out.wi hlt
                  obtain ⟨hsz, hsz2⟩ := HS.out.wn x (by rw [← HX.out]; exact getD_mem3f hlt)
                  have ik : (k : Int) < (l.ws.length : Int) := by omega
                  have iq : (l.ws.length : Int) ≤ (q5 : Int) := by omega
                  unfold maxLen at hsz hsz2
                  by_cases hc : (100 : Int) < (x.name.size : Int)
                  · have hz2 : farB l = true := by
                      have h1 : l.ws.any farW = true := any_yes (z := Wi.o) hlt (by rw [HX.out]; unfold farW; rw [decide_eq_true (by omega : 100 < x.name.size)]; rfl)
                      unfold farB
                      rw [h1]
                      simp
                    have HZ2 := hide hz2
                    clear hz2
                    go_wp2_with fail
                    go_ret
                    exact ⟨ret_bool HZ2.out.symm, HB0.out⟩
                  · by_cases hc2 : (40 : Int) < (x.form.length : Int)
                    · have hz2 : farB l = true := by
                        have h1 : l.ws.any farW = true := any_yes (z := Wi.o) hlt (by rw [HX.out]; unfold farW; rw [decide_eq_true (by omega : 40 < x.form.length)]; simp)
                        unfold farB
                        rw [h1]
                        simp
                      have HZ2 := hide hz2
                      clear hz2
                      go_wp2_with fail
                      go_ret
                      exact ⟨ret_bool HZ2.out.symm, HB0.out⟩
                    · have hno : farW (l.ws.getD k Wi.o) = false := by rw [HX.out]; unfold farW; rw [decide_eq_false (by omega : ¬ 100 < x.name.size), decide_eq_false (by omega : ¬ 40 < x.form.length)]; rfl
                      have HNO := hide hno
                      clear hno
                      go_wp2_with fail
                      go_round
                      case rel => exact ⟨k + 1, by omega, by go_num, fun j hj => by
                          rcases Nat.lt_or_ge j k with h | h
                          · exact hall.out j h
                          · rw [show j = k from by omega]; exact HNO.out⟩
                      case measure => simp [intOf]; omega
                · have hke : k = l.ws.length := by omega
                  subst hke
                  have HA4 : Hid (l.ws.any farW = false) := any_no (z := Wi.o) hall.out
                  clear hall

                  have hz2 : farB l = false := by
                    unfold farB
                    rw [HFN.out, HA1.out, HA2.out, HA3.out, HA4.out]
                    rfl
                  have HZ2 := hide hz2
                  clear hz2
                  go_wp2_with fail
                  go_ret
                  exact ⟨ret_bool HZ2.out.symm, HB0.out⟩
end Go.Proofs.Ytmabfnddedffoaa
/- Formulas copied: walk. -/
namespace Go.Proofs.Ytmabfnddedffoaa
open Go.RowKit
set_option linter.unusedVariables false
set_option linter.unusedSimpArgs false
theorem Ints.flat6 {w : World} {B n cap : Nat} {A : Option Addr} {l : List Int} (h : Ints w B (.slice A n cap) l) : Reads w B 1 A l.length (l.map (Value.int .i64)) := by
  have h1 := Sl.form h
  obtain ⟨A', cap', he⟩ := h1
  injection he with e1 e2 e3
  subst e1 e2 e3
  have h2 := Sl.reads h (by omega)
  have e : Go.Proofs.Ytmabfnddedffoaa.flat l.length 1 (fun i _ => Value.int .i64 (l.getD i 0)) = l.map (Value.int .i64) := by
    apply List.ext_getElem
    · simp [flat_length]
    · intro i q1 q2
      have h3 := flat_get (n := l.length) (sz := 1) (f := fun i _ => Value.int .i64 (l.getD i 0)) (i := i) (j := 0) (by simpa using q2) (by omega)
      rw [Nat.mul_one, Nat.add_zero, List.getElem?_eq_getElem q1] at h3
      injection h3 with h3
      rw [h3]
      have q3 : i < l.length := by simpa using q2
      simp [q3]
  rwa [e] at h2
theorem one_ints6 {l : List Int} : ∀ u ∈ l.map (Value.int .i64), u.oneCell' = true := by
  intro u hu
  rw [List.mem_map] at hu
  obtain ⟨_, _, rfl⟩ := hu
  rfl
theorem ints_own6 {w : World} {base : Nat} {v : Value} {l : List Int} (h : w.ownsRow base 3 1 v l.length (l.map (Value.int .i64))) : Ints w w.heap.size v l :=
  Sl.of_owns h fun i j hi hj => by
    obtain rfl : j = 0 := by omega
    rw [Nat.mul_one, Nat.add_zero, List.getElem?_map]
    simp [hi]
/-- Formulas in rows of their own, in a row of the call's own. -/
structure FoS (w0 wr : World) (B : Nat) (v : Value) (L : List (List Int)) (vs : List Value) : Prop where
  below : Below w0.heap.size w0 wr
  len : vs.length = L.length
  own : wr.ownsRow B 66 1 v L.length vs
  row : ∀ i, i < L.length → wr.ownsRow B 3 1 (vs.getD i undef) (L.getD i []).length ((L.getD i []).map (Value.int .i64))
  lt : w0.heap.size ≤ B ∧ B ≤ wr.heap.size
theorem FoS.to {w0 wr w' : World} {B : Nat} {v : Value} {L : List (List Int)} {vs : List Value} (h : FoS w0 wr B v L vs) (hb : Below wr.heap.size wr w') : FoS w0 w' B v L vs :=
  ⟨Below.to h.below hb (Nat.le_refl _), h.len, owns_below h.own hb, fun i hi => owns_below (h.row i hi) hb, h.lt.1, Nat.le_trans h.lt.2 hb.size⟩
theorem FoS.push {w0 wr w' : World} {B : Nat} {v v1 x : Value} {L : List (List Int)} {vs : List Value} {f : List Int} {o : Obj} (h : FoS w0 wr B v L vs) (hx : wr.ownsRow B 3 1 x f.length (f.map (Value.int .i64))) (hown : w'.ownsRow B 66 1 v1 (L.length + 1) (vs ++ [x])) (hg : (wr.alloc o).grownBy w' v.ownBlock) : FoS w0 w' B v1 (L ++ [f]) (vs ++ [x]) := by
  have hl := h.len
  refine ⟨own_low h.below h.own h.lt.1 hg, by simp [hl], by rw [List.length_append]; exact hown, fun i hi => ?_, h.lt.1, by have := hg.size; simp at this; have := h.lt.2; omega⟩
  rcases Nat.lt_or_ge i L.length with h1 | h1
  · rw [List.getD_eq_getElem?_getD, List.getElem?_append_left (by omega), ← List.getD_eq_getElem?_getD, List.getD_eq_getElem?_getD (l := L ++ [f]), List.getElem?_append_left h1, ← List.getD_eq_getElem?_getD]
    exact ownsKeep (h.row i h1) h.own (by decide) hg
  · have he : i = L.length := by simp at hi; omega
    subst he
    rw [List.getD_eq_getElem?_getD, List.getElem?_append_right (by omega), List.getD_eq_getElem?_getD (l := L ++ [f]), List.getElem?_append_right (Nat.le_refl _), hl, Nat.sub_self]
    exact ownsKeep hx h.own (by decide) hg
theorem FoS.forms {w0 wr : World} {B : Nat} {v : Value} {L : List (List Int)} {vs : List Value} (h : FoS w0 wr B v L vs) : Forms wr wr.heap.size v L := by
  refine ⟨fun i => vs.getD i undef, Sl.of_owns h.own fun i j hi hj => ?_, fun i hi => ints_own6 (h.row i hi)⟩
  obtain rfl : j = 0 := by omega
  have := h.len
  have hi2 : i < vs.length := by omega
  rw [Nat.mul_one, Nat.add_zero]
  simp [hi2]
set_option maxRecDepth 100000 in
set_option maxHeartbeats 4000000 in
theorem copyForms_any (L : List (List Int)) (A : Option Addr) (q : Nat) (w : World) (hl : L.length ≤ 100) (hf : ∀ f ∈ L, f.length ≤ 100) (h : Forms w w.heap.size (.slice A L.length q) L) :
    Calls Try.prog 51 #[.slice A L.length q] w fun e w' => ∃ v vs, e = .returned v ∧ FoS w w' w.heap.size v L vs := by
  obtain ⟨i0, hi0, iz0, iz1, iz2⟩ := info_parts infoInt
  obtain ⟨i1, hi1, jz0, jz1, jz2⟩ := info_parts infoForm
  have H := hide h
  have HF := hide hf
  clear h hf
  go_enter Try.func51, Try.ntmps51
  go_wp2_with fail
  go_loopw [3, 4] (fun o i wr => ∃ (k : Nat) (A : Option Addr) (cap : Nat) (T : List (List Int)) (vs : List Value), i = .int .i64 k ∧ o = .slice A T.length cap ∧ k ≤ L.length ∧ Hid (L.take k = T) ∧ Hid (FoS w wr w.heap.size (.slice A T.length cap) T vs)) (fun _ i _ => L.length - (intOf i).toNat)
  case atStart => exact ⟨0, _, _, [], [], rfl, rfl, Nat.zero_le _, rfl, ⟨Below.refl _ _, rfl, World.ownsRow_nil _ _ _ _, fun i hi => absurd hi (by simp), Nat.le_refl _, Nat.le_refl _⟩⟩
  case round =>
    obtain ⟨k, Ao, cap, T, vs, rfl, rfl, hk, HT, R⟩ := hrel
    have hTl : T.length ≤ 100 := by rw [← HT.out]; simp; omega
    by_cases hkl : k < L.length
    · obtain ⟨fv, hs, hfi⟩ := (Forms.up H.out R.out.below)
      obtain ⟨_, hq, b, off, rfl, hb, hc⟩ := sl_at hs hkl
      have hx := hfi k hkl
      obtain ⟨f, hfe⟩ : ∃ f, L.getD k [] = f := ⟨_, rfl⟩
      rw [hfe] at hx
      obtain ⟨Af, qf, e⟩ := Sl.form hx
      have c0 := hc 0 (by omega)
      rw [Nat.mul_one, Nat.add_zero, e] at c0
      rw [e] at hx
      have hfl : f.length ≤ 100 := by rw [← hfe]; exact HF.out _ (getD_mem3f hkl)
      have htk : L.take (k + 1) = T ++ [f] := by
        rw [← HT.out, ← hfe, List.take_add_one, List.getElem?_eq_getElem hkl, List.getD_eq_getElem?_getD, List.getElem?_eq_getElem hkl]
        rfl
      have HTK := hide htk
      have HFR := hide hx.flat6
      have ik0 : (0 : Int) ≤ (k : Int) := by omega
      have ik : (k : Int) < (L.length : Int) := by omega
      have iq : (L.length : Int) ≤ (q : Int) := by omega
      have hBw := R.out.lt.2
      clear hx hs hfi hc htk hfe e
      go_wp2_with (first
        | (at_builtin; refine wpList_append_own_at _ rfl (.tmp 11) (.tmp 18) _ rfl w.heap.size 66 i1 _ 1 24 Try.underlying23 hi1 jz0 jz1 jz2 rfl (by omega) _ _ _ rfl (R1.out.own.alloc _) ⟨w1.heap.size, 0, none⟩ 1 1 [.slice A1 f.length cap1] rfl rfl (World.news_of_block (heap_alloc_new w1 _)) (by simp [Value.oneCell']) (by unfold maxLen; omega) (by omega) (by have := R1.out.lt.2; simp; omega) ?_; intro v2 w3 hown2 hg2 _ hat2; obtain ⟨A2, cap2, hv2⟩ := owns_form hown2; subst hv2; have R2 := hide (R1.out.push HX1.out hown2 hg2); clear hown2 hg2 hat2)
        | (at_builtin; refine wpList_append_any _ rfl (.tmp 12) (.tmp 16) _ rfl w.heap.size 3 i0 _ 1 8 Try.underlying66 hi0 iz0 iz1 iz2 rfl (by decide) _ 0 [] rfl (World.ownsRow_made wr #[] 0 hBw (by unfold maxLen; omega) rfl) wr.heap.size Af f.length qf (f.map (Value.int .i64)) rfl (HFR.out.alloc (Nat.le_refl _) _) one_ints6 (by unfold maxLen; omega) (by omega) (by simp; omega) ?_; intro v1 w1 hown1 hg1 _; rw [Nat.zero_add, List.nil_append] at hown1; obtain ⟨A1, cap1, hv1⟩ := owns_form hown1; subst hv1; have HX1 := hide hown1; have R1 := hide (R.out.to (Below.grown (Below.allocT (Below.refl _ _) (Nat.le_refl _) _) hg1 (by simp) (fun j hj => by injection hj with hj; exact Nat.le_of_eq hj))); clear hown1 hg1))
      go_roundw
      case rel => exact ⟨k + 1, A2, cap2, T ++ [f], _, by go_num, by rw [List.length_append, List.length_singleton], by omega, HTK.out, by rw [List.length_append, List.length_singleton]; exact R2.out⟩
      case measure => simp [intOf]; omega
    · have hke : k = L.length := by omega
      subst hke
      have hT := HT.out
      rw [List.take_length] at hT
      subst hT
      go_wp2_with fail
      go_ret
      exact ⟨_, vs, rfl, R.out⟩
end Go.Proofs.Ytmabfnddedffoaa

/- Buildable: walk. -/
import Derived.Test.YtohofcmikfkilaaRows
import Derived.Test.YtohofcmikfkilaaF36
namespace Go.Proofs.Ytohofcmikfkilaa
open Go.RowKit
set_option linter.unusedVariables false
set_option linter.unusedSimpArgs false
set_option maxRecDepth 100000 in
theorem holdsClo_any (f : List Int) (N : Nat) (vs : List Bool) (fv vv : Value) (vb : Nat) (W : World) (hok : validF N f = true) (hbx : W.heap[vb]? = some (.cells #[vv] 29 (0, 0))) (hf : Ints W W.heap.size fv f) (hv : Bols W W.heap.size vv vs) (hN : vs.length = N) :
    Calls Try.prog 86 #[fv, .pointer (some ⟨vb, 0, none⟩)] W fun e w' => e = .returned (.bool (!evF1 (vf vs) f)) ∧ Below W.heap.size W w' := by
  have hh := holds_any f N vs fv vv W hok hf hv hN
  obtain ⟨Al, capl, hlv⟩ := Sl.form hf
  obtain ⟨Av, capv, hvv⟩ := Sl.form hv
  subst hlv hvv
  have c0 := cellOf hbx 0
  have HH := hide hh
  clear hh hf hv hN hok hbx
  go_enter Try.func86, Try.ntmps86
  go_wp2_with (go_at_call 84; refine HH.out.mono ?_; rintro e w1 ⟨rfl, hB1⟩)
  go_ret
  exact ⟨rfl, hB1⟩
set_option maxRecDepth 100000 in
theorem indexForms_holds (p : List Int → Bool) (cap0 : Value) (v : Value) (fs : List (List Int)) (w : World) (hm : fs.length ≤ maxLen) (h : Forms w w.heap.size v fs)
    (hf : ∀ (i : Nat) (f : List Int) (fv : Value) (W : World), i < fs.length → fs.getD i [] = f → Below w.heap.size w W → Ints W w.heap.size fv f → Calls Try.prog 86 #[fv, cap0] W fun e w' => e = .returned (.bool (p f)) ∧ Below W.heap.size W w') :
    Calls Try.prog 85 #[v, .func (.func 86) #[] #[cap0]] w fun e w' => e = .returned (.int .i64 (idxI p fs)) ∧ Below w.heap.size w w' := by
  unfold maxLen at hm
  obtain ⟨fvs, ⟨A, b, off, cap, rfl, hnc, hA, hc⟩, hin⟩ := h
  have HC := hide hc
  have HA := hide hA
  have HF := hide hf
  have HIN := hide hin
  clear hc hA hf hin
  go_enter Try.func85, Try.ntmps85
  go_wp2
  go_loopw [5, 8] (fun _ i wr => ∃ k : Nat, k ≤ fs.length ∧ i = .int .i64 k ∧ Hid (∀ j, j < k → p (fs.getD j []) = false) ∧ Below w.heap.size w wr) (fun _ i _ => fs.length - (intOf i).toNat)
  case atStart => exact ⟨0, Nat.zero_le _, rfl, fun j hj => by omega, Below.refl _ _⟩
  case round =>
    obtain ⟨k, hk, rfl, hz, hB⟩ := hrel
    by_cases hlt : k < fs.length
    · obtain ⟨rfl, hbb⟩ : A = some ⟨b, off, none⟩ ∧ b < w.heap.size := by
        rcases HA.out with h | h
        · exact h
        · omega
      obtain ⟨f, hfe⟩ : ∃ f, fs.getD k [] = f := ⟨_, rfl⟩
      have c0 : wr.cell? ⟨b, off + k, none⟩ = some (fvs k) := by
        have h1 := HC.out k 0 hlt (by omega)
        rw [Nat.mul_one, Nat.add_zero] at h1
        exact (hB.cell (p := ⟨b, off + k, none⟩) hbb).trans h1
      have hi : Ints wr w.heap.size (fvs k) f := by
        have := (HIN.out k hlt).below hB
        rwa [hfe] at this
      have hcl := HF.out k f (fvs k) wr hlt hfe hB hi
      obtain ⟨Af, capf, hfv⟩ := Sl.form hi
      rw [hfv] at c0 hcl
      have HFE := hide hfe
      clear hfe hi hfv
      by_cases hp : p f = true
      · rw [hp] at hcl
        have HCL := hide hcl
        have HP := hide hp
        clear hcl hp
        go_wp2_with (go_at_call 86; refine HCL.out.mono ?_; rintro e w1 ⟨rfl, hB1⟩)
        go_ret
        exact ⟨ret_int (idxI_at p [] fs k hz.out hlt (by rw [HFE.out]; exact HP.out)).symm, (by repeat (first | exact Below.refl _ _ | assumption | refine Below.drew ?_ | refine Below.drewN ?_ _ | refine Below.allocT ?_ (Nat.le_refl _) _ | refine Below.setCell ?_ (by simp <;> omega) _ | refine Below.to ?_ (by assumption) (Nat.le_refl _)))⟩
      · have hp' : p f = false := by simpa using hp
        rw [hp'] at hcl
        have HCL := hide hcl
        have HP := hide hp'
        clear hcl hp hp'
        go_wp2_with (go_at_call 86; refine HCL.out.mono ?_; rintro e w1 ⟨rfl, hB1⟩)
        go_roundw
        case rel => exact ⟨k + 1, by omega, by go_num, fun j hj => by
            rcases Nat.lt_or_ge j k with h | h
            · exact hz.out j h
            · rw [show j = k from by omega, HFE.out]; exact HP.out, (by repeat (first | exact Below.refl _ _ | assumption | refine Below.drew ?_ | refine Below.drewN ?_ _ | refine Below.allocT ?_ (Nat.le_refl _) _ | refine Below.setCell ?_ (by simp <;> omega) _ | refine Below.to ?_ (by assumption) (Nat.le_refl _)))⟩
        case measure => simp [intOf]; omega
    · go_wp2
      go_ret
      exact ⟨ret_int (idxI_none p [] fs (fun j hj => hz.out j (by omega))).symm, (by repeat (first | exact Below.refl _ _ | assumption | refine Below.drew ?_ | refine Below.drewN ?_ _ | refine Below.allocT ?_ (Nat.le_refl _) _ | refine Below.setCell ?_ (by simp <;> omega) _ | refine Below.to ?_ (by assumption) (Nat.le_refl _)))⟩

set_option maxRecDepth 100000 in
set_option maxHeartbeats 4000000 in
theorem Buildable_any (m : Mo) (vs : List Bool) (ov rv vv : Value) (w : World) (hs : SizedM m) (h : MoAt w w.heap.size ov rv m) (hv : Bols w w.heap.size vv vs) :
    Calls Try.prog 47 #[.agg #[ov, rv], vv] w fun e w' => e = .returned (.tuple #[.int .i64 (buiR m vs), .bool (buiB m vs), .int .i64 (buiE m vs)]) ∧ Below w.heap.size w w' := by
  obtain ⟨A, cap, hov⟩ := Sl.form h.o
  obtain ⟨Ar, capr, hrv⟩ := h.r.form
  obtain ⟨Av, capv, hvv⟩ := Sl.form hv
  have H := hide h
  have HV := hide hv
  have HS := hide hs
  subst hov hrv hvv
  clear h hv hs
  go_enter Try.func47, Try.ntmps47
  go_upto_region 1 with (fail)
  obtain ⟨w0, hw0⟩ : ∃ w0 : World, (w.alloc (.cells #[.slice A m.opts.length cap, .slice Ar m.rules.length capr] 25)).alloc (.cells #[.slice Av vs.length capv] 29) = w0 := ⟨_, rfl⟩
  have hB0 : Below w.heap.size w w0 := by rw [← hw0]; exact Below.allocT (Below.allocT (Below.refl _ _) (Nat.le_refl _) _) (Nat.le_refl _) _
  have hb0 : w0.heap[w.heap.size]? = some (.cells #[.slice A m.opts.length cap, .slice Ar m.rules.length capr] 25 (0, 0)) := by rw [← hw0, heap_old _ _ _ (by simp)]; exact heap_new _ _ _ rfl
  have hb1 : w0.heap[w.heap.size + 1]? = some (.cells #[.slice Av vs.length capv] 29 (0, 0)) := by rw [← hw0]; exact heap_new _ _ _ (by simp)
  rw [hw0]
  clear hw0
  have HX0 : Hid (MoBox w0 w.heap.size (.slice A m.opts.length cap) (.slice Ar m.rules.length capr)) := hb0
  have HY0 := hide hb1
  have HB0 := hide hB0
  have c0 := cellOf hb0 0
  have c1 := cellOf hb0 1
  have hck := CheckModel_any m (.slice A m.opts.length cap) (.slice Ar m.rules.length capr) w0 HS.out (H.out.up hB0)
  have HCK := hide hck
  clear hb0 hb1 hB0 hck
  by_cases he : m.err = 0
  · have HE := hide he
    go_upto_region 4 with (go_at_call 24; refine HCK.out.mono ?_; rw [HE.out]; rintro e w1 ⟨rfl, hB1⟩; have hbx := box_to HX0.out hB1; have d0 := cellOf hbx 0; have d1 := cellOf hbx 1; have hby := box_to HY0.out hB1; have f0 := cellOf hby 0; have HY1 := hide hby; have HB1 : Hid (Below w.heap.size w w1) := Below.to HB0.out hB1 (Nat.le_refl _); clear hbx hby hB1 c0 c1)
    by_cases hn : vs.length = m.opts.length
    · obtain ⟨h1, h2, h3⟩ := bui_ok he hn
      have e1 : ((vs.length : Int) != (m.opts.length : Int)) = false := by simp; omega
      have hix := indexForms_holds (fun f => !evF1 (vf vs) f) (.pointer (some ⟨w.heap.size + 1, 0, none⟩)) (.slice Ar m.rules.length capr) m.rules w1 HS.out.r.1 (H.out.up HB1.out).r
        (fun i f fv W hi hfe hB hin => holdsClo_any f m.opts.length vs fv _ (w.heap.size + 1) W ((Mo.ok he).2.2.2 f (by rw [← hfe]; exact getD_mem hi)) (box_to HY1.out hB) (hin.more hB.size) (Sl.up (Sl.up HV.out HB1.out) hB) hn)
      obtain ⟨z, hz⟩ : ∃ z, fstR vs m.rules = z := ⟨_, rfl⟩
      rw [show idxI (fun f => !evF1 (vf vs) f) m.rules = z from hz] at hix
      rw [hz] at h2 h3
      have HIX := hide hix
      have H1 := hide h1
      have H2 := hide h2
      have H3 := hide h3
      clear hix h1 h2 h3 he hn hz
      go_wp2_with (go_at_call 85; refine HIX.out.mono ?_; rintro e w2 ⟨rfl, hB2⟩)
      go_ret3
      exact ⟨by rw [H1.out, H2.out, H3.out]; rfl, Below.to HB1.out hB2 (Nat.le_refl _)⟩
    · have h1 : buiE m vs = 1 := by unfold buiE; rw [if_neg (by simp [he]), if_pos hn]
      obtain ⟨h2, h3⟩ := bui_bad h1 (by omega)
      have e1 : ((vs.length : Int) != (m.opts.length : Int)) = true := by simp; omega
      have H1 := hide h1
      have H2 := hide h2
      have H3 := hide h3
      clear h1 h2 h3 he hn
      go_wp2_with fail
      go_ret3
      exact ⟨by rw [H1.out, H2.out, H3.out]; rfl, HB1.out⟩
  · obtain ⟨z, hz⟩ : ∃ z, m.err = z := ⟨_, rfl⟩
    have h1 : buiE m vs = z := by unfold buiE; rw [if_pos he, hz]
    rw [hz] at he
    obtain ⟨h2, h3⟩ := bui_bad h1 he
    have hz1 : (z != 0) = true := by simpa using he
    have HZ := hide hz
    have H1 := hide h1
    have H2 := hide h2
    have H3 := hide h3
    clear he hz h1 h2 h3
    go_wp2_with (go_at_call 24; refine HCK.out.mono ?_; rw [HZ.out]; rintro e w1 ⟨rfl, hB1⟩)
    go_ret3
    exact ⟨by rw [H1.out, H2.out, H3.out]; rfl, Below.to HB0.out hB1 (Nat.le_refl _)⟩
end Go.Proofs.Ytohofcmikfkilaa

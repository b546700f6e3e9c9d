/- Part 21 of this claim's texts: walks and plain laws. -/
import Derived.Test.YtmgfijadjclmpaaRows
import Derived.Test.YtmgfijadjclmpaaGTC18
import Derived.Test.YtmgfijadjclmpaaGTC19
import Derived.Test.YtmgfijadjclmpaaGTC20
import Derived.Deep.DeepMust
import Derived.Deep.RegionHeld3
import Derived.Deep.DrawnRows
import Derived.Test.YtmgfijadjclmpaaGTC2
/- The theorem of the deadlines: walk. -/
namespace Go.Proofs.Ytmgfijadjclmpaa
open Go.RowKit
set_option linter.unusedVariables false
set_option linter.unusedSimpArgs false
set_option maxRecDepth 100000 in
set_option maxHeartbeats 8000000 in
theorem topChains_walk (A A2 A3 : Option Addr) (q q2 q3 : Nat) (l : List Fr) (rs : List Rl) (ks : List Int) (w : World) (hm : l.length ≤ maxLen) (hn : rs.length ≤ maxLen) (ho : ks.length ≤ maxLen) (h : Frs w w.heap.size (.slice A l.length q) l) (hr : Rls w w.heap.size (.slice A2 rs.length q2) rs) (hk : Ints w w.heap.size (.slice A3 ks.length q3) ks) :
    Calls Try.prog 3 #[.slice A l.length q, .slice A2 rs.length q2, .slice A3 ks.length q3] w fun e w' => e = .returned (.bool true) ∧ Below w.heap.size w w' := by
  unfold maxLen at hm hn ho
  obtain ⟨i0, hi0, iz0, iz1, iz2⟩ := info_parts infoIntT
  obtain ⟨i1, hi1, jz0, jz1, jz2⟩ := info_parts infoFrame
  obtain ⟨i2, hi2, kz0, kz1, kz2⟩ := info_parts infoRelease
  obtain ⟨i3, hi3, mz0, mz1, mz2⟩ := info_parts infoRow
  have iql : (l.length : Int) ≤ (q : Int) := by have := h.cap; omega
  have iqr : (rs.length : Int) ≤ (q2 : Int) := by have := hr.cap; omega
  have iqk : (ks.length : Int) ≤ (q3 : Int) := by
    have h1 := hk
    obtain ⟨A', b', off', cap', e1, e2, _⟩ := h1
    injection e1 with _ _ e3
    omega
  have H := hide h
  have HR := hide hr
  have HK := hide hk
  clear h hr hk
  by_cases hg1 : 20 < l.length
  · have d1 : decide ((20 : Int) < (l.length : Int)) = true := by simp; omega
    have d1' : decide (20 < l.length) = true := by simp; omega
    go_enter Try.func3, Try.ntmps3
    go_wp2_with (go_at_call 5; refine (counts_any _).mono ?_; rintro e wz ⟨rfl, hBz⟩)
    go_ret
    exact ⟨rfl, hBz⟩
  have d1 : decide ((20 : Int) < (l.length : Int)) = false := by simp; omega
  have d1' : decide (20 < l.length) = false := by simp; omega
  by_cases hg2 : 100 < rs.length
  · have d2 : decide ((100 : Int) < (rs.length : Int)) = true := by simp; omega
    have d2' : decide (100 < rs.length) = true := by simp; omega
    go_enter Try.func3, Try.ntmps3
    go_wp2_with (go_at_call 5; refine (counts_any _).mono ?_; rintro e wz ⟨rfl, hBz⟩)
    go_ret
    exact ⟨rfl, hBz⟩
  have d2 : decide ((100 : Int) < (rs.length : Int)) = false := by simp; omega
  have d2' : decide (100 < rs.length) = false := by simp; omega
  by_cases hg3 : 20 < ks.length
  · have d3 : decide ((20 : Int) < (ks.length : Int)) = true := by simp; omega
    have d3' : decide (20 < ks.length) = true := by simp; omega
    go_enter Try.func3, Try.ntmps3
    go_wp2_with (go_at_call 5; refine (counts_any _).mono ?_; rintro e wz ⟨rfl, hBz⟩)
    go_ret
    exact ⟨rfl, hBz⟩
  have d3 : decide ((20 : Int) < (ks.length : Int)) = false := by simp; omega
  have d3' : decide (20 < ks.length) = false := by simp; omega
  have hl20 : l.length ≤ 20 := by omega
  have hr100 : rs.length ≤ 100 := by omega
  have hk20 : ks.length ≤ 20 := by omega
  clear hm hn ho hg1 hg2 hg3
  have HRDF := hide H.out.reads
  have HRDR := hide HR.out.reads
  go_enter Try.func3, Try.ntmps3
  go_upto_region 3 with (first
    | (go_at_call 4; refine (Heavy_any _ l _ (by omega) H.out).mono ?_; rintro e w1 ⟨b, rfl, hB1⟩; have HB1 := hide hB1; clear hB1; cases b)
    | (go_at_call 5; refine (counts_any _).mono ?_; rintro e wz ⟨rfl, hBz⟩))
  rotate_left
  · go_ret
    exact ⟨rfl, Below.to HB1.out hBz (Nat.le_refl _)⟩
  have hrdf := (H.out.up HB1.out).reads
  have HRF1 := hide hrdf
  clear hrdf HRDF HRDR
  go_upto_region 5 with (first
    | (at_builtin; refine wpList_append_any _ rfl (.tmp 49) (.tmp 50) _ rfl w1.heap.size 40 i1 _ 5 40 Try.underlying22 hi1 jz0 jz1 jz2 rfl (by decide) _ 0 [] rfl (World.ownsRow_made w1 #[] 0 (Nat.le_refl _) (by unfold maxLen; omega) rfl) w1.heap.size A l.length q (cellL frCL l) rfl (HRF1.out.alloc (Nat.le_refl _) _) Frs.one (by unfold maxLen; omega) (by omega) (by simp) ?_; intro v2 w2 hown1 hg1 _; rw [Nat.zero_add, List.nil_append] at hown1; have HF2 := hide (Frs.of_own hown1); have HB2 := hide (Below.to HB1.out (Below.grown (Below.allocT (Below.refl _ _) (Nat.le_refl _) _) hg1 (by simp) (fun j hj => by injection hj with hj; exact Nat.le_of_eq hj)) (Nat.le_refl _)); clear hown1 hg1)
    | (go_at_call 7; refine (ints_any _ ks _ (by omega) (ints_upT HK.out HB2.out)).mono ?_; rintro e w3 ⟨u3, rfl, hu3, hB3⟩; have HU3 := hide hu3; have HF3 := hide (HF2.out.up hB3); have HB3 := hide (Below.to HB2.out hB3 (Nat.le_refl _)); clear hu3 hB3)
    | (go_at_call 6; refine (FromFrames_any _ _ l ks _ (by omega) (by omega) HF3.out HU3.out).mono ?_; rintro e w4 ⟨v4, z, rfl, hB4, hff⟩; have HFF := hide hff; have HF4 := hide (HF3.out.up hB4); have HB4 := hide (Below.to HB3.out hB4 (Nat.le_refl _)); clear hff hB4))
  rcases HFF.out with ⟨hz, rfl⟩ | ⟨rfl, hck, hk1, hk10, hin, ss, hsl, hst, hsts⟩
  · have hz1 : (z != 0) = true := by simpa using hz
    clear hz
    go_wp2_with (go_at_call 5; refine (counts_any _).mono ?_; rintro e wz ⟨rfl, hBz⟩)
    go_ret
    exact ⟨rfl, Below.to HB4.out hBz (Nat.le_refl _)⟩
  obtain ⟨As, qs, rfl⟩ := hsts.form
  have HCKF := hide hck
  have HIN := hide hin
  have HST := hide hst
  have HSTS := hide hsts
  have HSO : Hid (StsOk ss) := sts_ok hck hk1 hk10 hin hsl hst
  have iqs : (ss.length : Int) ≤ (qs : Int) := by have := hsts.cap; omega
  have gsl : ((ss.length : Int) != (ks.length : Int)) = false := by simp [hsl]
  have hss10 : ss.length ≤ 10 := by omega
  have hss1 : 1 ≤ ss.length := by omega
  have HSL := hide hsl
  have hl1 : 1 ≤ l.length := by have h1 := hin 0 (by omega); omega
  have hrdr := (HR.out.up HB4.out).reads
  have HRR4 := hide hrdr
  clear hck hin hst hsts hsl hrdr HFF HRF1 HF2 HU3 HF3
  go_upto_region 9 with (first
    | (at_builtin; refine wpList_append_any _ rfl (.tmp 67) (.tmp 68) _ rfl w4.heap.size 38 i2 _ 2 16 Try.underlying23 hi2 kz0 kz1 kz2 rfl (by decide) _ 0 [] rfl (World.ownsRow_made w4 #[] 0 (Nat.le_refl _) (by unfold maxLen; omega) rfl) w4.heap.size A2 rs.length q2 (cellL rlCL rs) rfl (HRR4.out.alloc (Nat.le_refl _) _) Rls.one (by unfold maxLen; omega) (by omega) (by simp) ?_; intro v5 w5 hown1 hg1 _; rw [Nat.zero_add, List.nil_append] at hown1; have HR5 := hide (Rls.of_own hown1); have hB45 := (Below.grown (Below.allocT (Below.refl _ _) (Nat.le_refl _) _) hg1 (by simp) (fun j hj => by injection hj with hj; exact Nat.le_of_eq hj) : Below w4.heap.size w4 w5); have HF5 := hide (HF4.out.up hB45); have HS5 := hide (HSTS.out.up hB45); have HB5 := hide (Below.to HB4.out hB45 (Nat.le_refl _)); clear hown1 hg1 hB45)
    | (go_at_call 8; refine (Play_any _ _ l rs _ (by omega) (by omega) HF5.out HR5.out).mono ?_; rintro e w6 ⟨v6, z, rfl, hB6, hpl⟩; have HPL := hide hpl; have HF6 := hide (HF5.out.up hB6); have HR6 := hide (HR5.out.up hB6); have HS6 := hide (HS5.out.up hB6); have HB6 := hide (Below.to HB5.out hB6 (Nat.le_refl _)); clear hpl hB6))
  have hmk : ∀ W : World, (Instr.makeSlice 24 (.int .i64 l.length) (.int .i64 l.length)).run Try.prog W = .ok (.slice (some ⟨W.heap.size, 0, none⟩) l.length l.length) (W.alloc (.cells (madeCells #[.int .i64 0] (l.length * 1)) 3)) := fun W => by
    have h1 := run_make (P := Try.prog) W 24 3 i0 (.int .i64 0) Try.underlying24 hi0 iz0 .i64 .i64 l.length l.length (by omega) (Int.le_refl _) (by rw [iz2]; omega) (by omega)
    rw [iz1] at h1
    simpa [Value.cells] using h1
  go_upto_region 10 with (fail)
  generalize hw7 : World.alloc _ _ = w7
  obtain ⟨hb7, hB7, hs7⟩ := alloc1 hw7
  obtain ⟨g7, hg7⟩ : ∃ z, w6.heap.size = z := ⟨_, rfl⟩
  have hnb : NumB w7 w6.heap.size (List.replicate l.length 0) := by
    unfold NumB
    rw [hb7, made_intsT]
  have hnx := hnb.ints
  rw [List.length_replicate, hg7] at hnx
  rw [hg7]
  have HX7 := hide hnx
  have HF7 := hide (HF6.out.up hB7)
  have HR7 := hide (HR6.out.up hB7)
  have HS7 := hide (HS6.out.up hB7)
  have HB7 := hide (Below.to HB6.out hB7 (Nat.le_refl _))
  have HB67 := hide hB7
  clear hw7 hb7 hB7 hs7 hnb hnx hmk hg7
  go_upto_region 11 with (go_at_call 9; refine (Keeps_any _ _ _ l rs _ (by omega) hl1 (by omega) HF7.out HR7.out HX7.out).mono ?_; rintro e w8 ⟨bk, z2, rfl, hB8, hkp⟩; have HKP := hide hkp; have HS8 := hide (HS7.out.up hB8); have HB68 := hide (Below.to HB67.out hB8 (Nat.le_refl _)); have HB8 := hide (Below.to HB7.out hB8 (Nat.le_refl _)); clear hkp hB8)
  rcases HPL.out with hz | ⟨rfl, hcr, es, hel, hes, hen, hsch⟩
  · have hz1 : (z != 0) = true := by simpa using hz
    clear hz
    go_wp2_with (go_at_call 5; refine (counts_any _).mono ?_; rintro e wz ⟨rfl, hBz⟩)
    go_ret
    exact ⟨rfl, Below.to HB8.out hBz (Nat.le_refl _)⟩
  by_cases hz2 : z2 = 0
  case neg =>
    have hz1 : (z2 != 0) = true := by simpa using hz2
    clear hz2
    go_wp2_with (go_at_call 5; refine (counts_any _).mono ?_; rintro e wz ⟨rfl, hBz⟩)
    go_ret
    exact ⟨rfl, Below.to HB8.out hBz (Nat.le_refl _)⟩
  subst hz2
  cases bk with
  | false =>
    go_wp2_with (go_at_call 5; refine (counts_any _).mono ?_; rintro e wz ⟨rfl, hBz⟩)
    go_ret
    exact ⟨rfl, Below.to HB8.out hBz (Nat.le_refl _)⟩
  | true =>
  have HKT : Hid (Kept (sysOf l rs)) := HKP.out rfl rfl
  obtain ⟨Ae, qe, rfl⟩ := ints_formT hes
  have HCR := hide hcr
  have HEL := hide hel
  have HEN := hide hen
  have HSCH := hide hsch
  have HES : Hid (Ints w8 w8.heap.size (.slice Ae es.length qe) es) := ints_upT hes HB68.out
  have gel : ((es.length : Int) != (rs.length : Int)) = false := by simp [hel]
  have HPY : Hid (PyOk ss (staL l rs ks ks.length) (stoL l rs ks (enL es) ks.length)) := py_ok hcr hsch HKT.out HSL.out HST.out
  have HRSP : Hid (∀ i k, i < ss.length → k < ((stoL l rs ks (enL es) ks.length).getD i []).length → ((stoL l rs ks (enL es) ks.length).getD i []).getD k 0 ≤ k * (ss.getD i Stp.o).e + (ss.getD i Stp.o).r) := fun i k hi hk => (HPY.out.run i k hi hk).2.2
  obtain ⟨W8, hW8⟩ : ∃ wo : World, wo = w8 := ⟨_, rfl⟩
  subst hW8
  clear hcr hel hen hsch hes HPL HKP HF4 HF5 HF6 HF7 HR5 HR6 HR7 HX7 HB67 HB68 HS5 HS6 HS7 HSTS HRR4
  go_wp2_with fail
  go_loopw [16, 17, 18, 19, 20, 21, 22] (fun sv tv iv _ _ _ _ wr => ∃ (i : Nat) (L M : List (List Int)) (A4 A5 : Option Addr) (q4 q5 : Nat) (vs us : List Value), iv = .int .i64 i ∧ sv = .slice A4 L.length q4 ∧ tv = .slice A5 M.length q5 ∧ i ≤ ks.length ∧ L.length ≤ i ∧ M.length ≤ i ∧ Hid (staL l rs ks i = L) ∧ Hid (stoL l rs ks (enL es) i = M) ∧ Hid (TopH W8.heap.size wr (.slice A4 L.length q4) (.slice A5 M.length q5) L M vs us) ∧ Hid (Below W8.heap.size W8 wr)) (fun _ _ iv _ _ _ _ _ => ks.length - (intOf iv).toNat)
  case atStart => exact ⟨0, [], [], none, none, 0, 0, [], [], rfl, rfl, rfl, Nat.zero_le _, Nat.le_refl _, Nat.le_refl _, rfl, rfl, TopH.nil _ _, Below.refl _ _⟩
  case round =>
    obtain ⟨i, L, M, A4, A5, q4, q5, vs, us, rfl, rfl, rfl, hi, hLi, hMi, HLL, HMM, HTH, HB⟩ := hrel
    by_cases hlt : i < ks.length
    case pos =>
      have hlt1 : (i : Int) < (ks.length : Int) := by omega
      have ii0 : (0 : Int) ≤ (i : Int) := by omega
      have hL10 : L.length ≤ 10 := by omega
      have hM10 : M.length ≤ 10 := by omega
      have hin2 := HIN.out i hlt
      obtain ⟨f, hf⟩ := Int.eq_ofNat_of_zero_le hin2.1
      have hfl : f < l.length := by have := hin2.2; omega
      have hft : (ks.getD i 0).toNat = f := by rw [hf]; rfl
      have HFT := hide hft
      have HFE := hide hf
      have iff0 : (0 : Int) ≤ (f : Int) := by omega
      have iff1 : (f : Int) < (l.length : Int) := by omega
      have iis : i < ss.length := by have := HSL.out; omega
      have iis1 : (i : Int) < (ss.length : Int) := by omega
      obtain ⟨Wi, hWi⟩ : ∃ wo : World, wo = wr := ⟨_, rfl⟩
      subst hWi
      have HWI := hide (Below.to HB8.out HB.out (Nat.le_refl _))
      clear hin2 hf hft
      go_wp2_with fail
      go_loopw [19, 20, 21] (fun av bv kv wr => ∃ (k : Nat) (a b : List Int) (A6 A7 : Option Addr) (q6 q7 : Nat), kv = .int .i64 k ∧ av = .slice A6 a.length q6 ∧ bv = .slice A7 b.length q7 ∧ k ≤ rs.length ∧ a.length ≤ k ∧ b.length ≤ k ∧ Hid (selF (sysOf l rs).fr (sysOf l rs).tm f k = a) ∧ Hid (selF (sysOf l rs).fr (enL es) f k = b) ∧ Hid (Tw2 Wi.heap.size 3 wr (.slice A6 a.length q6) (.slice A7 b.length q7) a.length b.length (a.map (Value.int .i64)) (b.map (Value.int .i64))) ∧ Hid (Below Wi.heap.size Wi wr)) (fun _ _ kv _ => rs.length - (intOf kv).toNat)
      case atStart => exact ⟨0, [], [], none, none, 0, 0, rfl, rfl, rfl, Nat.zero_le _, Nat.le_refl _, Nat.le_refl _, rfl, rfl, Tw2.nil _ _ _, Below.refl _ _⟩
      case round =>
        obtain ⟨k, a, b, A6, A7, q6, q7, rfl, rfl, rfl, hkl, hak, hbk, HAA, HBB, HTW, HBi⟩ := hrel
        by_cases hklt : k < rs.length
        case pos =>
          have hk1 : (k : Int) < (rs.length : Int) := by omega
          have hke : (k : Int) < (es.length : Int) := by have := HEL.out; omega
          have ik0 : (0 : Int) ≤ (k : Int) := by omega
          have ha100 : a.length ≤ 100 := by omega
          have hb100 : b.length ≤ 100 := by omega
          have HBw := hide (Below.to HWI.out HBi.out (Nat.le_refl _))
          obtain ⟨br, or, fi, t, rfl, hbr, hqr, HFI, HT, hfi, ht0, ht1, e0, e1⟩ := rl_at HCR.out (HR.out.up HBw.out) hklt
          obtain ⟨bw, ow, n, HN, rfl, hbw, hqw, ew⟩ := ints_atT (ints_upT HK.out HBw.out) hlt
          have hnf : n = (f : Int) := by rw [← HN.out, HFE.out]
          subst hnf
          clear hqr hqw
          go_upto_region 23 with (fail)
          by_cases hff : fi = f
          · subst hff
            have dff : ((fi : Int) == (fi : Int)) = true := by simp
            have HFF2 : Hid ((sysOf l rs).fr k = fi) := HFI
            refine wp_region_held_drew (S := (fun w' => Below wr.heap.size wr w')) (by kernel_rfl) ?_ (fun hHeld => ?_)
            · try dsimp only
              exact (by repeat (first | exact Below.refl _ _ | assumption | refine Below.drew ?_ | refine Below.drewN ?_ _ | refine Below.allocT ?_ (Nat.le_refl _) _ | refine Below.setCell ?_ (by simp <;> omega) _ | refine Below.to ?_ (by assumption) (Nat.le_refl _)))
            refine zT 0 rfl ?_
            refine zT 1 rfl ?_
            refine zT 2 rfl ?_
            refine zT 3 rfl ?_
            refine zT 4 rfl ?_
            refine zT 5 rfl ?_
            refine zT 6 rfl ?_
            refine zT 7 rfl ?_
            refine zT 8 rfl ?_
            refine zT 9 rfl ?_
            refine wpAnyH_done (by kernel_rfl) ?_ _
            obtain ⟨w6, hw6⟩ : ∃ z, wr.drew = z := ⟨_, rfl⟩
            rw [hw6] at hHeld ⊢
            have HTW6 := hide (HTW.out.below hHeld)
            have HBi6 := hide (Below.to HBi.out hHeld (Nat.le_refl _))
            have e1' : w6.cell? ⟨br, or + k * 2 + 1, none⟩ = some (.int .i64 t) := (hHeld.cell (p := ⟨br, or + k * 2 + 1, none⟩) hbr).trans e1
            have lbr : br < w6.heap.size := Nat.lt_of_lt_of_le hbr hHeld.size
            clear hw6 hHeld e0 e1 ew hbw hbr
            go_upto_region 25 with (at_builtin; go_must (refine wpList_append_own_at _ rfl (.tmp 131) (.tmp 137) _ rfl (Wi.heap.size) 3 i0 _ 1 8 Try.underlying24 hi0 iz0 iz1 iz2 rfl (by omega) _ _ _ rfl ((HTW6.out.oa).alloc _) ⟨w6.heap.size, 0, none⟩ 1 1 [.int .i64 t] rfl rfl (World.news_of_block (heap_alloc_new w6 _)) (by simp [Value.oneCell']) (by have h1 := ha100; unfold maxLen; omega) (by have h1 := ha100; omega) (by have h1 := HBi6.out.size; simp; omega) ?_); intro v1 w3 hown1 hg1 _ hat1; obtain ⟨A8, q8, e8⟩ := owns_formT hown1; subst e8; have HTW7 := hide (HTW6.out.pushA hown1 hg1 hat1); have HBi7 := hide (low_grown HBi6.out (Nat.le_refl _) HTW6.out.oa (Nat.le_refl _) hg1); clear hown1 hg1 hat1 e1' lbr)
            have HBw7 := hide (Below.to HWI.out HBi7.out (Nat.le_refl _))
            obtain ⟨be, oe, x, HX, rfl, hbe, hqe, ee⟩ := ints_atT (ints_upT HES.out (Below.to HB.out HBi7.out (Nat.le_refl _))) (k := k) (by rw [HEL.out]; exact hklt)
            have iqe : (es.length : Int) ≤ (qe : Int) := by omega
            clear hqe
            go_wp2_with (at_builtin; go_must (refine wpList_append_own_at _ rfl (.tmp 139) (.tmp 144) _ rfl (Wi.heap.size) 3 i0 _ 1 8 Try.underlying24 hi0 iz0 iz1 iz2 rfl (by omega) _ _ _ rfl ((HTW7.out.ob).alloc _) ⟨w3.heap.size, 0, none⟩ 1 1 [.int .i64 x] rfl rfl (World.news_of_block (heap_alloc_new w3 _)) (by simp [Value.oneCell']) (by have h1 := hb100; unfold maxLen; omega) (by have h1 := hb100; omega) (by have h1 := HBi7.out.size; simp; omega) ?_); intro v1 w3 hown1 hg1 _ hat1; obtain ⟨A9, q9, e9⟩ := owns_formT hown1; subst e9; have HTW8 := hide (HTW7.out.pushB hown1 hg1 hat1); have HBi8 := hide (low_grown HBi7.out (Nat.le_refl _) HTW7.out.ob (Nat.le_refl _) hg1); clear hown1 hg1 hat1)
            go_roundw
            case rel =>
              refine ⟨k + 1, a ++ [t], b ++ [x], A8, A9, q8, q9, by go_num, by simp, by simp, by omega, by simp; omega, by simp; omega, ?_, ?_, ?_, HBi8⟩
              · show selF _ _ _ _ = _
                rw [selF_yes HFF2.out, HAA.out, HT.out]
              · show selF _ _ _ _ = _
                rw [selF_yes HFF2.out, HBB.out]
                have : enL es k = x := HX.out
                rw [this]
              · show Tw2 _ _ _ _ _ _ _ _ _
                simpa using HTW8.out
            case measure => simp [intOf]; omega
          · have dff : ((fi : Int) == (f : Int)) = false := by simp; omega
            have HNF : Hid ((sysOf l rs).fr k ≠ f) := by show _ ≠ _; rw [HFI.out]; exact hff
            clear hff
            refine wp_region_held_drew (S := (fun w' => Below wr.heap.size wr w')) (by kernel_rfl) ?_ (fun hHeld => ?_)
            · try dsimp only
              exact (by repeat (first | exact Below.refl _ _ | assumption | refine Below.drew ?_ | refine Below.drewN ?_ _ | refine Below.allocT ?_ (Nat.le_refl _) _ | refine Below.setCell ?_ (by simp <;> omega) _ | refine Below.to ?_ (by assumption) (Nat.le_refl _)))
            refine zT 0 rfl ?_
            refine zT 1 rfl ?_
            refine zT 2 rfl ?_
            refine zT 3 rfl ?_
            refine zT 4 rfl ?_
            refine zT 5 rfl ?_
            refine zT 6 rfl ?_
            refine zT 7 rfl ?_
            refine zT 8 rfl ?_
            refine zT 9 rfl ?_
            refine wpAnyH_done (by kernel_rfl) ?_ _
            obtain ⟨w6, hw6⟩ : ∃ z, wr.drew = z := ⟨_, rfl⟩
            rw [hw6] at hHeld ⊢
            have HTW6 := hide (HTW.out.below hHeld)
            have HBi6 := hide (Below.to HBi.out hHeld (Nat.le_refl _))
            clear hw6 hHeld e0 e1 ew hbw hbr
            go_wp2_with fail
            go_roundw
            case rel => exact ⟨k + 1, a, b, A6, A7, q6, q7, by go_num, rfl, rfl, by omega, by omega, by omega, by show _ = _; rw [selF_no HNF.out]; exact HAA.out, by show _ = _; rw [selF_no HNF.out]; exact HBB.out, HTW6, HBi6⟩
            case measure => simp [intOf]; omega
        case neg =>
          have hk1 : ¬ (k : Int) < (rs.length : Int) := by omega
          have HKR : Hid (k = rs.length) := by show _ = _; omega
          have HAR : Hid (selF (sysOf l rs).fr (sysOf l rs).tm f rs.length = a) := by rw [← HKR.out]; exact HAA
          have HBR : Hid (selF (sysOf l rs).fr (enL es) f rs.length = b) := by rw [← HKR.out]; exact HBB
          have HST1 : Hid ((stoL l rs ks (enL es) ks.length).getD i [] = b) := by show _ = _; rw [stoL_at hlt, HFT.out]; exact HBR.out
          obtain ⟨Wj, hWj⟩ : ∃ wo : World, wo = wr := ⟨_, rfl⟩
          subst hWj
          have hb100 : b.length ≤ 100 := by omega
          have ha100 : a.length ≤ 100 := by omega
          have HBwj := hide (Below.to HWI.out HBi.out (Nat.le_refl _))
          have HBIN := hide (ints_of_ownT HTW.out.ob)
          clear hklt hak hbk hkl
          go_wp2_with fail
          go_loopw [22] (fun kv wr => ∃ j : Nat, kv = .int .i64 j ∧ j ≤ b.length ∧ Hid (Below Wj.heap.size Wj wr)) (fun kv _ => b.length - (intOf kv).toNat)
          case atStart => exact ⟨0, rfl, Nat.zero_le _, Below.refl _ _⟩
          case round =>
            obtain ⟨j, rfl, hj, HBj⟩ := hrel
            have HBw2 := hide (Below.to HBwj.out HBj.out (Nat.le_refl _))
            by_cases hjl : j < b.length
            case pos =>
              have hj1 : (j : Int) < (b.length : Int) := by omega
              have ij0 : (0 : Int) ≤ (j : Int) := by omega
              obtain ⟨bb, ob, x, HX, hA7, hbb, hqb, eb⟩ := ints_atT (ints_upT HBIN.out HBj.out) hjl
              subst hA7
              obtain ⟨bw, ow, n, HN, hA3, hbw, hqw, ew⟩ := ints_atT (ints_upT HK.out HBw2.out) hlt
              subst hA3
              have hnf : n = (f : Int) := by rw [← HN.out, HFE.out]
              subst hnf
              obtain ⟨bf, of, y, HY, hAf, hbf, hqf, g0, g1, g2, g3, g4⟩ := (H.out.up HBw2.out).at hfl
              subst hAf
              obtain ⟨bs, os, s, HS, hAs, hbs, hqs, k0, k1, k2, k3⟩ := (HS8.out.up (Below.to HB.out (Below.to HBi.out HBj.out (Nat.le_refl _)) (Nat.le_refl _))).at iis
              subst hAs
              have iqb : (b.length : Int) ≤ (q7 : Int) := by omega
              have hrs := HRSP.out i j iis (by rw [HST1.out]; exact hjl)
              rw [HST1.out, HX.out, HS.out] at hrs
              have hso := HSO.out.ok i iis
              have hste := (HST.out i hlt).e
              rw [HS.out] at hso hste
              rw [HFT.out, HY.out] at hste
              have hs1 := hso.e0
              have hs2 := hso.e1
              have hs3 := hso.r0
              have hs4 := hso.r1
              rw [hste] at hrs hs1 hs2
              obtain ⟨p, hp⟩ : ∃ z, (j : Int) * y.e = z := ⟨_, rfl⟩
              rw [hp] at hrs
              have hp0 : 0 ≤ p := by rw [← hp]; exact Int.mul_nonneg (by omega) (by omega)
              have hp1 : p ≤ 100 * 100000 := by rw [← hp]; exact Int.mul_le_mul (by omega) hs2 (by omega) (by omega)
              have w1' : IntKind.i64.wrap p = p := IntWalk.i64_in _ (by omega)
              have w2' : IntKind.i64.wrap (p + s.r) = p + s.r := IntWalk.i64_in _ (by omega)
              have dgt : decide (p + s.r < x) = false := by simp; omega
              clear hqb hqw hqf hqs hso hste hrs g0 g2 g3 g4 k0 k2 k3
              go_upto_region 29 with (fail)
              refine wp_region_held_drew (S := (fun w' => Below wr.heap.size wr w')) (by kernel_rfl) ?_ (fun hHeld => ?_)
              · try dsimp only
                exact (by repeat (first | exact Below.refl _ _ | assumption | refine Below.drew ?_ | refine Below.drewN ?_ _ | refine Below.allocT ?_ (Nat.le_refl _) _ | refine Below.setCell ?_ (by simp <;> omega) _ | refine Below.to ?_ (by assumption) (Nat.le_refl _)))
              refine zT 0 rfl ?_
              refine zT 1 rfl ?_
              refine zT 2 rfl ?_
              refine zT 3 rfl ?_
              refine zT 4 rfl ?_
              refine zT 5 rfl ?_
              refine zT 6 rfl ?_
              refine zT 7 rfl ?_
              refine zT 8 rfl ?_
              refine zT 9 rfl ?_
              refine zT 10 rfl ?_
              refine zT 11 rfl ?_
              refine zT 12 rfl ?_
              refine zT 13 rfl ?_
              refine zT 14 rfl ?_
              refine zT 15 rfl ?_
              refine zT 16 rfl ?_
              refine zT 17 rfl ?_
              refine zT 18 rfl ?_
              refine zT 19 rfl ?_
              refine zT 20 rfl ?_
              refine wpAnyH_done (by kernel_rfl) ?_ _
              have HBj6 := hide (Below.to HBj.out hHeld (Nat.le_refl _))
              clear hHeld eb ew g1 k1 hbb hbw hbf hbs
              go_wp2_with fail
              go_roundw
              case rel => exact ⟨j + 1, by go_num, by omega, HBj6⟩
              case measure => simp [intOf]; omega
            case neg =>
              have hj1 : ¬ (j : Int) < (b.length : Int) := by omega
              have HTW9 := hide (HTW.out.below HBj.out)
              have HBi9 := hide (Below.to HBi.out HBj.out (Nat.le_refl _))
              have HTH9 := hide (HTH.out.below HBi9.out)
              have HB9 := hide (Below.to HB.out HBi9.out (Nat.le_refl _))
              have HAO : Hid (wr.ownsRow W8.heap.size 3 1 (.slice A6 a.length q6) a.length (a.map (Value.int .i64))) := owns_base HTW9.out.oa HB.out.size
              have HBO : Hid (wr.ownsRow W8.heap.size 3 1 (.slice A7 b.length q7) b.length (b.map (Value.int .i64))) := owns_base HTW9.out.ob HB.out.size
              clear hjl hj
              go_upto_region 32 with (at_builtin; go_must (refine wpList_append_own_at _ rfl (.tmp 173) (.tmp 175) _ rfl (W8.heap.size) 24 i3 _ 1 24 Try.underlying36 hi3 mz0 mz1 mz2 rfl (by omega) _ _ _ rfl ((HTH9.out.tw.oa).alloc _) ⟨wr.heap.size, 0, none⟩ 1 1 [.slice A6 a.length q6] rfl rfl (World.news_of_block (heap_alloc_new wr _)) (by simp [Value.oneCell']) (by have h1 := hL10; unfold maxLen; omega) (by have h1 := hL10; omega) (by have h1 := HB9.out.size; simp; omega) ?_); intro v1 w3 hown1 hg1 _ hat1; obtain ⟨A8, q8, e8⟩ := owns_formT hown1; subst e8; have HBO3 := hide (own_stays HBO.out hg1 (fun g hg => own_apart HBO.out HTH9.out.tw.oa int_ne hg)); have HTH3 := hide (HTH9.out.pushS HAO.out hown1 hg1 hat1); have HB3' := hide (low_grown HB9.out (Nat.le_refl _) HTH9.out.tw.oa (Nat.le_refl _) hg1); clear hown1 hg1 hat1)
              obtain ⟨w3', hw3'⟩ : ∃ z : World, z = w3 := ⟨_, rfl⟩
              subst hw3'
              go_wp2_with (at_builtin; go_must (refine wpList_append_own_at _ rfl (.tmp 177) (.tmp 179) _ rfl (W8.heap.size) 24 i3 _ 1 24 Try.underlying36 hi3 mz0 mz1 mz2 rfl (by omega) _ _ _ rfl ((HTH3.out.tw.ob).alloc _) ⟨w3'.heap.size, 0, none⟩ 1 1 [.slice A7 b.length q7] rfl rfl (World.news_of_block (heap_alloc_new w3' _)) (by simp [Value.oneCell']) (by have h1 := hM10; unfold maxLen; omega) (by have h1 := hM10; omega) (by have h1 := HB3'.out.size; simp; omega) ?_); intro v1 w3 hown1 hg1 _ hat1; obtain ⟨A9, q9, e9⟩ := owns_formT hown1; subst e9; have HTH4 := hide (HTH3.out.pushT HBO3.out hown1 hg1 hat1); have HB4' := hide (low_grown HB3'.out (Nat.le_refl _) HTH3.out.tw.ob (Nat.le_refl _) hg1); clear hown1 hg1 hat1)
              go_roundw
              case rel =>
                refine ⟨i + 1, L ++ [a], M ++ [b], A8, A9, q8, q9, _, _, by go_num, by simp, by simp, by omega, by simp; omega, by simp; omega, ?_, ?_, by show TopH _ _ _ _ _ _ _ _; simpa using HTH4.out, HB4'⟩
                · show staL _ _ _ _ = _
                  rw [staL_snoc, HLL.out, HFT.out, HAR.out]
                · show stoL _ _ _ _ _ = _
                  rw [stoL_snoc, HMM.out, HFT.out, HBR.out]
              case measure => simp [intOf]; omega
    case neg =>
      have hlt1 : ¬ (i : Int) < (ks.length : Int) := by omega
      have hik : i = ks.length := by omega
      have HLF : Hid (staL l rs ks ks.length = L) := by rw [← hik]; exact HLL
      have HMF : Hid (stoL l rs ks (enL es) ks.length = M) := by rw [← hik]; exact HMM
      have hLs : L.length = ss.length := by rw [← HLF.out, staL_len, HSL.out]
      have hMs : M.length = ss.length := by rw [← HMF.out, stoL_len, HSL.out]
      have HPYL : Hid (PyOk ss L M) := by
        have h1 := HPY.out
        rw [HLF.out, HMF.out] at h1
        exact h1
      have hrs := HTH.out.rwsS
      have hrt := HTH.out.rwsT
      rw [hLs] at hrs ⊢
      rw [hMs] at hrt ⊢
      have HRS := hide hrs
      have HRT := hide hrt
      have HLS := hide hLs
      have HMS := hide hMs
      have HSr := hide (HS8.out.up HB.out)
      obtain ⟨n, hn⟩ : ∃ n, ss.length - 1 = n := ⟨_, rfl⟩
      have hns : n < ss.length := by omega
      have wn1 : IntKind.i64.wrap ((ss.length : Int) - 1) = (n : Int) := by
        rw [IntWalk.i64_in _ (by omega)]
        omega
      have wn2 : IntKind.i64.wrap (n : Int) = (n : Int) := IntWalk.i64_in _ (by omega)
      have in0 : (0 : Int) ≤ (n : Int) := by omega
      have in1 : (n : Int) < (ss.length : Int) := by omega
      have hcp := CPlay_any _ _ _ ss L M wr HSr.out HSO.out HRS.out HRT.out HPYL.out
      have hbo := fun W (hW : Below wr.heap.size wr W) => Bound_any _ ss W (HSr.out.up hW) HSO.out
      have hag := age_top HSO.out HPYL.out
      rw [hn] at hcp hbo hag
      obtain ⟨most, hmost⟩ : ∃ z, reaS ss ss.length - (ss.getD n Stp.o).e + 1 = z := ⟨_, rfl⟩
      obtain ⟨rea, hrea⟩ : ∃ z, reaS ss ss.length = z := ⟨_, rfl⟩
      rw [hmost] at hbo hag
      rw [hrea] at hbo
      have HCP := hide hcp
      have HBO := hide hbo
      have HAG := hide hag
      clear hlt hik hLs hMs hrs hrt hcp hbo hag hmost hrea hLi hMi hi
      go_upto_region 35 with (first
        | (go_at_call 10; refine HCP.out.mono ?_; rintro e w9 ⟨v9, ags, rfl, hal, hav, hai, hB9⟩; have HAL := hide hal; have HAV := hide hav; have HAI := hide hai; have HB9 := hide hB9; clear hal hav hai hB9)
        | (go_at_call 11; refine (HBO.out _ HB9.out).mono ?_; rintro e w10 ⟨rfl, hB10⟩; have HAI10 := hide (ints_upT HAI.out hB10); have HB10 := hide (Below.to HB9.out hB10 (Nat.le_refl _)); clear hB10))
      obtain ⟨Ag, qg, rfl⟩ := ints_formT HAI.out
      obtain ⟨bt, ot, At, qt, rt, HRTN, rfl, hbt, hqt, HRTI, et⟩ := (HRT.out.up HB10.out).at (k := n) (by rw [HMS.out]; exact hns)
      have iqt : (ss.length : Int) ≤ (q5 : Int) := by rw [HMS.out] at hqt; omega
      have hart : ags.length = rt.length := by
        rw [HAL.out]
        unfold rwN
        rw [HRTN.out]
      have gar : ((ags.length : Int) != (rt.length : Int)) = false := by simp [hart]
      have has5 : ags.length ≤ 500 := by
        rw [HAL.out]
        exact (HPYL.out.row n hns).2
      have iqg : (ags.length : Int) ≤ (qg : Int) := by
        have h1 := HAI.out
        obtain ⟨A', b', off', cap', e1, e2, _⟩ := h1
        injection e1 with _ _ e3
        omega
      clear hqt hart
      obtain ⟨Wk, hWk⟩ : ∃ wo : World, wo = w10 := ⟨_, rfl⟩
      subst hWk
      have HBK := hide (Below.to HB8.out (Below.to HB.out HB10.out (Nat.le_refl _)) (Nat.le_refl _))
      have HRSK := hide (HRS.out.up HB10.out)
      have HSK := hide (HSr.out.up HB10.out)
      go_wp2_with fail
      clear et hbt
      go_loopw [28, 29] (fun iv _ wr => ∃ i : Nat, iv = .int .i64 i ∧ i + 1 ≤ ss.length ∧ Hid (∀ i', i' < i → ∀ k, k < (L.getD (i' + 1) []).length → (L.getD (i' + 1) []).getD k 0 < (ss.getD i' Stp.o).e * (L.getD i' []).length + (ss.getD i' Stp.o).r) ∧ Hid (Below Wk.heap.size Wk wr)) (fun iv _ _ => ss.length - (intOf iv).toNat)
      case atStart => exact ⟨0, rfl, hss1, fun i' h => by omega, Below.refl _ _⟩
      case round =>
        obtain ⟨i, rfl, hi, HEN1, HBv⟩ := hrel
        have HBKv := hide (Below.to HBK.out HBv.out (Nat.le_refl _))
        obtain ⟨j, hj⟩ : ∃ j, i + 1 = j := ⟨_, rfl⟩
        have wi1 : IntKind.i64.wrap ((i : Int) + 1) = (j : Int) := by
          rw [IntWalk.i64_in _ (by omega)]
          omega
        have wi2 : IntKind.i64.wrap (j : Int) = (j : Int) := IntWalk.i64_in _ (by omega)
        have HJ := hide hj
        by_cases hjs : j < ss.length
        case pos =>
          have hj1 : (j : Int) < (ss.length : Int) := by omega
          have ij0 : (0 : Int) ≤ (j : Int) := by omega
          have ii0 : (0 : Int) ≤ (i : Int) := by omega
          have ii1 : (i : Int) < (ss.length : Int) := by omega
          have his : i < ss.length := by omega
          obtain ⟨Wl, hWl⟩ : ∃ wo : World, wo = wr := ⟨_, rfl⟩
          subst hWl
          obtain ⟨br, or, Ar, qr, r1, HR1, hA4, hbr, hqr, HRI, er⟩ := (HRSK.out.up HBv.out).at (k := j) (by rw [HLS.out]; exact hjs)
          obtain ⟨br', or', Ar', qr', r0, HR0, hA4', hbr', hqr', HRI0, er0⟩ := (HRSK.out.up HBv.out).at (k := i) (by rw [HLS.out]; exact his)
          subst hA4
          injection hA4' with hA4'
          injection hA4' with hA41 hA42 _
          subst hA41 hA42
          obtain ⟨bs, os, s, HS, hAs, hbs, hqs, k0, k1, k2, k3⟩ := (HSK.out.up HBv.out).at his
          subst hAs
          have iq4 : (ss.length : Int) ≤ (q4 : Int) := by rw [HLS.out] at hqr; omega
          have hr5 : r0.length ≤ 500 := by
            have h1 := HPYL.out.row i his
            rw [← h1.1, HR0.out] at h1
            exact h1.2
          have hr15 : r1.length ≤ 500 := by
            have h1 := HPYL.out.row j hjs
            rw [← h1.1, HR1.out] at h1
            exact h1.2
          have hso := HSO.out.ok i his
          rw [HS.out] at hso
          have hs1 := hso.e0
          have hs2 := hso.e1
          have hs3 := hso.r0
          have hs4 := hso.r1
          obtain ⟨p, hp⟩ : ∃ z, s.e * (r0.length : Int) = z := ⟨_, rfl⟩
          have hp0 : 0 ≤ p := by rw [← hp]; exact Int.mul_nonneg (by omega) (by omega)
          have hp1 : p ≤ 100000 * 500 := by rw [← hp]; exact Int.mul_le_mul hs2 (by omega) (by omega) (by omega)
          have w1' : IntKind.i64.wrap p = p := IntWalk.i64_in _ (by omega)
          have w2' : IntKind.i64.wrap (p + s.r) = p + s.r := IntWalk.i64_in _ (by omega)
          have HPP := hide hp
          clear hqr hqr' hqs hso hj
          go_wp2_with fail
          go_loopw [29] (fun kv wr => ∃ k : Nat, kv = .int .i64 k ∧ k ≤ r1.length ∧ Hid (∀ k', k' < k → r1.getD k' 0 < p + s.r) ∧ Hid (Below Wl.heap.size Wl wr)) (fun kv _ => r1.length - (intOf kv).toNat)
          case atStart => exact ⟨0, rfl, Nat.zero_le _, fun k' h => by omega, Below.refl _ _⟩
          case round =>
            obtain ⟨k, rfl, hk, HKK, HBx⟩ := hrel
            have HBw2 := hide (Below.to HBv.out HBx.out (Nat.le_refl _))
            have erx : wr.cell? ⟨br, or + j, none⟩ = some (.slice Ar r1.length qr) := (HBx.out.cell (p := ⟨br, or + j, none⟩) hbr).trans er
            have lbr : br < wr.heap.size := Nat.lt_of_lt_of_le hbr HBx.out.size
            by_cases hkr : k < r1.length
            case pos =>
              have hk1' : (k : Int) < (r1.length : Int) := by omega
              have ik0 : (0 : Int) ≤ (k : Int) := by omega
              obtain ⟨bx, ox, x, HX, hAr, hbx, hqx, ex⟩ := ints_atT (ints_upT HRI.out HBx.out) hkr
              subst hAr
              have er0x : wr.cell? ⟨br, or + i, none⟩ = some (.slice Ar' r0.length qr') := (HBx.out.cell (p := ⟨br, or + i, none⟩) hbr').trans er0
              have k0x : wr.cell? ⟨bs, os + i * 4, none⟩ = some (.int .i64 s.e) := (HBx.out.cell (p := ⟨bs, os + i * 4, none⟩) hbs).trans k0
              have k1x : wr.cell? ⟨bs, os + i * 4 + 1, none⟩ = some (.int .i64 s.r) := (HBx.out.cell (p := ⟨bs, os + i * 4 + 1, none⟩) hbs).trans k1
              have lbs : bs < wr.heap.size := Nat.lt_of_lt_of_le hbs HBx.out.size
              have iqx : (r1.length : Int) ≤ (qr : Int) := by omega
              clear hqx
              go_upto_region 43 with (fail)
              by_cases hle : p + s.r ≤ x
              · have dle : decide (p + s.r ≤ x) = true := by simpa using hle
                clear hle
                refine wp_region_held_drew (S := (fun w' => Below wr.heap.size wr w')) (by kernel_rfl) ?_ (fun hHeld => ?_)
                · try dsimp only
                  exact (by repeat (first | exact Below.refl _ _ | assumption | refine Below.drew ?_ | refine Below.drewN ?_ _ | refine Below.allocT ?_ (Nat.le_refl _) _ | refine Below.setCell ?_ (by simp <;> omega) _ | refine Below.to ?_ (by assumption) (Nat.le_refl _)))
                refine zT 0 rfl ?_
                refine zT 1 rfl ?_
                refine zT 2 rfl ?_
                refine zT 3 rfl ?_
                refine zT 4 rfl ?_
                refine zT 5 rfl ?_
                refine zT 6 rfl ?_
                refine zT 7 rfl ?_
                refine zT 8 rfl ?_
                refine zT 9 rfl ?_
                refine zT 10 rfl ?_
                refine zT 11 rfl ?_
                refine zT 12 rfl ?_
                refine zT 13 rfl ?_
                refine zT 14 rfl ?_
                refine zT 15 rfl ?_
                refine zT 16 rfl ?_
                refine zT 17 rfl ?_
                refine zT 18 rfl ?_
                refine zT 19 rfl ?_
                refine zT 20 rfl ?_
                refine zT 21 rfl ?_
                refine zT 22 rfl ?_
                refine zT 23 rfl ?_
                refine zT 24 rfl ?_
                refine zT 25 rfl ?_
                refine wpAnyH_done (by kernel_rfl) ?_ _
                have HB6 := hide (Below.to HBK.out (Below.to HBw2.out hHeld (Nat.le_refl _)) (Nat.le_refl _))
                clear hHeld erx er0x k0x k1x ex lbr lbs hbx
                go_wp2_with (go_at_call 5; refine (counts_any _).mono ?_; rintro e wz ⟨rfl, hBz⟩)
                go_ret
                exact ⟨rfl, Below.to HB6.out hBz (Nat.le_refl _)⟩
              · have dle : decide (p + s.r ≤ x) = false := by simpa using hle
                have HXL : Hid (r1.getD k 0 < p + s.r) := by show _ < _; rw [HX.out]; omega
                clear hle
                refine wp_region_held_drew (S := (fun w' => Below wr.heap.size wr w')) (by kernel_rfl) ?_ (fun hHeld => ?_)
                · try dsimp only
                  exact (by repeat (first | exact Below.refl _ _ | assumption | refine Below.drew ?_ | refine Below.drewN ?_ _ | refine Below.allocT ?_ (Nat.le_refl _) _ | refine Below.setCell ?_ (by simp <;> omega) _ | refine Below.to ?_ (by assumption) (Nat.le_refl _)))
                refine zT 0 rfl ?_
                refine zT 1 rfl ?_
                refine zT 2 rfl ?_
                refine zT 3 rfl ?_
                refine zT 4 rfl ?_
                refine zT 5 rfl ?_
                refine zT 6 rfl ?_
                refine zT 7 rfl ?_
                refine zT 8 rfl ?_
                refine zT 9 rfl ?_
                refine zT 10 rfl ?_
                refine zT 11 rfl ?_
                refine zT 12 rfl ?_
                refine zT 13 rfl ?_
                refine zT 14 rfl ?_
                refine zT 15 rfl ?_
                refine zT 16 rfl ?_
                refine zT 17 rfl ?_
                refine zT 18 rfl ?_
                refine zT 19 rfl ?_
                refine zT 20 rfl ?_
                refine zT 21 rfl ?_
                refine zT 22 rfl ?_
                refine zT 23 rfl ?_
                refine zT 24 rfl ?_
                refine zT 25 rfl ?_
                refine wpAnyH_done (by kernel_rfl) ?_ _
                have HBx6 := hide (Below.to HBx.out hHeld (Nat.le_refl _))
                clear hHeld erx er0x k0x k1x ex lbr lbs hbx
                go_wp2_with fail
                go_roundw
                case rel => exact ⟨k + 1, by go_num, by omega, fun k' h => by
                    rcases Nat.lt_or_ge k' k with h1 | h1
                    · exact HKK.out k' h1
                    · rw [show k' = k by omega]; exact HXL.out, HBx6⟩
                case measure => simp [intOf]; omega
            case neg =>
              have hk1' : ¬ (k : Int) < (r1.length : Int) := by omega
              have HE2 : Hid (∀ i', i' < j → ∀ k, k < (L.getD (i' + 1) []).length → (L.getD (i' + 1) []).getD k 0 < (ss.getD i' Stp.o).e * (L.getD i' []).length + (ss.getD i' Stp.o).r) := fun i' h k' hk' => by
                rcases Nat.lt_or_ge i' i with h1 | h1
                · exact HEN1.out i' h1 k' hk'
                · have e : i' = i := by have := HJ.out; omega
                  subst e
                  rw [HJ.out, HR1.out] at hk' ⊢
                  rw [HS.out, HR0.out, HPP.out]
                  exact HKK.out k' (by omega)
              clear hkr hk
              go_wp2_with fail
              go_roundw
              case rel => exact ⟨j, by first | rfl | go_num, by omega, HE2, HBw2⟩
              case measure => have := HJ.out; simp [intOf]; omega
        case neg =>
          have hj1 : ¬ (j : Int) < (ss.length : Int) := by omega
          have HAGE : Hid (∀ k, k < ags.length → ags.getD k 0 ≤ most) := fun k hk => by
            rw [HAV.out k hk]
            exact HAG.out (fun i' k' h1 h2 => HEN1.out i' (by have := HJ.out; omega) k' h2) (by rw [← HAL.out]; exact hk)
          have HAIv := hide (ints_upT HAI10.out HBv.out)
          obtain ⟨Wl, hWl⟩ : ∃ wo : World, wo = wr := ⟨_, rfl⟩
          subst hWl
          clear hjs hj hi
          go_wp2_with fail
          go_loopw [30] (fun kv wr => ∃ k : Nat, kv = .int .i64 k ∧ k ≤ ags.length ∧ Hid (Below Wl.heap.size Wl wr)) (fun kv _ => ags.length - (intOf kv).toNat)
          case atStart => exact ⟨0, rfl, Nat.zero_le _, Below.refl _ _⟩
          case round =>
            obtain ⟨k, rfl, hk, HBx⟩ := hrel
            by_cases hka : k < ags.length
            case pos =>
              have hk1' : (k : Int) < (ags.length : Int) := by omega
              have ik0 : (0 : Int) ≤ (k : Int) := by omega
              obtain ⟨bx, ox, x, HX, hAg, hbx, hqx, ex⟩ := ints_atT (ints_upT HAIv.out HBx.out) hka
              subst hAg
              have hxm := HAGE.out k hka
              rw [HX.out] at hxm
              have dgt : decide (most < x) = false := by simp; omega
              have dgt2 : ¬ most < x := by omega
              clear hqx hxm
              go_wp2_with fail
              go_roundw
              case rel => exact ⟨k + 1, by go_num, by omega, HBx⟩
              case measure => simp [intOf]; omega
            case neg =>
              have hk1' : ¬ (k : Int) < (ags.length : Int) := by omega
              have HBe := hide (Below.to HBKv.out HBx.out (Nat.le_refl _))
              clear hka hk
              go_wp2_with (go_at_call 5; refine (counts_any _).mono ?_; rintro e wz ⟨rfl, hBz⟩)
              go_ret
              exact ⟨rfl, Below.to HBe.out hBz (Nat.le_refl _)⟩
end Go.Proofs.Ytmgfijadjclmpaa

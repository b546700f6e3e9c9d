/- Whether a formula holds: walk. -/
import Derived.Test.YtohofcmikfkilaaRows
import Derived.Test.YtohofcmikfkilaaF34
import Derived.Deep.DeepMust
import Derived.Deep.RegionHeld3
import Derived.Deep.DrawnRows
namespace Go.Proofs.Ytohofcmikfkilaa
open Go.RowKit
set_option linter.unusedVariables false
set_option linter.unusedSimpArgs false
def BopP (v : Nat → Bool) (o : Int) (S : List Bool) (w : World) (x : Value) (wx : World) : Prop := ∃ y : Bool, x = .bool y ∧ Below w.heap.size w wx ∧ stp v o S.reverse = y :: S.reverse.drop (arO o)
set_option maxRecDepth 100000 in
set_option maxHeartbeats 4000000 in
theorem holds_any (f : List Int) (N : Nat) (vs : List Bool) (fv vv : Value) (w : World) (hv : validF N f = true) (hf : Ints w w.heap.size fv f) (hb : Bols w w.heap.size vv vs) (hN : vs.length = N) :
    Calls Try.prog 84 #[fv, vv] w fun e w' => e = .returned (.bool (evF1 (vf vs) f)) ∧ Below w.heap.size w w' := by
  obtain ⟨i0, hi0, hz0, hz1, hz2⟩ := info_parts infoBool
  obtain ⟨p1, p2⟩ := validF_pos hv
  obtain ⟨A, b, off, cap, rfl, hnc, hA, hc⟩ := hf
  obtain ⟨Av, bv, offv, capv, rfl, hncv, hAv, hcv⟩ := hb
  obtain ⟨rfl, hbb⟩ : A = some ⟨b, off, none⟩ ∧ b < w.heap.size := by
    rcases hA with h | h
    · exact h
    · omega
  have HC := hide hc
  have HCV := hide hcv
  have HAV := hide hAv
  have HV := hide hv
  have HN := hide hN
  clear hv hc hcv hA hAv hN
  have hlen : (f.length : Int) ≤ 100 := by omega
  have hnil : Hid (([] : List Bool).reverse = evS (vf vs) (f.drop f.length)) := by
    show ([] : List Bool).reverse = _
    rw [List.drop_length]; rfl
  go_enter Try.func84, Try.ntmps84
  go_wp2
  go_loopw [5, 6] (fun sv i wr => ∃ (j : Nat) (S : List Bool), j ≤ f.length ∧ i = .int .i64 ((j : Int) - 1) ∧ Hid (BStk w.heap.size wr sv S) ∧ Hid (Below w.heap.size w wr) ∧ Hid (S.reverse = evS (vf vs) (f.drop j))) (fun _ i _ => (intOf i + 1).toNat)
  case atStart => exact ⟨f.length, [], Nat.le_refl _, by go_num, World.ownsRow_nil w w.heap.size 4 1, Below.refl _ _, hnil⟩
  case round =>
    obtain ⟨j, S, hj, rfl, hS, hB, hev⟩ := hrel
    match j, hj, hev with
    | 0, _, hev =>
      have hS1 : S.length = 1 := by
        have h1 := hev.out
        rw [List.drop_zero, validF_one HV.out] at h1
        have := congrArg List.length h1
        simpa using this
      obtain ⟨A1, cap1, rfl, hcap1, hcap2⟩ := hS.out.shape
      obtain ⟨g, rfl, hg1, hg3⟩ := hS.out.cells (by omega)
      have x0 := hg3 0 (by omega)
      have hk0 : (0 : Int) < (S.length : Int) := by omega
      have hk1 : 0 < S.length := by omega
      have HS1 := hide hS1
      obtain ⟨x, hx⟩ : ∃ x, S.getD 0 false = x := ⟨_, rfl⟩
      rw [hx] at x0
      have HX := hide hx
      clear hg3 hS1 hx
      go_wp2_with fail
      go_ret
      refine ⟨ret_bool ?_, hB.out⟩
      have h1 := hev.out
      rw [List.drop_zero, validF_one HV.out, brev_top (p := 0) HS1.out, HX.out] at h1
      injection h1
    | q + 1, hj, hev =>
      have hq : ((q + 1 : Nat) : Int) - 1 = (q : Int) := by omega
      rw [hq]
      clear hq
      obtain ⟨o, ho⟩ : ∃ o, f.getD q 0 = o := ⟨_, rfl⟩
      obtain ⟨w1, _, hv2, hlo, hhi⟩ := vld_at (by have := HV.out; simp only [validF, Bool.and_eq_true] at this; exact this.1) (show q < f.length by omega)
      rw [ho] at hv2 hlo hhi
      have hSn : S.length = w1 + arO o := by
        have h1 := evS_len (vf vs) _ _ hv2
        rw [← hev.out, List.length_reverse] at h1
        exact h1
      have c0 : wr.cell? ⟨b, off + q, none⟩ = some (.int .i64 o) := by
        have h1 := HC.out q 0 (by omega) (by omega)
        rw [Nat.mul_one, Nat.add_zero, ho] at h1
        exact (hB.out.cell (p := ⟨b, off + q, none⟩) hbb).trans h1
      have hwr := hB.out.size
      have hbw : b < wr.heap.size := by omega
      obtain ⟨A1, cap1, rfl, hcap1, hcap2⟩ := hS.out.shape
      have hS100 : S.length ≤ 100 := by
        have h1 := vld_le _ _ hv2
        rw [List.length_drop] at h1
        omega
      have HOQ := hide ho
      have HSN := hide hSn
      have HV2 := hide hv2
      have gi0 : (0 : Int) ≤ (q : Int) := by omega
      have gi1 : (q : Int) < (f.length : Int) := by omega
      have gi2 : (0 : Int) ≤ (S.length : Int) := by omega
      have gi3 : (S.length : Int) ≤ 100 := by omega
      clear ho hSn hv2
      go_upto_block 2 with (fail)
      go_cut [7] from 12 to 81 (fun x wx => BopP (vf vs) o S wr x wx)
      case first =>
        by_cases o1 : o = -1
        · subst o1
          go_wp2_with fail
          go_meet
          exact ⟨true, rfl, Below.refl _ _, rfl⟩
        by_cases o2 : o = -2
        · subst o2
          go_wp2_with fail
          go_meet
          exact ⟨false, rfl, Below.refl _ _, rfl⟩
        by_cases o3 : o = -3
        · subst o3
          obtain ⟨p, hp⟩ : ∃ p, S.length = p + 1 := ⟨w1, HSN.out⟩
          obtain ⟨g, rfl, hg1, hg3⟩ := hS.out.cells (by omega)
          have x0 := hg3 p (by omega)
          obtain ⟨x, hx⟩ : ∃ x, S.getD p false = x := ⟨_, rfl⟩
          rw [hx] at x0
          have HX := hide hx
          have HP := hide hp
          have k0 : (1 : Int) ≤ (S.length : Int) := by omega
          have k1 : ((S.length : Int) - 1).toNat = p := by omega
          clear hx hg3 hp
          go_wp2_with fail
          go_meet
          exact ⟨!x, rfl, Below.refl _ _, by rw [brev_top HP.out, HX.out]; rfl⟩
        by_cases o456 : o = -4 ∨ o = -5 ∨ o = -6
        · obtain ⟨p, hp⟩ : ∃ p, S.length = p + 2 := ⟨w1, by
            have := HSN.out
            unfold arO at this
            rw [if_neg o3, if_pos o456] at this
            exact this⟩
          obtain ⟨g, rfl, hg1, hg3⟩ := hS.out.cells (by omega)
          have x0 := hg3 (p + 1) (by omega)
          have y0 := hg3 p (by omega)
          obtain ⟨x, hx⟩ : ∃ x, S.getD (p + 1) false = x := ⟨_, rfl⟩
          obtain ⟨y, hy⟩ : ∃ y, S.getD p false = y := ⟨_, rfl⟩
          rw [hx] at x0
          rw [hy] at y0
          have HXY := hide (And.intro hx hy)
          have HP := hide hp
          have k0 : (1 : Int) ≤ (S.length : Int) := by omega
          have k1 : ((S.length : Int) - 1).toNat = p + 1 := by omega
          have k2 : (2 : Int) ≤ (S.length : Int) := by omega
          have k3 : ((S.length : Int) - 2).toNat = p := by omega
          have k4 : IntKind.i64.wrap ((S.length : Int) - 1) = (S.length : Int) - 1 := IntWalk.i64_in _ (by omega)
          have k5 : IntKind.i64.wrap ((S.length : Int) - 2) = (S.length : Int) - 2 := IntWalk.i64_in _ (by omega)
          have k6 : (S.length : Int) - 1 < (S.length : Int) := by omega
          have k7 : (S.length : Int) - 2 < (S.length : Int) := by omega
          clear hx hy hg3 hp o1 o2 o3
          rcases o456 with rfl | rfl | rfl
          · have HT : Hid (stp (vf vs) (-4) S.reverse = (x && y) :: S.reverse.drop (arO (-4))) := by show _ = _; rw [brev_top2 HP.out, HXY.out.1, HXY.out.2]; rfl
            cases x
            · go_wp2_with fail
              go_meet
              exact ⟨_, rfl, Below.refl _ _, HT.out⟩
            · go_wp2_with fail
              go_meet
              exact ⟨_, rfl, Below.refl _ _, HT.out⟩
          · have HT : Hid (stp (vf vs) (-5) S.reverse = (x || y) :: S.reverse.drop (arO (-5))) := by show _ = _; rw [brev_top2 HP.out, HXY.out.1, HXY.out.2]; rfl
            cases x
            · go_wp2_with fail
              go_meet
              exact ⟨_, rfl, Below.refl _ _, HT.out⟩
            · go_wp2_with fail
              go_meet
              exact ⟨_, rfl, Below.refl _ _, HT.out⟩
          · have HT : Hid (stp (vf vs) (-6) S.reverse = (x == y) :: S.reverse.drop (arO (-6))) := by show _ = _; rw [brev_top2 HP.out, HXY.out.1, HXY.out.2]; rfl
            go_wp2_with fail
            refine wp_region_held_drew (S := (fun w' => Below wr.heap.size wr w')) (by kernel_rfl) ?_ (fun hHeld => ?_)
            · try dsimp only
              exact (by repeat (first | exact Below.refl _ _ | assumption | refine Below.drew ?_ | refine Below.drewN ?_ _ | refine Below.allocT ?_ (Nat.le_refl _) _ | refine Below.setCell ?_ (by simp <;> omega) _ | refine Below.to ?_ (by assumption) (Nat.le_refl _)))
            refine wpAnyH_take (i := 0) (v := ?v1_0) rfl (by kernel_rfl) (by kernel_rfl) (by kernel_rfl) (fun _ _ _ h => h) (Or.inl ⟨by rfl, ?y1_0⟩) (by assumption) ?r1_0
            case' y1_0 => (intro w hSw; (try dsimp only at hSw); (try have hlS := HLK.out _ hSw); obtain ⟨hcS, hfS⟩ := bcell hSw; clear hSw; go_simp; try with_reducible rfl)
            try simp only [Act.put, List.getElem_toArray, List.getElem_cons_succ, List.getElem_cons_zero, List.setIfInBounds_toArray, List.set_cons_zero, List.set_cons_succ]
            refine wpAnyH_take (i := 1) (v := ?v1_1) rfl (by kernel_rfl) (by kernel_rfl) (by kernel_rfl) (fun _ _ _ h => h) (Or.inl ⟨by rfl, ?y1_1⟩) (by assumption) ?r1_1
            case' y1_1 => (intro w hSw; (try dsimp only at hSw); (try have hlS := HLK.out _ hSw); obtain ⟨hcS, hfS⟩ := bcell hSw; clear hSw; go_simp; try with_reducible rfl)
            try simp only [Act.put, List.getElem_toArray, List.getElem_cons_succ, List.getElem_cons_zero, List.setIfInBounds_toArray, List.set_cons_zero, List.set_cons_succ]
            refine wpAnyH_take (i := 2) (v := ?v1_2) rfl (by kernel_rfl) (by kernel_rfl) (by kernel_rfl) (fun _ _ _ h => h) (Or.inl ⟨by rfl, ?y1_2⟩) (by assumption) ?r1_2
            case' y1_2 => (intro w hSw; (try dsimp only at hSw); (try have hlS := HLK.out _ hSw); obtain ⟨hcS, hfS⟩ := bcell hSw; clear hSw; go_simp; try with_reducible rfl)
            try simp only [Act.put, List.getElem_toArray, List.getElem_cons_succ, List.getElem_cons_zero, List.setIfInBounds_toArray, List.set_cons_zero, List.set_cons_succ]
            refine wpAnyH_take (i := 3) (v := ?v1_3) rfl (by kernel_rfl) (by kernel_rfl) (by kernel_rfl) (fun _ _ _ h => h) (Or.inl ⟨by rfl, ?y1_3⟩) (by assumption) ?r1_3
            case' y1_3 => (intro w hSw; (try dsimp only at hSw); (try have hlS := HLK.out _ hSw); obtain ⟨hcS, hfS⟩ := bcell hSw; clear hSw; go_simp; try with_reducible rfl)
            try simp only [Act.put, List.getElem_toArray, List.getElem_cons_succ, List.getElem_cons_zero, List.setIfInBounds_toArray, List.set_cons_zero, List.set_cons_succ]
            refine wpAnyH_take (i := 4) (v := ?v1_4) rfl (by kernel_rfl) (by kernel_rfl) (by kernel_rfl) (fun _ _ _ h => h) (Or.inl ⟨by rfl, ?y1_4⟩) (by assumption) ?r1_4
            case' y1_4 => (intro w hSw; (try dsimp only at hSw); (try have hlS := HLK.out _ hSw); obtain ⟨hcS, hfS⟩ := bcell hSw; clear hSw; go_simp; try with_reducible rfl)
            try simp only [Act.put, List.getElem_toArray, List.getElem_cons_succ, List.getElem_cons_zero, List.setIfInBounds_toArray, List.set_cons_zero, List.set_cons_succ]
            refine wpAnyH_take (i := 5) (v := ?v1_5) rfl (by kernel_rfl) (by kernel_rfl) (by kernel_rfl) (fun _ _ _ h => h) (Or.inl ⟨by rfl, ?y1_5⟩) (by assumption) ?r1_5
            case' y1_5 => (intro w hSw; (try dsimp only at hSw); (try have hlS := HLK.out _ hSw); obtain ⟨hcS, hfS⟩ := bcell hSw; clear hSw; go_simp; try with_reducible rfl)
            try simp only [Act.put, List.getElem_toArray, List.getElem_cons_succ, List.getElem_cons_zero, List.setIfInBounds_toArray, List.set_cons_zero, List.set_cons_succ]
            refine wpAnyH_take (i := 6) (v := ?v1_6) rfl (by kernel_rfl) (by kernel_rfl) (by kernel_rfl) (fun _ _ _ h => h) (Or.inl ⟨by rfl, ?y1_6⟩) (by assumption) ?r1_6
            case' y1_6 => (intro w hSw; (try dsimp only at hSw); (try have hlS := HLK.out _ hSw); obtain ⟨hcS, hfS⟩ := bcell hSw; clear hSw; go_simp; try with_reducible rfl)
            try simp only [Act.put, List.getElem_toArray, List.getElem_cons_succ, List.getElem_cons_zero, List.setIfInBounds_toArray, List.set_cons_zero, List.set_cons_succ]
            refine wpAnyH_take (i := 7) (v := ?v1_7) rfl (by kernel_rfl) (by kernel_rfl) (by kernel_rfl) (fun _ _ _ h => h) (Or.inl ⟨by rfl, ?y1_7⟩) (by assumption) ?r1_7
            case' y1_7 => (intro w hSw; (try dsimp only at hSw); (try have hlS := HLK.out _ hSw); obtain ⟨hcS, hfS⟩ := bcell hSw; clear hSw; go_simp; try with_reducible rfl)
            try simp only [Act.put, List.getElem_toArray, List.getElem_cons_succ, List.getElem_cons_zero, List.setIfInBounds_toArray, List.set_cons_zero, List.set_cons_succ]
            refine wpAnyH_take (i := 8) (v := ?v1_8) rfl (by kernel_rfl) (by kernel_rfl) (by kernel_rfl) (fun _ _ _ h => h) (Or.inl ⟨by rfl, ?y1_8⟩) (by assumption) ?r1_8
            case' y1_8 => (intro w hSw; (try dsimp only at hSw); (try have hlS := HLK.out _ hSw); obtain ⟨hcS, hfS⟩ := bcell hSw; clear hSw; go_simp; try with_reducible rfl)
            try simp only [Act.put, List.getElem_toArray, List.getElem_cons_succ, List.getElem_cons_zero, List.setIfInBounds_toArray, List.set_cons_zero, List.set_cons_succ]
            refine wpAnyH_take (i := 9) (v := ?v1_9) rfl (by kernel_rfl) (by kernel_rfl) (by kernel_rfl) (fun _ _ _ h => h) (Or.inl ⟨by rfl, ?y1_9⟩) (by assumption) ?r1_9
            case' y1_9 => (intro w hSw; (try dsimp only at hSw); (try have hlS := HLK.out _ hSw); obtain ⟨hcS, hfS⟩ := bcell hSw; clear hSw; go_simp; try with_reducible rfl)
            try simp only [Act.put, List.getElem_toArray, List.getElem_cons_succ, List.getElem_cons_zero, List.setIfInBounds_toArray, List.set_cons_zero, List.set_cons_succ]
            refine wpAnyH_take (i := 10) (v := ?v1_10) rfl (by kernel_rfl) (by kernel_rfl) (by kernel_rfl) (fun _ _ _ h => h) (Or.inl ⟨by rfl, ?y1_10⟩) (by assumption) ?r1_10
            case' y1_10 => (intro w hSw; (try dsimp only at hSw); (try have hlS := HLK.out _ hSw); obtain ⟨hcS, hfS⟩ := bcell hSw; clear hSw; go_simp; try with_reducible rfl)
            try simp only [Act.put, List.getElem_toArray, List.getElem_cons_succ, List.getElem_cons_zero, List.setIfInBounds_toArray, List.set_cons_zero, List.set_cons_succ]
            refine wpAnyH_take (i := 11) (v := ?v1_11) rfl (by kernel_rfl) (by kernel_rfl) (by kernel_rfl) (fun _ _ _ h => h) (Or.inl ⟨by rfl, ?y1_11⟩) (by assumption) ?r1_11
            case' y1_11 => (intro w hSw; (try dsimp only at hSw); (try have hlS := HLK.out _ hSw); obtain ⟨hcS, hfS⟩ := bcell hSw; clear hSw; go_simp; try with_reducible rfl)
            try simp only [Act.put, List.getElem_toArray, List.getElem_cons_succ, List.getElem_cons_zero, List.setIfInBounds_toArray, List.set_cons_zero, List.set_cons_succ]
            refine wpAnyH_done (by kernel_rfl) ?_ _
            go_wp2_with fail
            go_meet
            exact ⟨_, rfl, hHeld, HT.out⟩
        have o7 : 0 ≤ o := by omega
        have k1 : (o == -1) = false := by simpa using o1
        have k2 : (o == -2) = false := by simpa using o2
        have k3 : (o == -3) = false := by simpa using o3
        have k4 : (o == -4) = false := by simp; omega
        have k5 : (o == -5) = false := by simp; omega
        have k6 : (o == -6) = false := by simp; omega
        obtain ⟨t, rfl⟩ : ∃ x : Nat, o = (x : Int) := ⟨o.toNat, by omega⟩
        have ht : t < vs.length := by have := HN.out; omega
        obtain ⟨rfl, hbv⟩ : Av = some ⟨bv, offv, none⟩ ∧ bv < w.heap.size := by
          rcases HAV.out with h | h
          · exact h
          · omega
        obtain ⟨x, hx⟩ : ∃ x, vs.getD t false = x := ⟨_, rfl⟩
        have cv : wr.cell? ⟨bv, offv + t, none⟩ = some (.bool x) := by
          have h1 := HCV.out t 0 ht (by omega)
          rw [Nat.mul_one, Nat.add_zero] at h1
          rw [← hx]
          exact (hB.out.cell (p := ⟨bv, offv + t, none⟩) hbv).trans h1
        have j1 : (t : Int) < (vs.length : Int) := by omega
        have HT : Hid (stp (vf vs) (t : Int) S.reverse = x :: S.reverse.drop (arO (t : Int))) := by
          show _ = _
          unfold stp arO
          rw [if_neg (by omega), if_neg (by omega), if_neg (by omega), if_neg (by omega), if_neg (by omega), if_neg (by omega), if_neg (by omega), if_neg (by omega), Int.toNat_natCast, ← hx]
          rfl
        clear hx o1 o2 o3 o456
        go_wp2_with fail
        go_meet
        exact ⟨x, rfl, Below.refl _ _, HT.out⟩
      case rest =>
        obtain ⟨y, rfl, hBc, hstp⟩ := hcut
        obtain ⟨r, hrn⟩ : ∃ r, S.length = r + arO o := ⟨w1, HSN.out⟩
        have HSTP := hide hstp
        have hcut := (hS.out.below hBc).cut (r := r) (by omega)
        have HBC : Hid (Below w.heap.size w wc) := Below.to hB.out hBc (Nat.le_refl _)
        have d0 : wc.cell? ⟨b, off + q, none⟩ = some (.int .i64 o) := (hBc.cell (p := ⟨b, off + q, none⟩) hbw).trans c0
        have hbc : b < wc.heap.size := Nat.lt_of_lt_of_le hbw hBc.size
        have hr1 : (S.length : Int) - (arO o : Int) = (r : Int) := by omega
        have hr2 : (r : Int) ≤ 100 := by omega
        have hr3 : r ≤ cap1 := by omega
        have hr4 : (r : Int) ≤ (cap1 : Int) := by omega
        have hcap3 : (cap1 : Int) ≤ 9223372036854775807 := by have := hcap2; unfold maxLen at this; omega
        have hwc : w.heap.size ≤ wc.heap.size := HBC.out.size
        have HCUT := hide hcut
        have HRN := hide hrn
        have gi4 : (arO o : Int) ≤ 2 := by unfold arO; split; omega; split <;> omega
        have hlo1 : ∀ i, (Value.slice A1 r cap1).ownBlock = some i → w.heap.size ≤ i := fun i hi => (World.ownsRow.lt hcut i hi).1
        have HLO := hide hlo1
        clear hcut hrn c0 hstp hBc hlo1
        go_wp2_with (first | (go_at_call 95; refine (operands_any _ _).mono ?_; rintro e w2 ⟨rfl, rfl⟩) | (at_builtin; go_must (refine wpList_append_own_at _ rfl (.tmp 90) (.tmp 92) _ rfl w.heap.size 4 i0 _ 1 1 Try.underlying29 hi0 hz0 hz1 hz2 rfl (by omega) _ _ _ rfl (HCUT.out.alloc _) ⟨wc.heap.size, 0, none⟩ 1 1 [.bool y] rfl rfl (World.news_of_block (heap_alloc_new wc _)) (by simp [Value.oneCell']) (by unfold maxLen; omega) (by omega) (by simp; omega) ?_); intro v1 w1 hown1 hg1 _ hat1; have HOWN := hide hown1; have HG1 := hide hg1; have HAT := hide hat1; clear hown1 hg1 hat1))
        have hown2 : BStk w.heap.size w1 v1 (S.take r ++ [y]) := by
          have h1 := HOWN.out
          have h2 : (S.take r ++ [y]).length = r + 1 := by simp; omega
          unfold BStk
          rw [h2, List.map_append]
          exact h1
        have hkeep : Keeps (fun i => (Value.slice A1 r cap1).ownBlock = some i) wc w1 :=
          Keeps.trans ((Keeps.refl _ wc).alloc _) (Keeps.of_grown HG1.out (fun k hk => hk)) (fun _ _ h => h)
        have hb2 : Below w.heap.size w w1 := HBC.out.trans (hkeep.below (B := w.heap.size) hwc (fun k hk => HLO.out k hk))
        have HOW2 := hide hown2
        have HB2 := hide hb2
        clear hown2 hkeep hb2
        go_wp2_with fail
        go_roundw
        case rel =>
          refine ⟨q, S.take r ++ [y], by omega, by go_num, HOW2.out, HB2.out, ?_⟩
          have hq1 : q < f.length := by omega
          show (S.take r ++ [y]).reverse = _
          rw [drop_getD hq1, evS_cons, HOQ.out, ← hev.out, HSTP.out, List.reverse_append]
          show [y] ++ _ = _
          rw [List.singleton_append]
          congr 1
          rw [List.drop_reverse]
          have : S.length - arO o = r := by have := HRN.out; omega
          rw [this]
        case measure => simp [intOf]
end Go.Proofs.Ytohofcmikfkilaa

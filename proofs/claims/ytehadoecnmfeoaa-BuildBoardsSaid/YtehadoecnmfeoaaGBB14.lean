/- Part 14 of this claim's texts: walks and plain laws. -/
import Derived.Test.YtehadoecnmfeoaaRows
import Derived.Test.YtehadoecnmfeoaaGBB13
import Derived.Deep.DeepMust
import Derived.Deep.RegionHeld3
import Derived.Deep.DrawnRows
import Derived.Test.YtehadoecnmfeoaaGBB3
/- A stack of Bools. -/
namespace Go.Proofs.Ytehadoecnmfeoaa
open Go.RowKit
set_option linter.unusedVariables false
set_option linter.unusedSimpArgs false
/-- The slice is a stack of its own above block B. -/
def BStk (B : Nat) (w : World) (sv : Value) (S : List Bool) : Prop := w.ownsRow B 4 1 sv S.length (S.map Value.bool)
theorem BStk.below {B : Nat} {w w' : World} {sv : Value} {S : List Bool} (h : BStk B w sv S) (hb : Below w.heap.size w w') : BStk B w' sv S := owns_below h hb
theorem BStk.shape {B : Nat} {w : World} {sv : Value} {S : List Bool} (h : BStk B w sv S) : ∃ A cap, sv = .slice A S.length cap ∧ S.length ≤ cap ∧ cap ≤ maxLen := by
  rcases h.2 with ⟨h1, h2⟩ | ⟨g, cap, cur, h1, _, _, h2, h3, _⟩
  · exact ⟨none, 0, by rw [h1, h2], by omega, by unfold maxLen; omega⟩
  · exact ⟨_, cap, h1, h2, h3⟩
theorem BStk.cells {B : Nat} {w : World} {A : Option Addr} {n cap : Nat} {S : List Bool} (h : BStk B w (.slice A n cap) S) (hn : 0 < S.length) : ∃ g, A = some ⟨g, 0, none⟩ ∧ g < w.heap.size ∧ ∀ i, i < S.length → w.cell? ⟨g, i, none⟩ = some (.bool (S.getD i false)) := by
  obtain ⟨g, cap', hv, _, hl⟩ := World.ownsRow.form h hn
  injection hv with h1 h2 h3
  subst h1
  refine ⟨g, rfl, hl, fun i hi => ?_⟩
  have := World.ownsRow.cells (g := g) h rfl i (.bool (S.getD i false)) (by simp [hi])
  have he : (⟨g, 0, none⟩ : Addr).add i = ⟨g, i, none⟩ := by
    unfold Addr.add
    split
    · rename_i h0; rw [h0]
    · rw [Nat.zero_add]
  rwa [he] at this
theorem BStk.cut {B : Nat} {w : World} {A : Option Addr} {n cap : Nat} {S : List Bool} (h : BStk B w (.slice A n cap) S) {r : Nat} (hr : r ≤ S.length) : w.ownsRow B 4 1 (.slice A r cap) r ((S.take r).map Value.bool) := by
  obtain ⟨h1, ⟨h2, h3⟩ | ⟨g, cap', cur, h2, h3, h4, h5, h6, h7, h8⟩⟩ := h
  · injection h2 with e1 e2 e3
    subst e1 e3
    obtain rfl : r = 0 := by omega
    exact ⟨by simp, .inl ⟨rfl, rfl⟩⟩
  · injection h2 with e1 e2 e3
    subst e1 e3
    refine ⟨by simp; omega, .inr ⟨g, cap, cur, rfl, h3, h4, by omega, h6, h7, ?_⟩⟩
    rw [List.map_take, ← h8, List.take_take, Nat.mul_one, Nat.mul_one, Nat.min_eq_left hr]
theorem brev_top {S : List Bool} {p : Nat} (h : S.length = p + 1) : S.reverse = S.getD p false :: (S.take p).reverse := by
  have : S = S.take p ++ [S.getD p false] := by
    have h1 := List.take_succ_eq_append_getElem (l := S) (i := p) (by omega)
    rw [List.take_of_length_le (by omega)] at h1
    rw [List.getD_eq_getElem?_getD, List.getElem?_eq_getElem (by omega)]
    exact h1
  conv => lhs; rw [this]
  simp
theorem brev_top2 {S : List Bool} {p : Nat} (h : S.length = p + 2) : S.reverse = S.getD (p + 1) false :: S.getD p false :: (S.take p).reverse := by
  rw [brev_top h, brev_top (S := S.take (p + 1)) (p := p) (by simp; omega), List.take_take, Nat.min_eq_left (by omega)]
  congr 2
  simp [List.getD_eq_getElem?_getD]
end Go.Proofs.Ytehadoecnmfeoaa
/- Whether a formula holds: walk. -/
namespace Go.Proofs.Ytehadoecnmfeoaa
open Go.RowKit
set_option linter.unusedVariables false
set_option linter.unusedSimpArgs false
def BopP (v : Nat → Bool) (o : Int) (S : List Bool) (w : World) (x : Value) (wx : World) : Prop := ∃ y : Bool, x = .bool y ∧ Below w.heap.size w wx ∧ stp v o S.reverse = y :: S.reverse.drop (arO o)
set_option maxRecDepth 100000 in
set_option maxHeartbeats 4000000 in
theorem holds_any (f : List Int) (N : Nat) (vs : List Bool) (fv vv : Value) (w : World) (hv : validF N f = true) (hf : Ints w w.heap.size fv f) (hb : Bols w w.heap.size vv vs) (hN : vs.length = N) :
    Calls Try.prog 53 #[fv, vv] w fun e w' => e = .returned (.bool (evF1 (vf vs) f)) ∧ Below w.heap.size w w' := by
  obtain ⟨i0, hi0, hz0, hz1, hz2⟩ := info_parts infoBool
  obtain ⟨p1, p2⟩ := validF_pos hv
  obtain ⟨A, b, off, cap, rfl, hnc, hA, hc⟩ := hf
  obtain ⟨Av, bv, offv, capv, rfl, hncv, hAv, hcv⟩ := hb
  obtain ⟨rfl, hbb⟩ : A = some ⟨b, off, none⟩ ∧ b < w.heap.size := by
    rcases hA with h | h
    · exact h
    · omega
  have HC := hide hc
  have HCV := hide hcv
  have HAV := hide hAv
  have HV := hide hv
  have HN := hide hN
  clear hv hc hcv hA hAv hN
  have hlen : (f.length : Int) ≤ 100 := by omega
  have hnil : Hid (([] : List Bool).reverse = evS (vf vs) (f.drop f.length)) := by
    show ([] : List Bool).reverse = _
    rw [List.drop_length]; rfl
  go_enter Try.func53, Try.ntmps53
  go_wp2
  go_loopw [5, 6] (fun sv i wr => ∃ (j : Nat) (S : List Bool), j ≤ f.length ∧ i = .int .i64 ((j : Int) - 1) ∧ Hid (BStk w.heap.size wr sv S) ∧ Hid (Below w.heap.size w wr) ∧ Hid (S.reverse = evS (vf vs) (f.drop j))) (fun _ i _ => (intOf i + 1).toNat)
  case atStart => exact ⟨f.length, [], Nat.le_refl _, by go_num, World.ownsRow_nil w w.heap.size 4 1, Below.refl _ _, hnil⟩
  case round =>
    obtain ⟨j, S, hj, rfl, hS, hB, hev⟩ := hrel
    match j, hj, hev with
    | 0, _, hev =>
      have hS1 : S.length = 1 := by
        have h1 := hev.out
        rw [List.drop_zero, validF_one HV.out] at h1
        have := congrArg List.length h1
        simpa using this
      obtain ⟨A1, cap1, rfl, hcap1, hcap2⟩ := hS.out.shape
      obtain ⟨g, rfl, hg1, hg3⟩ := hS.out.cells (by omega)
      have x0 := hg3 0 (by omega)
      have hk0 : (0 : Int) < (S.length : Int) := by omega
      have hk1 : 0 < S.length := by omega
      have HS1 := hide hS1
      obtain ⟨x, hx⟩ : ∃ x, S.getD 0 false = x := ⟨_, rfl⟩
      rw [hx] at x0
      have HX := hide hx
      clear hg3 hS1 hx
      go_wp2_with fail
      go_ret
      refine ⟨ret_bool ?_, hB.out⟩
      have h1 := hev.out
      rw [List.drop_zero, validF_one HV.out, brev_top (p := 0) HS1.out, HX.out] at h1
      injection h1
    | q + 1, hj, hev =>
      have hq : ((q + 1 : Nat) : Int) - 1 = (q : Int) := by omega
      rw [hq]
      clear hq
      obtain ⟨o, ho⟩ : ∃ o, f.getD q 0 = o := ⟨_, rfl⟩
      obtain ⟨w1, _, hv2, hlo, hhi⟩ := vld_at (by have := HV.out; simp only [validF, Bool.and_eq_true] at this; exact this.1) (show q < f.length by omega)
      rw [ho] at hv2 hlo hhi
      have hSn : S.length = w1 + arO o := by
        have h1 := evS_len (vf vs) _ _ hv2
        rw [← hev.out, List.length_reverse] at h1
        exact h1
      have c0 : wr.cell? ⟨b, off + q, none⟩ = some (.int .i64 o) := by
        have h1 := HC.out q 0 (by omega) (by omega)
        rw [Nat.mul_one, Nat.add_zero, ho] at h1
        exact (hB.out.cell (p := ⟨b, off + q, none⟩) hbb).trans h1
      have hwr := hB.out.size
      have hbw : b < wr.heap.size := by omega
      obtain ⟨A1, cap1, rfl, hcap1, hcap2⟩ := hS.out.shape
      have hS100 : S.length ≤ 100 := by
        have h1 := vld_le _ _ hv2
        rw [List.length_drop] at h1
        omega
      have HOQ := hide ho
      have HSN := hide hSn
      have HV2 := hide hv2
      have gi0 : (0 : Int) ≤ (q : Int) := by omega
      have gi1 : (q : Int) < (f.length : Int) := by omega
      have gi2 : (0 : Int) ≤ (S.length : Int) := by omega
      have gi3 : (S.length : Int) ≤ 100 := by omega
      clear ho hSn hv2
      go_upto_block 2 with (fail)
      go_cut [7] from 12 to 81 (fun x wx => BopP (vf vs) o S wr x wx)
      case first =>
        by_cases o1 : o = -1
        · subst o1
          go_wp2_with fail
          go_meet
          exact ⟨true, rfl, Below.refl _ _, rfl⟩
        by_cases o2 : o = -2
        · subst o2
          go_wp2_with fail
          go_meet
          exact ⟨false, rfl, Below.refl _ _, rfl⟩
        by_cases o3 : o = -3
        · subst o3
          obtain ⟨p, hp⟩ : ∃ p, S.length = p + 1 := ⟨w1, HSN.out⟩
          obtain ⟨g, rfl, hg1, hg3⟩ := hS.out.cells (by omega)
          have x0 := hg3 p (by omega)
          obtain ⟨x, hx⟩ : ∃ x, S.getD p false = x := ⟨_, rfl⟩
          rw [hx] at x0
          have HX := hide hx
          have HP := hide hp
          have k0 : (1 : Int) ≤ (S.length : Int) := by omega
          have k1 : ((S.length : Int) - 1).toNat = p := by omega
          clear hx hg3 hp
          go_wp2_with fail
          go_meet
          exact ⟨!x, rfl, Below.refl _ _, by rw [brev_top HP.out, HX.out]; rfl⟩
        by_cases o456 : o = -4 ∨ o = -5 ∨ o = -6
        · obtain ⟨p, hp⟩ : ∃ p, S.length = p + 2 := ⟨w1, by
            have := HSN.out
            unfold arO at this
            rw [if_neg o3, if_pos o456] at this
            exact this⟩
          obtain ⟨g, rfl, hg1, hg3⟩ := hS.out.cells (by omega)
          have x0 := hg3 (p + 1) (by omega)
          have y0 := hg3 p (by omega)
          obtain ⟨x, hx⟩ : ∃ x, S.getD (p + 1) false = x := ⟨_, rfl⟩
          obtain ⟨y, hy⟩ : ∃ y, S.getD p false = y := ⟨_, rfl⟩
          rw [hx] at x0
          rw [hy] at y0
          have HXY := hide (And.intro hx hy)
          have HP := hide hp
          have k0 : (1 : Int) ≤ (S.length : Int) := by omega
          have k1 : ((S.length : Int) - 1).toNat = p + 1 := by omega
          have k2 : (2 : Int) ≤ (S.length : Int) := by omega
          have k3 : ((S.length : Int) - 2).toNat = p := by omega
          have k4 : IntKind.i64.wrap ((S.length : Int) - 1) = (S.length : Int) - 1 := IntWalk.i64_in _ (by omega)
          have k5 : IntKind.i64.wrap ((S.length : Int) - 2) = (S.length : Int) - 2 := IntWalk.i64_in _ (by omega)
          have k6 : (S.length : Int) - 1 < (S.length : Int) := by omega
          have k7 : (S.length : Int) - 2 < (S.length : Int) := by omega
          clear hx hy hg3 hp o1 o2 o3
          rcases o456 with rfl | rfl | rfl
          · have HT : Hid (stp (vf vs) (-4) S.reverse = (x && y) :: S.reverse.drop (arO (-4))) := by show _ = _; rw [brev_top2 HP.out, HXY.out.1, HXY.out.2]; rfl
            cases x
            · go_wp2_with fail
              go_meet
              exact ⟨_, rfl, Below.refl _ _, HT.out⟩
            · go_wp2_with fail
              go_meet
              exact ⟨_, rfl, Below.refl _ _, HT.out⟩
          · have HT : Hid (stp (vf vs) (-5) S.reverse = (x || y) :: S.reverse.drop (arO (-5))) := by show _ = _; rw [brev_top2 HP.out, HXY.out.1, HXY.out.2]; rfl
            cases x
            · go_wp2_with fail
              go_meet
              exact ⟨_, rfl, Below.refl _ _, HT.out⟩
            · go_wp2_with fail
              go_meet
              exact ⟨_, rfl, Below.refl _ _, HT.out⟩
          · have HT : Hid (stp (vf vs) (-6) S.reverse = (x == y) :: S.reverse.drop (arO (-6))) := by show _ = _; rw [brev_top2 HP.out, HXY.out.1, HXY.out.2]; rfl
            go_wp2_with fail
            refine wp_region_held_drew (S := (fun w' => Below wr.heap.size wr w')) (by kernel_rfl) ?_ (fun hHeld => ?_)
            · try dsimp only
              exact (by repeat (first | exact Below.refl _ _ | assumption | refine Below.drew ?_ | refine Below.drewN ?_ _ | refine Below.allocT ?_ (Nat.le_refl _) _ | refine Below.setCell ?_ (by simp <;> omega) _ | refine Below.to ?_ (by assumption) (Nat.le_refl _)))
            refine zT 0 rfl ?_
            try simp only [zX]
            refine zT 1 rfl ?_
            try simp only [zX]
            refine zT 2 rfl ?_
            try simp only [zX]
            refine zT 3 rfl ?_
            try simp only [zX]
            refine zT 4 rfl ?_
            try simp only [zX]
            refine zT 5 rfl ?_
            try simp only [zX]
            refine zT 6 rfl ?_
            try simp only [zX]
            refine zT 7 rfl ?_
            try simp only [zX]
            refine zT 8 rfl ?_
            try simp only [zX]
            refine zT 9 rfl ?_
            try simp only [zX]
            refine zT 10 rfl ?_
            try simp only [zX]
            refine zT 11 rfl ?_
            try simp only [zX]
            refine wpAnyH_done (by kernel_rfl) ?_ _
            go_wp2_with fail
            go_meet
            exact ⟨_, rfl, hHeld, HT.out⟩
        have o7 : 0 ≤ o := by omega
        have k1 : (o == -1) = false := by simpa using o1
        have k2 : (o == -2) = false := by simpa using o2
        have k3 : (o == -3) = false := by simpa using o3
        have k4 : (o == -4) = false := by simp; omega
        have k5 : (o == -5) = false := by simp; omega
        have k6 : (o == -6) = false := by simp; omega
        obtain ⟨t, rfl⟩ : ∃ x : Nat, o = (x : Int) := ⟨o.toNat, by omega⟩
        have ht : t < vs.length := by have := HN.out; omega
        obtain ⟨rfl, hbv⟩ : Av = some ⟨bv, offv, none⟩ ∧ bv < w.heap.size := by
          rcases HAV.out with h | h
          · exact h
          · omega
        obtain ⟨x, hx⟩ : ∃ x, vs.getD t false = x := ⟨_, rfl⟩
        have cv : wr.cell? ⟨bv, offv + t, none⟩ = some (.bool x) := by
          have h1 := HCV.out t 0 ht (by omega)
          rw [Nat.mul_one, Nat.add_zero] at h1
          rw [← hx]
          exact (hB.out.cell (p := ⟨bv, offv + t, none⟩) hbv).trans h1
        have j1 : (t : Int) < (vs.length : Int) := by omega
        have HT : Hid (stp (vf vs) (t : Int) S.reverse = x :: S.reverse.drop (arO (t : Int))) := by
          show _ = _
          unfold stp arO
          rw [if_neg (by omega), if_neg (by omega), if_neg (by omega), if_neg (by omega), if_neg (by omega), if_neg (by omega), if_neg (by omega), if_neg (by omega), Int.toNat_natCast, ← hx]
          rfl
        clear hx o1 o2 o3 o456
        go_wp2_with fail
        go_meet
        exact ⟨x, rfl, Below.refl _ _, HT.out⟩
      case rest =>
        obtain ⟨y, rfl, hBc, hstp⟩ := hcut
        obtain ⟨r, hrn⟩ : ∃ r, S.length = r + arO o := ⟨w1, HSN.out⟩
        have HSTP := hide hstp
        have hcut := (hS.out.below hBc).cut (r := r) (by omega)
        have HBC : Hid (Below w.heap.size w wc) := Below.to hB.out hBc (Nat.le_refl _)
        have d0 : wc.cell? ⟨b, off + q, none⟩ = some (.int .i64 o) := (hBc.cell (p := ⟨b, off + q, none⟩) hbw).trans c0
        have hbc : b < wc.heap.size := Nat.lt_of_lt_of_le hbw hBc.size
        have hr1 : (S.length : Int) - (arO o : Int) = (r : Int) := by omega
        have hr2 : (r : Int) ≤ 100 := by omega
        have hr3 : r ≤ cap1 := by omega
        have hr4 : (r : Int) ≤ (cap1 : Int) := by omega
        have hcap3 : (cap1 : Int) ≤ 9223372036854775807 := by have := hcap2; unfold maxLen at this; omega
        have hwc : w.heap.size ≤ wc.heap.size := HBC.out.size
        have HCUT := hide hcut
        have HRN := hide hrn
        have gi4 : (arO o : Int) ≤ 2 := by unfold arO; split; omega; split <;> omega
        have hlo1 : ∀ i, (Value.slice A1 r cap1).ownBlock = some i → w.heap.size ≤ i := fun i hi => (World.ownsRow.lt hcut i hi).1
        have HLO := hide hlo1
        clear hcut hrn c0 hstp hBc hlo1
        go_wp2_with (first | (go_at_call 92; refine (operands_any _ _).mono ?_; rintro e w2 ⟨rfl, rfl⟩) | (at_builtin; go_must (refine wpList_append_own_at _ rfl (.tmp 90) (.tmp 92) _ rfl w.heap.size 4 i0 _ 1 1 Try.underlying46 hi0 hz0 hz1 hz2 rfl (by omega) _ _ _ rfl (HCUT.out.alloc _) ⟨wc.heap.size, 0, none⟩ 1 1 [.bool y] rfl rfl (World.news_of_block (heap_alloc_new wc _)) (by simp [Value.oneCell']) (by unfold maxLen; omega) (by omega) (by simp; omega) ?_); intro v1 w1 hown1 hg1 _ hat1; have HOWN := hide hown1; have HG1 := hide hg1; have HAT := hide hat1; clear hown1 hg1 hat1))
        have hown2 : BStk w.heap.size w1 v1 (S.take r ++ [y]) := by
          have h1 := HOWN.out
          have h2 : (S.take r ++ [y]).length = r + 1 := by simp; omega
          unfold BStk
          rw [h2, List.map_append]
          exact h1
        have hkeep : Keeps (fun i => (Value.slice A1 r cap1).ownBlock = some i) wc w1 :=
          Keeps.trans ((Keeps.refl _ wc).alloc _) (Keeps.of_grown HG1.out (fun k hk => hk)) (fun _ _ h => h)
        have hb2 : Below w.heap.size w w1 := HBC.out.trans (hkeep.below (B := w.heap.size) hwc (fun k hk => HLO.out k hk))
        have HOW2 := hide hown2
        have HB2 := hide hb2
        clear hown2 hkeep hb2
        go_wp2_with fail
        go_roundw
        case rel =>
          refine ⟨q, S.take r ++ [y], by omega, by go_num, HOW2.out, HB2.out, ?_⟩
          have hq1 : q < f.length := by omega
          show (S.take r ++ [y]).reverse = _
          rw [drop_getD hq1, evS_cons, HOQ.out, ← hev.out, HSTP.out, List.reverse_append]
          show [y] ++ _ = _
          rw [List.singleton_append]
          congr 1
          rw [List.drop_reverse]
          have : S.length - arO o = r := by have := HRN.out; omega
          rw [this]
        case measure => simp [intOf]
end Go.Proofs.Ytehadoecnmfeoaa
/- Holds: walk. -/
namespace Go.Proofs.Ytehadoecnmfeoaa
open Go.RowKit
set_option linter.unusedVariables false
set_option linter.unusedSimpArgs false
set_option maxRecDepth 100000 in
set_option maxHeartbeats 4000000 in
theorem Holds_any (m : Mo) (f : List Int) (vs : List Bool) (ov rv fv vv : Value) (w : World) (hs : SizedM m) (hl : f.length ≤ maxLen) (h : MoAt w w.heap.size ov rv m) (hf : Ints w w.heap.size fv f) (hv : Bols w w.heap.size vv vs) :
    Calls Try.prog 97 #[.agg #[ov, rv], fv, vv] w fun e w' => e = .returned (.tuple #[.bool (holB m f vs), .int .i64 (holE m f vs)]) ∧ Below w.heap.size w w' := by
  obtain ⟨A, cap, hov⟩ := Sl.form h.o
  obtain ⟨Ar, capr, hrv⟩ := h.r.form
  obtain ⟨Al, capl, hlv⟩ := Sl.form hf
  obtain ⟨Av, capv, hvv⟩ := Sl.form hv
  have H := hide h
  have HF := hide hf
  have HV := hide hv
  have HS := hide hs
  subst hov hrv hlv hvv
  clear h hf hv hs
  go_enter Try.func97, Try.ntmps97
  go_upto_region 1 with (fail)
  generalize hw0 : World.alloc _ _ = w0
  obtain ⟨hb0, hB0, hs0⟩ := alloc1 hw0
  clear hw0
  have HX0 : Hid (MoBox w0 w.heap.size (.slice A m.opts.length cap) (.slice Ar m.rules.length capr)) := hb0
  have HB0 := hide hB0
  have c0 := cellOf hb0 0
  have c1 := cellOf hb0 1
  have hB2 : Below w.heap.size w (w0.alloc (.cells #[.slice Al f.length capl] 51 (0, 0))) := Below.allocT hB0 (Nat.le_refl _) _
  have hX2 : MoBox (w0.alloc (.cells #[.slice Al f.length capl] 51 (0, 0))) w.heap.size (.slice A m.opts.length cap) (.slice Ar m.rules.length capr) := box_to hb0 (Below.allocT (Below.refl _ _) (Nat.le_refl _) _)
  have hck := check_any m [f] (.slice A m.opts.length cap) (.slice Ar m.rules.length capr) (.slice (some ⟨w0.heap.size, 0, none⟩) 1 1) _ HS.out (sized_one hl) (H.out.up hB2) (forms_one (heap_new _ _ _ rfl) (by simp) (HF.out.up hB2))
  have HCK := hide hck
  have HB2 := hide hB2
  have HX2 := hide hX2
  clear hb0 hB0 hs0 hck hB2 hX2
  by_cases he : m.errF [f] = 0
  · have HE := hide he
    go_upto_region 4 with (go_at_call 88; refine HCK.out.mono ?_; rw [HE.out]; rintro e w1 ⟨rfl, hB1⟩; have hbx := box_to HX2.out hB1; have d0 := cellOf hbx 0; have d1 := cellOf hbx 1; have HB1 : Hid (Below w.heap.size w w1) := Below.to HB2.out hB1 (Nat.le_refl _); clear hbx hB1 c0 c1)
    by_cases hn : vs.length = m.opts.length
    · obtain ⟨h1, h2⟩ := hol_ok he hn
      have e1 : ((vs.length : Int) != (m.opts.length : Int)) = false := by simp; omega
      have ht := holds_any f m.opts.length vs (.slice Al f.length capl) (.slice Av vs.length capv) w1 ((Mo.okF he).2 f (by simp)) (HF.out.up HB1.out) (Sl.up HV.out HB1.out) hn
      have HT := hide ht
      have H1 := hide h1
      have H2 := hide h2
      clear ht h1 h2 he hn
      go_wp2_with (go_at_call 53; refine HT.out.mono ?_; rintro e w2 ⟨rfl, hB3⟩)
      go_ret2
      exact ⟨by rw [H1.out, H2.out]; rfl, Below.to HB1.out hB3 (Nat.le_refl _)⟩
    · obtain ⟨h1, h2⟩ := hol_arg he hn
      have e1 : ((vs.length : Int) != (m.opts.length : Int)) = true := by simp; omega
      have H1 := hide h1
      have H2 := hide h2
      clear h1 h2 he hn
      go_wp2_with fail
      go_ret2
      exact ⟨by rw [H1.out, H2.out]; rfl, HB1.out⟩
  · obtain ⟨h1, h2⟩ := hol_err (vs := vs) he
    obtain ⟨z, hz⟩ : ∃ z, m.errF [f] = z := ⟨_, rfl⟩
    rw [hz] at he h1
    have hz1 : (z != 0) = true := by simpa using he
    have HZ := hide hz
    have H1 := hide h1
    have H2 := hide h2
    clear he hz h1 h2
    go_wp2_with (go_at_call 88; refine HCK.out.mono ?_; rw [HZ.out]; rintro e w1 ⟨rfl, hB1⟩)
    go_ret2
    exact ⟨by rw [H1.out, H2.out]; rfl, Below.to HB2.out hB1 (Nat.le_refl _)⟩
end Go.Proofs.Ytehadoecnmfeoaa
/- Buildable: walk. -/
namespace Go.Proofs.Ytehadoecnmfeoaa
open Go.RowKit
set_option linter.unusedVariables false
set_option linter.unusedSimpArgs false
set_option maxRecDepth 100000 in
theorem holdsClo_any (f : List Int) (N : Nat) (vs : List Bool) (fv vv : Value) (vb : Nat) (W : World) (hok : validF N f = true) (hbx : W.heap[vb]? = some (.cells #[vv] 46 (0, 0))) (hf : Ints W W.heap.size fv f) (hv : Bols W W.heap.size vv vs) (hN : vs.length = N) :
    Calls Try.prog 52 #[fv, .pointer (some ⟨vb, 0, none⟩)] W fun e w' => e = .returned (.bool (!evF1 (vf vs) f)) ∧ Below W.heap.size W w' := by
  have hh := holds_any f N vs fv vv W hok hf hv hN
  obtain ⟨Al, capl, hlv⟩ := Sl.form hf
  obtain ⟨Av, capv, hvv⟩ := Sl.form hv
  subst hlv hvv
  have c0 := cellOf hbx 0
  have HH := hide hh
  clear hh hf hv hN hok hbx
  go_enter Try.func52, Try.ntmps52
  go_wp2_with (go_at_call 53; refine HH.out.mono ?_; rintro e w1 ⟨rfl, hB1⟩)
  go_ret
  exact ⟨rfl, hB1⟩
set_option maxRecDepth 100000 in
theorem indexForms_holds (p : List Int → Bool) (cap0 : Value) (v : Value) (fs : List (List Int)) (w : World) (hm : fs.length ≤ maxLen) (h : Forms w w.heap.size v fs)
    (hf : ∀ (i : Nat) (f : List Int) (fv : Value) (W : World), i < fs.length → fs.getD i [] = f → Below w.heap.size w W → Ints W w.heap.size fv f → Calls Try.prog 52 #[fv, cap0] W fun e w' => e = .returned (.bool (p f)) ∧ Below W.heap.size W w') :
    Calls Try.prog 51 #[v, .func (.func 52) #[] #[cap0]] w fun e w' => e = .returned (.int .i64 (idxI p fs)) ∧ Below w.heap.size w w' := by
  unfold maxLen at hm
  obtain ⟨fvs, ⟨A, b, off, cap, rfl, hnc, hA, hc⟩, hin⟩ := h
  have HC := hide hc
  have HA := hide hA
  have HF := hide hf
  have HIN := hide hin
  clear hc hA hf hin
  go_enter Try.func51, Try.ntmps51
  go_wp2
  go_loopw [5, 8] (fun _ i wr => ∃ k : Nat, k ≤ fs.length ∧ i = .int .i64 k ∧ Hid (∀ j, j < k → p (fs.getD j []) = false) ∧ Below w.heap.size w wr) (fun _ i _ => fs.length - (intOf i).toNat)
  case atStart => exact ⟨0, Nat.zero_le _, rfl, fun j hj => by omega, Below.refl _ _⟩
  case round =>
    obtain ⟨k, hk, rfl, hz, hB⟩ := hrel
    by_cases hlt : k < fs.length
    · obtain ⟨rfl, hbb⟩ : A = some ⟨b, off, none⟩ ∧ b < w.heap.size := by
        rcases HA.out with h | h
        · exact h
        · omega
      obtain ⟨f, hfe⟩ : ∃ f, fs.getD k [] = f := ⟨_, rfl⟩
      have c0 : wr.cell? ⟨b, off + k, none⟩ = some (fvs k) := by
        have h1 := HC.out k 0 hlt (by omega)
        rw [Nat.mul_one, Nat.add_zero] at h1
        exact (hB.cell (p := ⟨b, off + k, none⟩) hbb).trans h1
      have hi : Ints wr w.heap.size (fvs k) f := by
        have := (HIN.out k hlt).below hB
        rwa [hfe] at this
      have hcl := HF.out k f (fvs k) wr hlt hfe hB hi
      obtain ⟨Af, capf, hfv⟩ := Sl.form hi
      rw [hfv] at c0 hcl
      have HFE := hide hfe
      clear hfe hi hfv
      by_cases hp : p f = true
      · rw [hp] at hcl
        have HCL := hide hcl
        have HP := hide hp
        clear hcl hp
        go_wp2_with (go_at_call 52; refine HCL.out.mono ?_; rintro e w1 ⟨rfl, hB1⟩)
        go_ret
        exact ⟨ret_int (idxI_at p [] fs k hz.out hlt (by rw [HFE.out]; exact HP.out)).symm, (by repeat (first | exact Below.refl _ _ | assumption | refine Below.drew ?_ | refine Below.drewN ?_ _ | refine Below.allocT ?_ (Nat.le_refl _) _ | refine Below.setCell ?_ (by simp <;> omega) _ | refine Below.to ?_ (by assumption) (Nat.le_refl _)))⟩
      · have hp' : p f = false := by simpa using hp
        rw [hp'] at hcl
        have HCL := hide hcl
        have HP := hide hp'
        clear hcl hp hp'
        go_wp2_with (go_at_call 52; refine HCL.out.mono ?_; rintro e w1 ⟨rfl, hB1⟩)
        go_roundw
        case rel => exact ⟨k + 1, by omega, by go_num, fun j hj => by
            rcases Nat.lt_or_ge j k with h | h
            · exact hz.out j h
            · rw [show j = k from by omega, HFE.out]; exact HP.out, (by repeat (first | exact Below.refl _ _ | assumption | refine Below.drew ?_ | refine Below.drewN ?_ _ | refine Below.allocT ?_ (Nat.le_refl _) _ | refine Below.setCell ?_ (by simp <;> omega) _ | refine Below.to ?_ (by assumption) (Nat.le_refl _)))⟩
        case measure => simp [intOf]; omega
    · go_wp2
      go_ret
      exact ⟨ret_int (idxI_none p [] fs (fun j hj => hz.out j (by omega))).symm, (by repeat (first | exact Below.refl _ _ | assumption | refine Below.drew ?_ | refine Below.drewN ?_ _ | refine Below.allocT ?_ (Nat.le_refl _) _ | refine Below.setCell ?_ (by simp <;> omega) _ | refine Below.to ?_ (by assumption) (Nat.le_refl _)))⟩

set_option maxRecDepth 100000 in
set_option maxHeartbeats 4000000 in
theorem Buildable_any (m : Mo) (vs : List Bool) (ov rv vv : Value) (w : World) (hs : SizedM m) (h : MoAt w w.heap.size ov rv m) (hv : Bols w w.heap.size vv vs) :
    Calls Try.prog 18 #[.agg #[ov, rv], vv] w fun e w' => e = .returned (.tuple #[.int .i64 (buiR m vs), .bool (buiB m vs), .int .i64 (buiE m vs)]) ∧ Below w.heap.size w w' := by
  obtain ⟨A, cap, hov⟩ := Sl.form h.o
  obtain ⟨Ar, capr, hrv⟩ := h.r.form
  obtain ⟨Av, capv, hvv⟩ := Sl.form hv
  have H := hide h
  have HV := hide hv
  have HS := hide hs
  subst hov hrv hvv
  clear h hv hs
  go_enter Try.func18, Try.ntmps18
  go_upto_region 1 with (fail)
  obtain ⟨w0, hw0⟩ : ∃ w0 : World, (w.alloc (.cells #[.slice A m.opts.length cap, .slice Ar m.rules.length capr] 35)).alloc (.cells #[.slice Av vs.length capv] 46) = w0 := ⟨_, rfl⟩
  have hB0 : Below w.heap.size w w0 := by rw [← hw0]; exact Below.allocT (Below.allocT (Below.refl _ _) (Nat.le_refl _) _) (Nat.le_refl _) _
  have hb0 : w0.heap[w.heap.size]? = some (.cells #[.slice A m.opts.length cap, .slice Ar m.rules.length capr] 35 (0, 0)) := by rw [← hw0, heap_old _ _ _ (by simp)]; exact heap_new _ _ _ rfl
  have hb1 : w0.heap[w.heap.size + 1]? = some (.cells #[.slice Av vs.length capv] 46 (0, 0)) := by rw [← hw0]; exact heap_new _ _ _ (by simp)
  rw [hw0]
  clear hw0
  have HX0 : Hid (MoBox w0 w.heap.size (.slice A m.opts.length cap) (.slice Ar m.rules.length capr)) := hb0
  have HY0 := hide hb1
  have HB0 := hide hB0
  have c0 := cellOf hb0 0
  have c1 := cellOf hb0 1
  have hck := CheckModel_any m (.slice A m.opts.length cap) (.slice Ar m.rules.length capr) w0 HS.out (H.out.up hB0)
  have HCK := hide hck
  clear hb0 hb1 hB0 hck
  by_cases he : m.err = 0
  · have HE := hide he
    go_upto_region 4 with (go_at_call 50; refine HCK.out.mono ?_; rw [HE.out]; rintro e w1 ⟨rfl, hB1⟩; have hbx := box_to HX0.out hB1; have d0 := cellOf hbx 0; have d1 := cellOf hbx 1; have hby := box_to HY0.out hB1; have f0 := cellOf hby 0; have HY1 := hide hby; have HB1 : Hid (Below w.heap.size w w1) := Below.to HB0.out hB1 (Nat.le_refl _); clear hbx hby hB1 c0 c1)
    by_cases hn : vs.length = m.opts.length
    · obtain ⟨h1, h2, h3⟩ := bui_ok he hn
      have e1 : ((vs.length : Int) != (m.opts.length : Int)) = false := by simp; omega
      have hix := indexForms_holds (fun f => !evF1 (vf vs) f) (.pointer (some ⟨w.heap.size + 1, 0, none⟩)) (.slice Ar m.rules.length capr) m.rules w1 HS.out.r.1 (H.out.up HB1.out).r
        (fun i f fv W hi hfe hB hin => holdsClo_any f m.opts.length vs fv _ (w.heap.size + 1) W ((Mo.ok he).2.2.2 f (by rw [← hfe]; exact getD_mem hi)) (box_to HY1.out hB) (hin.more hB.size) (Sl.up (Sl.up HV.out HB1.out) hB) hn)
      obtain ⟨z, hz⟩ : ∃ z, fstR vs m.rules = z := ⟨_, rfl⟩
      rw [show idxI (fun f => !evF1 (vf vs) f) m.rules = z from hz] at hix
      rw [hz] at h2 h3
      have HIX := hide hix
      have H1 := hide h1
      have H2 := hide h2
      have H3 := hide h3
      clear hix h1 h2 h3 he hn hz
      go_wp2_with (go_at_call 51; refine HIX.out.mono ?_; rintro e w2 ⟨rfl, hB2⟩)
      go_ret3
      exact ⟨by rw [H1.out, H2.out, H3.out]; rfl, Below.to HB1.out hB2 (Nat.le_refl _)⟩
    · have h1 : buiE m vs = 1 := by unfold buiE; rw [if_neg (by simp [he]), if_pos hn]
      obtain ⟨h2, h3⟩ := bui_bad h1 (by omega)
      have e1 : ((vs.length : Int) != (m.opts.length : Int)) = true := by simp; omega
      have H1 := hide h1
      have H2 := hide h2
      have H3 := hide h3
      clear h1 h2 h3 he hn
      go_wp2_with fail
      go_ret3
      exact ⟨by rw [H1.out, H2.out, H3.out]; rfl, HB1.out⟩
  · obtain ⟨z, hz⟩ : ∃ z, m.err = z := ⟨_, rfl⟩
    have h1 : buiE m vs = z := by unfold buiE; rw [if_pos he, hz]
    rw [hz] at he
    obtain ⟨h2, h3⟩ := bui_bad h1 he
    have hz1 : (z != 0) = true := by simpa using he
    have HZ := hide hz
    have H1 := hide h1
    have H2 := hide h2
    have H3 := hide h3
    clear he hz h1 h2 h3
    go_wp2_with (go_at_call 50; refine HCK.out.mono ?_; rw [HZ.out]; rintro e w1 ⟨rfl, hB1⟩)
    go_ret3
    exact ⟨by rw [H1.out, H2.out, H3.out]; rfl, Below.to HB0.out hB1 (Nat.le_refl _)⟩
end Go.Proofs.Ytehadoecnmfeoaa

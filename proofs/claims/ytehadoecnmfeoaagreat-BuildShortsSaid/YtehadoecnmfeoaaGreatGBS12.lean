/- Part 12 of this claim's texts: walks and plain laws. -/
import Derived.Test.YtehadoecnmfeoaaGreatRows
import Derived.Test.YtehadoecnmfeoaaGreatGBS10
import Derived.Test.YtehadoecnmfeoaaGreatGBS11
import Derived.OwnWalk
import Derived.Deep.DeepMust
import Derived.Deep.RegionHeld3
import Derived.Deep.DrawnRows
import Derived.Test.YtehadoecnmfeoaaGreatGBS3
import Derived.Test.YtehadoecnmfeoaaGreatGBS8
set_option linter.unusedVariables false
set_option linter.unusedSimpArgs false
set_option linter.unusedSectionVars false
namespace Go.Proofs.YtehadoecnmfeoaaGreat
open Go.RowKit
def holE (m : Mo) (f : List Int) (vs : List Bool) : Int := if m.errF [f] ≠ 0 then m.errF [f] else if vs.length ≠ m.opts.length then 1 else 0
def holB (m : Mo) (f : List Int) (vs : List Bool) : Bool := if holE m f vs = 0 then evF1 (vf vs) f else false
theorem hol_err {m : Mo} {f : List Int} {vs : List Bool} (h : m.errF [f] ≠ 0) : holE m f vs = m.errF [f] ∧ holB m f vs = false := by
 have h1 : holE m f vs = m.errF [f] := by unfold holE; rw [if_pos h]
 exact ⟨h1, by unfold holB; rw [h1, if_neg h]⟩
theorem hol_arg {m : Mo} {f : List Int} {vs : List Bool} (h : m.errF [f] = 0) (h2 : vs.length ≠ m.opts.length) : holE m f vs = 1 ∧ holB m f vs = false := by
 have h1 : holE m f vs = 1 := by unfold holE; rw [if_neg (by simp [h]), if_pos h2]
 exact ⟨h1, by unfold holB; rw [h1, if_neg (by omega)]⟩
theorem hol_ok {m : Mo} {f : List Int} {vs : List Bool} (h : m.errF [f] = 0) (h2 : vs.length = m.opts.length) : holE m f vs = 0 ∧ holB m f vs = evF1 (vf vs) f := by
 have h1 : holE m f vs = 0 := by unfold holE; rw [if_neg (by simp [h]), if_neg (by simp [h2])]
 exact ⟨h1, by unfold holB; rw [if_pos h1]⟩
def fstR (vs : List Bool) (rules : List (List Int)) : Int := idxI (fun f => !evF1 (vf vs) f) rules
set_option maxRecDepth 100000 in
set_option maxHeartbeats 4000000 in
theorem rfirst_any (m : Mo) (vs : List Bool) (ov rv vv : Value) (w : World) (h : MoAt w w.heap.size ov rv m) (hv : Bols w w.heap.size vv vs) (he : m.err = 0) (hn : vs.length = m.opts.length) :
  Calls Tryz.prog 129 #[.agg #[ov, rv], vv] w fun e w' => e = .returned (.int .i64 (fstR vs m.rules)) ∧ Below w.heap.size w w' := by
 obtain ⟨A, cap, hov⟩ := Sl.form h.o
 obtain ⟨Av, capv, hvv⟩ := Sl.form hv
 have hok := (Mo.ok he).2.2.2
 have h60 := (Mo.ok he).2.1
 obtain ⟨fvs, ⟨Al, bl, offl, capl, rfl, hncl, hAl, hcl⟩, hfi⟩ := h.r
 have HAL := hide hAl
 have HCL := hide hcl
 have HFI := hide hfi
 have HV := hide hv
 have HOK := hide hok
 have HN := hide hn
 subst hov hvv
 clear h hv he hn hok hAl hcl hfi
 go_enter Tryz.func129, Tryz.ntmps129
 go_upto_region 1 with (fail)
 generalize hw0 : World.alloc _ _ = w0
 obtain ⟨hb0, hB0, hs0⟩ := alloc1 hw0
 clear hw0
 have HX0 : Hid (MoBox w0 w.heap.size (.slice A m.opts.length cap) (.slice Al m.rules.length capl)) := hb0
 have HB0 := hide hB0
 have c0 := cellOf hb0 0
 have c1 := cellOf hb0 1
 have hlt0 := box_lt hb0
 clear hb0 hB0 hs0
 go_wp2_with fail
 go_loop [5] (fun i => ∃ t : Nat, t ≤ m.rules.length ∧ i = .int .i64 t ∧ Hid (∀ j, j < t → (fun f => !evF1 (vf vs) f) (m.rules.getD j []) = false)) (fun i => m.rules.length - (intOf i).toNat)
 case atStart => exact ⟨0, Nat.zero_le _, rfl, fun j hj => by omega⟩
 case round =>
  obtain ⟨t, ht, rfl, hall⟩ := hrel
  by_cases htl : t < m.rules.length
  ·
   obtain ⟨rfl, hbb⟩ : Al = some ⟨bl, offl, none⟩ ∧ bl < w.heap.size := by
    rcases HAL.out with h | h
    ·
     exact h
    ·
     omega
   obtain ⟨f, hfe⟩ : ∃ f, m.rules.getD t [] = f := ⟨_, rfl⟩
   have hfm : f ∈ m.rules := by rw [← hfe]; exact getD_mem htl
   have hin : Ints w w.heap.size (fvs t) f := by have := HFI.out t htl; rwa [hfe] at this
   obtain ⟨Af, capf, hff⟩ := Sl.form hin
   have q0 : w0.cell? ⟨bl, offl + t, none⟩ = some (.slice Af f.length capf) := by
    have h1 := HCL.out t 0 htl (by omega)
    rw [Nat.mul_one, Nat.add_zero, hff] at h1
    exact (HB0.out.cell (p := ⟨bl, offl + t, none⟩) hbb).trans h1
   have lb : bl < w0.heap.size := Nat.lt_of_lt_of_le hbb HB0.out.size
   rw [hff] at hin
   have htr := True_any f m.opts.length vs (.slice Af f.length capf) (.slice Av vs.length capv) w.heap.size w0 (hin.below HB0.out) (Sl.below HV.out HB0.out) HN.out (HOK.out f hfm)
   have it0 : (0 : Int) ≤ (t : Int) := by omega
   have it2 : (t : Int) < (m.rules.length : Int) := by omega
   have HFE := hide hfe
   cases hx : evF1 (vf vs) f with
   | true =>
    rw [hx] at htr
    have HTR := hide htr
    have HX := hide hx
    clear hfm hin hff htr hx hfe
    go_wp2_with (go_at_call 61; refine HTR.out.mono ?_; rintro e w2 ⟨rfl, rfl⟩)
    go_round
    case rel => exact ⟨t + 1, by omega, by go_num, fun j hj => by
      rcases Nat.lt_or_ge j t with h | h
      ·
       exact hall.out j h
      ·
       rw [show j = t from by omega, HFE.out]; simp only [HX.out]; rfl⟩
    case measure => simp [intOf]; omega
   | false =>
    rw [hx] at htr
    have HTR := hide htr
    have hid : fstR vs m.rules = t := idxI_at _ [] m.rules t hall.out htl (by rw [hfe]; simp only [hx]; rfl)
    have HID := hide hid
    clear hfm hin hff htr hx hfe hid
    go_wp2_with (go_at_call 61; refine HTR.out.mono ?_; rintro e w2 ⟨rfl, rfl⟩)
    go_ret
    exact ⟨ret_int HID.out.symm, HB0.out⟩
  ·
   have hid : fstR vs m.rules = -1 := idxI_none _ [] m.rules (fun j hj => hall.out j (by omega))
   have HID := hide hid
   clear hid
   go_wp2_with fail
   go_ret
   exact ⟨ret_int HID.out.symm, HB0.out⟩
def buiE (m : Mo) (vs : List Bool) : Int := if m.err ≠ 0 then m.err else if vs.length ≠ m.opts.length then 1 else 0
def buiR (m : Mo) (vs : List Bool) : Int := if buiE m vs = 0 then fstR vs m.rules else 0
def buiB (m : Mo) (vs : List Bool) : Bool := if buiE m vs = 0 then decide (fstR vs m.rules < 0) else false
def BStk (B : Nat) (w : World) (sv : Value) (S : List Bool) : Prop := w.ownsRow B 4 1 sv S.length (S.map Value.bool)
theorem BStk.below {B : Nat} {w w' : World} {sv : Value} {S : List Bool} (h : BStk B w sv S) (hb : Below w.heap.size w w') : BStk B w' sv S := owns_below h hb
theorem BStk.shape {B : Nat} {w : World} {sv : Value} {S : List Bool} (h : BStk B w sv S) : ∃ A cap, sv = .slice A S.length cap ∧ S.length ≤ cap ∧ cap ≤ maxLen := by
 rcases h.2 with ⟨h1, h2⟩ | ⟨g, cap, cur, h1, _, _, h2, h3, _⟩
 ·
  exact ⟨none, 0, by rw [h1, h2], by omega, by unfold maxLen; omega⟩
 ·
  exact ⟨_, cap, h1, h2, h3⟩
theorem BStk.cells {B : Nat} {w : World} {A : Option Addr} {n cap : Nat} {S : List Bool} (h : BStk B w (.slice A n cap) S) (hn : 0 < S.length) : ∃ g, A = some ⟨g, 0, none⟩ ∧ g < w.heap.size ∧ ∀ i, i < S.length → w.cell? ⟨g, i, none⟩ = some (.bool (S.getD i false)) := by
 obtain ⟨g, cap', hv, _, hl⟩ := World.ownsRow.form h hn
 injection hv with h1 h2 h3
 subst h1
 refine ⟨g, rfl, hl, fun i hi => ?_⟩
 have := World.ownsRow.cells (g := g) h rfl i (.bool (S.getD i false)) (by simp [hi])
 have he : (⟨g, 0, none⟩ : Addr).add i = ⟨g, i, none⟩ := by
  unfold Addr.add
  split
  ·
   rename_i h0; rw [h0]
  ·
   rw [Nat.zero_add]
 rwa [he] at this
theorem BStk.cut {B : Nat} {w : World} {A : Option Addr} {n cap : Nat} {S : List Bool} (h : BStk B w (.slice A n cap) S) {r : Nat} (hr : r ≤ S.length) : w.ownsRow B 4 1 (.slice A r cap) r ((S.take r).map Value.bool) := by
 obtain ⟨h1, ⟨h2, h3⟩ | ⟨g, cap', cur, h2, h3, h4, h5, h6, h7, h8⟩⟩ := h
 ·
  injection h2 with e1 e2 e3
  subst e1 e3
  obtain rfl : r = 0 := by omega
  exact ⟨by simp, .inl ⟨rfl, rfl⟩⟩
 ·
  injection h2 with e1 e2 e3
  subst e1 e3
  refine ⟨by simp; omega, .inr ⟨g, cap, cur, rfl, h3, h4, by omega, h6, h7, ?_⟩⟩
  rw [List.map_take, ← h8, List.take_take, Nat.mul_one, Nat.mul_one, Nat.min_eq_left hr]
theorem brev_top {S : List Bool} {p : Nat} (h : S.length = p + 1) : S.reverse = S.getD p false :: (S.take p).reverse := by
 have : S = S.take p ++ [S.getD p false] := by
  have h1 := List.take_succ_eq_append_getElem (l := S) (i := p) (by omega)
  rw [List.take_of_length_le (by omega)] at h1
  rw [List.getD_eq_getElem?_getD, List.getElem?_eq_getElem (by omega)]
  exact h1
 conv => lhs; rw [this]
 simp
theorem brev_top2 {S : List Bool} {p : Nat} (h : S.length = p + 2) : S.reverse = S.getD (p + 1) false :: S.getD p false :: (S.take p).reverse := by
 rw [brev_top h, brev_top (S := S.take (p + 1)) (p := p) (by simp; omega), List.take_take, Nat.min_eq_left (by omega)]
 congr 2
 simp [List.getD_eq_getElem?_getD]
def BopP (v : Nat → Bool) (o : Int) (S : List Bool) (w : World) (x : Value) (wx : World) : Prop := ∃ y : Bool, x = .bool y ∧ Below w.heap.size w wx ∧ stp v o S.reverse = y :: S.reverse.drop (arO o)
set_option maxRecDepth 100000 in
set_option maxHeartbeats 4000000 in
theorem holds_any (f : List Int) (N : Nat) (vs : List Bool) (fv vv : Value) (w : World) (hv : validF N f = true) (hf : Ints w w.heap.size fv f) (hb : Bols w w.heap.size vv vs) (hN : vs.length = N) :
  Calls Tryz.prog 92 #[fv, vv] w fun e w' => e = .returned (.bool (evF1 (vf vs) f)) ∧ Below w.heap.size w w' := by
 obtain ⟨i0, hi0, hz0, hz1, hz2⟩ := info_parts infoBool
 obtain ⟨p1, p2⟩ := validF_pos hv
 obtain ⟨A, b, off, cap, rfl, hnc, hA, hc⟩ := hf
 obtain ⟨Av, bv, offv, capv, rfl, hncv, hAv, hcv⟩ := hb
 obtain ⟨rfl, hbb⟩ : A = some ⟨b, off, none⟩ ∧ b < w.heap.size := by
  rcases hA with h | h
  ·
   exact h
  ·
   omega
 have HC := hide hc
 have HCV := hide hcv
 have HAV := hide hAv
 have HV := hide hv
 have HN := hide hN
 clear hv hc hcv hA hAv hN
 have hlen : (f.length : Int) ≤ 100 := by omega
 have hnil : Hid (([] : List Bool).reverse = evS (vf vs) (f.drop f.length)) := by
  show ([] : List Bool).reverse = _
  rw [List.drop_length]; rfl
 go_enter Tryz.func92, Tryz.ntmps92
 go_wp2
 go_loopw [5, 6] (fun sv i wr => ∃ (j : Nat) (S : List Bool), j ≤ f.length ∧ i = .int .i64 ((j : Int) - 1) ∧ Hid (BStk w.heap.size wr sv S) ∧ Hid (Below w.heap.size w wr) ∧ Hid (S.reverse = evS (vf vs) (f.drop j))) (fun _ i _ => (intOf i + 1).toNat)
 case atStart => exact ⟨f.length, [], Nat.le_refl _, by go_num, World.ownsRow_nil w w.heap.size 4 1, Below.refl _ _, hnil⟩
 case round =>
  obtain ⟨j, S, hj, rfl, hS, hB, hev⟩ := hrel
  match j, hj, hev with
  | 0, _, hev =>
   have hS1 : S.length = 1 := by
    have h1 := hev.out
    rw [List.drop_zero, validF_one HV.out] at h1
    have := congrArg List.length h1
    simpa using this
   obtain ⟨A1, cap1, rfl, hcap1, hcap2⟩ := hS.out.shape
   obtain ⟨g, rfl, hg1, hg3⟩ := hS.out.cells (by omega)
   have x0 := hg3 0 (by omega)
   have hk0 : (0 : Int) < (S.length : Int) := by omega
   have hk1 : 0 < S.length := by omega
   have HS1 := hide hS1
   obtain ⟨x, hx⟩ : ∃ x, S.getD 0 false = x := ⟨_, rfl⟩
   rw [hx] at x0
   have HX := hide hx
   clear hg3 hS1 hx
   go_wp2_with fail
   go_ret
   refine ⟨ret_bool ?_, hB.out⟩
   have h1 := hev.out
   rw [List.drop_zero, validF_one HV.out, brev_top (p := 0) HS1.out, HX.out] at h1
   injection h1
  | q + 1, hj, hev =>
   have hq : ((q + 1 : Nat) : Int) - 1 = (q : Int) := by omega
   rw [hq]
   clear hq
   obtain ⟨o, ho⟩ : ∃ o, f.getD q 0 = o := ⟨_, rfl⟩
   obtain ⟨w1, _, hv2, hlo, hhi⟩ := vld_at (by have := HV.out; simp only [validF, Bool.and_eq_true] at this; exact this.1) (show q < f.length by omega)
   rw [ho] at hv2 hlo hhi
   have hSn : S.length = w1 + arO o := by
    have h1 := evS_len (vf vs) _ _ hv2
    rw [← hev.out, List.length_reverse] at h1
    exact h1
   have c0 : wr.cell? ⟨b, off + q, none⟩ = some (.int .i64 o) := by
    have h1 := HC.out q 0 (by omega) (by omega)
    rw [Nat.mul_one, Nat.add_zero, ho] at h1
    exact (hB.out.cell (p := ⟨b, off + q, none⟩) hbb).trans h1
   have hwr := hB.out.size
   have hbw : b < wr.heap.size := by omega
   obtain ⟨A1, cap1, rfl, hcap1, hcap2⟩ := hS.out.shape
   have hS100 : S.length ≤ 100 := by
    have h1 := vld_le _ _ hv2
    rw [List.length_drop] at h1
    omega
   have HOQ := hide ho
   have HSN := hide hSn
   have HV2 := hide hv2
   have gi0 : (0 : Int) ≤ (q : Int) := by omega
   have gi1 : (q : Int) < (f.length : Int) := by omega
   have gi2 : (0 : Int) ≤ (S.length : Int) := by omega
   have gi3 : (S.length : Int) ≤ 100 := by omega
   clear ho hSn hv2
   go_upto_block 2 with (fail)
   go_cut [7] from 12 to 81 (fun x wx => BopP (vf vs) o S wr x wx)
   case first =>
    by_cases o1 : o = -1
    ·
     subst o1
     go_wp2_with fail
     go_meet
     exact ⟨true, rfl, Below.refl _ _, rfl⟩
    by_cases o2 : o = -2
    ·
     subst o2
     go_wp2_with fail
     go_meet
     exact ⟨false, rfl, Below.refl _ _, rfl⟩
    by_cases o3 : o = -3
    ·
     subst o3
     obtain ⟨p, hp⟩ : ∃ p, S.length = p + 1 := ⟨w1, HSN.out⟩
     obtain ⟨g, rfl, hg1, hg3⟩ := hS.out.cells (by omega)
     have x0 := hg3 p (by omega)
     obtain ⟨x, hx⟩ : ∃ x, S.getD p false = x := ⟨_, rfl⟩
     rw [hx] at x0
     have HX := hide hx
     have HP := hide hp
     have k0 : (1 : Int) ≤ (S.length : Int) := by omega
     have k1 : ((S.length : Int) - 1).toNat = p := by omega
     clear hx hg3 hp
     go_wp2_with fail
     go_meet
     exact ⟨!x, rfl, Below.refl _ _, by rw [brev_top HP.out, HX.out]; rfl⟩
    by_cases o456 : o = -4 ∨ o = -5 ∨ o = -6
    ·
     obtain ⟨p, hp⟩ : ∃ p, S.length = p + 2 := ⟨w1, by
      have := HSN.out
      unfold arO at this
      rw [if_neg o3, if_pos o456] at this
      exact this⟩
     obtain ⟨g, rfl, hg1, hg3⟩ := hS.out.cells (by omega)
     have x0 := hg3 (p + 1) (by omega)
     have y0 := hg3 p (by omega)
     obtain ⟨x, hx⟩ : ∃ x, S.getD (p + 1) false = x := ⟨_, rfl⟩
     obtain ⟨y, hy⟩ : ∃ y, S.getD p false = y := ⟨_, rfl⟩
     rw [hx] at x0
     rw [hy] at y0
     have HXY := hide (And.intro hx hy)
     have HP := hide hp
     have k0 : (1 : Int) ≤ (S.length : Int) := by omega
     have k1 : ((S.length : Int) - 1).toNat = p + 1 := by omega
     have k2 : (2 : Int) ≤ (S.length : Int) := by omega
     have k3 : ((S.length : Int) - 2).toNat = p := by omega
     have k4 : IntKind.i64.wrap ((S.length : Int) - 1) = (S.length : Int) - 1 := IntWalk.i64_in _ (by omega)
     have k5 : IntKind.i64.wrap ((S.length : Int) - 2) = (S.length : Int) - 2 := IntWalk.i64_in _ (by omega)
     have k6 : (S.length : Int) - 1 < (S.length : Int) := by omega
     have k7 : (S.length : Int) - 2 < (S.length : Int) := by omega
     clear hx hy hg3 hp o1 o2 o3
     rcases o456 with rfl | rfl | rfl
     ·
      have HT : Hid (stp (vf vs) (-4) S.reverse = (x && y) :: S.reverse.drop (arO (-4))) := by show _ = _; rw [brev_top2 HP.out, HXY.out.1, HXY.out.2]; rfl
      cases x
      ·
       go_wp2_with fail
       go_meet
       exact ⟨_, rfl, Below.refl _ _, HT.out⟩
      ·
       go_wp2_with fail
       go_meet
       exact ⟨_, rfl, Below.refl _ _, HT.out⟩
     ·
      have HT : Hid (stp (vf vs) (-5) S.reverse = (x || y) :: S.reverse.drop (arO (-5))) := by show _ = _; rw [brev_top2 HP.out, HXY.out.1, HXY.out.2]; rfl
      cases x
      ·
       go_wp2_with fail
       go_meet
       exact ⟨_, rfl, Below.refl _ _, HT.out⟩
      ·
       go_wp2_with fail
       go_meet
       exact ⟨_, rfl, Below.refl _ _, HT.out⟩
     ·
      have HT : Hid (stp (vf vs) (-6) S.reverse = (x == y) :: S.reverse.drop (arO (-6))) := by show _ = _; rw [brev_top2 HP.out, HXY.out.1, HXY.out.2]; rfl
      go_wp2_with fail
      refine wp_region_held_drew (S := (fun w' => Below wr.heap.size wr w')) (by kernel_rfl) ?_ (fun hHeld => ?_)
      ·
       try dsimp only
       exact zP
      refine zT 0 rfl ?_
      refine zT 1 rfl ?_
      refine zT 2 rfl ?_
      refine zT 3 rfl ?_
      refine zT 4 rfl ?_
      refine zT 5 rfl ?_
      refine zT 6 rfl ?_
      refine zT 7 rfl ?_
      refine zT 8 rfl ?_
      refine zT 9 rfl ?_
      refine zT 10 rfl ?_
      refine zT 11 rfl ?_
      refine wpAnyH_done (by kernel_rfl) ?_ _
      go_wp2_with fail
      go_meet
      exact ⟨_, rfl, hHeld, HT.out⟩
    have o7 : 0 ≤ o := by omega
    have k1 : (o == -1) = false := by simpa using o1
    have k2 : (o == -2) = false := by simpa using o2
    have k3 : (o == -3) = false := by simpa using o3
    have k4 : (o == -4) = false := by simp; omega
    have k5 : (o == -5) = false := by simp; omega
    have k6 : (o == -6) = false := by simp; omega
    obtain ⟨t, rfl⟩ : ∃ x : Nat, o = (x : Int) := ⟨o.toNat, by omega⟩
    have ht : t < vs.length := by have := HN.out; omega
    obtain ⟨rfl, hbv⟩ : Av = some ⟨bv, offv, none⟩ ∧ bv < w.heap.size := by
     rcases HAV.out with h | h
     ·
      exact h
     ·
      omega
    obtain ⟨x, hx⟩ : ∃ x, vs.getD t false = x := ⟨_, rfl⟩
    have cv : wr.cell? ⟨bv, offv + t, none⟩ = some (.bool x) := by
     have h1 := HCV.out t 0 ht (by omega)
     rw [Nat.mul_one, Nat.add_zero] at h1
     rw [← hx]
     exact (hB.out.cell (p := ⟨bv, offv + t, none⟩) hbv).trans h1
    have j1 : (t : Int) < (vs.length : Int) := by omega
    have HT : Hid (stp (vf vs) (t : Int) S.reverse = x :: S.reverse.drop (arO (t : Int))) := by
     show _ = _
     unfold stp arO
     rw [if_neg (by omega), if_neg (by omega), if_neg (by omega), if_neg (by omega), if_neg (by omega), if_neg (by omega), if_neg (by omega), if_neg (by omega), Int.toNat_natCast, ← hx]
     rfl
    clear hx o1 o2 o3 o456
    go_wp2_with fail
    go_meet
    exact ⟨x, rfl, Below.refl _ _, HT.out⟩
   case rest =>
    obtain ⟨y, rfl, hBc, hstp⟩ := hcut
    obtain ⟨r, hrn⟩ : ∃ r, S.length = r + arO o := ⟨w1, HSN.out⟩
    have HSTP := hide hstp
    have hcut := (hS.out.below hBc).cut (r := r) (by omega)
    have HBC : Hid (Below w.heap.size w wc) := Below.to hB.out hBc (Nat.le_refl _)
    have d0 : wc.cell? ⟨b, off + q, none⟩ = some (.int .i64 o) := (hBc.cell (p := ⟨b, off + q, none⟩) hbw).trans c0
    have hbc : b < wc.heap.size := Nat.lt_of_lt_of_le hbw hBc.size
    have hr1 : (S.length : Int) - (arO o : Int) = (r : Int) := by omega
    have hr2 : (r : Int) ≤ 100 := by omega
    have hr3 : r ≤ cap1 := by omega
    have hr4 : (r : Int) ≤ (cap1 : Int) := by omega
    have hcap3 : (cap1 : Int) ≤ 9223372036854775807 := by have := hcap2; unfold maxLen at this; omega
    have hwc : w.heap.size ≤ wc.heap.size := HBC.out.size
    have HCUT := hide hcut
    have HRN := hide hrn
    have gi4 : (arO o : Int) ≤ 2 := by unfold arO; split; omega; split <;> omega
    have hlo1 : ∀ i, (Value.slice A1 r cap1).ownBlock = some i → w.heap.size ≤ i := fun i hi => (World.ownsRow.lt hcut i hi).1
    have HLO := hide hlo1
    clear hcut hrn c0 hstp hBc hlo1
    go_wp2_with (first | (go_at_call 164; refine (operands_any _ _).mono ?_; rintro e w2 ⟨rfl, rfl⟩) | (at_builtin; go_must (refine wpList_append_own_at _ rfl (.tmp 90) (.tmp 92) _ rfl w.heap.size 4 i0 _ 1 1 Tryz.underlying35 hi0 hz0 hz1 hz2 rfl (by omega) _ _ _ rfl (HCUT.out.alloc _) ⟨wc.heap.size, 0, none⟩ 1 1 [.bool y] rfl rfl (World.news_of_block (heap_alloc_new wc _)) (by simp [Value.oneCell']) (by unfold maxLen; omega) (by omega) (by simp; omega) ?_); intro v1 w1 hown1 hg1 _ hat1; have HOWN := hide hown1; have HG1 := hide hg1; have HAT := hide hat1; clear hown1 hg1 hat1))
    have hown2 : BStk w.heap.size w1 v1 (S.take r ++ [y]) := by
     have h1 := HOWN.out
     have h2 : (S.take r ++ [y]).length = r + 1 := by simp; omega
     unfold BStk
     rw [h2, List.map_append]
     exact h1
    have hkeep : Keeps (fun i => (Value.slice A1 r cap1).ownBlock = some i) wc w1 :=
     Keeps.trans ((Keeps.refl _ wc).alloc _) (Keeps.of_grown HG1.out (fun k hk => hk)) (fun _ _ h => h)
    have hb2 : Below w.heap.size w w1 := HBC.out.trans (hkeep.below (B := w.heap.size) hwc (fun k hk => HLO.out k hk))
    have HOW2 := hide hown2
    have HB2 := hide hb2
    clear hown2 hkeep hb2
    go_wp2_with fail
    go_roundw
    case rel =>
     refine ⟨q, S.take r ++ [y], by omega, by go_num, HOW2.out, HB2.out, ?_⟩
     have hq1 : q < f.length := by omega
     show (S.take r ++ [y]).reverse = _
     rw [drop_getD hq1, evS_cons, HOQ.out, ← hev.out, HSTP.out, List.reverse_append]
     show [y] ++ _ = _
     rw [List.singleton_append]
     congr 1
     rw [List.drop_reverse]
     have : S.length - arO o = r := by have := HRN.out; omega
     rw [this]
    case measure => simp [intOf]
set_option maxRecDepth 100000 in
set_option maxHeartbeats 4000000 in
theorem Holds_any (m : Mo) (f : List Int) (vs : List Bool) (ov rv fv vv : Value) (w : World) (hs : SizedM m) (hl : f.length ≤ maxLen) (h : MoAt w w.heap.size ov rv m) (hf : Ints w w.heap.size fv f) (hv : Bols w w.heap.size vv vs) :
  Calls Tryz.prog 37 #[.agg #[ov, rv], fv, vv] w fun e w' => e = .returned (.tuple #[.bool (holB m f vs), .int .i64 (holE m f vs)]) ∧ Below w.heap.size w w' := by
 obtain ⟨A, cap, hov⟩ := Sl.form h.o
 obtain ⟨Ar, capr, hrv⟩ := h.r.form
 obtain ⟨Al, capl, hlv⟩ := Sl.form hf
 obtain ⟨Av, capv, hvv⟩ := Sl.form hv
 have H := hide h
 have HF := hide hf
 have HV := hide hv
 have HS := hide hs
 subst hov hrv hlv hvv
 clear h hf hv hs
 go_enter Tryz.func37, Tryz.ntmps37
 go_upto_region 1 with (fail)
 generalize hw0 : World.alloc _ _ = w0
 obtain ⟨hb0, hB0, hs0⟩ := alloc1 hw0
 clear hw0
 have HX0 : Hid (MoBox w0 w.heap.size (.slice A m.opts.length cap) (.slice Ar m.rules.length capr)) := hb0
 have HB0 := hide hB0
 have c0 := cellOf hb0 0
 have c1 := cellOf hb0 1
 have hB2 : Below w.heap.size w (w0.alloc (.cells #[.slice Al f.length capl] 46 (0, 0))) := Below.allocT hB0 (Nat.le_refl _) _
 have hX2 : MoBox (w0.alloc (.cells #[.slice Al f.length capl] 46 (0, 0))) w.heap.size (.slice A m.opts.length cap) (.slice Ar m.rules.length capr) := box_to hb0 (Below.allocT (Below.refl _ _) (Nat.le_refl _) _)
 have hck := check_any m [f] (.slice A m.opts.length cap) (.slice Ar m.rules.length capr) (.slice (some ⟨w0.heap.size, 0, none⟩) 1 1) _ HS.out (sized_one hl) (H.out.up hB2) (forms_one (heap_new _ _ _ rfl) (by simp) (HF.out.up hB2))
 have HCK := hide hck
 have HB2 := hide hB2
 have HX2 := hide hX2
 clear hb0 hB0 hs0 hck hB2 hX2
 by_cases he : m.errF [f] = 0
 ·
  have HE := hide he
  go_upto_region 4 with (go_at_call 104; refine HCK.out.mono ?_; rw [HE.out]; rintro e w1 ⟨rfl, hB1⟩; have hbx := box_to HX2.out hB1; have d0 := cellOf hbx 0; have d1 := cellOf hbx 1; have HB1 : Hid (Below w.heap.size w w1) := Below.to HB2.out hB1 (Nat.le_refl _); clear hbx hB1 c0 c1)
  by_cases hn : vs.length = m.opts.length
  ·
   obtain ⟨h1, h2⟩ := hol_ok he hn
   have e1 : ((vs.length : Int) != (m.opts.length : Int)) = false := by simp; omega
   have ht := holds_any f m.opts.length vs (.slice Al f.length capl) (.slice Av vs.length capv) w1 ((Mo.okF he).2 f (by simp)) (HF.out.up HB1.out) (Sl.up HV.out HB1.out) hn
   have HT := hide ht
   have H1 := hide h1
   have H2 := hide h2
   clear ht h1 h2 he hn
   go_wp2_with (go_at_call 92; refine HT.out.mono ?_; rintro e w2 ⟨rfl, hB3⟩)
   go_ret2
   exact ⟨by rw [H1.out, H2.out]; rfl, Below.to HB1.out hB3 (Nat.le_refl _)⟩
  ·
   obtain ⟨h1, h2⟩ := hol_arg he hn
   have e1 : ((vs.length : Int) != (m.opts.length : Int)) = true := by simp; omega
   have H1 := hide h1
   have H2 := hide h2
   clear h1 h2 he hn
   go_wp2_with fail
   go_ret2
   exact ⟨by rw [H1.out, H2.out]; rfl, HB1.out⟩
 ·
  obtain ⟨h1, h2⟩ := hol_err (vs := vs) he
  obtain ⟨z, hz⟩ : ∃ z, m.errF [f] = z := ⟨_, rfl⟩
  rw [hz] at he h1
  have hz1 : (z != 0) = true := by simpa using he
  have HZ := hide hz
  have H1 := hide h1
  have H2 := hide h2
  clear he hz h1 h2
  go_wp2_with (go_at_call 104; refine HCK.out.mono ?_; rw [HZ.out]; rintro e w1 ⟨rfl, hB1⟩)
  go_ret2
  exact ⟨by rw [H1.out, H2.out]; rfl, Below.to HB2.out hB1 (Nat.le_refl _)⟩
end Go.Proofs.YtehadoecnmfeoaaGreat
namespace Go.Proofs.YtehadoecnmfeoaaGreat
def bitsN : Nat → Nat → List Bool
 | 0, _ => []
 | k + 1, n => decide (n / 2 ^ k % 2 = 1) :: bitsN k n
theorem bitsN_len : ∀ k n, (bitsN k n).length = k
 | 0, _ => rfl
 | k + 1, n => by simp [bitsN, bitsN_len k n]
theorem bitsN_get : ∀ (k n i : Nat), i < k → (bitsN k n).getD i false = decide (n / 2 ^ (k - 1 - i) % 2 = 1)
 | k + 1, n, 0, _ => by simp [bitsN]
 | k + 1, n, i + 1, h => by
  have := bitsN_get k n i (by omega)
  rw [show k + 1 - 1 - (i + 1) = k - 1 - i by omega, ← this]
  simp [bitsN]
theorem bitsN_add : ∀ (k K n : Nat), k ≤ K → bitsN k (2 ^ K + n) = bitsN k n
 | 0, K, n, _ => rfl
 | k + 1, K, n, h => by
  have ih := bitsN_add k K n (by omega)
  have e : (2 ^ K + n) / 2 ^ k % 2 = n / 2 ^ k % 2 := by
   obtain ⟨d, rfl⟩ : ∃ d, K = k + (d + 1) := ⟨K - k - 1, by omega⟩
   rw [Nat.pow_add, Nat.pow_succ, show 2 ^ k * (2 ^ d * 2) + n = n + 2 ^ k * (2 ^ d * 2) by omega, Nat.add_mul_div_left _ _ (Nat.two_pow_pos k)]
   omega
  simp only [bitsN, ih, e]
theorem exts_bits : ∀ k, exts k [] = (List.range (2 ^ k)).map (bitsN k)
 | 0 => rfl
 | k + 1 => by
  have h1 : exts (k + 1) [] = exts k [false] ++ exts k [true] := rfl
  rw [h1, exts_nil k [false], exts_nil k [true], exts_bits k, show 2 ^ (k + 1) = 2 ^ k + 2 ^ k by omega, List.range_add, List.map_append, List.map_map, List.map_map, List.map_map]
  congr 1
  ·
   refine List.map_congr_left fun n hn => ?_
   rw [List.mem_range] at hn
   show [false] ++ bitsN k n = bitsN (k + 1) n
   simp [bitsN, Nat.div_eq_of_lt hn]
  ·
   refine List.map_congr_left fun n hn => ?_
   rw [List.mem_range] at hn
   show [true] ++ bitsN k n = bitsN (k + 1) (2 ^ k + n)
   have e : (2 ^ k + n) / 2 ^ k = 1 := by
    rw [Nat.add_div_left _ (Nat.two_pow_pos k), Nat.div_eq_of_lt hn]
   simp [bitsN, e, bitsN_add k k n (Nat.le_refl _)]
def varsN (m : Mo) (n : Nat) : List (List Bool) := ((List.range n).map (bitsN m.opts.length)).filter fun x => allF (vf x) m.rules
theorem varsN_yes {m : Mo} {n : Nat} (h : allF (vf (bitsN m.opts.length n)) m.rules = true) : varsN m (n + 1) = varsN m n ++ [bitsN m.opts.length n] := by
 simp [varsN, List.range_succ, List.filter_append, h]
theorem varsN_no {m : Mo} {n : Nat} (h : allF (vf (bitsN m.opts.length n)) m.rules = false) : varsN m (n + 1) = varsN m n := by
 simp [varsN, List.range_succ, List.filter_append, h]
def allM (m : Mo) : List (List Bool) := (exts m.opts.length []).filter fun x => allF (vf x) m.rules
theorem varsN_all (m : Mo) : varsN m (2 ^ m.opts.length) = allM m := by
 unfold varsN allM
 rw [exts_bits]
theorem varsN_le (m : Mo) (n : Nat) : (varsN m n).length ≤ n := by
 unfold varsN
 refine Nat.le_trans (List.length_filter_le _ _) ?_
 simp
theorem allM_le (m : Mo) : (allM m).length ≤ 2 ^ m.opts.length := by
 rw [← varsN_all]; exact varsN_le _ _
theorem satM_all (m : Mo) (p : (Nat → Bool) → Bool) : satM m p = (allM m).filter fun x => p (vf x) := by
 unfold satM allM
 rw [List.filter_filter]
 exact List.filter_congr fun x _ => by rw [Bool.and_comm]
theorem satM_true (m : Mo) : satM m (fun _ => true) = allM m := by
 unfold satM allM
 exact List.filter_congr fun x _ => by simp
def whereF (l : List (List Bool)) (f : List Int) : List (List Bool) := l.filter fun x => evF1 (vf x) f
end Go.Proofs.YtehadoecnmfeoaaGreat

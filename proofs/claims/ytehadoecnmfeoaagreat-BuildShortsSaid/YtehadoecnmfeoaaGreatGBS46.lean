/- Part 46 of this claim's texts: walks and plain laws. -/
import Derived.Test.YtehadoecnmfeoaaGreatRows
import Derived.Test.YtehadoecnmfeoaaGreatGBS45
import Derived.Test.YtehadoecnmfeoaaGreatGBS15
import Derived.Test.YtehadoecnmfeoaaGreatGBS43
import Derived.Deep.DeepMust
import Derived.Deep.RegionHeld3
import Derived.Deep.DrawnRows
import Derived.Test.YtehadoecnmfeoaaGreatGBS3
set_option linter.unusedVariables false
set_option linter.unusedSimpArgs false
set_option linter.unusedSectionVars false
namespace Go.Proofs.YtehadoecnmfeoaaGreat
open Go.RowKit
theorem fnd_head (l : Lo) (fs : List (List Int)) {o : Option (List Bool)} (h : fndV l fs = o) : (meeL l.m fs).head? = o ∧ (!(meeL l.m fs).isEmpty) = !o.isNone := by
 rw [empty_head, mee_head]
 unfold fndV at h
 rw [h]
 exact ⟨rfl, rfl⟩
theorem OFs.reads {w : World} {e B n q : Nat} {wr : World} {A : Option Addr} {L : List (List Int)} {vs : List Value} (h : OFs w e B wr (.slice A n q) L vs) (hn : n = L.length) : Reads wr wr.heap.size 1 A n vs := by
 subst hn
 have h1 := Sl.reads (Sl.of_owns h.own (f := fun i _ => vs.getD i undef) fun i j hi hj => by
  obtain rfl : j = 0 := by omega
  have := h.len
  have hi2 : i < vs.length := by omega
  rw [Nat.mul_one, Nat.add_zero]
  simp [hi2]) (by omega)
 have h2 : flat L.length 1 (fun i _ => vs.getD i undef) = vs := by
  apply List.ext_getElem?
  intro m
  have hl := h.len
  rcases Nat.lt_or_ge m L.length with hm | hm
  ·
   have e1 := flat_get (n := L.length) (sz := 1) (f := fun i _ => vs.getD i undef) hm (show 0 < 1 by omega)
   rw [Nat.mul_one, Nat.add_zero] at e1
   rw [e1, List.getD_eq_getElem?_getD, List.getElem?_eq_getElem (by omega)]
   rfl
  ·
   rw [List.getElem?_eq_none (by rw [flat_length]; omega), List.getElem?_eq_none (by omega)]
 rw [h2] at h1
 exact h1
theorem OFs.one {w : World} {e B : Nat} {wr : World} {v : Value} {L : List (List Int)} {vs : List Value} (h : OFs w e B wr v L vs) : ∀ u ∈ vs, u.oneCell' = true := by
 intro u hu
 obtain ⟨i, hi, rfl⟩ := List.getElem_of_mem hu
 have hl := h.len
 have h1 := h.row i (by omega)
 rw [List.getD_eq_getElem?_getD, List.getElem?_eq_getElem hi] at h1
 obtain ⟨A, q, e⟩ := Sl.form h1
 have e2 : vs[i] = .slice A (L.getD i []).length q := e
 rw [e2]
 rfl
def isG (g k : Nat) : Prop := k = g
theorem keeps_grown {w w' : World} {g : Nat} (h : Keeps (isG g) w w') : w.grownBy w' (some g) := ⟨h.os, h.tape, h.output, h.size, fun k hk hn => h.block k hk fun e => hn (by rw [show k = g from e])⟩
theorem WayAt.cells {w : World} {g : Nat} {A0 A1 A2 A3 A4 A5 : Option Addr} {q0 q1 q2 q3 q4 q5 : Nat} {l : Lo} {a b : Pn} {N : Nat} {cur : Option (List Bool)} (h : WayAt w g A0 A1 A2 A3 A4 A5 q0 q1 q2 q3 q4 q5 l a b N cur) : ∃ A n q, OptV w w.heap.size (.slice A n q) cur ∧ A.isNone = cur.isNone ∧ g < w.heap.size ∧
  w.cell? ⟨g, 0, none⟩ = some (.slice A0 l.m.opts.length q0) ∧ w.cell? ⟨g, 1, none⟩ = some (.slice A1 l.m.rules.length q1) ∧ w.cell? ⟨g, 2, none⟩ = some (.slice A2 l.ss.length q2) ∧ w.cell? ⟨g, 3, none⟩ = some (.slice A3 l.us.length q3) ∧
  w.cell? ⟨g, 4, none⟩ = some (.slice A4 l.ps.length q4) ∧ w.cell? ⟨g, 5, none⟩ = some (.slice A5 l.ws.length q5) ∧ w.cell? ⟨g, 6, none⟩ = some (.int .i64 b.1) ∧ w.cell? ⟨g, 7, none⟩ = some (.int .i64 b.2) ∧
  w.cell? ⟨g, 8, none⟩ = some (.int .i64 a.1) ∧ w.cell? ⟨g, 9, none⟩ = some (.int .i64 a.2) ∧ w.cell? ⟨g, 10, none⟩ = some (.slice A n q) := by
 obtain ⟨cv, h1, h2, _⟩ := h
 obtain ⟨A, n, q, rfl, h4⟩ := h2.form
 exact ⟨A, n, q, h2, h4, box_lt h1, cellOf h1 0, cellOf h1 1, cellOf h1 2, cellOf h1 3, cellOf h1 4, cellOf h1 5, cellOf h1 6, cellOf h1 7, cellOf h1 8, cellOf h1 9, cellOf h1 10⟩
set_option maxRecDepth 100000 in
set_option maxHeartbeats 16000000 in
theorem wlkW_any (wE : World) (g : Nat) (A0 A1 A2 A3 A4 A5 : Option Addr) (q0 q1 q2 q3 q4 q5 : Nat) (l : Lo) (a b : Pn) (hs : SizedL l) (he : l.err = 0) (hE : LoA wE wE.heap.size A0 A1 A2 A3 A4 A5 q0 q1 q2 q3 q4 q5 l) (hN : l.m.opts.length ≤ 12) (h12 : l.ws.length ≤ 12) (hge : wE.heap.size ≤ g) :
  ∀ (d : Nat) (p : Pn) (bh : List Pn) (fs : List (List Int)) (cur : Option (List Bool)) (bv fv : Value) (vs : List Value) (w : World),
  WayAt w g A0 A1 A2 A3 A4 A5 q0 q1 q2 q3 q4 q5 l a b l.m.opts.length cur → Below wE.heap.size wE w → w.ownsRow wE.heap.size 74 2 bv bh.length (rowV pnE bh) → OFs wE 46 wE.heap.size w fv fs vs →
  (∀ f ∈ fs, validF l.m.opts.length f = true ∧ f.length ≤ maxLen) → fs.length + d ≤ 30 → bh.length + d ≤ 30 → ((endsL l).filter fun x => !(bh ++ [p]).contains x).length < d →
  Calls Tryz.prog 108 #[.pointer (some ⟨g, 0, none⟩), .agg #[.int .i64 p.1, .int .i64 p.2], bv, fv] w fun e w' => e = .returned (.tuple #[]) ∧ WayAt w' g A0 A1 A2 A3 A4 A5 q0 q1 q2 q3 q4 q5 l a b l.m.opts.length (wlk l a b d p bh fs cur) ∧ w.grownBy w' (some g) := by
 have ok := Lo.err_ok he
 have HS := hide hs
 have HOK := hide he
 have HE := hide hE
 have HGE := hide hge
 have HM := hide ok.m
 clear hs ok he hE hge
 obtain ⟨i0, hi0, iz0, iz1, iz2⟩ := info_parts infoPin
 obtain ⟨i1, hi1, jz0, jz1, jz2⟩ := info_parts infoForm
 have qn1 : ∀ (W : World) (a : Option Addr) (n c : Nat), (binOp .neq 35 (.slice a n c) (.slice none 0 0)).run Tryz.prog W = .ok (.bool (!a.isNone)) W := fun W a n c => run_neq_slice_nil W _ _ a n c Tryz.underlying35
 intro d
 induction d with
 | zero => intro p bh fs cur bv fv vs w _ _ _ _ _ _ _ h; omega
 | succ d ih =>
 intro p bh fs cur bv fv vs w hw hbE hbv hfv hfs hfl hbl hdd
 have IH := hide ih
 clear ih
 obtain ⟨Ab, qb, rfl⟩ := owns_form hbv
 obtain ⟨Af, qf, hfve, hfc1, hfc2⟩ := hfv.shape
 subst hfve
 have HW := hide hw
 have HBE := hide hbE
 have HBV := hide hbv
 have HFV := hide hfv
 have HFS := hide hfs
 have HDD := hide hdd
 have hEF : l.m.errF fs = 0 := errF_all HM.out fun f hf => (HFS.out f hf).1
 have HEF := hide hEF
 have HSZ : Hid (Sized fs) := by
  show Sized fs
  exact ⟨by unfold maxLen; omega, fun f hf => (HFS.out f hf).2⟩
 clear hw hbE hbv hfv hfs hdd hEF hfc1 hfc2
 obtain ⟨R, hR⟩ : ∃ z, wlk l a b (d + 1) p bh fs cur = z := ⟨_, rfl⟩
 rw [hR]
 rw [wlk_succ] at hR
 cases ho : fndV l fs with
 | none =>
  rw [ho] at hR
  have hR2 : cur = R := hR
  subst hR2
  obtain ⟨e1, e2⟩ := fnd_head l fs ho
  have HE1 := hide e1
  have e2f : (!(meeL l.m fs).isEmpty) = false := e2
  have HE2 := hide e2f
  clear e2f
  clear hR ho e1 e2
  go_enter Tryz.func108, Tryz.ntmps108
  go_upto_region 1 with (fail)
  generalize hw0 : World.alloc _ _ = w0
  obtain ⟨hb0, hB0, hs0⟩ := alloc1 hw0
  have HB0 := hide hB0
  have HW0 := hide (HW.out.up hB0)
  obtain ⟨Ac, nc, qc, hcv, hcn, lg, x0, x1, x2, x3, x4, x5, x6, x7, x8, x9, x10⟩ := HW0.out.cells
  clear hw0 hb0 hB0 hs0
  go_wp2_with (go_at_call 54; refine (Meets_n l.m fs _ _ _ _ HS.out.m HSZ.out ((HE.out.below (Below.trans HBE.out (HB0.out.mono HBE.out.size))).more (Below.trans HBE.out (HB0.out.mono HBE.out.size)).size).m ((HFV.out.same fun j hj => HB0.out.block j (HFV.out.own.lt j hj).2).forms (Below.trans HBE.out (HB0.out.mono HBE.out.size))) HEF.out hN (by omega)).mono ?_; rw [HE1.out, HE2.out]; rintro e w1 ⟨v1, rfl, hv1, hB1⟩; have HW1 := hide (HW0.out.up hB1); have HB1 := hide (Below.to HB0.out hB1 (Nat.le_refl _)); clear hv1 hB1 hcv lg x0 x1 x2 x3 x4 x5 x6 x7 x8 x9 x10)
  (try simp only [Exit.inBlock, Exit.then]); refine bodyPost_ret (results_none rfl _ _ _) rfl ?_
  exact ⟨rfl, HW1.out, grown_of_below HB1.out⟩
 | some v =>
 rw [ho] at hR
 obtain ⟨e1, e2⟩ := fnd_head l fs ho
 have HE1 := hide e1
 have e2f : (!(meeL l.m fs).isEmpty) = true := e2
 have HE2 := hide e2f
 clear e2f
 have hvm := (fnd_mem ho).1
 have hvl := allM_len6 hvm
 have HVL := hide hvl
 obtain ⟨lt, hlt⟩ : ∃ z, ltO v cur = z := ⟨_, rfl⟩
 obtain ⟨cb, hcb⟩ : ∃ z, conV l a b v = z := ⟨_, rfl⟩
 have hR3 : (if lt = true then (if cb = true then soon cur (some v) else wlkK l a b d p bh fs cur l.ws.length) else cur) = R := by rw [← hlt, ← hcb]; exact hR
 have HR := hide hR3
 have HLT := hide hlt
 have HCB := hide hcb
 clear hR hR3 ho e1 e2 hvm hvl hlt hcb
 go_enter Tryz.func108, Tryz.ntmps108
 go_upto_region 1 with (fail)
 generalize hw0 : World.alloc _ _ = w0
 obtain ⟨hb0, hB0, hs0⟩ := alloc1 hw0
 have HB0 := hide hB0
 have HP0 := hide hb0
 have HW0 := hide (HW.out.up hB0)
 have HBE0 := hide (Below.trans HBE.out (hB0.mono HBE.out.size))
 obtain ⟨Ac, nc, qc, hcv, hcn, lg, x0, x1, x2, x3, x4, x5, x6, x7, x8, x9, x10⟩ := HW0.out.cells
 clear hw0 hb0 hB0 hs0
 go_upto_region 2 with (go_at_call 54; refine (Meets_n l.m fs _ _ _ _ HS.out.m HSZ.out ((HE.out.below HBE0.out).more HBE0.out.size).m ((HFV.out.same fun j hj => HB0.out.block j (HFV.out.own.lt j hj).2).forms HBE0.out) HEF.out hN (by omega)).mono ?_; rw [HE1.out, HE2.out]; rintro e w1 ⟨v1, rfl, hv1, hB1⟩; have HW1 := hide (HW0.out.up hB1); have HV1 := hide hv1; have HP1 := hide (box_to HP0.out hB1); have HBE1 := hide (Below.trans HBE0.out (hB1.mono HBE0.out.size)); have HB1 := hide (Below.to HB0.out hB1 (Nat.le_refl _)); clear hv1 hB1 hcv hcn lg x0 x1 x2 x3 x4 x5 x6 x7 x8 x9 x10)
 obtain ⟨⟨ad, qv, e3⟩, hvb⟩ := HV1.out
 subst e3
 have HVB := hide hvb
 clear hvb HV1
 go_cut [46] from 27 to 45 (fun cv wc => cv = .bool (!lt) ∧ Hid (Below w1.heap.size w1 wc))
 case first =>
  obtain ⟨Ac, nc, qc, hcv, hcn, lg, x0, x1, x2, x3, x4, x5, x6, x7, x8, x9, x10⟩ := HW1.out.cells
  obtain ⟨_, _, _, hlen⟩ := HW1.out
  clear hcn
  cases cur with
  | none =>
   have e4 : Value.slice Ac nc qc = .slice none 0 0 := hcv
   injection e4 with e5 e6 e7
   subst e5 e6 e7
   have hlt : lt = true := HLT.out.symm
   subst hlt
   clear hcv hlen
   go_wp2_with fail
   go_meet
   case rel => exact ⟨rfl, Below.refl _ _⟩
  | some u =>
   obtain ⟨⟨ad2, q2', e4⟩, hu⟩ := hcv
   have hul := hlen u rfl
   injection e4 with e5 e6 e7
   subst e5 e6 e7
   have hcm := compare_any v u (some ad) (some ad2) qv _ w1 (by have := HVL.out; omega) (by have := HVL.out; omega) HVB.out hu
   have hlaw := (cmpI_bef v u).1
   obtain ⟨c, hce⟩ : ∃ c, cmpI v u = c := ⟨_, rfl⟩
   rw [hce] at hcm hlaw
   have HCM := hide hcm
   have hlt : befB v u = lt := HLT.out
   rw [hlt] at hlaw
   cases lt with
   | true =>
    have hc1 : ¬ 0 ≤ c := by have := hlaw.2 rfl; omega
    have hc2 : decide (0 ≤ c) = false := decide_eq_false hc1
    clear hlaw hlt hce hcm hu hul hlen
    go_wp2_with (go_at_call 172; refine HCM.out.mono ?_; rintro e w2 ⟨rfl, rfl⟩)
    go_meet
    case rel => exact ⟨rfl, Below.refl _ _⟩
   | false =>
    have hc1 : 0 ≤ c := by
     by_cases h : c < 0
     ·
      have := hlaw.1 h
      cases this
     ·
      omega
    have hc2 : decide (0 ≤ c) = true := decide_eq_true hc1
    clear hlaw hlt hce hcm hu hul hlen
    go_wp2_with (go_at_call 172; refine HCM.out.mono ?_; rintro e w2 ⟨rfl, rfl⟩)
    go_meet
    case rel => exact ⟨rfl, Below.refl _ _⟩
 case rest =>
 obtain ⟨rfl, HWc⟩ := hcut
 have HW2 := hide (HW1.out.up HWc.out)
 have HP2 := hide (box_to HP1.out HWc.out)
 have HVB2 := hide (HVB.out.up HWc.out)
 have HBE2 := hide (Below.trans HBE1.out (HWc.out.mono HBE1.out.size))
 have HB2 := hide (Below.to HB1.out HWc.out (Nat.le_refl _))
 cases lt with
 | false =>
  have hR2 : cur = R := HR.out
  subst hR2
  go_wp2_with fail
  (try simp only [Exit.inBlock, Exit.then]); refine bodyPost_ret (results_none rfl _ _ _) rfl ?_
  exact ⟨rfl, HW2.out, grown_of_below HB2.out⟩
 | true =>
 have hR4 : (if cb = true then soon cur (some v) else wlkK l a b d p bh fs cur l.ws.length) = R := HR.out
 have HR4 := hide hR4
 clear hR4 HWc HR
 obtain ⟨Ac, nc, qc, hcv, hcn, lg, x0, x1, x2, x3, x4, x5, x6, x7, x8, x9, x10⟩ := HW2.out.cells
 have HLE2 := hide ((HE.out.below HBE2.out).more HBE2.out.size)
 obtain ⟨hce0, hbn⟩ := copE_yes (l := l) (x := v) HOK.out HVL.out
 have HCE := hide hce0
 have HBN := hide hbn
 clear hce0 hbn hcv hcn
 go_upto_region 4 with (go_at_call 93; refine (belonging_any v (some ad) qv A0 A1 A2 A3 A4 A5 q0 q1 q2 q3 q4 q5 l _ HS.out HLE2.out HVB2.out).mono ?_; rw [HBN.out, HCE.out]; rintro e w3 ⟨v3, rfl, hn3, hB3⟩; have HN3 := hide hn3; have HW3 := hide (HW2.out.up hB3); have HP3 := hide (box_to HP2.out hB3); have HVB3 := hide (HVB2.out.up hB3); have HBE3 := hide (Below.trans HBE2.out (hB3.mono HBE2.out.size)); have HB3 := hide (Below.to HB2.out hB3 (Nat.le_refl _)); clear hn3 hB3 lg x0 x1 x2 x3 x4 x5 x6 x7 x8 x9 x10)
 obtain ⟨Ac, nc, qc, hcv, hcn, lg, x0, x1, x2, x3, x4, x5, x6, x7, x8, x9, x10⟩ := HW3.out.cells
 have HLE3 := hide ((HE.out.below HBE3.out).more HBE3.out.size)
 have hbl2 : (belL l v).length ≤ 12 := by have := belK_le l v l.ws.length; unfold belL; omega
 have hnf := (net_facts (es := esL l (belL l v)) (by unfold esL; rw [List.length_map]; omega)).1
 have HNF : Hid ((netL (esL l (belL l v))).length ≤ 100000) := by show _ ≤ _; omega
 have HCC : Hid (conB (netL (esL l (belL l v))) a b = cb) := HCB.out
 clear hcv hcn hnf
 refine wp_region_held_drew (S := (fun w' => Below w3.heap.size w3 w')) (by kernel_rfl) ?_ (fun hHeld => ?_)
 ·
  try dsimp only
  exact zP
 refine zT 0 rfl ?_
 refine zT 1 rfl ?_
 refine zT 2 rfl ?_
 refine zT 3 rfl ?_
 refine zT 4 rfl ?_
 refine zT 6 rfl ?_
 refine zT 7 rfl ?_
 refine zT 8 rfl ?_
 refine zT 9 rfl ?_
 refine zT 10 rfl ?_
 refine zT 11 rfl ?_
 refine zT 12 rfl ?_
 refine zT 13 rfl ?_
 refine wpAnyH_ready (rs := [5]) (by kernel_rfl) (by simp) ?_
 refine AllReadyH.cons rfl (fun K hK => ?_) AllReadyH.nil
 go_simp
 ((first | (go_at_call 113; refine (nets_any (belL l v) _ A0 A1 A2 A3 A4 A5 q0 q1 q2 q3 q4 q5 l _ (HLE3.out.up zP) (fun i hi => (belL_lt hi).1) (by omega) (by omega) (Sl.up HN3.out zP)).mono ?_; rintro e w4 ⟨v4, vs4, rfl, hn4, hB4⟩; have HN4 := hide hn4; clear hn4) | (go_at_call 116; refine (connected_any a b _ vs4 _ _ _ _ (HN4.out.below (Nat.le_refl _) zP) HNF.out (by first | exact Nat.le_refl _ | simp) cb HCC.out).mono ?_; rintro e w5 ⟨rfl, hB5⟩)))
 (try dsimp only)
 refine hK.out _ _ zP fun hNext => ?_; clear hK K hHeld; have hHeld := hNext; clear hNext; (try dsimp only at hHeld); try simp only [zX]
 refine wpAnyH_ready (rs := [14]) (by kernel_rfl) (by simp) ?_
 refine AllReadyH.cons rfl (fun K hK => ?_) AllReadyH.nil
 go_simp
 ((first | (go_at_call 113; refine (nets_any (belL l v) _ A0 A1 A2 A3 A4 A5 q0 q1 q2 q3 q4 q5 l _ (HLE3.out.up zP) (fun i hi => (belL_lt hi).1) (by omega) (by omega) (Sl.up HN3.out zP)).mono ?_; rintro e w4 ⟨v4, vs4, rfl, hn4, hB4⟩; have HN4 := hide hn4; clear hn4) | (go_at_call 116; refine (connected_any a b _ vs4 _ _ _ _ (HN4.out.below (Nat.le_refl _) zP) HNF.out (by first | exact Nat.le_refl _ | simp) cb HCC.out).mono ?_; rintro e w5 ⟨rfl, hB5⟩)))
 (try dsimp only)
 refine hK.out _ _ zP fun hNext => ?_; clear hK K hHeld; have hHeld := hNext; clear hNext; (try dsimp only at hHeld); try simp only [zX]
 refine wpAnyH_done (by kernel_rfl) ?_ _
 have HW5 := hide (HW3.out.up hHeld)
 have HP5 := hide (box_to HP3.out hHeld)
 have HVB5 := hide (HVB3.out.up hHeld)
 have HBE5 := hide (Below.trans HBE3.out (hHeld.mono HBE3.out.size))
 have HB5 := hide (Below.to HB3.out hHeld (Nat.le_refl _))
 clear hHeld hB4 hB5 lg x0 x1 x2 x3 x4 x5 x6 x7 x8 x9 x10
 cases cb with
 | true =>
  have hR5 : soon cur (some v) = R := HR4.out
  subst hR5
  go_wp2_with (go_at_call 127; refine (showW_any g l.m.opts.length A0 A1 A2 A3 A4 A5 q0 q1 q2 q3 q4 q5 l a b cur v _ _ (by omega) HW5.out ⟨⟨ad, qv, rfl⟩, HVB5.out⟩ HVL.out).mono ?_; rintro e w6 ⟨rfl, hW6, hg6⟩; have HW6 := hide hW6; have HG6 := hide hg6; clear hW6 hg6)
  (try simp only [Exit.inBlock, Exit.then]); refine bodyPost_ret (results_none rfl _ _ _) rfl ?_
  exact ⟨rfl, HW6.out, only_trans (grown_of_below HB5.out) HG6.out⟩
 | false =>
 have hR5 : wlkK l a b d p bh fs cur l.ws.length = R := HR4.out
 have HR5 := hide hR5
 clear hR5 HR4
 have HBV5 := hide (owns_below HBV.out HB5.out)
 have HWE5 : Hid (wE.heap.size ≤ w5.heap.size) := HBE5.out.size
 go_upto_region 6 with (fail)
 go_cut [2] from 76 to 80 (fun xv wc => Hid (wc.ownsRow wE.heap.size 74 2 xv (bh.length + 1) (rowV pnE (bh ++ [p]))) ∧ Hid (Below w5.heap.size w5 wc))
 case first =>
  have z0 := cellOf HP5.out 0
  have z1 := cellOf HP5.out 1
  have lz := box_lt HP5.out
  refine wp_region_held_drew (S := (fun w' => Below w5.heap.size w5 w')) (by kernel_rfl) ?_ (fun hHeld => ?_)
  ·
   try dsimp only
   exact zP
  refine zT 0 rfl ?_
  refine zT 2 rfl ?_
  refine wpAnyH_ready (rs := [1, 3]) (by kernel_rfl) (by simp) ?_
  refine (AllReadyH.cons rfl (fun K hK => ?o1_3_1) (AllReadyH.cons rfl (fun K hK => ?o1_3_3) AllReadyH.nil))
  case' o1_3_1 =>
   go_simp
   ((try (generalize hC : World.alloc w5 _ = wC at hHeld ⊢; obtain ⟨hbC0, hBC0, hsC0⟩ := alloc1 hC; have hbC : wC.heap[w5.heap.size]? = some (.cells #[.int .i64 p.1, .int .i64 p.2] 74 (0, 0)) := hbC0; have hsC : wC.heap.size = w5.heap.size + 1 := hsC0; have hBC : Below w5.heap.size w5 wC := hBC0; clear hbC0 hBC0 hsC0 hC)); go_at_call 173; refine (clonePn_any Ab bh.length qb (rowV pnE bh) _ (Pns.reads ((Pns.of_own HBV5.out).up hHeld)) (rowP_one bh) (by omega)).mono ?_; rintro e w6 ⟨v6, rfl, hv6, hB6⟩; obtain ⟨A6, q6b, hv6e⟩ := owns_form hv6; subst hv6e)
   (try dsimp only)
   refine hK.out _ _ zP fun hNext => ?_; clear hK K hHeld; have hHeld := hNext; clear hNext; (try dsimp only at hHeld); try simp only [zX]
   refine wpAnyH_ready (rs := [3]) (by kernel_rfl) (by simp) ?_
   refine (AllReadyH.cons rfl (fun K hK => ?_) AllReadyH.nil)
   go_simp
   refine hK.out _ _ zP fun hNext => ?_; clear hK K hHeld; have hHeld := hNext; clear hNext; (try dsimp only at hHeld); try simp only [zX]
   refine wpAnyH_ready (rs := [4]) (by kernel_rfl) (by simp) ?_
   refine (AllReadyH.cons rfl (fun K hK => ?_) AllReadyH.nil)
   (first | (have hB6a : Below w5.heap.size w5 w6 := Below.to (Below.drew (Below.refl w5.heap.size w5)) hB6 (Nat.le_refl _); have hx6 : w6.ownsRow w5.heap.size 74 2 (.slice A6 bh.length q6b) bh.length (rowV pnE bh) := hv6; refine step_append_any _ (by rfl) (.tmp 77) (.tmp 79) _ (by rfl) wE.heap.size 74 i0 _ 2 16 Tryz.underlying86 hi0 iz0 iz1 iz2 (by rfl) (by omega) (.slice A6 bh.length q6b) bh.length (rowV pnE bh) (by rfl) (World.ownsRow.alloc (w := w6) (owns_base hx6 HWE5.out) _) (w6.heap.size + 1) (some ⟨w6.heap.size, 0, none⟩) 1 1 [.int .i64 p.1, .int .i64 p.2] (by rfl) ⟨rfl, fun _ => ⟨_, rfl, by simp, World.news_of_block (heap_alloc_new w6 _)⟩⟩ (by simp [Value.oneCell']) (by unfold maxLen; omega) (by omega) (by have h2 := HWE5.out; have h3 := hB6a.size; simp; omega) ?_; intro v7 w7 hown7 hg7 hat7; have hB7 : Below w5.heap.size w5 w7 := Below.grown (Below.allocT hB6a (Nat.le_refl _) _) hg7 (by have h3 := hB6a.size; simp; omega) (fun j hj => (World.ownsRow.lt hx6 j hj).1); have HO7 := hide hown7; clear hown7 hg7 hat7) | (have hB6a : Below wC.heap.size wC w6 := Below.to (Below.drew (Below.refl wC.heap.size wC)) hB6 (Nat.le_refl _); have hx6 : w6.ownsRow wC.heap.size 74 2 (.slice A6 bh.length q6b) bh.length (rowV pnE bh) := hv6; have hbA : w6.heap[w5.heap.size]? = some (.cells #[.int .i64 p.1, .int .i64 p.2] 74 (0, 0)) := box_to hbC hB6a; have hB6b : Below w5.heap.size w5 w6 := Below.trans hBC (hB6a.mono (by omega)); refine step_append_any _ (by rfl) (.tmp 77) (.tmp 79) _ (by rfl) wE.heap.size 74 i0 _ 2 16 Tryz.underlying86 hi0 iz0 iz1 iz2 (by rfl) (by omega) (.slice A6 bh.length q6b) bh.length (rowV pnE bh) (by rfl) (owns_base hx6 (by have h2 := HWE5.out; omega)) (w5.heap.size + 1) (some ⟨w5.heap.size, 0, none⟩) 1 1 [.int .i64 p.1, .int .i64 p.2] (by rfl) ⟨rfl, fun _ => ⟨_, rfl, by simp, World.news_of_block hbA⟩⟩ (by simp [Value.oneCell']) (by unfold maxLen; omega) (by omega) (by have h2 := HWE5.out; have h3 := hB6b.size; omega) ?_; intro v7 w7 hown7 hg7 hat7; have hB7 : Below w5.heap.size w5 w7 := Below.grown hB6b hg7 hB6b.size (fun j hj => by have h1 := (World.ownsRow.lt hx6 j hj).1; omega); have HO7 := hide hown7; clear hown7 hg7 hat7))
   (try dsimp only)
   refine hK.out _ _ zP fun hNext => ?_; clear hK K hHeld; have hHeld := hNext; clear hNext; (try dsimp only at hHeld); try simp only [zX]
   refine zT 5 rfl ?_
   refine wpAnyH_done (by kernel_rfl) ?_ _
  case' o1_3_3 =>
   go_simp
   refine hK.out _ _ zP fun hNext => ?_; clear hK K hHeld; have hHeld := hNext; clear hNext; (try dsimp only at hHeld); try simp only [zX]
   refine wpAnyH_ready (rs := [1]) (by kernel_rfl) (by simp) ?_
   refine (AllReadyH.cons rfl (fun K hK => ?_) AllReadyH.nil)
   go_simp
   ((try (generalize hC : World.alloc w5 _ = wC at hHeld ⊢; obtain ⟨hbC0, hBC0, hsC0⟩ := alloc1 hC; have hbC : wC.heap[w5.heap.size]? = some (.cells #[.int .i64 p.1, .int .i64 p.2] 74 (0, 0)) := hbC0; have hsC : wC.heap.size = w5.heap.size + 1 := hsC0; have hBC : Below w5.heap.size w5 wC := hBC0; clear hbC0 hBC0 hsC0 hC)); go_at_call 173; refine (clonePn_any Ab bh.length qb (rowV pnE bh) _ (Pns.reads ((Pns.of_own HBV5.out).up hHeld)) (rowP_one bh) (by omega)).mono ?_; rintro e w6 ⟨v6, rfl, hv6, hB6⟩; obtain ⟨A6, q6b, hv6e⟩ := owns_form hv6; subst hv6e)
   (try dsimp only)
   refine hK.out _ _ zP fun hNext => ?_; clear hK K hHeld; have hHeld := hNext; clear hNext; (try dsimp only at hHeld); try simp only [zX]
   refine wpAnyH_ready (rs := [4]) (by kernel_rfl) (by simp) ?_
   refine (AllReadyH.cons rfl (fun K hK => ?_) AllReadyH.nil)
   (first | (have hB6a : Below w5.heap.size w5 w6 := Below.to (Below.drew (Below.refl w5.heap.size w5)) hB6 (Nat.le_refl _); have hx6 : w6.ownsRow w5.heap.size 74 2 (.slice A6 bh.length q6b) bh.length (rowV pnE bh) := hv6; refine step_append_any _ (by rfl) (.tmp 77) (.tmp 79) _ (by rfl) wE.heap.size 74 i0 _ 2 16 Tryz.underlying86 hi0 iz0 iz1 iz2 (by rfl) (by omega) (.slice A6 bh.length q6b) bh.length (rowV pnE bh) (by rfl) (World.ownsRow.alloc (w := w6) (owns_base hx6 HWE5.out) _) (w6.heap.size + 1) (some ⟨w6.heap.size, 0, none⟩) 1 1 [.int .i64 p.1, .int .i64 p.2] (by rfl) ⟨rfl, fun _ => ⟨_, rfl, by simp, World.news_of_block (heap_alloc_new w6 _)⟩⟩ (by simp [Value.oneCell']) (by unfold maxLen; omega) (by omega) (by have h2 := HWE5.out; have h3 := hB6a.size; simp; omega) ?_; intro v7 w7 hown7 hg7 hat7; have hB7 : Below w5.heap.size w5 w7 := Below.grown (Below.allocT hB6a (Nat.le_refl _) _) hg7 (by have h3 := hB6a.size; simp; omega) (fun j hj => (World.ownsRow.lt hx6 j hj).1); have HO7 := hide hown7; clear hown7 hg7 hat7) | (have hB6a : Below wC.heap.size wC w6 := Below.to (Below.drew (Below.refl wC.heap.size wC)) hB6 (Nat.le_refl _); have hx6 : w6.ownsRow wC.heap.size 74 2 (.slice A6 bh.length q6b) bh.length (rowV pnE bh) := hv6; have hbA : w6.heap[w5.heap.size]? = some (.cells #[.int .i64 p.1, .int .i64 p.2] 74 (0, 0)) := box_to hbC hB6a; have hB6b : Below w5.heap.size w5 w6 := Below.trans hBC (hB6a.mono (by omega)); refine step_append_any _ (by rfl) (.tmp 77) (.tmp 79) _ (by rfl) wE.heap.size 74 i0 _ 2 16 Tryz.underlying86 hi0 iz0 iz1 iz2 (by rfl) (by omega) (.slice A6 bh.length q6b) bh.length (rowV pnE bh) (by rfl) (owns_base hx6 (by have h2 := HWE5.out; omega)) (w5.heap.size + 1) (some ⟨w5.heap.size, 0, none⟩) 1 1 [.int .i64 p.1, .int .i64 p.2] (by rfl) ⟨rfl, fun _ => ⟨_, rfl, by simp, World.news_of_block hbA⟩⟩ (by simp [Value.oneCell']) (by unfold maxLen; omega) (by omega) (by have h2 := HWE5.out; have h3 := hB6b.size; omega) ?_; intro v7 w7 hown7 hg7 hat7; have hB7 : Below w5.heap.size w5 w7 := Below.grown hB6b hg7 hB6b.size (fun j hj => by have h1 := (World.ownsRow.lt hx6 j hj).1; omega); have HO7 := hide hown7; clear hown7 hg7 hat7))
   (try dsimp only)
   refine hK.out _ _ zP fun hNext => ?_; clear hK K hHeld; have hHeld := hNext; clear hNext; (try dsimp only at hHeld); try simp only [zX]
   refine zT 5 rfl ?_
   refine wpAnyH_done (by kernel_rfl) ?_ _
  all_goals
   go_wp2_with fail
   go_meet
   case rel => exact ⟨by rw [rowV_app]; exact HO7.out, hHeld⟩
 case rest =>
 obtain ⟨HO6, HBc⟩ := hcut
 obtain ⟨A6, q6, e6⟩ := owns_form HO6.out
 subst e6
 obtain ⟨W7, hW7⟩ : ∃ wo : World, wo = wc := ⟨_, rfl⟩
 subst hW7
 have HW7 := hide (HW5.out.up HBc.out)
 have HP7 := hide (box_to HP5.out HBc.out)
 have HBE7 := hide (Below.trans HBE5.out (HBc.out.mono HBE5.out.size))
 have HB7 := hide (Below.to HB5.out HBc.out (Nat.le_refl _))
 have HFV7 := hide (HFV.out.same fun j hj => HB7.out.block j (HFV.out.own.lt j hj).2)
 obtain ⟨Ac, nc, qc, hcv, hcn, lg, x0, x1, x2, x3, x4, x5, x6, x7, x8, x9, x10⟩ := HW7.out.cells
 clear hcv hcn HW5 HP5 HBE5 HB5 HBc HW3 HP3 HBE3 HB3 HVB3 HVB5 HVB2 HW2 HP2 HBE2 HB2 HN3 HN4 HLE3 HLE2 HBV5 HWE5
 go_upto_region 8 with (fail)
 clear lg x0 x1 x2 x3 x4 x5 x6 x7 x8 x9 x10
 go_loopw [87] (fun iv wr => ∃ i : Nat, iv = .int .i64 i ∧ i ≤ l.ws.length ∧ Hid (WayAt wr g A0 A1 A2 A3 A4 A5 q0 q1 q2 q3 q4 q5 l a b l.m.opts.length (wlkK l a b d p bh fs cur i)) ∧ Hid (W7.grownBy wr (some g))) (fun iv _ => l.ws.length - (intOf iv).toNat)
 case atStart => exact ⟨0, rfl, Nat.zero_le _, HW7, only_refl _ _⟩
 case round =>
  obtain ⟨i, rfl, hi, HWr, HGr⟩ := hrel
  obtain ⟨ci, hci⟩ : ∃ z, wlkK l a b d p bh fs cur i = z := ⟨_, rfl⟩
  rw [hci] at HWr
  have HCI := hide hci
  clear hci
  by_cases hlt : i < l.ws.length
  case neg =>
   have hlt1 : ¬ (i : Int) < (l.ws.length : Int) := by omega
   have hil : i = l.ws.length := by omega
   have hcr : ci = R := by rw [← HCI.out, hil]; exact HR5.out
   subst hcr
   clear hil
   go_wp2_with fail
   go_end0
   exact ⟨rfl, HWr.out, only_trans (grown_of_below HB7.out) HGr.out⟩
  case pos =>
  have hlt1 : (i : Int) < (l.ws.length : Int) := by omega
  have ii0 : (0 : Int) ≤ (i : Int) := by omega
  have HLT := hide hlt
  obtain ⟨_, hg7, _, _⟩ := HW7.out
  have HBEr := hide (Below.grown HBE7.out HGr.out HBE7.out.size (fun k hk => by injection hk with hk; rw [← hk]; exact HGE.out))
  have hpg : w.heap.size ≠ g := fun e => by
   have h1 := HP7.out
   rw [e, hg7] at h1
   have h2 : (wayC A0 A1 A2 A3 A4 A5 q0 q1 q2 q3 q4 q5 l a b _).size = _ := congrArg (fun o => match o with | some (Obj.cells C _ _) => C.size | _ => 0) h1
   simp [wayC] at h2
  have HPr := hide ((HGr.out.block _ (box_lt HP7.out) (fun e => by injection e with e; exact hpg e)).trans HP7.out)
  have HOr := hide (owns_grown HO6.out HGr.out hg7 (by decide))
  have HFr : Hid (OFs wE 46 wE.heap.size wr (.slice Af fs.length qf) fs vs) := ⟨HFV7.out.len, owns_grown HFV7.out.own HGr.out hg7 (by decide), HFV7.out.row⟩
  obtain ⟨b5, o5, y, Ag, qg, HY, hA5, hbE, hq5, HYF, v0', v1', v2', v3', v4', v5', v6'⟩ := HE.out.wi hlt
  have hb5 : b5 < wr.heap.size := Nat.lt_of_lt_of_le hbE HBEr.out.size
  have y0 := (HBEr.out.cell (p := ⟨b5, o5 + i * 7, none⟩) hbE).trans v0'
  have y1 := (HBEr.out.cell (p := ⟨b5, o5 + i * 7 + 1, none⟩) hbE).trans v1'
  have y2 := (HBEr.out.cell (p := ⟨b5, o5 + i * 7 + 2, none⟩) hbE).trans v2'
  have y3 := (HBEr.out.cell (p := ⟨b5, o5 + i * 7 + 3, none⟩) hbE).trans v3'
  have y4 := (HBEr.out.cell (p := ⟨b5, o5 + i * 7 + 4, none⟩) hbE).trans v4'
  have y5 := (HBEr.out.cell (p := ⟨b5, o5 + i * 7 + 5, none⟩) hbE).trans v5'
  have y6 := (HBEr.out.cell (p := ⟨b5, o5 + i * 7 + 6, none⟩) hbE).trans v6'
  clear v0' v1' v2' v3' v4' v5' v6' hbE
  have hwr : wirP l i = ((y.fp, y.fc), (y.tp, y.tc)) := by unfold wirP; rw [HY.out]
  have HWI := hide hwr
  clear hwr
  subst hA5
  have iq5 : (l.ws.length : Int) ≤ (q5 : Int) := by omega
  clear hq5 hg7 hpg
  go_upto_region 10 with (fail)
  generalize hw8 : World.alloc _ _ = w7
  obtain ⟨hx8, hB8, hs8⟩ := alloc1 hw8
  obtain ⟨xb, hxb⟩ : ∃ z, wr.heap.size = z := ⟨_, rfl⟩
  rw [hxb] at hx8 ⊢
  have HX7 := hide hx8
  have HB7w := hide hB8
  have HXS0 := hide hxb
  clear hx8 hB8 hw8 hs8 hxb
  go_cut [15] from 91 to 92 (fun nv wc => nv = .pointer (some ⟨w7.heap.size, 0, none⟩) ∧ Hid (wc.heap[w7.heap.size]? = some (.cells #[.int .i64 y.tp, .int .i64 y.tc] 74 (0, 0))) ∧ Hid (Below w7.heap.size w7 wc))
  case first =>
   have z3 := cellOf HX7.out 3
   have z4 := cellOf HX7.out 4
   have lx := box_lt HX7.out
   clear y0 y1 y2 y3 y4 y5 y6 hb5
   go_wp2_with fail
   generalize hw8 : World.alloc _ _ = w8
   obtain ⟨hn8, hB8, hs8⟩ := alloc1 hw8
   clear hw8
   go_meet
   case rel => exact ⟨rfl, hn8, hB8⟩
  case rest =>
  obtain ⟨e15, HN8, HB78⟩ := hcut
  subst e15
  obtain ⟨w8, hw8⟩ : ∃ wo : World, wo = wc := ⟨_, rfl⟩
  subst hw8
  have hB8 : Below wr.heap.size wr w8 := Below.to HB7w.out HB78.out (Nat.le_refl _)
  obtain ⟨nb, hnb⟩ : ∃ z, w7.heap.size = z := ⟨_, rfl⟩
  have HX8 := hide (box_to HX7.out HB78.out)
  have hxs : wr.heap.size ≤ xb := by rw [HXS0.out]; exact Nat.le_refl _
  have hns : wr.heap.size < nb := by rw [← hnb]; have h1 := box_lt HX7.out; have h2 := HXS0.out; omega
  have hn8 := HN8.out
  rw [hnb] at hn8 ⊢
  have HB8 := hide hB8
  clear HN8
  have HN8 := hide hn8
  have HXS := hide hxs
  have HNS := hide hns
  have HP8 := hide (box_to HPr.out hB8)
  have p0 := cellOf HP8.out 0
  have p1 := cellOf HP8.out 1
  have lp := box_lt HP8.out
  have z0 := cellOf HX8.out 0
  have z1 := cellOf HX8.out 1
  have z2 := cellOf HX8.out 2
  have z3 := cellOf HX8.out 3
  have z4 := cellOf HX8.out 4
  have lx := box_lt HX8.out
  have n0 := cellOf HN8.out 0
  have n1 := cellOf HN8.out 1
  have n2 := unfrozenOf HN8.out 0
  have n3 := unfrozenOf HN8.out 1
  have ln := box_lt HN8.out
  clear hn8 hB8 hnb hxs hns y0 y1 y2 y3 y4 y5 y6 hb5
  obtain ⟨xa, hxa⟩ : ∃ z, (p.1 == y.fp && p.2 == y.fc) = z := ⟨_, rfl⟩
  obtain ⟨xt, hxt⟩ : ∃ z, (p.1 == y.tp && p.2 == y.tc) = z := ⟨_, rfl⟩
  have hA1 := fun w => pinEq p.1 p.2 y.fp y.fc w
  have hA2 := fun w => pinEq p.1 p.2 y.tp y.tc w
  rw [hxa] at hA1
  rw [hxt] at hA2
  have hst : stpP l p i = if xa = true then some (y.tp, y.tc) else if xt = true then some (y.fp, y.fc) else none := by
   unfold stpP
   rw [HWI.out]
   dsimp only
   have e1 : (p = (y.fp, y.fc)) ↔ xa = true := by
    rw [← hxa, Bool.and_eq_true, beq_iff_eq, beq_iff_eq]
    exact ⟨fun e => by rw [e]; exact ⟨rfl, rfl⟩, fun e => Prod.ext e.1 e.2⟩
   have e2 : (p = (y.tp, y.tc)) ↔ xt = true := by
    rw [← hxt, Bool.and_eq_true, beq_iff_eq, beq_iff_eq]
    exact ⟨fun e => by rw [e]; exact ⟨rfl, rfl⟩, fun e => Prod.ext e.1 e.2⟩
   by_cases h1 : p = (y.fp, y.fc)
   ·
    rw [if_pos h1, if_pos (e1.1 h1)]
   ·
    rw [if_neg h1, if_neg (fun h => h1 (e1.2 h))]
    by_cases h2 : p = (y.tp, y.tc)
    ·
     rw [if_pos h2, if_pos (e2.1 h2)]
    ·
     rw [if_neg h2, if_neg (fun h => h2 (e2.2 h))]
  have HST := hide hst
  clear hst hxa hxt
  cases hs9 : stpP l p i with
  | none =>
   have hxx : xa = false ∧ xt = false := by
    have h1 := HST.out
    rw [hs9] at h1
    cases xa with
    | true => rw [if_pos rfl] at h1; cases h1
    | false =>
     rw [if_neg (by decide)] at h1
     cases xt with
     | true => rw [if_pos rfl] at h1; cases h1
     | false => exact ⟨rfl, rfl⟩
   obtain ⟨rfl, rfl⟩ := hxx
   have hwk : wlkK l a b d p bh fs cur (i + 1) = ci := by rw [wlkK_succ, HCI.out]; unfold wlkS; rw [hs9]
   have HWK := hide hwk
   clear hwk hs9
   go_wp2_with fail
   go_roundw
   case rel => exact ⟨i + 1, by go_num, by have := HLT.out; omega, by rw [HWK.out]; exact HWr.out.up HB8.out, only_trans HGr.out (grown_of_below HB8.out)⟩
   case measure => simp [intOf]; have := HLT.out; omega
  | some r =>
  have HSR := hide hs9
  clear hs9
  go_step
  go_step
  go_cut [94] from 93 to 103 (fun _ wc => Hid (wc.heap[xb]? = some (.cells #[.string y.name, .int .i64 y.fp, .int .i64 y.fc, .int .i64 y.tp, .int .i64 y.tc, .int .i64 y.size, .slice Ag y.form.length qg] 76 (0, 0))) ∧ Hid (wc.heap[nb]? = some (.cells #[.int .i64 r.1, .int .i64 r.2] 74 (0, 0))) ∧ Hid (Below wr.heap.size wr wc))
  case first =>
   have h1 := HST.out
   rw [HSR.out] at h1
   cases xa with
   | true =>
    rw [if_pos rfl] at h1
    injection h1 with h1
    subst h1
    go_wp2_with fail
    go_meet
    case rel => exact ⟨HX8, HN8, HB8⟩
   | false =>
    rw [if_neg (by decide)] at h1
    cases xt with
    | false => rw [if_neg (by decide)] at h1; cases h1
    | true =>
     rw [if_pos rfl] at h1
     injection h1 with h1
     subst h1
     go_wp2_with fail
     generalize hwz : World.setCell (World.setCell w8 _ _) _ _ = w9
     have hz1 := setCellOf HN8.out (i := 0) (.int .i64 y.fp)
     have hz2 := setCellOf hz1 (i := 1) (.int .i64 y.fc)
     have hg9 : w8.grownBy w9 (some nb) := by
      rw [← hwz]
      have hs1 : w8.grownBy (w8.setCell ⟨nb, 0, none⟩ (.int .i64 y.fp)) (some nb) := only_setCell (only_refl _ _) (.inl rfl) _
      exact only_setCell hs1 (.inl rfl) _
     rw [hwz] at hz2
     have hx9 := (hg9.block xb (box_lt HX8.out) (fun e => by injection e with e; have := HNS.out; have := HXS0.out; omega)).trans HX8.out
     have hB9 : Below wr.heap.size wr w9 := Below.grown HB8.out hg9 HB8.out.size (fun k hk => by injection hk with hk; have := HNS.out; omega)
     clear hwz hz1
     go_meet
     case rel => exact ⟨hx9, hz2, hB9⟩
  case rest =>
  obtain ⟨HX9, HN9, HB9⟩ := hcut
  obtain ⟨w9, hw9⟩ : ∃ wo : World, wo = wc := ⟨_, rfl⟩
  subst hw9
  have HW9 := hide (HWr.out.up HB9.out)
  have HO9 := hide (owns_below HOr.out HB9.out)
  have HF9 := hide (HFr.out.same fun j hj => HB9.out.block j (HFr.out.own.lt j hj).2)
  have HBE9 := hide (Below.trans HBEr.out (HB9.out.mono HBEr.out.size))
  have n0 := cellOf HN9.out 0
  have n1 := cellOf HN9.out 1
  have ln := box_lt HN9.out
  obtain ⟨cc, hcc⟩ : ∃ z, (bh ++ [p]).contains r = z := ⟨_, rfl⟩
  have HCC := hide hcc
  have hwk : wlkK l a b d p bh fs cur (i + 1) = if cc = true then ci else wlk l a b d r (bh ++ [p]) (fs ++ [fmW l i]) ci := by
   rw [wlkK_succ, HCI.out]
   unfold wlkS
   rw [HSR.out]
   dsimp only
   rw [hcc]
  have HWK := hide hwk
  have hpl : (bh ++ [p]).length = bh.length + 1 := by simp
  have HPN9 : Hid (Pns w9 w9.heap.size (.slice A6 (bh.length + 1) q6) (bh ++ [p])) := by
   have h1 := HO9.out
   rw [← hpl] at h1
   have h2 := Pns.of_own h1
   rw [hpl] at h2
   exact h2
  have HML : Hid ((bh ++ [p]).length ≤ maxLen) := by show _ ≤ _; rw [hpl]; unfold maxLen; omega
  clear hcc hwk hpl p0 p1 lp
  cases cc with
  | true =>
   go_wp2_with (go_at_call 174; refine (containsP_any (bh ++ [p]) r _ _ true HML.out HPN9.out HCC.out).mono ?_; rintro e w10 ⟨rfl, hB10⟩; have HB10 := hide hB10; clear hB10 n0 n1 ln)
   go_roundw
   case rel => exact ⟨i + 1, by go_num, by have := HLT.out; omega, by rw [HWK.out]; exact HW9.out.up HB10.out, only_trans HGr.out (only_trans (grown_of_below HB9.out) (grown_of_below HB10.out))⟩
   case measure => simp [intOf]; have := HLT.out; omega
  | false =>
  go_upto_region 16 with (go_at_call 174; refine (containsP_any (bh ++ [p]) r _ _ false HML.out HPN9.out HCC.out).mono ?_; rintro e w10 ⟨rfl, hB10⟩; have HB10 := hide hB10; clear hB10 n0 n1 ln)
  have HW10 := hide (HW9.out.up HB10.out)
  have HO10 := hide (owns_below HO9.out HB10.out)
  have HF10 := hide (HF9.out.same fun j hj => HB10.out.block j (HF9.out.own.lt j hj).2)
  have HBE10 := hide (Below.trans HBE9.out (HB10.out.mono HBE9.out.size))
  have HX10 := hide (box_to HX9.out HB10.out)
  have HN10 := hide (box_to HN9.out HB10.out)
  have x6 := cellOf HX10.out 6
  have lx := box_lt HX10.out
  have n0 := cellOf HN10.out 0
  have n1 := cellOf HN10.out 1
  have ln := box_lt HN10.out
  obtain ⟨_, hg10, _, _⟩ := HW10.out
  have s1 : ¬ isG g xb := fun e => by
   have h1 := HX10.out
   rw [show xb = g from e, hg10] at h1
   have h2 : 147 = 76 := congrArg (fun o => match o with | some (Obj.cells _ t _) => t | _ => 0) h1
   exact absurd h2 (by decide)
  have s2 : ¬ isG g nb := fun e => by
   have h1 := HN10.out
   rw [show nb = g from e, hg10] at h1
   have h2 : 147 = 74 := congrArg (fun o => match o with | some (Obj.cells _ t _) => t | _ => 0) h1
   exact absurd h2 (by decide)
  have HKF : Hid (∀ W, Keeps (isG g) w10 W → OFs wE 46 wE.heap.size W (.slice Af fs.length qf) fs vs) := fun W hW => ⟨HF10.out.len, owns_grown HF10.out.own (keeps_grown hW) hg10 (by decide), HF10.out.row⟩
  have HONE := hide HF10.out.one
  have hrE : r ∈ endsL l := by
   unfold endsL
   refine List.mem_flatMap.2 ⟨i, List.mem_range.2 HLT.out, ?_⟩
   have h1 := HSR.out
   unfold stpP at h1
   split at h1
   ·
    injection h1 with h1
    rw [← h1]
    exact List.mem_cons_of_mem _ (List.mem_singleton.2 rfl)
   ·
    split at h1
    ·
     injection h1 with h1
     rw [← h1]
     exact List.mem_cons_self
    ·
     cases h1
  have hrN : r ∉ bh ++ [p] := fun h => by
   have h1 := HCC.out
   rw [List.contains_iff_mem.2 h] at h1
   cases h1
  have hdd2 := fil_less hrE hrN
  have HDD2 : Hid (((endsL l).filter fun x => !((bh ++ [p]) ++ [r]).contains x).length < d) := by
   show _ < _
   have := HDD.out
   omega
  have hfm : fmW l i = y.form := by unfold fmW; rw [HY.out]
  have hyv := ((Lo.err_ok HOK.out).wi HLT.out).2
  have hyl := (HS.out.wn (l.ws.getD i Wi.o) (getD_mem7 HLT.out)).2
  rw [HY.out] at hyv hyl
  have HFS2 : Hid (∀ f ∈ fs ++ [fmW l i], validF l.m.opts.length f = true ∧ f.length ≤ maxLen) := fun f hf => by
   rcases List.mem_append.1 hf with h | h
   ·
    exact HFS.out f h
   ·
    rw [List.mem_singleton.1 h, hfm]
    exact ⟨hyv, hyl⟩
  have HIH : Hid (∀ W fv, Below w10.heap.size w10 W → W.ownsRow wE.heap.size 46 1 fv (fs.length + 1) (vs ++ [.slice Ag y.form.length qg]) → Calls Tryz.prog 108 #[.pointer (some ⟨g, 0, none⟩), .agg #[.int .i64 r.1, .int .i64 r.2], .slice A6 (bh.length + 1) q6, fv] W fun e w' => e = .returned (.tuple #[]) ∧ WayAt w' g A0 A1 A2 A3 A4 (some ⟨b5, o5, none⟩) q0 q1 q2 q3 q4 q5 l a b l.m.opts.length (wlk l a b d r (bh ++ [p]) (fs ++ [fmW l i]) ci) ∧ W.grownBy w' (some g)) := fun W fv hW hfv => by
   refine IH.out r (bh ++ [p]) (fs ++ [fmW l i]) ci _ fv (vs ++ [.slice Ag y.form.length qg]) W (HW10.out.up hW) (Below.trans HBE10.out (hW.mono HBE10.out.size)) (by rw [List.length_append]; exact owns_below HO10.out hW) ?_ HFS2.out (by rw [List.length_append]; show fs.length + 1 + d ≤ 30; omega) (by rw [List.length_append]; show bh.length + 1 + d ≤ 30; omega) HDD2.out
   refine OFs.push (HKF.out W (Keeps.of_below hW)) ?_ hfv
   rw [hfm]
   exact HYF.out
  clear hg10 hrE hrN hdd2 hfm hyv hyl
  have HWE10 : Hid (wE.heap.size ≤ w10.heap.size) := HBE10.out.size
  refine wp_region_held_drew (S := (fun w' => Keeps (isG g) w10 w')) (by kernel_rfl) ?_ (fun hHeld => ?_)
  ·
   try dsimp only
   exact zQ
  refine zU 0 rfl ?_
  refine zU 1 rfl ?_
  refine zU 2 rfl ?_
  refine zU 3 rfl ?_
  refine zU 5 rfl ?_
  refine zU 6 rfl ?_
  refine wpAnyH_ready (rs := [4, 7]) (by kernel_rfl) (by simp) ?_
  refine (AllReadyH.cons rfl (fun K hK => ?o2_7_4) (AllReadyH.cons rfl (fun K hK => ?o2_7_7) AllReadyH.nil))
  case' o2_7_4 =>
   go_simp
   ((first | ((try (generalize hC : World.alloc w10 _ = wC at hHeld ⊢; obtain ⟨hbC0, hBC0, hsC0⟩ := alloc1 hC; have hbC : wC.heap[w10.heap.size]? = some (.cells #[.slice Ag y.form.length qg] 46 (0, 0)) := hbC0; have hsC : wC.heap.size = w10.heap.size + 1 := hsC0; have hBC : Below w10.heap.size w10 wC := hBC0; clear hbC0 hBC0 hsC0 hC)); go_at_call 175; refine (cloneFo_any Af fs.length qf vs _ (OFs.reads (HKF.out _ hHeld) rfl) HONE.out (by omega)).mono ?_; rintro e w11 ⟨v11, rfl, hv11, hB11⟩; obtain ⟨A11, q11, e11⟩ := owns_form hv11; subst e11; have hKeep : Hid (Keeps (isG g) w10 w11) := Keeps.trans hHeld (Keeps.of_below hB11) (fun _ _ h => h)) | (go_at_call 108; refine (HIH.out _ _ (by first | exact HB12.out | exact Below.drew HB12.out) (by first | exact HO12.out | exact owns_below HO12.out (Below.drew (Below.refl _ _)))).mono ?_; rintro e w13 ⟨rfl, hw13, hg13⟩; have HW13 := hide hw13; have hKeep13 : Keeps (isG g) w10 w13 := Keeps.trans hHeld (Keeps.of_grown hg13 (fun k hk => by injection hk with hk; exact hk.symm)) (fun _ _ h => h); clear hw13 hg13)))
   (try dsimp only)
   refine hK.out _ _ zQ fun hNext => ?_; clear hK K hHeld; have hHeld := hNext; clear hNext; (try dsimp only at hHeld); try simp only [zX]
   refine wpAnyH_ready (rs := [7]) (by kernel_rfl) (by simp) ?_
   refine (AllReadyH.cons rfl (fun K hK => ?_) AllReadyH.nil)
   go_simp
   refine hK.out _ _ zQ fun hNext => ?_; clear hK K hHeld; have hHeld := hNext; clear hNext; (try dsimp only at hHeld); try simp only [zX]
   refine wpAnyH_ready (rs := [8]) (by kernel_rfl) (by simp) ?_
   refine (AllReadyH.cons rfl (fun K hK => ?_) AllReadyH.nil)
   (first | (have hB11a : Below w10.heap.size w10 w11 := Below.to (Below.drew (Below.refl w10.heap.size w10)) hB11 (Nat.le_refl _); have hx11 : w11.ownsRow w10.heap.size 46 1 (.slice A11 fs.length q11) fs.length vs := hv11; refine step_append_any _ (by rfl) (.tmp 112) (.tmp 115) _ (by rfl) wE.heap.size 46 i1 _ 1 24 Tryz.underlying23 hi1 jz0 jz1 jz2 (by rfl) (by omega) (.slice A11 fs.length q11) fs.length vs (by rfl) (World.ownsRow.alloc (w := w11) (owns_base hx11 HWE10.out) _) (w11.heap.size + 1) (some ⟨w11.heap.size, 0, none⟩) 1 1 [.slice Ag y.form.length qg] (by rfl) ⟨rfl, fun _ => ⟨_, rfl, by simp, World.news_of_block (heap_alloc_new w11 _)⟩⟩ (by simp [Value.oneCell']) (by unfold maxLen; omega) (by omega) (by have h2 := HWE10.out; have h3 := hB11a.size; simp; omega) ?_; intro v12 w12 hown12 hg12 hat12; have hB12 : Below w10.heap.size w10 w12 := Below.grown (Below.allocT hB11a (Nat.le_refl _) _) hg12 (by have h3 := hB11a.size; simp; omega) (fun j hj => (World.ownsRow.lt hx11 j hj).1); have hKeep12 : Keeps (isG g) w10 w12 := Keeps.of_below hB12; have HB12 := hide hB12; have HO12 := hide hown12; clear hB12 hown12 hg12 hat12) | (have hB11a : Below wC.heap.size wC w11 := Below.to (Below.drew (Below.refl wC.heap.size wC)) hB11 (Nat.le_refl _); have hx11 : w11.ownsRow wC.heap.size 46 1 (.slice A11 fs.length q11) fs.length vs := hv11; have hbA : w11.heap[w10.heap.size]? = some (.cells #[.slice Ag y.form.length qg] 46 (0, 0)) := box_to hbC hB11a; have hB11b : Below w10.heap.size w10 w11 := Below.trans hBC (hB11a.mono (by omega)); refine step_append_any _ (by rfl) (.tmp 112) (.tmp 115) _ (by rfl) wE.heap.size 46 i1 _ 1 24 Tryz.underlying23 hi1 jz0 jz1 jz2 (by rfl) (by omega) (.slice A11 fs.length q11) fs.length vs (by rfl) (owns_base hx11 (by have h2 := HWE10.out; omega)) (w10.heap.size + 1) (some ⟨w10.heap.size, 0, none⟩) 1 1 [.slice Ag y.form.length qg] (by rfl) ⟨rfl, fun _ => ⟨_, rfl, by simp, World.news_of_block hbA⟩⟩ (by simp [Value.oneCell']) (by unfold maxLen; omega) (by omega) (by have h2 := HWE10.out; have h3 := hB11b.size; omega) ?_; intro v12 w12 hown12 hg12 hat12; have hB12 : Below w10.heap.size w10 w12 := Below.grown hB11b hg12 hB11b.size (fun j hj => by have h1 := (World.ownsRow.lt hx11 j hj).1; omega); have hKeep12 : Keeps (isG g) w10 w12 := Keeps.of_below hB12; have HB12 := hide hB12; have HO12 := hide hown12; clear hB12 hown12 hg12 hat12))
   (try dsimp only)
   refine hK.out _ _ zQ fun hNext => ?_; clear hK K hHeld; have hHeld := hNext; clear hNext; (try dsimp only at hHeld); try simp only [zX]
   refine wpAnyH_ready (rs := [9]) (by kernel_rfl) (by simp) ?_
   refine (AllReadyH.cons rfl (fun K hK => ?_) AllReadyH.nil)
   go_simp
   ((first | ((try (generalize hC : World.alloc w10 _ = wC at hHeld ⊢; obtain ⟨hbC0, hBC0, hsC0⟩ := alloc1 hC; have hbC : wC.heap[w10.heap.size]? = some (.cells #[.slice Ag y.form.length qg] 46 (0, 0)) := hbC0; have hsC : wC.heap.size = w10.heap.size + 1 := hsC0; have hBC : Below w10.heap.size w10 wC := hBC0; clear hbC0 hBC0 hsC0 hC)); go_at_call 175; refine (cloneFo_any Af fs.length qf vs _ (OFs.reads (HKF.out _ hHeld) rfl) HONE.out (by omega)).mono ?_; rintro e w11 ⟨v11, rfl, hv11, hB11⟩; obtain ⟨A11, q11, e11⟩ := owns_form hv11; subst e11; have hKeep : Hid (Keeps (isG g) w10 w11) := Keeps.trans hHeld (Keeps.of_below hB11) (fun _ _ h => h)) | (go_at_call 108; refine (HIH.out _ _ (by first | exact HB12.out | exact Below.drew HB12.out) (by first | exact HO12.out | exact owns_below HO12.out (Below.drew (Below.refl _ _)))).mono ?_; rintro e w13 ⟨rfl, hw13, hg13⟩; have HW13 := hide hw13; have hKeep13 : Keeps (isG g) w10 w13 := Keeps.trans hHeld (Keeps.of_grown hg13 (fun k hk => by injection hk with hk; exact hk.symm)) (fun _ _ h => h); clear hw13 hg13)))
   (try dsimp only)
   refine hK.out _ _ zQ fun hNext => ?_; clear hK K hHeld; have hHeld := hNext; clear hNext; (try dsimp only at hHeld); try simp only [zX]
   refine wpAnyH_done (by kernel_rfl) ?_ _
  case' o2_7_7 =>
   go_simp
   refine hK.out _ _ zQ fun hNext => ?_; clear hK K hHeld; have hHeld := hNext; clear hNext; (try dsimp only at hHeld); try simp only [zX]
   refine wpAnyH_ready (rs := [4]) (by kernel_rfl) (by simp) ?_
   refine (AllReadyH.cons rfl (fun K hK => ?_) AllReadyH.nil)
   go_simp
   ((first | ((try (generalize hC : World.alloc w10 _ = wC at hHeld ⊢; obtain ⟨hbC0, hBC0, hsC0⟩ := alloc1 hC; have hbC : wC.heap[w10.heap.size]? = some (.cells #[.slice Ag y.form.length qg] 46 (0, 0)) := hbC0; have hsC : wC.heap.size = w10.heap.size + 1 := hsC0; have hBC : Below w10.heap.size w10 wC := hBC0; clear hbC0 hBC0 hsC0 hC)); go_at_call 175; refine (cloneFo_any Af fs.length qf vs _ (OFs.reads (HKF.out _ hHeld) rfl) HONE.out (by omega)).mono ?_; rintro e w11 ⟨v11, rfl, hv11, hB11⟩; obtain ⟨A11, q11, e11⟩ := owns_form hv11; subst e11; have hKeep : Hid (Keeps (isG g) w10 w11) := Keeps.trans hHeld (Keeps.of_below hB11) (fun _ _ h => h)) | (go_at_call 108; refine (HIH.out _ _ (by first | exact HB12.out | exact Below.drew HB12.out) (by first | exact HO12.out | exact owns_below HO12.out (Below.drew (Below.refl _ _)))).mono ?_; rintro e w13 ⟨rfl, hw13, hg13⟩; have HW13 := hide hw13; have hKeep13 : Keeps (isG g) w10 w13 := Keeps.trans hHeld (Keeps.of_grown hg13 (fun k hk => by injection hk with hk; exact hk.symm)) (fun _ _ h => h); clear hw13 hg13)))
   (try dsimp only)
   refine hK.out _ _ zQ fun hNext => ?_; clear hK K hHeld; have hHeld := hNext; clear hNext; (try dsimp only at hHeld); try simp only [zX]
   refine wpAnyH_ready (rs := [8]) (by kernel_rfl) (by simp) ?_
   refine (AllReadyH.cons rfl (fun K hK => ?_) AllReadyH.nil)
   (first | (have hB11a : Below w10.heap.size w10 w11 := Below.to (Below.drew (Below.refl w10.heap.size w10)) hB11 (Nat.le_refl _); have hx11 : w11.ownsRow w10.heap.size 46 1 (.slice A11 fs.length q11) fs.length vs := hv11; refine step_append_any _ (by rfl) (.tmp 112) (.tmp 115) _ (by rfl) wE.heap.size 46 i1 _ 1 24 Tryz.underlying23 hi1 jz0 jz1 jz2 (by rfl) (by omega) (.slice A11 fs.length q11) fs.length vs (by rfl) (World.ownsRow.alloc (w := w11) (owns_base hx11 HWE10.out) _) (w11.heap.size + 1) (some ⟨w11.heap.size, 0, none⟩) 1 1 [.slice Ag y.form.length qg] (by rfl) ⟨rfl, fun _ => ⟨_, rfl, by simp, World.news_of_block (heap_alloc_new w11 _)⟩⟩ (by simp [Value.oneCell']) (by unfold maxLen; omega) (by omega) (by have h2 := HWE10.out; have h3 := hB11a.size; simp; omega) ?_; intro v12 w12 hown12 hg12 hat12; have hB12 : Below w10.heap.size w10 w12 := Below.grown (Below.allocT hB11a (Nat.le_refl _) _) hg12 (by have h3 := hB11a.size; simp; omega) (fun j hj => (World.ownsRow.lt hx11 j hj).1); have hKeep12 : Keeps (isG g) w10 w12 := Keeps.of_below hB12; have HB12 := hide hB12; have HO12 := hide hown12; clear hB12 hown12 hg12 hat12) | (have hB11a : Below wC.heap.size wC w11 := Below.to (Below.drew (Below.refl wC.heap.size wC)) hB11 (Nat.le_refl _); have hx11 : w11.ownsRow wC.heap.size 46 1 (.slice A11 fs.length q11) fs.length vs := hv11; have hbA : w11.heap[w10.heap.size]? = some (.cells #[.slice Ag y.form.length qg] 46 (0, 0)) := box_to hbC hB11a; have hB11b : Below w10.heap.size w10 w11 := Below.trans hBC (hB11a.mono (by omega)); refine step_append_any _ (by rfl) (.tmp 112) (.tmp 115) _ (by rfl) wE.heap.size 46 i1 _ 1 24 Tryz.underlying23 hi1 jz0 jz1 jz2 (by rfl) (by omega) (.slice A11 fs.length q11) fs.length vs (by rfl) (owns_base hx11 (by have h2 := HWE10.out; omega)) (w10.heap.size + 1) (some ⟨w10.heap.size, 0, none⟩) 1 1 [.slice Ag y.form.length qg] (by rfl) ⟨rfl, fun _ => ⟨_, rfl, by simp, World.news_of_block hbA⟩⟩ (by simp [Value.oneCell']) (by unfold maxLen; omega) (by omega) (by have h2 := HWE10.out; have h3 := hB11b.size; omega) ?_; intro v12 w12 hown12 hg12 hat12; have hB12 : Below w10.heap.size w10 w12 := Below.grown hB11b hg12 hB11b.size (fun j hj => by have h1 := (World.ownsRow.lt hx11 j hj).1; omega); have hKeep12 : Keeps (isG g) w10 w12 := Keeps.of_below hB12; have HB12 := hide hB12; have HO12 := hide hown12; clear hB12 hown12 hg12 hat12))
   (try dsimp only)
   refine hK.out _ _ zQ fun hNext => ?_; clear hK K hHeld; have hHeld := hNext; clear hNext; (try dsimp only at hHeld); try simp only [zX]
   refine wpAnyH_ready (rs := [9]) (by kernel_rfl) (by simp) ?_
   refine (AllReadyH.cons rfl (fun K hK => ?_) AllReadyH.nil)
   go_simp
   ((first | ((try (generalize hC : World.alloc w10 _ = wC at hHeld ⊢; obtain ⟨hbC0, hBC0, hsC0⟩ := alloc1 hC; have hbC : wC.heap[w10.heap.size]? = some (.cells #[.slice Ag y.form.length qg] 46 (0, 0)) := hbC0; have hsC : wC.heap.size = w10.heap.size + 1 := hsC0; have hBC : Below w10.heap.size w10 wC := hBC0; clear hbC0 hBC0 hsC0 hC)); go_at_call 175; refine (cloneFo_any Af fs.length qf vs _ (OFs.reads (HKF.out _ hHeld) rfl) HONE.out (by omega)).mono ?_; rintro e w11 ⟨v11, rfl, hv11, hB11⟩; obtain ⟨A11, q11, e11⟩ := owns_form hv11; subst e11; have hKeep : Hid (Keeps (isG g) w10 w11) := Keeps.trans hHeld (Keeps.of_below hB11) (fun _ _ h => h)) | (go_at_call 108; refine (HIH.out _ _ (by first | exact HB12.out | exact Below.drew HB12.out) (by first | exact HO12.out | exact owns_below HO12.out (Below.drew (Below.refl _ _)))).mono ?_; rintro e w13 ⟨rfl, hw13, hg13⟩; have HW13 := hide hw13; have hKeep13 : Keeps (isG g) w10 w13 := Keeps.trans hHeld (Keeps.of_grown hg13 (fun k hk => by injection hk with hk; exact hk.symm)) (fun _ _ h => h); clear hw13 hg13)))
   (try dsimp only)
   refine hK.out _ _ zQ fun hNext => ?_; clear hK K hHeld; have hHeld := hNext; clear hNext; (try dsimp only at hHeld); try simp only [zX]
   refine wpAnyH_done (by kernel_rfl) ?_ _
  all_goals
   go_wp2_with fail
   go_roundw
   case rel => exact ⟨i + 1, by go_num, by have := HLT.out; omega, by rw [HWK.out]; exact HW13.out, only_trans HGr.out (only_trans (grown_of_below HB9.out) (only_trans (grown_of_below HB10.out) (keeps_grown hHeld)))⟩
   case measure => simp [intOf]; have := HLT.out; omega
end Go.Proofs.YtehadoecnmfeoaaGreat

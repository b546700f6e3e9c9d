/- Part 38 of this claim's texts: walks and plain laws. -/
import Derived.Test.YtehadoecnmfeoaaGreatRows
import Derived.Test.YtehadoecnmfeoaaGreatGBS34
import Derived.Test.YtehadoecnmfeoaaGreatGBS36
import Derived.Deep.DeepMust
import Derived.Deep.RegionHeld3
import Derived.Deep.DrawnRows
import Derived.Test.YtehadoecnmfeoaaGreatGBS3
set_option linter.unusedVariables false
set_option linter.unusedSimpArgs false
set_option linter.unusedSectionVars false
namespace Go.Proofs.YtehadoecnmfeoaaGreat
open Go.RowKit
theorem cont_yes {L : List Pn} {p : Pn} {k : Nat} (hk : k < L.length) (h : L.getD k (0, 0) = p) : L.contains p = true := by
 rw [List.contains_iff_mem, ← h, List.getD_eq_getElem?_getD, List.getElem?_eq_getElem hk]
 exact List.getElem_mem hk
theorem cont_no {L : List Pn} {p : Pn} (h : ∀ j, j < L.length → (L.getD j (0, 0) == p) = false) : L.contains p = false := by
 rw [Bool.eq_false_iff]
 intro hc
 rw [List.contains_iff_mem] at hc
 obtain ⟨i, hi, e⟩ := List.getElem_of_mem hc
 have h1 := h i hi
 rw [List.getD_eq_getElem?_getD, List.getElem?_eq_getElem hi] at h1
 simp [e] at h1
set_option maxRecDepth 100000 in
theorem has_any (L : List Pn) (p : Pn) (v : Value) (w : World) (hm : L.length ≤ maxLen) (h : Pns w w.heap.size v L) (c : Bool) (hc : L.contains p = c) :
  Calls Tryz.prog 177 #[v, .agg #[.int .i64 p.1, .int .i64 p.2]] w fun e w' => e = .returned (.bool c) ∧ Below w.heap.size w w' := by
 unfold maxLen at hm
 obtain ⟨A, cap, rfl⟩ := h.form
 have H := hide h
 have HC := hide hc
 clear h hc
 go_enter Tryz.func177, Tryz.ntmps177
 go_upto_region 1 with (fail)
 generalize hw0 : World.alloc _ _ = w0
 obtain ⟨hb0, hB0, hs0⟩ := alloc1 hw0
 obtain ⟨pb, hpb⟩ : ∃ z, w.heap.size = z := ⟨_, rfl⟩
 have HB0 := hide hB0
 rw [hpb] at hb0 ⊢
 have HX0 := hide hb0
 have HP : Hid (Pns w0 w0.heap.size (.slice A L.length cap) L) := H.out.up HB0.out
 have HBp : Hid (Below pb w w0) := by rw [← hpb]; exact HB0
 have hpw : pb ≤ w0.heap.size := by rw [← hpb]; exact hB0.size
 have HPW := hide hpw
 clear hw0 hB0 hs0 hb0 hpw
 obtain ⟨W0, hW0⟩ : ∃ wo : World, wo = w0 := ⟨_, rfl⟩
 subst hW0
 go_wp2
 go_loopw [5] (fun i wr => ∃ k : Nat, k ≤ L.length ∧ i = .int .i64 k ∧ Hid (∀ j, j < k → (L.getD j (0, 0) == p) = false) ∧ Hid (Below W0.heap.size W0 wr)) (fun i _ => L.length - (intOf i).toNat)
 case atStart => exact ⟨0, Nat.zero_le _, rfl, fun j hj => by omega, Below.refl _ _⟩
 case round =>
  obtain ⟨k, hk, rfl, hall, HW⟩ := hrel
  by_cases hlt : k < L.length
  case neg =>
   have hlt1 : ¬ (k : Int) < (L.length : Int) := by omega
   have hcf : c = false := HC.out.symm.trans (cont_no fun j hj => hall.out j (by omega))
   subst hcf
   go_wp2
   go_ret
   exact ⟨rfl, Below.trans HBp.out (HW.out.mono HPW.out)⟩
  case pos =>
   have hlt1 : (k : Int) < (L.length : Int) := by omega
   have ik0 : (0 : Int) ≤ (k : Int) := by omega
   obtain ⟨b, off, x, HX, hA, hbb, hq, c0, c1⟩ := (HP.out.up HW.out).at8 hlt
   subst hA
   have HXr := hide (box_to HX0.out HW.out)
   have x0 := cellOf HXr.out 0
   have x1 := cellOf HXr.out 1
   have lx := box_lt HXr.out
   have iq : (L.length : Int) ≤ (cap : Int) := by omega
   have he := fun w => pinEq x.1 x.2 p.1 p.2 w
   by_cases hx : x = p
   ·
    have he1 : (x.1 == p.1 && x.2 == p.2) = true := by rw [hx]; simp
    rw [he1] at he
    have hct : c = true := HC.out.symm.trans (cont_yes hlt (by rw [HX.out, hx]))
    subst hct
    clear hx he1 hq
    go_upto_region 4 with (fail)
    refine wp_region_held_drew (S := (fun w' => Below wr.heap.size wr w')) (by kernel_rfl) ?_ (fun hHeld => ?_)
    ·
     try dsimp only
     exact zP
    refine zT 0 rfl ?_
    refine zT 1 rfl ?_
    refine zT 2 rfl ?_
    refine zT 3 rfl ?_
    refine zT 4 rfl ?_
    refine zT 5 rfl ?_
    refine wpAnyH_done (by kernel_rfl) ?_ _
    go_wp2
    go_ret
    exact ⟨rfl, by first | exact Below.trans HBp.out ((Below.to HW.out hHeld (Nat.le_refl _)).mono HPW.out) | exact Below.trans HB0.out ((Below.to HW.out hHeld (Nat.le_refl _)).mono HB0.out.size)⟩
   ·
    have he1 : (x.1 == p.1 && x.2 == p.2) = false := by
     rw [Bool.eq_false_iff]
     intro h
     rw [Bool.and_eq_true, beq_iff_eq, beq_iff_eq] at h
     exact hx (Prod.ext h.1 h.2)
    rw [he1] at he
    have HE := hide hx
    clear hx he1 hq
    go_upto_region 4 with (fail)
    refine wp_region_held_drew (S := (fun w' => Below wr.heap.size wr w')) (by kernel_rfl) ?_ (fun hHeld => ?_)
    ·
     try dsimp only
     exact zP
    refine zT 0 rfl ?_
    refine zT 1 rfl ?_
    refine zT 2 rfl ?_
    refine zT 3 rfl ?_
    refine zT 4 rfl ?_
    refine zT 5 rfl ?_
    refine wpAnyH_done (by kernel_rfl) ?_ _
    go_wp2
    go_roundw
    case rel => exact ⟨k + 1, by omega, by go_num, fun j hj => by
      rcases Nat.lt_or_ge j k with h | h
      ·
       exact hall.out j h
      ·
       rw [show j = k from by omega, HX.out]; simpa using HE.out, Below.to HW.out hHeld (Nat.le_refl _)⟩
    case measure => simp [intOf]; omega
theorem NetS.below {w w' : World} {b0 B : Nat} {v : Value} {o : List (List Pn)} {vs : List Value} (h : NetS w b0 B v o vs) (hB : B ≤ w.heap.size) (hb : Below w.heap.size w w') : NetS w' b0 B v o vs := h.to (hb.mono hB)
theorem atN_at {o : List (List Pn)} {p : Pn} {k : Nat} (h : ∀ j, j < k → (o.getD j []).contains p = false) (hk : k < o.length) (hc : (o.getD k []).contains p = true) : atN o p = k := by
 unfold atN
 have hmem : ∃ x ∈ o, x.contains p = true := ⟨o.getD k [], by rw [List.getD_eq_getElem?_getD, List.getElem?_eq_getElem hk]; exact List.getElem_mem hk, hc⟩
 have h1 : o.findIdx (fun n => n.contains p) < o.length := List.findIdx_lt_length.2 hmem
 have h2 : (o[o.findIdx (fun n => n.contains p)]).contains p = true := List.findIdx_getElem (w := h1)
 rcases Nat.lt_trichotomy (o.findIdx fun n => n.contains p) k with h4 | h4 | h4
 ·
  have h5 := h _ h4
  rw [List.getD_eq_getElem?_getD, List.getElem?_eq_getElem h1] at h5
  have h6 : (o[o.findIdx (fun n => n.contains p)]).contains p = false := h5
  rw [h2] at h6
  cases h6
 ·
  exact h4
 ·
  have h5 := List.not_of_lt_findIdx h4
  rw [List.getD_eq_getElem?_getD, List.getElem?_eq_getElem hk] at hc
  exact absurd hc (by simpa using h5)
theorem atN_none {o : List (List Pn)} {p : Pn} (h : ∀ j, j < o.length → (o.getD j []).contains p = false) : atN o p = o.length := by
 unfold atN
 refine Nat.le_antisymm List.findIdx_le_length (Nat.le_of_not_lt fun h1 => ?_)
 have h2 : (o[o.findIdx (fun n => n.contains p)]).contains p = true := List.findIdx_getElem (w := h1)
 have h5 := h _ h1
 rw [List.getD_eq_getElem?_getD, List.getElem?_eq_getElem h1] at h5
 have h6 : (o[o.findIdx (fun n => n.contains p)]).contains p = false := h5
 rw [h2] at h6
 cases h6
set_option maxRecDepth 100000 in
set_option maxHeartbeats 2000000 in
theorem at_any (o : List (List Pn)) (vs : List Value) (v : Value) (p : Pn) (b0 B : Nat) (w : World) (n : Nat) (hn : NetS w b0 B v o vs) (hN : o.length ≤ 100000) (hB : B ≤ w.heap.size) (hr : atN o p = n) :
  Calls Tryz.prog 176 #[v, .agg #[.int .i64 p.1, .int .i64 p.2]] w fun e w' => e = .returned (.int .i64 n) ∧ Below w.heap.size w w' := by
 obtain ⟨A, q, rfl⟩ := owns_form hn.own
 have HS := hide hn
 have HR := hide hr
 clear hn hr
 go_enter Tryz.func176, Tryz.ntmps176
 go_upto_region 1 with (fail)
 generalize hw0 : World.alloc _ _ = w0
 obtain ⟨hb0, hB0, hs0⟩ := alloc1 hw0
 obtain ⟨pb, hpb⟩ : ∃ z, w.heap.size = z := ⟨_, rfl⟩
 have HB0 := hide hB0
 have HS0 := hide (HS.out.below hB hB0)
 rw [hpb] at hb0 ⊢
 have HX0 := hide hb0
 have HBp : Hid (Below pb w w0) := by rw [← hpb]; exact HB0
 have hpw : pb ≤ w0.heap.size := by rw [← hpb]; exact hB0.size
 have HPW := hide hpw
 have hBw : B ≤ w0.heap.size := Nat.le_trans hB hB0.size
 have HBW := hide hBw
 clear hw0 hB0 hs0 hb0 hpw hB hBw
 obtain ⟨W0, hW0⟩ : ∃ wo : World, wo = w0 := ⟨_, rfl⟩
 subst hW0
 go_wp2
 go_loopw [5] (fun i wr => ∃ k : Nat, k ≤ o.length ∧ i = .int .i64 k ∧ Hid (∀ j, j < k → (o.getD j []).contains p = false) ∧ Hid (Below W0.heap.size W0 wr)) (fun i _ => o.length - (intOf i).toNat)
 case atStart => exact ⟨0, Nat.zero_le _, rfl, fun j hj => by omega, Below.refl _ _⟩
 case round =>
  obtain ⟨k, hk, rfl, hall, HW⟩ := hrel
  by_cases hlt : k < o.length
  case neg =>
   have hlt1 : decide ((k : Int) < (o.length : Int)) = false := decide_eq_false (by omega)
   have hnn : n = k := HR.out.symm.trans ((atN_none fun j hj => hall.out j (by omega)).trans (by omega))
   subst hnn
   go_upto_region 2 with (fail)
   refine wp_region_held_drew (S := (fun w' => Below wr.heap.size wr w')) (by kernel_rfl) ?_ (fun hHeld => ?_)
   ·
    try dsimp only
    exact zP
   refine zT 0 rfl ?_
   refine zT 1 rfl ?_
   refine zT 2 rfl ?_
   refine zT 3 rfl ?_
   refine zT 4 rfl ?_
   refine zS 5 rfl ?_
   refine zS 6 rfl ?_
   refine zS 7 rfl ?_
   refine zS 8 rfl ?_
   refine zS 9 rfl ?_
   refine zS 10 rfl ?_
   refine zS 11 rfl ?_
   refine zT 12 rfl ?_
   refine wpAnyH_done (by kernel_rfl) ?_ _
   go_wp2
   go_ret
   exact ⟨rfl, by first | exact Below.trans HBp.out ((Below.to HW.out hHeld (Nat.le_refl _)).mono HPW.out) | exact Below.trans HB0.out ((Below.to HW.out hHeld (Nat.le_refl _)).mono HB0.out.size)⟩
  case pos =>
   have hlt1 : decide ((k : Int) < (o.length : Int)) = true := decide_eq_true (by omega)
   have hlt2 : (k : Int) < (o.length : Int) := by omega
   have ik0 : (0 : Int) ≤ (k : Int) := by omega
   obtain ⟨g, Ai, qi, net, HNT, hA, lg, hq, hnl, _, cg, hpn⟩ := (HS0.out.below HBW.out HW.out).at hlt
   subst hA
   have HPN := hide hpn
   have HXr := hide (box_to HX0.out HW.out)
   have x0 := cellOf HXr.out 0
   have x1 := cellOf HXr.out 1
   have lx := box_lt HXr.out
   have iq : (o.length : Int) ≤ (q : Int) := by omega
   have hm1 : Hid (net.length ≤ maxLen) := by show _ ≤ _; unfold maxLen; omega
   obtain ⟨c, hc⟩ : ∃ c, net.contains p = c := ⟨_, rfl⟩
   have HC := hide hc
   clear hpn hq hnl hc
   cases c with
   | true =>
    have hnn : n = k := HR.out.symm.trans (atN_at hall.out hlt (by rw [HNT.out]; exact HC.out))
    subst hnn
    go_upto_region 2 with (fail)
    refine wp_region_held_drew (S := (fun w' => Below wr.heap.size wr w')) (by kernel_rfl) ?_ (fun hHeld => ?_)
    ·
     try dsimp only
     exact zP
    refine zT 0 rfl ?_
    refine zT 1 rfl ?_
    refine zT 2 rfl ?_
    refine zT 3 rfl ?_
    refine zT 4 rfl ?_
    refine zT 5 rfl ?_
    refine zT 6 rfl ?_
    refine zT 7 rfl ?_
    refine zT 8 rfl ?_
    refine zT 9 rfl ?_
    refine wpAnyH_ready (rs := [10]) (by kernel_rfl) (by simp) ?_
    refine AllReadyH.cons rfl (fun K hK => ?_) AllReadyH.nil
    go_simp
    ((go_at_call 177; refine (has_any net p _ _ hm1.out (HPN.out.up zP) _ HC.out).mono ?_; rintro e w2 ⟨rfl, hHeld⟩))
    (try dsimp only)
    refine hK.out _ _ zP fun hNext => ?_; clear hK K hHeld; have hHeld := hNext; clear hNext; (try dsimp only at hHeld); try simp only [zX]
    refine zT 11 rfl ?_
    refine zT 12 rfl ?_
    refine wpAnyH_done (by kernel_rfl) ?_ _
    go_wp2
    go_ret
    exact ⟨rfl, by first | exact Below.trans HBp.out ((Below.to HW.out hHeld (Nat.le_refl _)).mono HPW.out) | exact Below.trans HB0.out ((Below.to HW.out hHeld (Nat.le_refl _)).mono HB0.out.size)⟩
   | false =>
    go_upto_region 2 with (fail)
    refine wp_region_held_drew (S := (fun w' => Below wr.heap.size wr w')) (by kernel_rfl) ?_ (fun hHeld => ?_)
    ·
     try dsimp only
     exact zP
    refine zT 0 rfl ?_
    refine zT 1 rfl ?_
    refine zT 2 rfl ?_
    refine zT 3 rfl ?_
    refine zT 4 rfl ?_
    refine zT 5 rfl ?_
    refine zT 6 rfl ?_
    refine zT 7 rfl ?_
    refine zT 8 rfl ?_
    refine zT 9 rfl ?_
    refine wpAnyH_ready (rs := [10]) (by kernel_rfl) (by simp) ?_
    refine AllReadyH.cons rfl (fun K hK => ?_) AllReadyH.nil
    go_simp
    ((go_at_call 177; refine (has_any net p _ _ hm1.out (HPN.out.up zP) _ HC.out).mono ?_; rintro e w2 ⟨rfl, hHeld⟩))
    (try dsimp only)
    refine hK.out _ _ zP fun hNext => ?_; clear hK K hHeld; have hHeld := hNext; clear hNext; (try dsimp only at hHeld); try simp only [zX]
    refine zT 11 rfl ?_
    refine zT 12 rfl ?_
    refine wpAnyH_done (by kernel_rfl) ?_ _
    go_wp2
    go_roundw
    case rel => exact ⟨k + 1, by omega, by go_num, fun j hj => by
      rcases Nat.lt_or_ge j k with h | h
      ·
       exact hall.out j h
      ·
       rw [show j = k from by omega, HNT.out]; exact HC.out, Below.to HW.out hHeld (Nat.le_refl _)⟩
    case measure => simp [intOf]; omega
set_option maxRecDepth 100000 in
theorem less_any (x y : Pn) (w : World) (c : Bool) (hc : ltP x y = c) :
  Calls Tryz.prog 179 #[.agg #[.int .i64 x.1, .int .i64 x.2], .agg #[.int .i64 y.1, .int .i64 y.2]] w fun e w' => e = .returned (.bool c) ∧ Below w.heap.size w w' := by
 have HC := hide hc
 clear hc
 by_cases h1 : x.1 = y.1
 ·
  have hn : (x.1 != y.1) = false := by simpa using h1
  have hcc : decide (x.2 < y.2) = c := by
   rw [← HC.out]
   unfold ltP
   simp [h1]
  clear h1
  go_enter Tryz.func179, Tryz.ntmps179
  go_upto_region 1 with (fail)
  generalize hw0 : World.alloc _ _ = w0
  obtain ⟨hb0, hb1, hB0, hs0⟩ := alloc2 hw0
  have HB0 := hide hB0
  have c0 := cellOf hb0 0
  have c1 := cellOf hb0 1
  have lc := box_lt hb0
  have d0 := cellOf hb1 0
  have d1 := cellOf hb1 1
  have ld := box_lt hb1
  clear hw0 hb0 hb1 hB0 hs0
  go_wp2_with fail
  go_ret
  exact ⟨rfl, HB0.out⟩
 ·
  have hn : (x.1 != y.1) = true := by simpa using h1
  have hcc : decide (x.1 < y.1) = c := by
   rw [← HC.out]
   unfold ltP
   simp [h1]
  clear h1
  go_enter Tryz.func179, Tryz.ntmps179
  go_upto_region 1 with (fail)
  generalize hw0 : World.alloc _ _ = w0
  obtain ⟨hb0, hb1, hB0, hs0⟩ := alloc2 hw0
  have HB0 := hide hB0
  have c0 := cellOf hb0 0
  have c1 := cellOf hb0 1
  have lc := box_lt hb0
  have d0 := cellOf hb1 0
  have d1 := cellOf hb1 1
  have ld := box_lt hb1
  clear hw0 hb0 hb1 hB0 hs0
  go_wp2_with fail
  go_ret
  exact ⟨rfl, HB0.out⟩
theorem con_at {o : List (List Pn)} (h : NetI o) (a b : Pn) : conB o a b = (decide (atN o a < o.length) && (o.getD (atN o a) []).contains b) := by
 by_cases hl : atN o a < o.length
 ·
  have h2 : (o[atN o a]).contains a = true := List.findIdx_getElem (w := hl)
  have e : o.getD (atN o a) [] = o[atN o a] := by rw [List.getD_eq_getElem?_getD, List.getElem?_eq_getElem hl]; rfl
  rw [e, decide_eq_true hl, Bool.true_and, Bool.eq_iff_iff, conB_iff, List.contains_iff_mem]
  constructor
  ·
   rintro ⟨n, hn, h3, h4⟩
   rw [h.one (List.getElem_mem hl) hn (by simpa using h2) h3]
   exact h4
  ·
   exact fun h3 => ⟨_, List.getElem_mem hl, by simpa using h2, h3⟩
 ·
  rw [decide_eq_false hl, Bool.false_and, Bool.eq_false_iff]
  intro hc
  obtain ⟨n, hn, h3, _⟩ := conB_iff.1 hc
  exact hl (List.findIdx_lt_length.2 ⟨n, hn, by simpa using h3⟩)
set_option maxRecDepth 100000 in
set_option maxHeartbeats 2000000 in
theorem rConnected_any (o : List (List Pn)) (vs : List Value) (v : Value) (a b : Pn) (b0 B : Nat) (w : World) (r : Bool) (hi : NetI o) (hn : NetS w b0 B v o vs) (hN : o.length ≤ 100000) (hB : B ≤ w.heap.size) (hr : conB o a b = r) :
  Calls Tryz.prog 110 #[v, .agg #[.int .i64 a.1, .int .i64 a.2], .agg #[.int .i64 b.1, .int .i64 b.2]] w fun e w' => e = .returned (.bool r) ∧ Below w.heap.size w w' := by
 rw [con_at hi] at hr
 obtain ⟨A, q, rfl⟩ := owns_form hn.own
 obtain ⟨k, hk⟩ : ∃ k, atN o a = k := ⟨_, rfl⟩
 have hkl : k ≤ o.length := by rw [← hk]; exact List.findIdx_le_length
 rw [hk] at hr
 have HS := hide hn
 have HR := hide hr
 have HK := hide hk
 clear hn hr hk
 go_enter Tryz.func110, Tryz.ntmps110
 go_upto_region 1 with (fail)
 generalize hw0 : World.alloc _ _ = w0
 obtain ⟨hb0, hb1, hB0, hs0⟩ := alloc2 hw0
 have HB0 := hide hB0
 have HS0 := hide (HS.out.below hB hB0)
 have HX0 := hide hb0
 have HX1 := hide hb1
 have c0 := cellOf hb0 0
 have c1 := cellOf hb0 1
 have lc := box_lt hb0
 have HBW : Hid (B ≤ w0.heap.size) := Nat.le_trans hB hB0.size
 clear hw0 hB0 hs0 hb0 hb1 hB
 go_upto_region 2 with (go_at_call 176; refine (at_any o vs _ a b0 B _ k HS0.out hN HBW.out HK.out).mono ?_; rintro e w1 ⟨rfl, hB1⟩; have HB1 := hide hB1; clear hB1 c0 c1 lc)
 by_cases hlt : k < o.length
 case neg =>
  have hlt1 : decide ((k : Int) < (o.length : Int)) = false := decide_eq_false (by omega)
  have hrf : r = false := by rw [← HR.out, decide_eq_false hlt]; rfl
  subst hrf
  refine wp_region_held_drew (S := (fun w' => Below w1.heap.size w1 w')) (by kernel_rfl) ?_ (fun hHeld => ?_)
  ·
   try dsimp only
   exact zP
  refine zT 0 rfl ?_
  refine zT 1 rfl ?_
  refine zT 2 rfl ?_
  refine zT 3 rfl ?_
  refine zT 4 rfl ?_
  refine zS 5 rfl ?_
  refine zS 6 rfl ?_
  refine zS 7 rfl ?_
  refine zS 8 rfl ?_
  refine zS 9 rfl ?_
  refine zS 10 rfl ?_
  refine zT 11 rfl ?_
  refine zT 12 rfl ?_
  refine wpAnyH_done (by kernel_rfl) ?_ _
  go_wp2
  go_ret
  exact ⟨rfl, Below.to HB0.out (Below.to HB1.out hHeld (Nat.le_refl _)) (Nat.le_refl _)⟩
 case pos =>
  have hlt1 : decide ((k : Int) < (o.length : Int)) = true := decide_eq_true (by omega)
  have hlt2 : (k : Int) < (o.length : Int) := by omega
  have ik0 : (0 : Int) ≤ (k : Int) := by omega
  obtain ⟨g, Ai, qi, net, HNT, hA, lg, hq, hnl, _, cg, hpn⟩ := (HS0.out.below HBW.out HB1.out).at hlt
  subst hA
  have HPN := hide hpn
  have HXr := hide (box_to HX1.out HB1.out)
  have x0 := cellOf HXr.out 0
  have x1 := cellOf HXr.out 1
  have lx := box_lt HXr.out
  have iq : (o.length : Int) ≤ (q : Int) := by omega
  have hm1 : Hid (net.length ≤ maxLen) := by show _ ≤ _; unfold maxLen; omega
  have hcb : net.contains b = r := by
   have h1 := HR.out
   rw [decide_eq_true hlt, Bool.true_and, HNT.out] at h1
   exact h1
  have HC := hide hcb
  clear hpn hq hnl hcb
  refine wp_region_held_drew (S := (fun w' => Below w1.heap.size w1 w')) (by kernel_rfl) ?_ (fun hHeld => ?_)
  ·
   try dsimp only
   exact zP
  refine zT 0 rfl ?_
  refine zT 1 rfl ?_
  refine zT 2 rfl ?_
  refine zT 3 rfl ?_
  refine zT 4 rfl ?_
  refine zT 5 rfl ?_
  refine zT 6 rfl ?_
  refine zT 7 rfl ?_
  refine zT 8 rfl ?_
  refine zT 9 rfl ?_
  refine wpAnyH_ready (rs := [10]) (by kernel_rfl) (by simp) ?_
  refine AllReadyH.cons rfl (fun K hK => ?_) AllReadyH.nil
  go_simp
  ((go_at_call 177; refine (has_any net b _ _ hm1.out (HPN.out.up zP) _ HC.out).mono ?_; rintro e w2 ⟨rfl, hHeld⟩))
  (try dsimp only)
  refine hK.out _ _ zP fun hNext => ?_; clear hK K hHeld; have hHeld := hNext; clear hNext; (try dsimp only at hHeld); try simp only [zX]
  refine zT 11 rfl ?_
  refine zT 12 rfl ?_
  refine wpAnyH_done (by kernel_rfl) ?_ _
  go_wp2
  go_ret
  exact ⟨rfl, Below.to HB0.out (Below.to HB1.out hHeld (Nat.le_refl _)) (Nat.le_refl _)⟩
end Go.Proofs.YtehadoecnmfeoaaGreat

/- Part 42 of this claim's texts: walks and plain laws. -/
import Derived.Test.YtehadoecnmfeoaaGreatRows
import Derived.Test.YtehadoecnmfeoaaGreatGBS39
import Derived.Test.YtehadoecnmfeoaaGreatGBS41
import Derived.Deep.DeepMust
import Derived.Deep.RegionHeld3
import Derived.Deep.DrawnRows
import Derived.Test.YtehadoecnmfeoaaGreatGBS3
set_option linter.unusedVariables false
set_option linter.unusedSimpArgs false
set_option linter.unusedSectionVars false
namespace Go.Proofs.YtehadoecnmfeoaaGreat
open Go.RowKit
def wirP (l : Lo) (i : Nat) : Pn × Pn := (((l.ws.getD i Wi.o).fp, (l.ws.getD i Wi.o).fc), ((l.ws.getD i Wi.o).tp, (l.ws.getD i Wi.o).tc))
def esL (l : Lo) (is : List Nat) : List (Pn × Pn) := is.map (wirP l)
theorem NetS.empty (w : World) (b0 B : Nat) : NetS w b0 B (.slice none 0 0) [] [] where
 own := World.ownsRow_nil _ _ _ _
 len := rfl
 low := fun j hj => nomatch hj
 row := fun i hi => absurd (show i < 0 from hi) (by omega)
 small := fun i hi => absurd (show i < 0 from hi) (by omega)
theorem esL_succ {l : Lo} {is : List Nat} {k x : Nat} (hk : k < is.length) (hx : is.getD k 0 = x) : esL l (is.take (k + 1)) = esL l (is.take k) ++ [wirP l x] := by
 unfold esL
 rw [List.take_add_one, List.map_append, List.getElem?_eq_getElem hk]
 rw [List.getD_eq_getElem?_getD, List.getElem?_eq_getElem hk] at hx
 have hx' : is[k] = x := hx
 rw [hx']
 rfl
theorem esL_len (l : Lo) (is : List Nat) (k : Nat) : (esL l (is.take k)).length ≤ is.length := by
 unfold esL
 rw [List.length_map, List.length_take]
 omega
theorem NetS.swap {w w' : World} {b0 B g n q : Nat} {o : List (List Pn)} {vs : List Value} (h : NetS w b0 B (.slice (some ⟨g, 0, none⟩) n q) o vs) {j : Nat} (hj : j < o.length) (h0 : 0 < j)
  (hown : w'.ownsRow b0 86 1 (.slice (some ⟨g, 0, none⟩) n q) o.length (swapL undef vs j)) (hg : w.grownBy w' (some g)) : NetS w' b0 B (.slice (some ⟨g, 0, none⟩) n q) (swapL [] o j) (swapL undef vs j) := by
 have hl := h.len
 obtain ⟨C, hC⟩ : ∃ C, w.heap[g]? = some (.cells C 86 (0, 0)) := by
  rcases h.own.2 with ⟨h', _⟩ | ⟨g', cap', cur, h', _, hg', _⟩
  ·
   cases h'
  ·
   injection h' with e1
   injection e1 with e1
   injection e1 with e1
   subst e1
   exact ⟨cur, hg'⟩
 have key : ∀ i, i < o.length → ∃ m, m < o.length ∧ (swapL [] o j).getD i [] = o.getD m [] ∧ (swapL undef vs j).getD i undef = vs.getD m undef := fun i hi => by
  rw [swapL_at hj h0, swapL_at (by omega) h0]
  by_cases h1 : i = j - 1
  ·
   rw [if_pos h1, if_pos h1]
   exact ⟨j, hj, rfl, rfl⟩
  ·
   rw [if_neg h1, if_neg h1]
   by_cases h2 : i = j
   ·
    rw [if_pos h2, if_pos h2]
    exact ⟨j - 1, by omega, rfl, rfl⟩
   ·
    rw [if_neg h2, if_neg h2]
    exact ⟨i, hi, rfl, rfl⟩
 refine ⟨by rw [swapL_len]; exact hown, by rw [swapL_len, swapL_len]; exact hl, h.low, fun i hi => ?_, fun i hi => ?_⟩
 ·
  rw [swapL_len] at hi
  obtain ⟨m, h1, h2, h3⟩ := key i hi
  rw [h2, h3]
  obtain ⟨h4, h5⟩ := h.row m h1
  exact ⟨owns_grown h4 hg hC (by decide), h5⟩
 ·
  rw [swapL_len] at hi
  obtain ⟨m, h1, h2, _⟩ := key i hi
  rw [h2]
  exact h.small m h1
theorem NetS.more {w : World} {b0 B B' : Nat} {v : Value} {o : List (List Pn)} {vs : List Value} (h : NetS w b0 B v o vs) (hB : B ≤ B') : NetS w b0 B' v o vs :=
 ⟨h.own, h.len, fun j hj => Nat.lt_of_lt_of_le (h.low j hj) hB, fun i hi => ⟨(h.row i hi).1, fun j hj => Nat.lt_of_lt_of_le ((h.row i hi).2 j hj) hB⟩, h.small⟩
theorem NetS.firstAt {w : World} {b0 B n q : Nat} {A : Option Addr} {o : List (List Pn)} {vs : List Value} (h : NetS w b0 B (.slice A n q) o vs) (hi : ∀ net ∈ o, net ≠ []) {k : Nat} (hk : k < o.length) : ∃ g g1 n1 c1, A = some ⟨g, 0, none⟩ ∧ g < w.heap.size ∧ o.length ≤ q ∧ w.cell? ⟨g, k, none⟩ = some (.slice (some ⟨g1, 0, none⟩) n1 c1) ∧ vs.getD k undef = .slice (some ⟨g1, 0, none⟩) n1 c1 ∧ 0 < n1 ∧ n1 ≤ c1 ∧ g1 < w.heap.size ∧
  w.cell? ⟨g1, 0, none⟩ = some (.int .i64 (hdP (o.getD k [])).1) ∧ w.cell? ⟨g1, 1, none⟩ = some (.int .i64 (hdP (o.getD k [])).2) := by
 obtain ⟨g, Ai, qi, net, HN, hA, lg, hq, hl, hv, hc, hp⟩ := h.at hk
 have hm : o.getD k [] ∈ o := by
  rw [List.getD_eq_getElem?_getD, List.getElem?_eq_getElem hk]
  exact List.getElem_mem hk
 have hne := hi _ hm
 have hrow := (h.row k hk).1
 rw [hv] at hrow
 have hpos : 0 < (o.getD k []).length := List.length_pos_iff.2 hne
 obtain ⟨g1, a, HA, hA1, _, hg1, hn1, hq1, c0, c1, _⟩ := own_pn hrow hpos
 subst hA1
 have e : (o.getD k []).getD 0 (0, 0) = hdP (o.getD k []) := by
  unfold hdP
  cases o.getD k [] <;> rfl
 have e2 := HA.out
 rw [e] at e2
 rw [e2]
 exact ⟨g, g1, _, qi, hA, lg, hq, hc, hv, by omega, by omega, hg1, by simpa using c0, by simpa using c1⟩
set_option maxRecDepth 100000 in
set_option maxHeartbeats 8000000 in
theorem rnets_any (is : List Nat) (v : Value) (A0 A1 A2 A3 A4 A5 : Option Addr) (q0 q1 q2 q3 q4 q5 : Nat) (l : Lo) (w : World) (h : LoA w w.heap.size A0 A1 A2 A3 A4 A5 q0 q1 q2 q3 q4 q5 l) (hin : ∀ i ∈ is, i < l.ws.length) (hl : is.length ≤ 100) (hw60 : l.ws.length ≤ 1000) (hv : Nods w w.heap.size v is) :
  Calls Tryz.prog 111 #[.agg #[.slice A0 l.m.opts.length q0, .slice A1 l.m.rules.length q1, .slice A2 l.ss.length q2, .slice A3 l.us.length q3, .slice A4 l.ps.length q4, .slice A5 l.ws.length q5], v] w (JoiP w.heap.size (netL (esL l is)) w) := by
 obtain ⟨i1, hi1, jz0, jz1, jz2⟩ := info_parts infoNet
 obtain ⟨Av, qv, rfl⟩ := hv.form
 have H := hide h
 have HV := hide hv
 have HIN := hide hin
 clear h hv hin
 go_enter Tryz.func111, Tryz.ntmps111
 go_upto_region 1 with (fail)
 generalize hw0 : World.alloc _ _ = w0
 obtain ⟨hb0, hB0, hs0⟩ := alloc1 hw0
 have HL0 : Hid (LoBox w0 w.heap.size A0 A1 A2 A3 A4 A5 q0 q1 q2 q3 q4 q5 l) := hb0
 have HB0 := hide hB0
 obtain ⟨lb, hlb⟩ : ∃ z, w.heap.size = z := ⟨_, rfl⟩
 rw [hlb] at HL0 ⊢
 have HLB := hide hlb
 have HLL : Hid (lb < w0.heap.size) := by rw [← hlb]; have := box_lt hb0; exact this
 clear hw0 hb0 hB0 hs0 hlb
 obtain ⟨W0, hW0⟩ : ∃ wo : World, wo = w0 := ⟨_, rfl⟩
 subst hW0
 go_wp2_with fail
 go_loopw [5, 6] (fun ov iv wr => ∃ (k : Nat) (vs : List Value), iv = .int .i64 k ∧ k ≤ is.length ∧ Hid (NetS wr w.heap.size wr.heap.size ov (netU (esL l (is.take k))) vs) ∧ Hid (Below W0.heap.size W0 wr)) (fun _ iv _ => is.length - (intOf iv).toNat)
 case atStart => exact ⟨0, [], rfl, Nat.zero_le _, NetS.empty _ _ _, Below.refl _ _⟩
 case round =>
  obtain ⟨k, vs, rfl, hk, HN, HBr⟩ := hrel
  obtain ⟨Ao, qo, e⟩ := owns_form HN.out.own
  subst e
  by_cases hlt : k < is.length
  case pos =>
   have hlt1 : (k : Int) < (is.length : Int) := by omega
   have ik0 : (0 : Int) ≤ (k : Int) := by omega
   obtain ⟨bi, oi, x, hxi, HX, hAi, hbi, hqi, ci⟩ : ∃ bi oi x, x < l.ws.length ∧ Hid (is.getD k 0 = x) ∧ Av = some ⟨bi, oi, none⟩ ∧ bi < wr.heap.size ∧ is.length ≤ qv ∧ wr.cell? ⟨bi, oi + k, none⟩ = some (.int .i64 (x : Nat)) := by
    obtain ⟨h1, h2, b, off, h3, h4, h5⟩ := sl_at (Sl.up HV.out (Below.trans HB0.out (HBr.out.mono HB0.out.size))) hlt
    refine ⟨b, off, _, HIN.out _ (by rw [List.getD_eq_getElem?_getD, List.getElem?_eq_getElem hlt]; exact List.getElem_mem hlt), rfl, h3, h4, by omega, ?_⟩
    have h6 := h5 0 (by omega)
    simpa using h6
   subst hAi
   have hxw : (x : Int) < (l.ws.length : Int) := by omega
   have hx0 : (0 : Int) ≤ (x : Int) := by omega
   have hxw2 : x < l.ws.length := hxi
   have HLr := hide (HL0.out.to HBr.out)
   obtain ⟨c0, c1, c2, c3, c4, c5⟩ := zL HLr.out
   have hlb := box_lt HLr.out
   obtain ⟨b5, o5, y, Af, qf, HY, hA5, hb5, hq5, HYF, y0, y1, y2, y3, y4, y5, y6⟩ := (H.out.up (Below.trans HB0.out (HBr.out.mono HB0.out.size))).wi hxi
   subst hA5
   have iq5 : (l.ws.length : Int) ≤ (q5 : Int) := by omega
   have iqv : (is.length : Int) ≤ (qv : Int) := by omega
   clear hqi hq5 hxi
   go_upto_region 5 with (fail)
   refine wp_region_held_drew (S := (fun w' => Below wr.heap.size wr w')) (by kernel_rfl) ?_ (fun hHeld => ?_)
   ·
    try dsimp only
    exact zP
   refine zT 0 rfl ?_
   refine zT 1 rfl ?_
   refine zT 2 rfl ?_
   refine zT 3 rfl ?_
   refine zT 4 rfl ?_
   refine zT 5 rfl ?_
   refine zT 6 rfl ?_
   refine zT 7 rfl ?_
   refine wpAnyH_ready (rs := [8]) (by kernel_rfl) (by simp) ?_
   refine AllReadyH.cons rfl (fun K hK => ?_) AllReadyH.nil
   go_simp
   refine hK.out _ _ zP fun hNext => ?_; clear hK K hHeld; have hHeld := hNext; clear hNext; (try dsimp only at hHeld); try simp only [zX]
   refine wpAnyH_ready (rs := [9]) (by kernel_rfl) (by simp) ?_
   refine AllReadyH.cons rfl (fun K hK => ?_) AllReadyH.nil
   go_simp
   refine hK.out _ _ zP fun hNext => ?_; clear hK K hHeld; have hHeld := hNext; clear hNext; (try dsimp only at hHeld); try simp only [zX]
   refine wpAnyH_done (by kernel_rfl) ?_ _
   generalize hw7 : World.alloc _ _ = w7 at hHeld ⊢
   obtain ⟨hx7, hB7, _⟩ := alloc1 hw7
   have HX7 : Hid (w7.drew.heap[wr.heap.size]? = some (.cells #[.string y.name, .int .i64 y.fp, .int .i64 y.fc, .int .i64 y.tp, .int .i64 y.tc, .int .i64 y.size, .slice Af y.form.length qf] 76 (0, 0))) := hx7
   have HB7 : Hid (Below wr.heap.size wr w7.drew) := Below.drew hB7
   generalize hw8 : World.drew w7 = w8 at HX7 HB7 ⊢
   clear hw7 hx7 hB7 hw8 hHeld c0 c1 c2 c3 c4 c5 hlb y0 y1 y2 y3 y4 y5 y6 ci hbi hb5
   have z1 := cellOf HX7.out 1
   have z2 := cellOf HX7.out 2
   have z3 := cellOf HX7.out 3
   have z4 := cellOf HX7.out 4
   have lz := box_lt HX7.out
   obtain ⟨o, ho⟩ : ∃ z, netU (esL l (is.take k)) = z := ⟨_, rfl⟩
   have hol : o.length ≤ 1000 := by
    rw [← ho]
    have h1 := netU_len (esL l (is.take k))
    have h2 := esL_len l is k
    omega
   have HTT : Hid (totN o ≤ 2000) := by
    show _ ≤ _
    rw [← ho]
    have h1 := netU_tot (esL l (is.take k))
    have h2 := esL_len l is k
    omega
   have HNI : Hid (NetI o) := by show NetI _; rw [← ho]; exact netU_i _
   have HNX : Hid (netU (esL l (is.take (k + 1))) = joiL o (y.fp, y.fc) (y.tp, y.tc)) := by
    show _ = _
    rw [esL_succ hlt HX.out, netU_snoc, ho]
    unfold wirP
    rw [HY.out]
   rw [ho] at HN ⊢
   have HN8 := hide (HN.out.to HB7.out)
   have HBr8 : Hid (wr.heap.size ≤ w8.heap.size) := HB7.out.size
   have HWs : Hid (w.heap.size ≤ w8.heap.size) := Nat.le_trans HB0.out.size (Nat.le_trans HBr.out.size HB7.out.size)
   clear ho
   go_upto_region 4 with (go_at_call 178; refine (rjoin_any o vs _ (y.fp, y.fc) (y.tp, y.tc) w.heap.size wr.heap.size _ HNI.out HN8.out hol HTT.out HBr8.out HWs.out).mono ?_; rintro e w9 ⟨v9, vs9, rfl, hN9, hB9⟩; have HN9 := hide hN9; have HB9 := hide (Below.to HBr.out (HB7.out.trans (hB9.mono HBr8.out)) (Nat.le_refl _)); clear hN9 hB9 z1 z2 z3 z4 lz)
   go_wp2_with fail
   go_roundw
   case rel => exact ⟨k + 1, vs9, by go_num, by omega, by rw [HNX.out]; exact HN9.out, HB9.out⟩
   case measure => simp [intOf]; omega
  case neg =>
   have hlt1 : ¬ (k : Int) < (is.length : Int) := by omega
   have hkk : is.take k = is := List.take_of_length_le (by omega)
   rw [hkk] at HN ⊢
   obtain ⟨o, ho⟩ : ∃ z, netU (esL l is) = z := ⟨_, rfl⟩
   have hol : o.length ≤ 1000 := by
    rw [← ho]
    have h1 := netU_len (esL l is)
    have h2 := esL_len l is is.length
    rw [List.take_length] at h2
    omega
   have HNI : Hid (NetI o) := by show NetI _; rw [← ho]; exact netU_i _
   have HNL : Hid (netL (esL l is) = sortN o) := by show _ = _; unfold netL; rw [ho]
   rw [ho] at HN ⊢
   have HBW := hide (Below.trans HB0.out (HBr.out.mono HB0.out.size))
   clear ho hkk
   obtain ⟨W2, hW2⟩ : ∃ wo : World, wo = wr := ⟨_, rfl⟩
   subst hW2
   go_wp2_with fail
   go_loopw [8] (fun nv wr => ∃ (n : Nat) (Q : List (List Pn)) (us : List Value), nv = .int .i64 n ∧ 1 ≤ n ∧ n ≤ o.length + 1 ∧ Hid (Q.Perm o) ∧ Hid (SrO ltN [] Q n) ∧ Hid (NetS wr w.heap.size W2.heap.size (.slice Ao o.length qo) Q us) ∧ Hid (Below w.heap.size w wr) ∧ Hid (W2.heap.size ≤ wr.heap.size)) (fun nv _ => o.length + 1 - (intOf nv).toNat)
   case atStart => exact ⟨1, o, vs, rfl, Nat.le_refl _, by omega, List.Perm.refl _, SrO.one o, HN.out, HBW.out, Nat.le_refl _⟩
   case round =>
    obtain ⟨n, Q, us, rfl, hn1, hnM, HPM, HSO, HNQ, HBq, HSZ⟩ := hrel
    have hQl : Hid (Q.length = o.length) := HPM.out.length_eq
    by_cases hlt : n < o.length
    case neg =>
     have hlt1 : ¬ (n : Int) < (o.length : Int) := by omega
     have HSQ : Hid (Q = sortN o) := srt_nets HNI.out (fun p q hp hq => HSO.out p q hp (by have := hQl.out; omega)) HPM.out
     go_wp2_with fail
     go_ret
     refine ⟨_, us, rfl, ?_, HBq.out⟩
     rw [HNL.out, ← HSQ.out]
     exact HNQ.out.more HSZ.out
    case pos =>
     have hlt1 : (n : Int) < (o.length : Int) := by omega
     have HLT := hide hlt
     go_wp2_with fail
     go_loopw [9] (fun jv wr => ∃ (j : Nat) (Q : List (List Pn)) (us : List Value), jv = .int .i64 j ∧ j ≤ n ∧ Hid (Q.Perm o) ∧ Hid (SrI ltN [] Q j n) ∧ Hid (NetS wr w.heap.size W2.heap.size (.slice Ao o.length qo) Q us) ∧ Hid (Below w.heap.size w wr) ∧ Hid (W2.heap.size ≤ wr.heap.size)) (fun jv _ => (intOf jv).toNat)
     case atStart => exact ⟨n, Q, us, rfl, Nat.le_refl _, HPM.out, HSO.out.start, HNQ.out, HBq.out, HSZ.out⟩
     case round =>
      obtain ⟨j, Q', us', rfl, hjn, HPM', HSI, HNQ', HBq', HSZ'⟩ := hrel
      have hLl : Hid (Q'.length = o.length) := HPM'.out.length_eq
      rcases Nat.eq_zero_or_pos j with hj0 | hj0
      ·
       have hgt : decide ((0 : Int) < (j : Int)) = false := decide_eq_false (by omega)
       have HSO2 : Hid (SrO ltN [] Q' (n + 1)) := HSI.out.stop (fun x y => ltP_asym _ _) (fun x y u => ltP_ntrans _ _ _) hjn (.inl hj0)
       go_upto_region 11 with (fail)
       refine wp_region_held_drew (S := (fun w' => Below wr.heap.size wr w')) (by kernel_rfl) ?_ (fun hHeld => ?_)
       ·
        try dsimp only
        exact zP
       refine zT 0 rfl ?_
       refine zT 1 rfl ?_
       refine zT 2 rfl ?_
       refine zS 3 rfl ?_
       refine zS 4 rfl ?_
       refine zS 5 rfl ?_
       refine zS 6 rfl ?_
       refine zS 7 rfl ?_
       refine zS 8 rfl ?_
       refine zS 9 rfl ?_
       refine zS 10 rfl ?_
       refine zS 11 rfl ?_
       refine zS 12 rfl ?_
       refine zS 13 rfl ?_
       refine zS 14 rfl ?_
       refine zS 15 rfl ?_
       refine zS 16 rfl ?_
       refine zT 17 rfl ?_
       refine wpAnyH_done (by kernel_rfl) ?_ _
       generalize hw6 : World.drew _ = w6 at hHeld ⊢
       have HN6 := hide (HNQ'.out.below HSZ'.out hHeld)
       have HB6 := hide (Below.to HBq'.out hHeld (Nat.le_refl _))
       have HS6 : Hid (W2.heap.size ≤ w6.heap.size) := Nat.le_trans HSZ'.out hHeld.size
       clear hw6 hHeld hj0
       go_wp2_with fail
       go_roundw
       case rel => exact ⟨n + 1, Q', us', by go_num, by omega, by have := HLT.out; omega, HPM', HSO2, HN6, HB6, HS6⟩
       case measure => simp [intOf]; have := HLT.out; omega
      ·
       obtain ⟨p, rfl⟩ : ∃ p, j = p + 1 := ⟨j - 1, by omega⟩
       have hMn := HLT.out
       have hne : ∀ net ∈ Q', net ≠ [] := fun net hn => HNI.out.ne net (HPM'.out.mem_iff.1 hn)
       obtain ⟨g, g1, n1, c1, hA1, lg, hqq, x0, hz1, i1p, i1c, l1, x1, x2⟩ := HNQ'.out.firstAt hne (k := p + 1) (by rw [hLl.out]; omega)
       obtain ⟨_, g2, n2, c2, hA2, hz2, hz3, y0, hz4, i2p, i2c, l2, y1, y2⟩ := HNQ'.out.firstAt hne (k := p) (by rw [hLl.out]; omega)
       subst hA1
       injection hA2 with hA2
       injection hA2 with hA2 _ _
       subst hA2
       have HV1 := hide hz1
       have HV2 := hide hz4
       obtain ⟨x, hx⟩ : ∃ x, hdP (Q'.getD (p + 1) []) = x := ⟨_, rfl⟩
       obtain ⟨y, hy⟩ : ∃ y, hdP (Q'.getD p []) = y := ⟨_, rfl⟩
       rw [hx] at x1 x2
       rw [hy] at y1 y2
       have hgt : decide ((0 : Int) < ((p + 1 : Nat) : Int)) = true := decide_eq_true (by omega)
       have hgt2 : decide ((0 : Int) < (p : Int) + 1) = true := decide_eq_true (by omega)
       have hgt3 : (0 : Int) < (p : Int) + 1 := by omega
       have ip0 : (0 : Int) ≤ (p : Int) := by omega
       have ip1 : (p : Int) < (o.length : Int) := by omega
       have ip2 : p < o.length := by omega
       have ip5 : (p : Int) + 1 < (o.length : Int) := by omega
       have ip6 : ((p + 1 : Nat) : Int) < (o.length : Int) := by omega
       have ip7 : 0 ≤ (p : Int) + 1 := by omega
       have ip8 : (0 : Int) ≤ ((p + 1 : Nat) : Int) := by omega
       have iq9 : (o.length : Int) ≤ (qo : Int) := by have := hLl.out; omega
       have in1 : (0 : Int) < (n1 : Int) := by omega
       have in2 : (0 : Int) < (n2 : Int) := by omega
       have ic1 : (n1 : Int) ≤ (c1 : Int) := by omega
       have ic2 : (n2 : Int) ≤ (c2 : Int) := by omega
       have wm : IntKind.i64.wrap (((p + 1 : Nat) : Int) - 1) = (p : Int) := by rw [IntWalk.i64_in _ (by omega)]; omega
       have wm2 : IntKind.i64.wrap ((p : Int) + 1 - 1) = (p : Int) := by rw [IntWalk.i64_in _ (by omega)]; omega
       have wm3 : IntKind.i64.wrap (p : Int) = (p : Int) := by rw [IntWalk.i64_in _ (by omega)]
       obtain ⟨c, hc⟩ : ∃ c, ltP x y = c := ⟨_, rfl⟩
       have HC := hide hc
       have HCN : Hid (ltN (Q'.getD (p + 1) []) (Q'.getD p []) = c) := by show ltP _ _ = _; rw [hx, hy]; exact hc
       clear hc hMn hj0 hqq hz1 hz2 hz3 hz4 hx hy hne i1c i2c
       go_upto_region 11 with (fail)
       refine wp_region_held_drew (S := (fun w' => Below wr.heap.size wr w')) (by kernel_rfl) ?_ (fun hHeld => ?_)
       ·
        try dsimp only
        exact zP
       refine zT 0 rfl ?_
       refine zT 1 rfl ?_
       refine zT 2 rfl ?_
       refine zT 3 rfl ?_
       refine zT 4 rfl ?_
       refine zT 5 rfl ?_
       refine zT 6 rfl ?_
       refine zT 7 rfl ?_
       refine zT 8 rfl ?_
       refine zT 9 rfl ?_
       refine zT 10 rfl ?_
       refine zT 11 rfl ?_
       refine zT 12 rfl ?_
       refine zT 13 rfl ?_
       refine zT 14 rfl ?_
       refine zT 15 rfl ?_
       refine wpAnyH_ready (rs := [16]) (by kernel_rfl) (by simp) ?_
       refine AllReadyH.cons rfl (fun K hK => ?_) AllReadyH.nil
       go_simp
       ((go_at_call 179; refine (less_any x y _ c HC.out).mono ?_; rintro e w6 ⟨rfl, hB6⟩))
       (try dsimp only)
       refine hK.out _ _ zP fun hNext => ?_; clear hK K hHeld; have hHeld := hNext; clear hNext; (try dsimp only at hHeld); try simp only [zX]
       refine zT 17 rfl ?_
       refine wpAnyH_done (by kernel_rfl) ?_ _
       have HN6 := hide (HNQ'.out.below HSZ'.out hHeld)
       have HB6 := hide (Below.to HBq'.out hHeld (Nat.le_refl _))
       have HS6 : Hid (W2.heap.size ≤ w6.heap.size) := Nat.le_trans HSZ'.out hHeld.size
       clear hHeld x0 x1 x2 y0 y1 y2 lg l1 l2 hB6
       cases c with
       | false =>
        have HSO2 : Hid (SrO ltN [] Q' (n + 1)) := HSI.out.stop (fun x y => ltP_asym _ _) (fun x y u => ltP_ntrans _ _ _) hjn (.inr (by rw [Nat.add_sub_cancel]; exact HCN.out))
        go_wp2_with fail
        go_roundw
        case rel => exact ⟨n + 1, Q', us', by go_num, by omega, by have := HLT.out; omega, HPM', HSO2, HN6, HB6, HS6⟩
        case measure => simp [intOf]; have := HLT.out; omega
       | true =>
        have hMn := HLT.out
        have hul : us'.length = o.length := by rw [HN6.out.len, hLl.out]
        have hown2 : w6.ownsRow w.heap.size 86 1 (.slice (some ⟨g, 0, none⟩) o.length qo) o.length us' := by
         have h1 := HN6.out.own
         rw [hLl.out] at h1
         exact h1
        have x0 := hown2.cellAt (p + 1) (by omega)
        have y0 := hown2.cellAt p (by omega)
        have e1 : us'[p + 1]? = some (.slice (some ⟨g1, 0, none⟩) n1 c1) := by
         rw [← HV1.out, List.getD_eq_getElem?_getD, List.getElem?_eq_getElem (by omega)]
         rfl
        have e2 : us'[p]? = some (.slice (some ⟨g2, 0, none⟩) n2 c2) := by
         rw [← HV2.out, List.getD_eq_getElem?_getD, List.getElem?_eq_getElem (by omega)]
         rfl
        rw [e1] at x0
        rw [e2] at y0
        obtain ⟨k1, k2⟩ := hown2.stored (p + 1) (.slice (some ⟨g2, 0, none⟩) n2 c2)
        obtain ⟨k3, k4⟩ := k1.stored p (.slice (some ⟨g1, 0, none⟩) n1 c1)
        have hset : (us'.set (p + 1) (.slice (some ⟨g2, 0, none⟩) n2 c2)).set p (.slice (some ⟨g1, 0, none⟩) n1 c1) = swapL undef us' (p + 1) := by
         unfold swapL
         rw [Nat.add_sub_cancel, HV1.out, HV2.out]
        rw [hset] at k3
        have HK3 := hide k3
        have HK4 := hide (only_trans k2 k4)
        have HSI2 : Hid (SrI ltN [] (swapL [] Q' (p + 1)) p n) := by
         have h1 := HSI.out.step (by omega) hjn (by rw [hLl.out]; exact HLT.out) (by rw [Nat.add_sub_cancel]; exact HCN.out)
         rw [Nat.add_sub_cancel] at h1
         exact h1
        have HPM2 : Hid ((swapL [] Q' (p + 1)).Perm o) := (swapL_perm (by rw [hLl.out]; omega) (by omega)).trans HPM'.out
        have hfz := fun j => hown2.frozenAt j
        have f0 := hfz (p + 1)
        have f1 := hfz p
        have lg : g < w6.heap.size := (hown2.lt g rfl).2
        have HLO : Hid (w.heap.size ≤ g) := (hown2.lt g rfl).1
        have hKeep : Hid (w6.grownBy w6.drew (some g)) := only_drew (only_refl _ _)
        clear hMn hul hown2 e1 e2 k1 k2 k3 k4 hset hfz
        go_upto_region 13 with (fail)
        refine wp_region_held_drew (S := (fun w' => w6.grownBy w' (some g))) (by kernel_rfl) ?_ (fun hHeld => ?_)
        ·
         try dsimp only
         exact zR
        refine zG 0 rfl ?_
        refine zG 1 rfl ?_
        refine zG 2 rfl ?_
        refine zG 3 rfl ?_
        refine zG 4 rfl ?_
        refine zG 5 rfl ?_
        refine zG 6 rfl ?_
        refine zG 7 rfl ?_
        refine zG 8 rfl ?_
        refine zG 10 rfl ?_
        refine zG 11 rfl ?_
        refine zG 12 rfl ?_
        refine wpAnyH_ready (rs := [9, 13]) (by kernel_rfl) (by simp) ?_
        refine (AllReadyH.cons rfl (fun K hK => ?o1_13_9) (AllReadyH.cons rfl (fun K hK => ?o1_13_13) AllReadyH.nil))
        case' o1_13_9 =>
         go_simp
         refine hK.out _ _ zR fun hNext => ?_; clear hK K hHeld; have hHeld := hNext; clear hNext; (try dsimp only at hHeld); try simp only [zX]
         refine wpAnyH_ready (rs := [13]) (by kernel_rfl) (by simp) ?_
         refine (AllReadyH.cons rfl (fun K hK => ?_) AllReadyH.nil)
         go_simp
         refine hK.out _ _ zR fun hNext => ?_; clear hK K hHeld; have hHeld := hNext; clear hNext; (try dsimp only at hHeld); try simp only [zX]
         refine zG 14 rfl ?_
         refine wpAnyH_ready (rs := [15]) (by kernel_rfl) (by simp) ?_
         refine (AllReadyH.cons rfl (fun K hK => ?_) AllReadyH.nil)
         go_simp
         refine hK.out _ _ zR fun hNext => ?_; clear hK K hHeld; have hHeld := hNext; clear hNext; (try dsimp only at hHeld); try simp only [zX]
         refine zG 16 rfl ?_
         refine wpAnyH_ready (rs := [17]) (by kernel_rfl) (by simp) ?_
         refine (AllReadyH.cons rfl (fun K hK => ?_) AllReadyH.nil)
         go_simp
         refine hK.out _ _ zR fun hNext => ?_; clear hK K hHeld; have hHeld := hNext; clear hNext; (try dsimp only at hHeld); try simp only [zX]
         refine wpAnyH_done (by kernel_rfl) ?_ _
        case' o1_13_13 =>
         go_simp
         refine hK.out _ _ zR fun hNext => ?_; clear hK K hHeld; have hHeld := hNext; clear hNext; (try dsimp only at hHeld); try simp only [zX]
         refine wpAnyH_ready (rs := [9]) (by kernel_rfl) (by simp) ?_
         refine (AllReadyH.cons rfl (fun K hK => ?_) AllReadyH.nil)
         go_simp
         refine hK.out _ _ zR fun hNext => ?_; clear hK K hHeld; have hHeld := hNext; clear hNext; (try dsimp only at hHeld); try simp only [zX]
         refine zG 14 rfl ?_
         refine wpAnyH_ready (rs := [15]) (by kernel_rfl) (by simp) ?_
         refine (AllReadyH.cons rfl (fun K hK => ?_) AllReadyH.nil)
         go_simp
         refine hK.out _ _ zR fun hNext => ?_; clear hK K hHeld; have hHeld := hNext; clear hNext; (try dsimp only at hHeld); try simp only [zX]
         refine zG 16 rfl ?_
         refine wpAnyH_ready (rs := [17]) (by kernel_rfl) (by simp) ?_
         refine (AllReadyH.cons rfl (fun K hK => ?_) AllReadyH.nil)
         go_simp
         refine hK.out _ _ zR fun hNext => ?_; clear hK K hHeld; have hHeld := hNext; clear hNext; (try dsimp only at hHeld); try simp only [zX]
         refine wpAnyH_done (by kernel_rfl) ?_ _
        all_goals
         have hk3 := HK3.out
         have hk4 := HK4.out
         generalize hwv : World.setCell (World.setCell w6 _ _) _ _ = w9 at hk3 hk4 ⊢
         have HK5 : Hid (NetS w9.drew w.heap.size W2.heap.size (.slice (some ⟨g, 0, none⟩) o.length qo) (swapL [] Q' (p + 1)) (swapL undef us' (p + 1))) := HN6.out.swap (by rw [hLl.out]; have := HLT.out; omega) (by omega) (by rw [hLl.out]; exact hk3) (only_drew hk4)
         have HB9 : Hid (Below w.heap.size w w9.drew) := Below.grown HB6.out (only_drew hk4) HB6.out.size (fun q hq => by injection hq with hq; rw [← hq]; exact HLO.out)
         have HS9 : Hid (W2.heap.size ≤ w9.drew.heap.size) := Nat.le_trans HS6.out (only_drew hk4).size
         clear hwv hk3 hk4 hHeld hKeep x0 y0 f0 f1 lg
         generalize hwd : World.drew w9 = w9d at HK5 HB9 HS9 ⊢
         clear hwd
         go_wp2_with fail
         go_roundw
         case rel => exact ⟨p, _, _, by first | rfl | go_num, by omega, HPM2, HSI2, HK5, HB9, HS9⟩
         case measure => simp [intOf] <;> omega
end Go.Proofs.YtehadoecnmfeoaaGreat

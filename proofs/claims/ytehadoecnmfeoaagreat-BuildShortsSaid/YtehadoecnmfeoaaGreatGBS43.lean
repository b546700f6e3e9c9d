/- Part 43 of this claim's texts: walks and plain laws. -/
import Derived.Test.YtehadoecnmfeoaaGreatRows
import Derived.Test.YtehadoecnmfeoaaGreatGBS34
import Derived.Test.YtehadoecnmfeoaaGreatGBS36
import Derived.Test.YtehadoecnmfeoaaGreatGBS42
import Derived.Laws.EntriesVeiled
import Derived.Deep.DeepMust
import Derived.Deep.RegionHeld3
import Derived.Deep.DrawnRows
import Derived.Test.YtehadoecnmfeoaaGreatGBS3
import Derived.Test.YtehadoecnmfeoaaGreatGBS31
import Derived.Test.YtehadoecnmfeoaaGreatGBS20
import Derived.Test.YtehadoecnmfeoaaGreatGBS27
import Derived.Test.YtehadoecnmfeoaaGreatGBS41
import Derived.Test.YtehadoecnmfeoaaGreatGBS26
import Derived.Test.YtehadoecnmfeoaaGreatGBS40
import Derived.Test.YtehadoecnmfeoaaGreatGBS30
import Derived.Test.YtehadoecnmfeoaaGreatGBS1
set_option linter.unusedVariables false
set_option linter.unusedSimpArgs false
set_option linter.unusedSectionVars false
namespace Go.Proofs.YtehadoecnmfeoaaGreat
open Go.RowKit
theorem NetS.append {wX w3 : World} {b0 B : Nat} {v v1 x : Value} {o : List (List Pn)} {vs : List Value} {net : List Pn} {ob : Obj} (h : NetS wX b0 B v o vs) (hx : wX.ownsRow b0 74 2 x net.length (rowV pnE net)) (hown : w3.ownsRow b0 86 1 v1 (vs.length + 1) (vs ++ [x])) (hg : (wX.alloc ob).grownBy w3 v.ownBlock) (hn : net.length ≤ 100000) :
  NetS w3 b0 w3.heap.size v1 (o ++ [net]) (vs ++ [x]) := by
 have ha : Below wX.heap.size wX (wX.alloc ob) := (Below.refl _ _).alloc (Nat.le_refl _) _
 have ho := owns_below h.own ha
 have key : ∀ {n : Nat} {u : Value} {c : List Value}, wX.ownsRow b0 74 2 u n c → w3.ownsRow b0 74 2 u n c := fun h1 => owns_other (owns_below h1 ha) ho (by decide) hg
 refine NetS.snoc hown h.len (fun j hj => (hown.lt j hj).2) (fun i hi => ?_) h.small (key hx) (fun j hj => ((key hx).lt j hj).2) hn
 have h1 := key (h.row i hi).1
 exact ⟨h1, fun j hj => (h1.lt j hj).2⟩
theorem NetS.base {w : World} {b0 b1 B : Nat} {v : Value} {o : List (List Pn)} {vs : List Value} (h : NetS w b0 B v o vs) (hb : b1 ≤ b0) : NetS w b1 B v o vs :=
 ⟨owns_base h.own hb, h.len, h.low, fun i hi => ⟨owns_base (h.row i hi).1 hb, (h.row i hi).2⟩, h.small⟩
theorem row_of_lit {w : World} {B e n size g : Nat} {cs : List Value} (hb : w.heap[g]? = some (.cells cs.toArray e (0, 0))) (hB : B ≤ g) (hm : n ≤ maxLen) (hs : cs.length = n * size) : w.ownsRow B e size (.slice (some ⟨g, 0, none⟩) n n) n cs :=
 ⟨hs, .inr ⟨g, n, _, rfl, hB, hb, Nat.le_refl _, hm, by simpa using hs, by simp [← hs]⟩⟩
set_option maxRecDepth 100000 in
set_option maxHeartbeats 8000000 in
theorem nets_any (is : List Nat) (v : Value) (A0 A1 A2 A3 A4 A5 : Option Addr) (q0 q1 q2 q3 q4 q5 : Nat) (l : Lo) (w : World) (h : LoA w w.heap.size A0 A1 A2 A3 A4 A5 q0 q1 q2 q3 q4 q5 l) (hin : ∀ i ∈ is, i < l.ws.length) (hl : is.length ≤ 100) (hw60 : l.ws.length ≤ 1000) (hv : Nods w w.heap.size v is) :
  Calls Tryz.prog 113 #[.agg #[.slice A0 l.m.opts.length q0, .slice A1 l.m.rules.length q1, .slice A2 l.ss.length q2, .slice A3 l.us.length q3, .slice A4 l.ps.length q4, .slice A5 l.ws.length q5], v] w (JoiP w.heap.size (netL (esL l is)) w) := by
 obtain ⟨i1, hi1, jz0, jz1, jz2⟩ := info_parts infoNet
 obtain ⟨Av, qv, rfl⟩ := hv.form
 have H := hide h
 have HV := hide hv
 have HIN := hide hin
 clear h hv hin
 go_enter Tryz.func113, Tryz.ntmps113
 go_upto_region 1 with (fail)
 generalize hw0 : World.alloc _ _ = w0
 obtain ⟨hb0, hB0, hs0⟩ := alloc1 hw0
 have HL0 : Hid (LoBox w0 w.heap.size A0 A1 A2 A3 A4 A5 q0 q1 q2 q3 q4 q5 l) := hb0
 have HB0 := hide hB0
 obtain ⟨lb, hlb⟩ : ∃ z, w.heap.size = z := ⟨_, rfl⟩
 rw [hlb] at HL0 ⊢
 have HLB := hide hlb
 have HLL : Hid (lb < w0.heap.size) := by rw [← hlb]; have := box_lt hb0; exact this
 clear hw0 hb0 hB0 hs0 hlb
 obtain ⟨W0, hW0⟩ : ∃ wo : World, wo = w0 := ⟨_, rfl⟩
 subst hW0
 go_wp2_with fail
 go_loopw [4, 11] (fun ov iv wr => ∃ (k : Nat) (vs : List Value), iv = .int .i64 k ∧ k ≤ is.length ∧ Hid (k = 0 → ov = .slice none 0 0) ∧ Hid (NetS wr W0.heap.size wr.heap.size ov (netU (esL l (is.take k))) vs) ∧ Hid (Below W0.heap.size W0 wr)) (fun _ iv _ => is.length - (intOf iv).toNat)
 case atStart => exact ⟨0, [], rfl, Nat.zero_le _, fun _ => rfl, NetS.empty _ _ _, Below.refl _ _⟩
 case round =>
  obtain ⟨k, vs, rfl, hk, HK0, HN, HBr⟩ := hrel
  obtain ⟨Ao, qo, e⟩ := owns_form HN.out.own
  subst e
  by_cases hlt : k < is.length
  case pos =>
   have hlt1 : (k : Int) < (is.length : Int) := by omega
   have ik0 : (0 : Int) ≤ (k : Int) := by omega
   obtain ⟨bi, oi, x, hxi, HX, hAi, hbi, hqi, ci⟩ : ∃ bi oi x, x < l.ws.length ∧ Hid (is.getD k 0 = x) ∧ Av = some ⟨bi, oi, none⟩ ∧ bi < wr.heap.size ∧ is.length ≤ qv ∧ wr.cell? ⟨bi, oi + k, none⟩ = some (.int .i64 (x : Nat)) := by
    obtain ⟨h1, h2, b, off, h3, h4, h5⟩ := sl_at (Sl.up HV.out (Below.trans HB0.out (HBr.out.mono HB0.out.size))) hlt
    refine ⟨b, off, _, HIN.out _ (by rw [List.getD_eq_getElem?_getD, List.getElem?_eq_getElem hlt]; exact List.getElem_mem hlt), rfl, h3, h4, by omega, ?_⟩
    have h6 := h5 0 (by omega)
    simpa using h6
   subst hAi
   have hxw : (x : Int) < (l.ws.length : Int) := by omega
   have hx0 : (0 : Int) ≤ (x : Int) := by omega
   have hxw2 : x < l.ws.length := hxi
   have HLr := hide (HL0.out.to HBr.out)
   obtain ⟨c0, c1, c2, c3, c4, c5⟩ := zL HLr.out
   have hlb := box_lt HLr.out
   obtain ⟨b5, o5, y, Af, qf, HY, hA5, hb5, hq5, HYF, y0, y1, y2, y3, y4, y5, y6⟩ := (H.out.up (Below.trans HB0.out (HBr.out.mono HB0.out.size))).wi hxi
   subst hA5
   have iq5 : (l.ws.length : Int) ≤ (q5 : Int) := by omega
   have iqv : (is.length : Int) ≤ (qv : Int) := by omega
   clear hqi hq5 hxi
   go_upto_region 6 with (fail)
   generalize hw7 : World.alloc _ _ = w7
   obtain ⟨hx7, hr7, hj7, hB7, hs7⟩ := alloc3x hw7
   obtain ⟨wb, hwb⟩ : ∃ z, wr.heap.size = z := ⟨_, rfl⟩
   obtain ⟨rb, hrb⟩ : ∃ z, wr.heap.size + 1 = z := ⟨_, rfl⟩
   obtain ⟨jb, hjb⟩ : ∃ z, wr.heap.size + 1 + 1 = z := ⟨_, rfl⟩
   have hj7' : w7.heap[jb]? = some (.cells #[.slice (some ⟨rb, 0, none⟩) 2 2] 86 (0, 0)) := by
    rw [← hjb, ← hrb]
    exact hj7
   have hx7' : w7.heap[wb]? = some (.cells #[.string y.name, .int .i64 y.fp, .int .i64 y.fc, .int .i64 y.tp, .int .i64 y.tc, .int .i64 y.size, .slice Af y.form.length qf] 76 (0, 0)) := by
    rw [← hwb]
    exact hx7
   have hrow : w7.ownsRow wr.heap.size 74 2 (.slice (some ⟨rb, 0, none⟩) 2 2) 2 (rowV pnE [(y.fp, y.fc), (y.tp, y.tc)]) := by
    refine row_of_lit (g := rb) (by rw [← hrb]; exact hr7) (by omega) (by unfold maxLen; omega) rfl
   rw [hjb, hwb]
   have HX7 := hide hx7'
   have HJ7 := hide hj7'
   have HR7 := hide hrow
   have HB7 := hide hB7
   have HWB : Hid (wr.heap.size ≤ wb) := by show _ ≤ _; omega
   have HJB : Hid (wr.heap.size ≤ jb) := by show _ ≤ _; omega
   clear hw7 hx7 hr7 hj7 hB7 hs7 hx7' hj7' hrow hwb hrb hjb c0 c1 c2 c3 c4 c5 hlb y0 y1 y2 y3 y4 y5 y6 ci hbi hb5
   obtain ⟨o, ho⟩ : ∃ z, netU (esL l (is.take k)) = z := ⟨_, rfl⟩
   have hol : o.length ≤ 1000 := by
    rw [← ho]
    have h1 := netU_len (esL l (is.take k))
    have h2 := esL_len l is k
    omega
   have htt : totN o ≤ 2000 := by
    rw [← ho]
    have h1 := netU_tot (esL l (is.take k))
    have h2 := esL_len l is k
    omega
   have HNI : Hid (NetI o) := by show NetI _; rw [← ho]; exact netU_i _
   have HNX : Hid (netU (esL l (is.take (k + 1))) = joiL o (y.fp, y.fc) (y.tp, y.tc)) := by
    show _ = _
    rw [esL_succ hlt HX.out, netU_snoc, ho]
    unfold wirP
    rw [HY.out]
   rw [ho] at HN ⊢
   have HN7 := hide (HN.out.to HB7.out)
   have HB07 : Hid (Below W0.heap.size W0 w7) := Below.to HBr.out HB7.out (Nat.le_refl _)
   have HW0 : Hid (W0.heap.size ≤ wr.heap.size) := HBr.out.size
   have HJK : Hid (∀ m, m ≤ o.length → (jonK [(y.fp, y.fc), (y.tp, y.tc)] (y.fp, y.fc) (y.tp, y.tc) o m).length ≤ 100000) := fun m hm => by
    have h1 := jonK_le [(y.fp, y.fc), (y.tp, y.tc)] (y.fp, y.fc) (y.tp, y.tc) o m hm
    have h2 := take_tot o m
    simp only [List.length_cons, List.length_nil] at h1
    omega
   have hbl : (bothL o (y.fp, y.fc) (y.tp, y.tc)).length ≤ 2000 := by
    have h1 := totN_split (touB (y.fp, y.fc) (y.tp, y.tc)) o
    have h2 : (bothL o (y.fp, y.fc) (y.tp, y.tc)).length = totN (o.filter (touB (y.fp, y.fc) (y.tp, y.tc))) := rfl
    omega
   have hfl : (o.filter fun n => !touB (y.fp, y.fc) (y.tp, y.tc) n).length ≤ 1000 := Nat.le_trans (List.length_filter_le _ _) hol
   clear ho htt
   go_upto_region 7 with (go_at_call 181; refine (deleteNets_any [(y.fp, y.fc), (y.tp, y.tc)] (y.fp, y.fc) (y.tp, y.tc) o vs Ao qo _ _ _ _ wb jb W0.heap.size wr.heap.size w7 HX7.out HJ7.out HR7.out HN7.out HJK.out (by omega) HB7.out.size HJB.out HWB.out HW0.out).mono ?_; rintro e w8 ⟨v8, vs8, jv8, rfl, hN8, hJ8, hR8, hB8, _⟩; have HN8 := hide hN8; have HJ8 := hide hJ8; have HR8 := hide hR8; have HB8 := hide (Below.trans HB07.out (hB8.mono (Nat.le_refl _))); clear hN8 hJ8 hR8 hB8)
   obtain ⟨F, hF⟩ : ∃ z, (o.filter fun n => !touB (y.fp, y.fc) (y.tp, y.tc) n) = z := ⟨_, rfl⟩
   obtain ⟨J, hJ⟩ : ∃ z, [(y.fp, y.fc), (y.tp, y.tc)] ++ bothL o (y.fp, y.fc) (y.tp, y.tc) = z := ⟨_, rfl⟩
   rw [hF] at HN8 hfl
   rw [hJ] at HR8
   have hJl : J.length ≤ 2002 ∧ 2 ≤ J.length := by rw [← hJ]; simp; omega
   obtain ⟨A8, q8, e8⟩ := owns_form HN8.out.own
   subst e8
   obtain ⟨Aj, qj, e8⟩ := owns_form HR8.out
   subst e8
   have HF := hide hF
   have HJE := hide hJ
   obtain ⟨g8, _, hz1, hA8, hz2⟩ := own_pn HR8.out (k := 0) (by omega)
   subst hA8
   have y0 := cellOf HJ8.out 0
   have ly := box_lt HJ8.out
   have HJL := hide hJl
   clear hF hJ hz1 hz2 hbl
   go_upto_region 8 with (go_at_call 183; refine (sortPins_own J wr.heap.size _ w8 (by omega) HR8.out).mono ?_; rintro e w9 ⟨rfl, Q, hQp, hQs, hQo, hQg⟩; have HQP := hide hQp; have HQS := hide hQs; have HQO := hide hQo; have HQG := hide hQg; clear hQp hQs hQo hQg y0 ly)
   have hBr8 : wr.heap.size ≤ w8.heap.size := by
    have := (HR8.out.lt g8 rfl)
    omega
   have HQG2 : Hid (Below wr.heap.size w8 w9) := (Below.refl _ _).grown HQG.out hBr8 (fun q hq => (HR8.out.lt q hq).1)
   have HJ9 : Hid (w9.heap[jb]? = some (.cells #[.slice (some ⟨g8, 0, none⟩) J.length qj] 86 (0, 0))) := (HQG.out.block jb (box_lt HJ8.out) (fun e => ownsNot HR8.out HJ8.out (by decide) e.symm)).trans HJ8.out
   have HN9 := hide (HN8.out.to HQG2.out)
   have HB9 := hide (Below.trans HB8.out (HQG2.out.mono HW0.out))
   have hBr9 : wr.heap.size ≤ w9.heap.size := Nat.le_trans hBr8 HQG2.out.size
   have hQl : Q.length = J.length := HQP.out.length_eq
   have HQO2 : Hid (w9.ownsRow wr.heap.size 74 2 (.slice (some ⟨g8, 0, none⟩) Q.length qj) Q.length (rowV pnE Q)) := by
    show World.ownsRow _ _ _ _ _ _ _
    have h1 := HQO.out
    rw [hQl] at h1 ⊢
    exact h1
   have HCP : Hid (Calls Tryz.prog 185 #[.slice (some ⟨g8, 0, none⟩) J.length qj] w9 fun e w' => e = .returned (.slice (some ⟨g8, 0, none⟩) (cmpP Q).length qj) ∧
     w'.ownsRow wr.heap.size 74 2 (.slice (some ⟨g8, 0, none⟩) (cmpP Q).length qj) (cmpP Q).length (rowV pnE (cmpP Q)) ∧ Below wr.heap.size w9 w') := by
    have h1 := compactP_any Q wr.heap.size g8 qj w9 (by omega) (by omega) hBr9 HQO2.out
    rw [hQl] at h1
    exact h1
   have HCS : Hid (cmpP Q = sortU ((y.fp, y.fc) :: (y.tp, y.tc) :: bothL o (y.fp, y.fc) (y.tp, y.tc))) := cmpP_sort HQS.out (by rw [← HJE.out] at HQP; exact HQP.out)
   have HCL : Hid ((cmpP Q).length ≤ 100000) := by
    show _ ≤ _
    rw [cmpP_len]
    have := kepC_le Q Q.length
    omega
   have hvl : vs8.length ≤ 1000 := by rw [HN8.out.len]; exact hfl
   have z0 := cellOf HJ9.out 0
   have lz := box_lt HJ9.out
   have HFL := HN8.out.len
   clear hBr8 hQl hJl
   go_wp2_with (first | (go_at_call 185; refine HCP.out.mono ?_; rintro e wc ⟨rfl, hRc, hBc⟩; have HRc := hide hRc; have HNc := hide (HN9.out.to hBc); have HBc := hide (Below.trans HB9.out (hBc.mono HW0.out)); clear hRc hBc z0 lz) | (at_builtin; go_must (refine wpList_append_own_at _ rfl (.tmp 30) (.tmp 33) _ rfl (W0.heap.size) 86 i1 _ 1 24 Tryz.underlying82 hi1 jz0 jz1 jz2 rfl (by omega) _ _ _ rfl ((HNc.out.own).alloc _) ⟨wc.heap.size, 0, none⟩ 1 1 [.slice (some ⟨g8, 0, none⟩) (cmpP Q).length qj] rfl rfl (World.news_of_block (heap_alloc_new wc _)) (by simp [Value.oneCell']) (by have h1 := hfl; unfold maxLen; omega) (by have h1 := hfl; omega) (by have h1 := HBc.out.size; simp; omega) ?_); intro v1 w3 hown1 hg1 _ hat1; obtain ⟨A9, q9, e2⟩ := owns_form hown1; subst e2; have HO3 := hide hown1; have HG3 := hide hg1; clear hown1 hg1 hat1))
   have HN3 : Hid (NetS w3 W0.heap.size w3.heap.size (.slice A9 (F.length + 1) q9) (netU (esL l (is.take (k + 1)))) (vs8 ++ [.slice (some ⟨g8, 0, none⟩) (cmpP Q).length qj])) := by
    show NetS _ _ _ _ _ _
    have h1 : joiL o (y.fp, y.fc) (y.tp, y.tc) = F ++ [cmpP Q] := by
     rw [HCS.out, ← HF.out]
     rfl
    rw [HNX.out, h1]
    refine NetS.append HNc.out (owns_base HRc.out HW0.out) ?_ HG3.out HCL.out
    have h2 := HO3.out
    rw [← HFL] at h2
    rw [← HFL]
    exact h2
   have HB3 : Hid (Below W0.heap.size W0 w3) := own_low HBc.out HNc.out.own (Nat.le_refl _) HG3.out
   go_roundw
   case rel => exact ⟨k + 1, _, by go_num, by omega, fun h => absurd h (by omega), HN3.out, HB3.out⟩
   case measure => simp [intOf]; omega
  case neg =>
   have hlt1 : ¬ (k : Int) < (is.length : Int) := by omega
   have hkk : is.take k = is := List.take_of_length_le (by omega)
   rw [hkk] at HN HK0 ⊢
   have hki : k = is.length := by omega
   obtain ⟨o, ho⟩ : ∃ z, netU (esL l is) = z := ⟨_, rfl⟩
   have hol : o.length ≤ 1000 := by
    rw [← ho]
    have h1 := netU_len (esL l is)
    have h2 := esL_len l is is.length
    rw [List.take_length] at h2
    omega
   have HNI : Hid (NetI o) := by show NetI _; rw [← ho]; exact netU_i _
   have HNL : Hid (netL (esL l is) = sortN o) := by show _ = _; unfold netL; rw [ho]
   have HNE : Hid (is ≠ [] → o ≠ []) := fun hne => by
    rw [← ho]
    have h1 : is = is.take (is.length - 1) ++ [is.getD (is.length - 1) 0] := by
     have h2 : 0 < is.length := List.length_pos_iff.2 hne
     conv => lhs; rw [← List.take_append_drop (is.length - 1) is]
     congr 1
     rw [List.drop_eq_getElem_cons (by omega), List.drop_eq_nil_of_le (by omega), List.getD_eq_getElem?_getD, List.getElem?_eq_getElem (by omega)]
     rfl
    rw [h1]
    unfold esL
    rw [List.map_append, List.map_cons, List.map_nil, netU_snoc]
    unfold joiL
    simp
   rw [ho] at HN HK0 ⊢
   have HBW := hide (Below.trans HB0.out (HBr.out.mono HB0.out.size))
   have HKI := hide hki
   clear ho hkk hki
   by_cases his : is = []
   ·
    have h0 := HK0.out (by rw [HKI.out, his]; rfl)
    have h1 : o = [] := by
     have h2 := HNL.out
     rw [his] at h2
     have h3 : netL (esL l []) = [] := rfl
     rw [h3] at h2
     cases ho2 : o with
     | nil => rfl
     | cons a r =>
      have h4 : a ∈ sortN o := sortN_mem.2 (by rw [ho2]; simp)
      rw [← h2] at h4
      cases h4
    have HR0 : Hid (JoiP w.heap.size (netL (esL l is)) w (.returned (.slice none 0 0)) wr) := by
     refine ⟨_, [], rfl, ?_, HBW.out⟩
     rw [HNL.out, h1]
     exact NetS.empty _ _ _
    have hso : Hid (Calls Tryz.prog 186 #[.slice none 0 0, .func (.func 187) #[] #[]] wr fun e w' => e = .returned (.tuple #[]) ∧ w' = wr) := AnyF.slices_SortFunc_none sfLays_f186b none 0 (.func (.func 187) #[] #[]) wr
    rw [h0] at HN ⊢
    clear h0 h1
    have h00 : (o.length : Int) = (o.length : Int) := rfl
    clear h00
    go_wp2_with (go_at_call 186; refine hso.out.mono ?_; rintro e w9 ⟨rfl, rfl⟩)
    go_ret
    exact HR0.out
   ·
    have hne := HNE.out his
    have HSO := hide (sortNets_own o vs _ W0.heap.size wr HN.out HNI.out hne (by omega))
    have HIS := hide his
    clear his hne
    go_wp2_with (go_at_call 186; refine HSO.out.mono ?_; rintro e w9 ⟨rfl, ⟨vs9, hN9⟩, hB9⟩; have HN9 := hide hN9; have HB9 := hide hB9; clear hN9 hB9)
    go_ret
    refine ⟨_, vs9, rfl, ?_, ?_⟩
    ·
     rw [HNL.out]
     exact HN9.out.base HB0.out.size
    ·
     exact Below.trans HBW.out ((HB9.out HBr.out.size).mono HB0.out.size)
def badW (l : Lo) (t : Int) : Bool := !btw t 0 ((l.ws.length : Int) - 1)
def chkB (l : Lo) (ts : List Int) : Bool := decide (60 < ts.length) || ts.any (badW l)
def chkE (l : Lo) (ts : List Int) : Int := if chkB l ts = true then 1 else 0
noncomputable def pcI (l : Lo) (i : Nat) : Int × Int := ((l.ws.getD i Wi.o).size, lenW l i)
noncomputable def cutK (l : Lo) (L : List Nat) (k : Nat) : List (Int × Int) := ((L.take k).filter fun i => decide (0 < lenW l i)).map (pcI l)
noncomputable def cutP (l : Lo) (x : List Bool) : List (Int × Int) := cutK l (belL l x) (belL l x).length
noncomputable def cutL (l : Lo) (x : List Bool) : List Ct := if copE l x = 0 then cutS (cutP l x) else []
def mC (ps : List (Int × Int)) (p : Int × Int) : Option Int := if 0 < cntC ps p.1 p.2 then some ((cntC ps p.1 p.2 : Nat) : Int) else none
def dwn (O : List Ct) (X : Ct) (k : Nat) : List Ct := O.take k ++ X :: O.drop k
def badS (l : Lo) (t : Int) : Bool := !btw t 0 ((l.ss.length : Int) - 1)
def givB (l : Lo) (ts : List Int) : Bool := btw ts.length 1 40 && !(ts.any (badS l))
def givE (l : Lo) (ts : List Int) : Int := havE l (givB l ts)
def ntsE (l : Lo) (ts : List Int) : Int := if l.err = 0 then chkE l ts else l.err
def ntsL (l : Lo) (ts : List Int) : List (List Pn) := if ntsE l ts = 0 then netL (esL l (ts.map Int.toNat)) else []
def NtsP (E : Int) (Q : List (List Pn)) (w : World) (e : Ending) (w' : World) : Prop := ∃ v vs, e = .returned (.tuple #[v, .int .i64 E]) ∧ NetS w' w.heap.size w'.heap.size v Q vs ∧ Below w.heap.size w w'
theorem bldE_nil (l : Lo) : bldE l [] = l.err := by
 unfold bldE
 by_cases h : l.err = 0
 ·
  simp [h]
 ·
  rw [if_pos h]
abbrev PP := Pn × Pn
def ppE (p : PP) : List Value := [.int .i64 p.1.1, .int .i64 p.1.2, .int .i64 p.2.1, .int .i64 p.2.2]
def ppZ : PP := ((0, 0), (0, 0))
def jonA (o : List (List Pn)) (i : Nat) : List PP := (List.range i).flatMap fun i => jonN (o.getD i [])
def jonB (net : List Pn) (k : Nat) : List PP := (List.range k).map fun k => (net.getD k (0, 0), net.getD (k + 1) (0, 0))
def apaA (o : List (List Pn)) (i : Nat) : List PP := (List.range i).flatMap (apaN o)
def apaB (o : List (List Pn)) (i k : Nat) : List PP := (List.range k).map fun m => (hdP (o.getD i []), hdP (o.getD (i + 1 + m) []))
structure PrS (W1 wr : World) (J A : List PP) (jv av : Value) : Prop where
 j : wr.ownsRow W1.heap.size 151 4 jv J.length (rowV ppE J)
 a : wr.ownsRow W1.heap.size 151 4 av A.length (rowV ppE A)
 ne : ∀ g, jv.ownBlock = some g → av.ownBlock ≠ some g
 bel : Below W1.heap.size W1 wr
section
variable {W1 wr w' : World} {J A : List PP} {jv av v1 : Value} {p : PP} {o : Obj}
end
def ppF (p : PP) (j : Nat) : Value := match j with
 | 0 => .int .i64 p.1.1
 | 1 => .int .i64 p.1.2
 | 2 => .int .i64 p.2.1
 | _ => .int .i64 p.2.2
def Pps (w : World) (B : Nat) (v : Value) (L : List PP) : Prop := Sl w B 4 v L.length (fun i j => ppF (L.getD i ppZ) j)
def PrbP (J A : List PP) (w : World) (e : Ending) (w' : World) : Prop := ∃ jv av, e = .returned (.tuple #[jv, av]) ∧ Pps w' w'.heap.size jv J ∧ Pps w' w'.heap.size av A ∧ Below w.heap.size w w'
def PrbE (E : Int) (J A : List PP) (w : World) (e : Ending) (w' : World) : Prop := ∃ jv av, e = .returned (.tuple #[jv, av, .int .i64 E]) ∧ Pps w' w'.heap.size jv J ∧ Pps w' w'.heap.size av A ∧ Below w.heap.size w w'
noncomputable def prbN (l : Lo) (x : List Bool) : List (List Pn) := netL (esL l (belL l x))
noncomputable def prbJ (l : Lo) (x : List Bool) : List PP := if copE l x = 0 then jonL (prbN l x) else []
noncomputable def prbA (l : Lo) (x : List Bool) : List PP := if copE l x = 0 then apaL (prbN l x) else []
theorem net_facts {es : List (Pn × Pn)} (h : es.length ≤ 60) : (netL es).length ≤ 100 ∧ totN (netL es) ≤ 1000 ∧ ∀ net ∈ netL es, net ≠ [] := by
 have hp : (netL es).Perm (netU es) := by
  have key : ∀ (l o : List (List Pn)), (l.foldl (fun s x => insN x s) o).Perm (l ++ o) := by
   intro l
   induction l with
   | nil => intro o; exact List.Perm.refl _
   | cons a l ih =>
    intro o
    rw [List.foldl_cons]
    refine (ih _).trans ?_
    have hin : ∀ o : List (List Pn), (insN a o).Perm (a :: o) := by
     intro o
     induction o with
     | nil => exact List.Perm.refl _
     | cons b r ih =>
      unfold insN
      split
      ·
       exact (List.Perm.cons b ih).trans (List.Perm.swap a b r)
      ·
       exact List.Perm.refl _
    exact ((hin o).append_left l).trans List.perm_middle
  have h1 := key (netU es) []
  rw [List.append_nil] at h1
  exact h1
 have h1 := netU_len es
 have h2 := netU_tot es
 refine ⟨by rw [hp.length_eq]; omega, ?_, fun net hn => (netU_i es).ne net (netL_mem.1 hn)⟩
 have h3 : totN (netL es) = totN (netU es) := by
  unfold totN
  rw [List.length_flatten, List.length_flatten]
  exact (hp.map List.length).sum_nat
 omega
theorem netL_perm (es : List (Pn × Pn)) : (netL es).Perm (netU es) := by
 have hin : ∀ (a : List Pn) (o : List (List Pn)), (insN a o).Perm (a :: o) := by
  intro a o
  induction o with
  | nil => exact List.Perm.refl _
  | cons b r ih =>
   unfold insN
   split
   ·
    exact (List.Perm.cons b ih).trans (List.Perm.swap a b r)
   ·
    exact List.Perm.refl _
 have key : ∀ (l o : List (List Pn)), (l.foldl (fun s x => insN x s) o).Perm (l ++ o) := by
  intro l
  induction l with
  | nil => intro o; exact List.Perm.refl _
  | cons a l ih =>
   intro o
   rw [List.foldl_cons]
   exact (ih _).trans (((hin a o).append_left l).trans List.perm_middle)
 have h1 := key (netU es) []
 rw [List.append_nil] at h1
 exact h1
theorem netL_i (es : List (Pn × Pn)) : NetI (netL es) where
 ne net hn := (netU_i es).ne net (netL_mem.1 hn)
 asc net hn := (netU_i es).asc net (netL_mem.1 hn)
 apart := ((netL_perm es).pairwise_iff fun {_ _} => Apart.symm).2 (netU_i es).apart
/-! whether nets connect two pins -/
set_option maxRecDepth 100000 in
set_option maxHeartbeats 2000000 in
theorem conn1_any (a b : Pn) (net : List Pn) (An : Option Addr) (qn pa pb : Nat) (w : World) (c : Bool) (ha : w.heap[pa]? = some (.cells #[.int .i64 a.1, .int .i64 a.2] 74 (0, 0))) (hb : w.heap[pb]? = some (.cells #[.int .i64 b.1, .int .i64 b.2] 74 (0, 0))) (hn : Pns w w.heap.size (.slice An net.length qn) net) (hN : net.length ≤ 100000) (hc : (net.contains a && net.contains b) = c) :
  Calls Tryz.prog 189 #[.slice An net.length qn, .pointer (some ⟨pa, 0, none⟩), .pointer (some ⟨pb, 0, none⟩)] w fun e w' => e = .returned (.bool c) ∧ Below w.heap.size w w' := by
 obtain ⟨c1, hc1⟩ : ∃ c, net.contains a = c := ⟨_, rfl⟩
 obtain ⟨c2, hc2⟩ : ∃ c, net.contains b = c := ⟨_, rfl⟩
 rw [hc1, hc2] at hc
 subst hc
 have HA := hide ha
 have HB := hide hb
 have HN := hide hn
 have HC1 := hide hc1
 have HC2 := hide hc2
 have x0 := cellOf ha 0
 have x1 := cellOf ha 1
 have lx := box_lt ha
 have hm1 : Hid (net.length ≤ maxLen) := by show _ ≤ _; unfold maxLen; omega
 clear ha hb hn hc1 hc2
 cases c1 with
 | false =>
  go_enter Tryz.func189, Tryz.ntmps189
  go_wp2_with (go_at_call 174; refine (containsP_any net a _ _ _ hm1.out HN.out HC1.out).mono ?_; rintro e w1 ⟨rfl, hB1⟩; have HB1 := hide hB1; clear hB1 x0 x1 lx)
  go_ret
  exact ⟨rfl, HB1.out⟩
 | true =>
  go_enter Tryz.func189, Tryz.ntmps189
  go_wp2_with (first | (go_at_call 174; have hgd := lx; refine (containsP_any net a _ _ _ hm1.out HN.out HC1.out).mono ?_; rintro e w1 ⟨rfl, hB1⟩; have HB1 := hide hB1; have HN1 := hide (HN.out.up hB1); have HBb := hide (box_to HB.out hB1); clear hB1 x0 x1 lx hgd; have y0 := cellOf HBb.out 0; have y1 := cellOf HBb.out 1; have ly := box_lt HBb.out) | (go_at_call 174; refine (containsP_any net b _ _ _ hm1.out HN1.out HC2.out).mono ?_; rintro e w2 ⟨rfl, hB2⟩; have HB2 := hide (Below.to HB1.out hB2 (Nat.le_refl _)); clear hB2 y0 y1 ly))
  go_ret
  exact ⟨rfl, HB2.out⟩
def conP (a b : Pn) (net : List Pn) : Bool := net.contains a && net.contains b
set_option maxRecDepth 100000 in
set_option maxHeartbeats 2000000 in
theorem indexConn_any (a b : Pn) (o : List (List Pn)) (vs : List Value) (A : Option Addr) (q pa pb b0 B : Nat) (w : World) (ha : w.heap[pa]? = some (.cells #[.int .i64 a.1, .int .i64 a.2] 74 (0, 0))) (hb : w.heap[pb]? = some (.cells #[.int .i64 b.1, .int .i64 b.2] 74 (0, 0))) (hn : NetS w b0 B (.slice A o.length q) o vs) (hN : o.length ≤ 100000) (hB : B ≤ w.heap.size) :
  Calls Tryz.prog 234 #[.slice A o.length q, .func (.func 189) #[] #[.pointer (some ⟨pa, 0, none⟩), .pointer (some ⟨pb, 0, none⟩)]] w
   fun e w' => e = .returned (.int .i64 (idxI (conP a b) o)) ∧ Below w.heap.size w w' := by
 have HA := hide ha
 have HB := hide hb
 have HS := hide hn
 have HBW := hide hB
 clear ha hb hn hB
 go_enter Tryz.func234, Tryz.ntmps234
 go_wp2
 go_loopw [5, 8] (fun _ i wr => ∃ k : Nat, k ≤ o.length ∧ i = .int .i64 k ∧ Hid (∀ j, j < k → conP a b (o.getD j []) = false) ∧ Hid (Below w.heap.size w wr)) (fun _ i _ => o.length - (intOf i).toNat)
 case atStart => exact ⟨0, Nat.zero_le _, rfl, fun j hj => by omega, Below.refl _ _⟩
 case round =>
  obtain ⟨k, hk, rfl, hz, HBr⟩ := hrel
  by_cases hlt : k < o.length
  case neg =>
   have hlt1 : ¬ (k : Int) < (o.length : Int) := by omega
   go_wp2
   go_ret
   have hid : idxI (conP a b) o = -1 := idxI_none _ [] o (fun j hj => hz.out j (by omega))
   exact ⟨ret_int hid.symm, HBr.out⟩
  case pos =>
   have hlt1 : (k : Int) < (o.length : Int) := by omega
   have ik0 : (0 : Int) ≤ (k : Int) := by omega
   obtain ⟨g, Ai, qi, net, HNT, hA, lg, hq, hnl, _, cg, hpn⟩ := (HS.out.below HBW.out HBr.out).at hlt
   subst hA
   have iq : (o.length : Int) ≤ (q : Int) := by omega
   obtain ⟨c, hc⟩ : ∃ c, conP a b net = c := ⟨_, rfl⟩
   have HCALL := hide (conn1_any a b net Ai qi pa pb wr c (box_to HA.out HBr.out) (box_to HB.out HBr.out) hpn hnl hc)
   have HC := hide hc
   clear hpn hq hc hnl
   cases c with
   | true =>
    go_wp2_with (go_at_call 189; refine HCALL.out.mono ?_; rintro e w1 ⟨rfl, hj2⟩; have HJ2 := hide (Below.to HBr.out hj2 (Nat.le_refl _)); clear hj2 cg lg)
    go_ret
    have hid : idxI (conP a b) o = (k : Int) := idxI_at _ [] o k hz.out hlt (by rw [HNT.out]; exact HC.out)
    exact ⟨ret_int hid.symm, HJ2.out⟩
   | false =>
    go_wp2_with (go_at_call 189; refine HCALL.out.mono ?_; rintro e w1 ⟨rfl, hj2⟩; have HJ2 := hide (Below.to HBr.out hj2 (Nat.le_refl _)); clear hj2 cg lg)
    go_roundw
    case rel => exact ⟨k + 1, by omega, by go_num, fun j hj => by
     rcases Nat.lt_or_ge j k with h | h
     ·
      exact hz.out j h
     ·
      rw [show j = k from by omega, HNT.out]; exact HC.out, HJ2⟩
    case measure => simp [intOf]; omega
set_option maxRecDepth 100000 in
theorem containsConn_any (a b : Pn) (o : List (List Pn)) (vs : List Value) (A : Option Addr) (q pa pb b0 B : Nat) (w : World) (ha : w.heap[pa]? = some (.cells #[.int .i64 a.1, .int .i64 a.2] 74 (0, 0))) (hb : w.heap[pb]? = some (.cells #[.int .i64 b.1, .int .i64 b.2] 74 (0, 0))) (hn : NetS w b0 B (.slice A o.length q) o vs) (hN : o.length ≤ 100000) (hB : B ≤ w.heap.size) (r : Bool) (hr : conB o a b = r) :
  Calls Tryz.prog 188 #[.slice A o.length q, .func (.func 189) #[] #[.pointer (some ⟨pa, 0, none⟩), .pointer (some ⟨pb, 0, none⟩)]] w
   fun e w' => e = .returned (.bool r) ∧ Below w.heap.size w w' := by
 have hid : decide (0 ≤ idxI (conP a b) o) = r := by rw [idxI_any]; exact hr
 have HI := hide (indexConn_any a b o vs A q pa pb b0 B w ha hb hn hN hB)
 have HR := hide hid
 clear ha hb hn hr hid hB
 go_enter Tryz.func188, Tryz.ntmps188
 go_wp2_with (go_at_call 234; refine HI.out.mono ?_; rintro e w1 ⟨rfl, hB1⟩)
 go_ret
 exact ⟨ret_bool HR.out, hB1⟩
set_option maxRecDepth 100000 in
theorem connected_any (a b : Pn) (o : List (List Pn)) (vs : List Value) (v : Value) (b0 B : Nat) (w : World) (hn : NetS w b0 B v o vs) (hN : o.length ≤ 100000) (hB : B ≤ w.heap.size) (r : Bool) (hr : conB o a b = r) :
  Calls Tryz.prog 116 #[v, .agg #[.int .i64 a.1, .int .i64 a.2], .agg #[.int .i64 b.1, .int .i64 b.2]] w fun e w' => e = .returned (.bool r) ∧ Below w.heap.size w w' := by
 obtain ⟨A, q, rfl⟩ := owns_form hn.own
 have HS := hide hn
 have HR := hide hr
 have HBW := hide hB
 clear hn hr hB
 go_enter Tryz.func116, Tryz.ntmps116
 go_upto_region 1 with (fail)
 generalize hw0 : World.alloc _ _ = w0
 obtain ⟨hb0, hb1, hB0, hs0⟩ := alloc2 hw0
 have HB0 := hide hB0
 obtain ⟨pa, hpa⟩ : ∃ z, w.heap.size = z := ⟨_, rfl⟩
 obtain ⟨pb, hpb⟩ : ∃ z, w.heap.size + 1 = z := ⟨_, rfl⟩
 rw [hpb] at hb1 ⊢
 rw [hpa] at hb0 ⊢
 have HC := hide (containsConn_any a b o vs A q pa pb b0 B w0 hb0 hb1 (HS.out.below HBW.out hB0) hN (Nat.le_trans HBW.out hB0.size) r HR.out)
 have HPA := hide hpa
 clear hw0 hb0 hb1 hB0 hs0 hpa hpb
 go_wp2_with (go_at_call 188; refine HC.out.mono ?_; rintro e w1 ⟨rfl, hB1⟩; have HB1 := hide (Below.to HB0.out hB1 (Nat.le_refl _)); clear hB1)
 go_ret
 exact ⟨rfl, HB1.out⟩
end Go.Proofs.YtehadoecnmfeoaaGreat

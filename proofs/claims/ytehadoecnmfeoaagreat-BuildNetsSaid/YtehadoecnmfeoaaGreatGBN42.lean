/- Part 42 of this claim's texts: walks and plain laws. -/
import Derived.Test.YtehadoecnmfeoaaGreatRows
import Derived.Test.YtehadoecnmfeoaaGreatGBN33
import Derived.Test.YtehadoecnmfeoaaGreatGBN35
import Derived.Test.YtehadoecnmfeoaaGreatGBN41
import Derived.Laws.EntriesVeiled
import Derived.Deep.DeepMust
import Derived.Deep.RegionHeld3
import Derived.Deep.DrawnRows
import Derived.Test.YtehadoecnmfeoaaGreatGBN3
import Derived.Test.YtehadoecnmfeoaaGreatGBN30
import Derived.Test.YtehadoecnmfeoaaGreatGBN19
import Derived.Test.YtehadoecnmfeoaaGreatGBN26
import Derived.Test.YtehadoecnmfeoaaGreatGBN40
import Derived.Test.YtehadoecnmfeoaaGreatGBN25
import Derived.Test.YtehadoecnmfeoaaGreatGBN39
import Derived.Test.YtehadoecnmfeoaaGreatGBN29
import Derived.Test.YtehadoecnmfeoaaGreatGBN1
set_option linter.unusedVariables false
set_option linter.unusedSimpArgs false
set_option linter.unusedSectionVars false
namespace Go.Proofs.YtehadoecnmfeoaaGreat
open Go.RowKit
theorem NetS.append {wX w3 : World} {b0 B : Nat} {v v1 x : Value} {o : List (List Pn)} {vs : List Value} {net : List Pn} {ob : Obj} (h : NetS wX b0 B v o vs) (hx : wX.ownsRow b0 74 2 x net.length (rowV pnE net)) (hown : w3.ownsRow b0 86 1 v1 (vs.length + 1) (vs ++ [x])) (hg : (wX.alloc ob).grownBy w3 v.ownBlock) (hn : net.length ≤ 100000) :
    NetS w3 b0 w3.heap.size v1 (o ++ [net]) (vs ++ [x]) := by
  have ha : Below wX.heap.size wX (wX.alloc ob) := (Below.refl _ _).alloc (Nat.le_refl _) _
  have ho := owns_below h.own ha
  have key : ∀ {n : Nat} {u : Value} {c : List Value}, wX.ownsRow b0 74 2 u n c → w3.ownsRow b0 74 2 u n c := fun h1 => owns_other (owns_below h1 ha) ho (by decide) hg
  refine NetS.snoc hown h.len (fun j hj => (hown.lt j hj).2) (fun i hi => ?_) h.small (key hx) (fun j hj => ((key hx).lt j hj).2) hn
  have h1 := key (h.row i hi).1
  exact ⟨h1, fun j hj => (h1.lt j hj).2⟩
theorem NetS.base {w : World} {b0 b1 B : Nat} {v : Value} {o : List (List Pn)} {vs : List Value} (h : NetS w b0 B v o vs) (hb : b1 ≤ b0) : NetS w b1 B v o vs :=
  ⟨owns_base h.own hb, h.len, h.low, fun i hi => ⟨owns_base (h.row i hi).1 hb, (h.row i hi).2⟩, h.small⟩
theorem row_of_lit {w : World} {B e n size g : Nat} {cs : List Value} (hb : w.heap[g]? = some (.cells cs.toArray e (0, 0))) (hB : B ≤ g) (hm : n ≤ maxLen) (hs : cs.length = n * size) : w.ownsRow B e size (.slice (some ⟨g, 0, none⟩) n n) n cs :=
  ⟨hs, .inr ⟨g, n, _, rfl, hB, hb, Nat.le_refl _, hm, by simpa using hs, by simp [← hs]⟩⟩
set_option maxRecDepth 100000 in
set_option maxHeartbeats 8000000 in
theorem nets_any (is : List Nat) (v : Value) (A0 A1 A2 A3 A4 A5 : Option Addr) (q0 q1 q2 q3 q4 q5 : Nat) (l : Lo) (w : World) (h : LoA w w.heap.size A0 A1 A2 A3 A4 A5 q0 q1 q2 q3 q4 q5 l) (hin : ∀ i ∈ is, i < l.ws.length) (hl : is.length ≤ 100) (hw60 : l.ws.length ≤ 1000) (hv : Nods w w.heap.size v is) :
    Calls Tryz.prog 113 #[.agg #[.slice A0 l.m.opts.length q0, .slice A1 l.m.rules.length q1, .slice A2 l.ss.length q2, .slice A3 l.us.length q3, .slice A4 l.ps.length q4, .slice A5 l.ws.length q5], v] w (JoiP w.heap.size (netL (esL l is)) w) := by
  obtain ⟨i1, hi1, jz0, jz1, jz2⟩ := info_parts infoNet
  obtain ⟨Av, qv, rfl⟩ := hv.form
  have H := hide h
  have HV := hide hv
  have HIN := hide hin
  clear h hv hin
  go_enter Tryz.func113, Tryz.ntmps113
  go_upto_region 1 with (fail)
  generalize hw0 : World.alloc _ _ = w0
  obtain ⟨hb0, hB0, hs0⟩ := alloc1 hw0
  have HL0 : Hid (LoBox w0 w.heap.size A0 A1 A2 A3 A4 A5 q0 q1 q2 q3 q4 q5 l) := hb0
  have HB0 := hide hB0
  obtain ⟨lb, hlb⟩ : ∃ z, w.heap.size = z := ⟨_, rfl⟩
  rw [hlb] at HL0 ⊢
  have HLB := hide hlb
  have HLL : Hid (lb < w0.heap.size) := by rw [← hlb]; have := box_lt hb0; exact this
  clear hw0 hb0 hB0 hs0 hlb
  obtain ⟨W0, hW0⟩ : ∃ wo : World, wo = w0 := ⟨_, rfl⟩
  subst hW0
  go_wp2_with fail
  go_loopw [4, 11] (fun ov iv wr => ∃ (k : Nat) (vs : List Value), iv = .int .i64 k ∧ k ≤ is.length ∧ Hid (k = 0 → ov = .slice none 0 0) ∧ Hid (NetS wr W0.heap.size wr.heap.size ov (netU (esL l (is.take k))) vs) ∧ Hid (Below W0.heap.size W0 wr)) (fun _ iv _ => is.length - (intOf iv).toNat)
  case atStart => exact ⟨0, [], rfl, Nat.zero_le _, fun _ => rfl, NetS.empty _ _ _, Below.refl _ _⟩
  case round =>
    obtain ⟨k, vs, rfl, hk, HK0, HN, HBr⟩ := hrel
    obtain ⟨Ao, qo, e⟩ := owns_form HN.out.own
    subst e
    by_cases hlt : k < is.length
    case pos =>
      have hlt1 : (k : Int) < (is.length : Int) := by omega
      have ik0 : (0 : Int) ≤ (k : Int) := by omega
      obtain ⟨bi, oi, x, hxi, HX, hAi, hbi, hqi, ci⟩ : ∃ bi oi x, x < l.ws.length ∧ Hid (is.getD k 0 = x) ∧ Av = some ⟨bi, oi, none⟩ ∧ bi < wr.heap.size ∧ is.length ≤ qv ∧ wr.cell? ⟨bi, oi + k, none⟩ = some (.int .i64 (x : Nat)) := by
        obtain ⟨h1, h2, b, off, h3, h4, h5⟩ := sl_at (Sl.up HV.out (Below.trans HB0.out (HBr.out.mono HB0.out.size))) hlt
        refine ⟨b, off, _, HIN.out _ (by rw [List.getD_eq_getElem?_getD, List.getElem?_eq_getElem hlt]; exact List.getElem_mem hlt), rfl, h3, h4, by omega, ?_⟩
        have h6 := h5 0 (by omega)
        simpa using h6
      subst hAi
      have hxw : (x : Int) < (l.ws.length : Int) := by omega
      have hx0 : (0 : Int) ≤ (x : Int) := by omega
      have hxw2 : x < l.ws.length := hxi
      have HLr := hide (HL0.out.to HBr.out)
      obtain ⟨c0, c1, c2, c3, c4, c5⟩ := zL HLr.out
      have hlb := box_lt HLr.out
      obtain ⟨b5, o5, y, Af, qf, HY, hA5, hb5, hq5, HYF, y0, y1, y2, y3, y4, y5, y6⟩ := (H.out.up (Below.trans HB0.out (HBr.out.mono HB0.out.size))).wi hxi
      subst hA5
      have iq5 : (l.ws.length : Int) ≤ (q5 : Int) := by omega
      have iqv : (is.length : Int) ≤ (qv : Int) := by omega
      clear hqi hq5 hxi
      go_upto_region 6 with (fail)
      generalize hw7 : World.alloc _ _ = w7
      obtain ⟨hx7, hr7, hj7, hB7, hs7⟩ := alloc3x hw7
      obtain ⟨wb, hwb⟩ : ∃ z, wr.heap.size = z := ⟨_, rfl⟩
      obtain ⟨rb, hrb⟩ : ∃ z, wr.heap.size + 1 = z := ⟨_, rfl⟩
      obtain ⟨jb, hjb⟩ : ∃ z, wr.heap.size + 1 + 1 = z := ⟨_, rfl⟩
      have hj7' : w7.heap[jb]? = some (.cells #[.slice (some ⟨rb, 0, none⟩) 2 2] 86 (0, 0)) := by
        rw [← hjb, ← hrb]
        exact hj7
      have hx7' : w7.heap[wb]? = some (.cells #[.string y.name, .int .i64 y.fp, .int .i64 y.fc, .int .i64 y.tp, .int .i64 y.tc, .int .i64 y.size, .slice Af y.form.length qf] 76 (0, 0)) := by
        rw [← hwb]
        exact hx7
      have hrow : w7.ownsRow wr.heap.size 74 2 (.slice (some ⟨rb, 0, none⟩) 2 2) 2 (rowV pnE [(y.fp, y.fc), (y.tp, y.tc)]) := by
        refine row_of_lit (g := rb) (by rw [← hrb]; exact hr7) (by omega) (by unfold maxLen; omega) rfl
      rw [hjb, hwb]
      have HX7 := hide hx7'
      have HJ7 := hide hj7'
      have HR7 := hide hrow
      have HB7 := hide hB7
      have HWB : Hid (wr.heap.size ≤ wb) := by show _ ≤ _; omega
      have HJB : Hid (wr.heap.size ≤ jb) := by show _ ≤ _; omega
      clear hw7 hx7 hr7 hj7 hB7 hs7 hx7' hj7' hrow hwb hrb hjb c0 c1 c2 c3 c4 c5 hlb y0 y1 y2 y3 y4 y5 y6 ci hbi hb5
      obtain ⟨o, ho⟩ : ∃ z, netU (esL l (is.take k)) = z := ⟨_, rfl⟩
      have hol : o.length ≤ 1000 := by
        rw [← ho]
        have h1 := netU_len (esL l (is.take k))
        have h2 := esL_len l is k
        omega
      have htt : totN o ≤ 2000 := by
        rw [← ho]
        have h1 := netU_tot (esL l (is.take k))
        have h2 := esL_len l is k
        omega
      have HNI : Hid (NetI o) := by show NetI _; rw [← ho]; exact netU_i _
      have HNX : Hid (netU (esL l (is.take (k + 1))) = joiL o (y.fp, y.fc) (y.tp, y.tc)) := by
        show _ = _
        rw [esL_succ hlt HX.out, netU_snoc, ho]
        unfold wirP
        rw [HY.out]
      rw [ho] at HN ⊢
      have HN7 := hide (HN.out.to HB7.out)
      have HB07 : Hid (Below W0.heap.size W0 w7) := Below.to HBr.out HB7.out (Nat.le_refl _)
      have HW0 : Hid (W0.heap.size ≤ wr.heap.size) := HBr.out.size
      have HJK : Hid (∀ m, m ≤ o.length → (jonK [(y.fp, y.fc), (y.tp, y.tc)] (y.fp, y.fc) (y.tp, y.tc) o m).length ≤ 100000) := fun m hm => by
        have h1 := jonK_le [(y.fp, y.fc), (y.tp, y.tc)] (y.fp, y.fc) (y.tp, y.tc) o m hm
        have h2 := take_tot o m
        simp only [List.length_cons, List.length_nil] at h1
        omega
      have hbl : (bothL o (y.fp, y.fc) (y.tp, y.tc)).length ≤ 2000 := by
        have h1 := totN_split (touB (y.fp, y.fc) (y.tp, y.tc)) o
        have h2 : (bothL o (y.fp, y.fc) (y.tp, y.tc)).length = totN (o.filter (touB (y.fp, y.fc) (y.tp, y.tc))) := rfl
        omega
      have hfl : (o.filter fun n => !touB (y.fp, y.fc) (y.tp, y.tc) n).length ≤ 1000 := Nat.le_trans (List.length_filter_le _ _) hol
      clear ho htt
      go_upto_region 7 with (go_at_call 181; refine (deleteNets_any [(y.fp, y.fc), (y.tp, y.tc)] (y.fp, y.fc) (y.tp, y.tc) o vs Ao qo _ _ _ _ wb jb W0.heap.size wr.heap.size w7 HX7.out HJ7.out HR7.out HN7.out HJK.out (by omega) HB7.out.size HJB.out HWB.out HW0.out).mono ?_; rintro e w8 ⟨v8, vs8, jv8, rfl, hN8, hJ8, hR8, hB8, _⟩; have HN8 := hide hN8; have HJ8 := hide hJ8; have HR8 := hide hR8; have HB8 := hide (Below.trans HB07.out (hB8.mono (Nat.le_refl _))); clear hN8 hJ8 hR8 hB8)
      obtain ⟨F, hF⟩ : ∃ z, (o.filter fun n => !touB (y.fp, y.fc) (y.tp, y.tc) n) = z := ⟨_, rfl⟩
      obtain ⟨J, hJ⟩ : ∃ z, [(y.fp, y.fc), (y.tp, y.tc)] ++ bothL o (y.fp, y.fc) (y.tp, y.tc) = z := ⟨_, rfl⟩
      rw [hF] at HN8 hfl
      rw [hJ] at HR8
      have hJl : J.length ≤ 2002 ∧ 2 ≤ J.length := by rw [← hJ]; simp; omega
      obtain ⟨A8, q8, e8⟩ := owns_form HN8.out.own
      subst e8
      obtain ⟨Aj, qj, e8⟩ := owns_form HR8.out
      subst e8
      have HF := hide hF
      have HJE := hide hJ
      obtain ⟨g8, _, hz1, hA8, hz2⟩ := own_pn HR8.out (k := 0) (by omega)
      subst hA8
      have y0 := cellOf HJ8.out 0
      have ly := box_lt HJ8.out
      have HJL := hide hJl
      clear hF hJ hz1 hz2 hbl
      go_upto_region 8 with (go_at_call 183; refine (sortPins_own J wr.heap.size _ w8 (by omega) HR8.out).mono ?_; rintro e w9 ⟨rfl, Q, hQp, hQs, hQo, hQg⟩; have HQP := hide hQp; have HQS := hide hQs; have HQO := hide hQo; have HQG := hide hQg; clear hQp hQs hQo hQg y0 ly)
      have hBr8 : wr.heap.size ≤ w8.heap.size := by
        have := (HR8.out.lt g8 rfl)
        omega
      have HQG2 : Hid (Below wr.heap.size w8 w9) := (Below.refl _ _).grown HQG.out hBr8 (fun q hq => (HR8.out.lt q hq).1)
      have HJ9 : Hid (w9.heap[jb]? = some (.cells #[.slice (some ⟨g8, 0, none⟩) J.length qj] 86 (0, 0))) := (HQG.out.block jb (box_lt HJ8.out) (fun e => ownsNot HR8.out HJ8.out (by decide) e.symm)).trans HJ8.out
      have HN9 := hide (HN8.out.to HQG2.out)
      have HB9 := hide (Below.trans HB8.out (HQG2.out.mono HW0.out))
      have hBr9 : wr.heap.size ≤ w9.heap.size := Nat.le_trans hBr8 HQG2.out.size
      have hQl : Q.length = J.length := HQP.out.length_eq
      have HQO2 : Hid (w9.ownsRow wr.heap.size 74 2 (.slice (some ⟨g8, 0, none⟩) Q.length qj) Q.length (rowV pnE Q)) := by
        show World.ownsRow _ _ _ _ _ _ _
        have h1 := HQO.out
        rw [hQl] at h1 ⊢
        exact h1
      have HCP : Hid (Calls Tryz.prog 185 #[.slice (some ⟨g8, 0, none⟩) J.length qj] w9 fun e w' => e = .returned (.slice (some ⟨g8, 0, none⟩) (cmpP Q).length qj) ∧
          w'.ownsRow wr.heap.size 74 2 (.slice (some ⟨g8, 0, none⟩) (cmpP Q).length qj) (cmpP Q).length (rowV pnE (cmpP Q)) ∧ Below wr.heap.size w9 w') := by
        have h1 := compactP_any Q wr.heap.size g8 qj w9 (by omega) (by omega) hBr9 HQO2.out
        rw [hQl] at h1
        exact h1
      have HCS : Hid (cmpP Q = sortU ((y.fp, y.fc) :: (y.tp, y.tc) :: bothL o (y.fp, y.fc) (y.tp, y.tc))) := cmpP_sort HQS.out (by rw [← HJE.out] at HQP; exact HQP.out)
      have HCL : Hid ((cmpP Q).length ≤ 100000) := by
        show _ ≤ _
        rw [cmpP_len]
        have := kepC_le Q Q.length
        omega
      have hvl : vs8.length ≤ 1000 := by rw [HN8.out.len]; exact hfl
      have z0 := cellOf HJ9.out 0
      have lz := box_lt HJ9.out
      have HFL := HN8.out.len
      clear hBr8 hQl hJl
      go_wp2_with (first | (go_at_call 185; refine HCP.out.mono ?_; rintro e wc ⟨rfl, hRc, hBc⟩; have HRc := hide hRc; have HNc := hide (HN9.out.to hBc); have HBc := hide (Below.trans HB9.out (hBc.mono HW0.out)); clear hRc hBc z0 lz) | (at_builtin; go_must (refine wpList_append_own_at _ rfl (.tmp 30) (.tmp 33) _ rfl (W0.heap.size) 86 i1 _ 1 24 Tryz.underlying82 hi1 jz0 jz1 jz2 rfl (by omega) _ _ _ rfl ((HNc.out.own).alloc _) ⟨wc.heap.size, 0, none⟩ 1 1 [.slice (some ⟨g8, 0, none⟩) (cmpP Q).length qj] rfl rfl (World.news_of_block (heap_alloc_new wc _)) (by simp [Value.oneCell']) (by have h1 := hfl; unfold maxLen; omega) (by have h1 := hfl; omega) (by have h1 := HBc.out.size; simp; omega) ?_); intro v1 w3 hown1 hg1 _ hat1; obtain ⟨A9, q9, e2⟩ := owns_form hown1; subst e2; have HO3 := hide hown1; have HG3 := hide hg1; clear hown1 hg1 hat1))
      have HN3 : Hid (NetS w3 W0.heap.size w3.heap.size (.slice A9 (F.length + 1) q9) (netU (esL l (is.take (k + 1)))) (vs8 ++ [.slice (some ⟨g8, 0, none⟩) (cmpP Q).length qj])) := by
        show NetS _ _ _ _ _ _
        have h1 : joiL o (y.fp, y.fc) (y.tp, y.tc) = F ++ [cmpP Q] := by
          rw [HCS.out, ← HF.out]
          rfl
        rw [HNX.out, h1]
        refine NetS.append HNc.out (owns_base HRc.out HW0.out) ?_ HG3.out HCL.out
        have h2 := HO3.out
        rw [← HFL] at h2
        rw [← HFL]
        exact h2
      have HB3 : Hid (Below W0.heap.size W0 w3) := own_low HBc.out HNc.out.own (Nat.le_refl _) HG3.out
      go_roundw
      case rel => exact ⟨k + 1, _, by go_num, by omega, fun h => absurd h (by omega), HN3.out, HB3.out⟩
      case measure => simp [intOf]; omega
    case neg =>
      have hlt1 : ¬ (k : Int) < (is.length : Int) := by omega
      have hkk : is.take k = is := List.take_of_length_le (by omega)
      rw [hkk] at HN HK0 ⊢
      have hki : k = is.length := by omega
      obtain ⟨o, ho⟩ : ∃ z, netU (esL l is) = z := ⟨_, rfl⟩
      have hol : o.length ≤ 1000 := by
        rw [← ho]
        have h1 := netU_len (esL l is)
        have h2 := esL_len l is is.length
        rw [List.take_length] at h2
        omega
      have HNI : Hid (NetI o) := by show NetI _; rw [← ho]; exact netU_i _
      have HNL : Hid (netL (esL l is) = sortN o) := by show _ = _; unfold netL; rw [ho]
      have HNE : Hid (is ≠ [] → o ≠ []) := fun hne => by
        rw [← ho]
        have h1 : is = is.take (is.length - 1) ++ [is.getD (is.length - 1) 0] := by
          have h2 : 0 < is.length := List.length_pos_iff.2 hne
          conv => lhs; rw [← List.take_append_drop (is.length - 1) is]
          congr 1
          rw [List.drop_eq_getElem_cons (by omega), List.drop_eq_nil_of_le (by omega), List.getD_eq_getElem?_getD, List.getElem?_eq_getElem (by omega)]
          rfl
        rw [h1]
        unfold esL
        rw [List.map_append, List.map_cons, List.map_nil, netU_snoc]
        unfold joiL
        simp
      rw [ho] at HN HK0 ⊢
      have HBW := hide (Below.trans HB0.out (HBr.out.mono HB0.out.size))
      have HKI := hide hki
      clear ho hkk hki
      by_cases his : is = []
      · have h0 := HK0.out (by rw [HKI.out, his]; rfl)
        have h1 : o = [] := by
          have h2 := HNL.out
          rw [his] at h2
          have h3 : netL (esL l []) = [] := rfl
          rw [h3] at h2
          cases ho2 : o with
          | nil => rfl
          | cons a r =>
            have h4 : a ∈ sortN o := sortN_mem.2 (by rw [ho2]; simp)
            rw [← h2] at h4
            cases h4
        have HR0 : Hid (JoiP w.heap.size (netL (esL l is)) w (.returned (.slice none 0 0)) wr) := by
          refine ⟨_, [], rfl, ?_, HBW.out⟩
          rw [HNL.out, h1]
          exact NetS.empty _ _ _
        have hso : Hid (Calls Tryz.prog 186 #[.slice none 0 0, .func (.func 187) #[] #[]] wr fun e w' => e = .returned (.tuple #[]) ∧ w' = wr) := AnyF.slices_SortFunc_none sfLays_f186b none 0 (.func (.func 187) #[] #[]) wr
        rw [h0] at HN ⊢
        clear h0 h1
        have h00 : (o.length : Int) = (o.length : Int) := rfl
        clear h00
        go_wp2_with (go_at_call 186; refine hso.out.mono ?_; rintro e w9 ⟨rfl, rfl⟩)
        go_ret
        exact HR0.out
      · have hne := HNE.out his
        have HSO := hide (sortNets_own o vs _ W0.heap.size wr HN.out HNI.out hne (by omega))
        have HIS := hide his
        clear his hne
        go_wp2_with (go_at_call 186; refine HSO.out.mono ?_; rintro e w9 ⟨rfl, ⟨vs9, hN9⟩, hB9⟩; have HN9 := hide hN9; have HB9 := hide hB9; clear hN9 hB9)
        go_ret
        refine ⟨_, vs9, rfl, ?_, ?_⟩
        · rw [HNL.out]
          exact HN9.out.base HB0.out.size
        · exact Below.trans HBW.out ((HB9.out HBr.out.size).mono HB0.out.size)
def badW (l : Lo) (t : Int) : Bool := !btw t 0 ((l.ws.length : Int) - 1)
def chkB (l : Lo) (ts : List Int) : Bool := decide (60 < ts.length) || ts.any (badW l)
def chkE (l : Lo) (ts : List Int) : Int := if chkB l ts = true then 1 else 0
theorem chkE_zero {l : Lo} {ts : List Int} (h : chkE l ts = 0) : ts.length ≤ 60 ∧ ∀ t ∈ ts, 0 ≤ t ∧ t < l.ws.length := by
  unfold chkE at h
  split at h
  · cases h
  · rename_i h1
    unfold chkB at h1
    rw [Bool.or_eq_true, not_or] at h1
    refine ⟨by have := h1.1; simp only [decide_eq_true_eq] at this; omega, fun t ht => ?_⟩
    have h2 : badW l t = false := by
      cases h3 : badW l t with
      | false => rfl
      | true => exact absurd (List.any_eq_true.2 ⟨t, ht, h3⟩) h1.2
    unfold badW at h2
    have h3 : btw t 0 ((l.ws.length : Int) - 1) = true := by simpa using h2
    obtain ⟨h4, h5⟩ := btw_iff.1 h3
    omega
theorem chk_any_at {p : Int → Bool} {ts : List Int} {k : Nat} (hk : k < ts.length) (h : p (ts.getD k 0) = true) : ts.any p = true := List.any_eq_true.2 ⟨_, by rw [List.getD_eq_getElem?_getD, List.getElem?_eq_getElem hk]; exact List.getElem_mem hk, h⟩
theorem chk_any_none {p : Int → Bool} {ts : List Int} (h : ∀ j, j < ts.length → p (ts.getD j 0) = false) : ts.any p = false := by
  rw [List.any_eq_false]
  intro x hx
  obtain ⟨i, hi, rfl⟩ := List.getElem_of_mem hx
  have := h i hi
  rw [List.getD_eq_getElem?_getD, List.getElem?_eq_getElem hi, Option.getD_some] at this
  simp [this]
set_option maxRecDepth 100000 in
set_option maxHeartbeats 1000000 in
theorem chkw1_any (t : Int) (A0 A1 A2 A3 A4 A5 : Option Addr) (q0 q1 q2 q3 q4 q5 : Nat) (l : Lo) (lb : Nat) (w : World) (hm : l.ws.length ≤ maxLen) (h : LoBox w lb A0 A1 A2 A3 A4 A5 q0 q1 q2 q3 q4 q5 l) :
    Calls Tryz.prog 180 #[.int .i64 t, .pointer (some ⟨lb, 0, none⟩)] w fun e w' => e = .returned (.bool (badW l t)) ∧ Below w.heap.size w w' := by
  have c5 := cellOf h 5
  have hlb := box_lt h
  unfold maxLen at hm
  obtain ⟨z, hz⟩ : ∃ z, btw t 0 ((l.ws.length : Int) - 1) = z := ⟨_, rfl⟩
  have hb : badW l t = !z := by unfold badW; rw [hz]
  rw [hb]
  have HB := hide hz
  clear h hz hb
  go_enter Tryz.func180, Tryz.ntmps180
  go_wp2_with (go_at_call 72; refine (bwithin_any _ _ _ _ _ HB.out).mono ?_; rintro e w1 ⟨rfl, rfl⟩)
  go_ret
  exact ⟨rfl, Below.refl _ _⟩
set_option maxRecDepth 100000 in
theorem index_chkw (p : Int → Bool) (c0 : Value) (v : Value) (gs : List Int) (w : World) (hm : gs.length ≤ maxLen) (h : Ints w w.heap.size v gs)
    (hf : ∀ (i : Nat) (x : Int)  (W : World), i < gs.length → gs.getD i 0 = x → Below w.heap.size w W → Calls Tryz.prog 180 #[.int .i64 x, c0] W fun e w' => e = .returned (.bool (p x)) ∧ Below W.heap.size W w') :
    Calls Tryz.prog 157 #[v, .func (.func 180) #[] #[c0]] w fun e w' => e = .returned (.int .i64 (idxI p gs)) ∧ Below w.heap.size w w' := by
  unfold maxLen at hm
  obtain ⟨A, cap, rfl⟩ := Ints.form7 h
  have H := hide h; clear h
  have HF := hide hf; clear hf
  go_enter Tryz.func157, Tryz.ntmps157
  go_wp2
  go_loopw [5, 8] (fun _ i wr => ∃ k : Nat, k ≤ gs.length ∧ i = .int .i64 k ∧ Hid (∀ j, j < k → p (gs.getD j 0) = false) ∧ Below w.heap.size w wr) (fun _ i _ => gs.length - (intOf i).toNat)
  case atStart => exact ⟨0, Nat.zero_le _, rfl, fun j hj => by omega, Below.refl _ _⟩
  case round =>
    obtain ⟨k, hk, rfl, hz, hB⟩ := hrel
    by_cases hlt : k < gs.length
    · obtain ⟨b, off, x, HX, rfl, hbb, hq, e0⟩ := Ints.at7 (H.out.below hB) hlt
      have hf := fun W (hW : Below w.heap.size w W) => HF.out k x  W hlt HX.out hW
      have HF2 := hide hf
      have HB := hide hB
      clear hf
      by_cases hp : p x = true
      · have HP := hide hp
        clear hp
        go_wp2_with (go_at_call 180; refine (HF2.out _ hB).mono ?_; rw [HP.out]; rintro e w1 ⟨rfl, hB1⟩)
        go_ret
        exact ⟨ret_int (idxI_at p 0 gs k hz.out hlt (by rw [HX.out]; exact HP.out)).symm, Below.to HB.out hB1 (Nat.le_refl _)⟩
      · have hp' : p x = false := by simpa using hp
        have HP := hide hp'
        clear hp hp'
        go_wp2_with (go_at_call 180; refine (HF2.out _ hB).mono ?_; rw [HP.out]; rintro e w1 ⟨rfl, hB1⟩)
        go_roundw
        case rel => exact ⟨k + 1, by omega, by go_num, fun j hj => by
            rcases Nat.lt_or_ge j k with h | h
            · exact hz.out j h
            · rw [show j = k from by omega, HX.out]; exact HP.out, Below.to HB.out hB1 (Nat.le_refl _)⟩
        case measure => simp [intOf]; omega
    · go_wp2
      go_ret
      exact ⟨ret_int (idxI_none p 0 gs (fun j hj => hz.out j (by omega))).symm, hB⟩
set_option maxRecDepth 100000 in
theorem contains_chkw (p : Int → Bool) (c0 : Value) (v : Value) (gs : List Int) (w : World) (hm : gs.length ≤ maxLen) (h : Ints w w.heap.size v gs)
    (hf : ∀ (i : Nat) (x : Int)  (W : World), i < gs.length → gs.getD i 0 = x → Below w.heap.size w W → Calls Tryz.prog 180 #[.int .i64 x, c0] W fun e w' => e = .returned (.bool (p x)) ∧ Below W.heap.size W w') :
    Calls Tryz.prog 70 #[v, .func (.func 180) #[] #[c0]] w fun e w' => e = .returned (.bool (gs.any p)) ∧ Below w.heap.size w w' := by
  have hc := index_chkw p c0 v gs w hm h hf
  have he := idxI_any p gs
  have hlo := idxI_lo p gs
  have hhi := idxI_hi p gs
  obtain ⟨z, hz⟩ : ∃ z, idxI p gs = z := ⟨_, rfl⟩
  rw [hz] at hc he hlo hhi
  obtain ⟨A, cap, rfl⟩ := Ints.form7 h
  have HC := hide hc
  have HE := hide he
  unfold maxLen at hm
  have hz2 : z ≤ 9223372036854775807 := by omega
  clear hc he hz h hf
  go_enter Tryz.func70, Tryz.ntmps70
  go_wp2_with (go_at_call 157; refine HC.out.mono ?_; rintro e w1 ⟨rfl, hB1⟩)
  go_ret
  exact ⟨ret_bool HE.out, hB1⟩

set_option maxRecDepth 100000 in
set_option maxHeartbeats 1000000 in
theorem checkWires_any (As : Option Addr) (qs : Nat) (ts : List Int) (A0 A1 A2 A3 A4 A5 : Option Addr) (q0 q1 q2 q3 q4 q5 : Nat) (l : Lo) (w : World) (hu : l.ws.length ≤ maxLen) (hm : ts.length ≤ maxLen) (h : LoA w w.heap.size A0 A1 A2 A3 A4 A5 q0 q1 q2 q3 q4 q5 l) (hv : Ints w w.heap.size (.slice As ts.length qs) ts) :
    Calls Tryz.prog 112 #[.agg #[.slice A0 l.m.opts.length q0, .slice A1 l.m.rules.length q1, .slice A2 l.ss.length q2, .slice A3 l.us.length q3, .slice A4 l.ps.length q4, .slice A5 l.ws.length q5], .slice As ts.length qs] w fun e w' => e = .returned (.int .i64 (chkE l ts)) ∧ Below w.heap.size w w' := by
  have hm2 := hm
  unfold maxLen at hm2
  obtain ⟨y, hy⟩ : ∃ y, ts.any (badW l) = y := ⟨_, rfl⟩
  obtain ⟨r, hr⟩ : ∃ r, chkE l ts = r := ⟨_, rfl⟩
  have hr2 : r = if (decide (60 < ts.length) || y) = true then 1 else 0 := by rw [← hr, ← hy]; rfl
  rw [hr]
  have HY := hide hy
  have HV := hide hv
  have HR := hide hr2
  clear hy hv hr hr2
  by_cases h60 : 60 < ts.length
  · have g1 : decide ((60 : Int) < (ts.length : Int)) = true := decide_eq_true (by omega)
    have hr1 : r = 1 := by rw [HR.out, decide_eq_true h60]; rfl
    subst hr1
    go_enter Tryz.func112, Tryz.ntmps112
    go_upto_region 1 with (fail)
    generalize hw0 : World.alloc _ _ = w0
    obtain ⟨hb0, hB0, hs0⟩ := alloc1 hw0
    have HB0 := hide hB0
    clear hw0 hb0 hB0 hs0
    go_wp2_with fail
    go_ret
    exact ⟨rfl, HB0.out⟩
  · have g1 : decide ((60 : Int) < (ts.length : Int)) = false := decide_eq_false (by omega)
    have hr1 : r = if y = true then 1 else 0 := by rw [HR.out, decide_eq_false h60, Bool.false_or]
    cases y with
    | true =>
      rw [if_pos rfl] at hr1
      subst hr1
      go_enter Tryz.func112, Tryz.ntmps112
      go_upto_region 1 with (fail)
      generalize hw0 : World.alloc _ _ = w0
      obtain ⟨hb0, hB0, hs0⟩ := alloc1 hw0
      have hct := contains_chkw (badW l) (.pointer (some ⟨w.heap.size, 0, none⟩)) _ ts w0 hm (Ints.up HV.out hB0) (fun i x W _ _ hW => chkw1_any x A0 A1 A2 A3 A4 A5 q0 q1 q2 q3 q4 q5 l _ W hu (LoBox.to hb0 hW))
      rw [HY.out] at hct
      have HCT := hide hct
      have HB0 := hide hB0
      clear hw0 hb0 hB0 hs0 hct
      go_wp2_with (go_at_call 70; refine HCT.out.mono ?_; rintro e w2 ⟨rfl, hB2⟩; have HB2 := hide (Below.to HB0.out hB2 (Nat.le_refl _)); clear hB2)
      go_ret
      exact ⟨rfl, HB2.out⟩
    | false =>
      rw [if_neg (by simp)] at hr1
      subst hr1
      go_enter Tryz.func112, Tryz.ntmps112
      go_upto_region 1 with (fail)
      generalize hw0 : World.alloc _ _ = w0
      obtain ⟨hb0, hB0, hs0⟩ := alloc1 hw0
      have hct := contains_chkw (badW l) (.pointer (some ⟨w.heap.size, 0, none⟩)) _ ts w0 hm (Ints.up HV.out hB0) (fun i x W _ _ hW => chkw1_any x A0 A1 A2 A3 A4 A5 q0 q1 q2 q3 q4 q5 l _ W hu (LoBox.to hb0 hW))
      rw [HY.out] at hct
      have HCT := hide hct
      have HB0 := hide hB0
      clear hw0 hb0 hB0 hs0 hct
      go_wp2_with (go_at_call 70; refine HCT.out.mono ?_; rintro e w2 ⟨rfl, hB2⟩; have HB2 := hide (Below.to HB0.out hB2 (Nat.le_refl _)); clear hB2)
      go_ret
      exact ⟨rfl, HB2.out⟩
set_option maxRecDepth 100000 in
set_option maxHeartbeats 2000000 in
theorem rcheckWires_any (As : Option Addr) (qs : Nat) (ts : List Int) (A0 A1 A2 A3 A4 A5 : Option Addr) (q0 q1 q2 q3 q4 q5 : Nat) (l : Lo) (w : World) (hu : l.ws.length ≤ maxLen) (hm : ts.length ≤ maxLen) (h : LoA w w.heap.size A0 A1 A2 A3 A4 A5 q0 q1 q2 q3 q4 q5 l) (hv : Ints w w.heap.size (.slice As ts.length qs) ts) :
    Calls Tryz.prog 114 #[.agg #[.slice A0 l.m.opts.length q0, .slice A1 l.m.rules.length q1, .slice A2 l.ss.length q2, .slice A3 l.us.length q3, .slice A4 l.ps.length q4, .slice A5 l.ws.length q5], .slice As ts.length qs] w fun e w' => e = .returned (.int .i64 (chkE l ts)) ∧ Below w.heap.size w w' := by
  have hm2 := hm
  unfold maxLen at hm2 hu
  obtain ⟨r, hr⟩ : ∃ r, chkE l ts = r := ⟨_, rfl⟩
  have hr2 : r = if (decide (60 < ts.length) || ts.any (badW l)) = true then 1 else 0 := by rw [← hr]; rfl
  rw [hr]
  have HV := hide hv
  have HR := hide hr2
  clear hv hr hr2
  by_cases h60 : 60 < ts.length
  · have g1 : decide ((60 : Int) < (ts.length : Int)) = true := decide_eq_true (by omega)
    have g2 : (60 : Int) < (ts.length : Int) := by omega
    have hr1 : r = 1 := by rw [HR.out, decide_eq_true h60]; rfl
    subst hr1
    go_enter Tryz.func114, Tryz.ntmps114
    go_upto_region 1 with (fail)
    generalize hw0 : World.alloc _ _ = w0
    obtain ⟨hb0, hB0, hs0⟩ := alloc1 hw0
    have HB0 := hide hB0
    clear hw0 hb0 hB0 hs0
    go_wp2_with fail
    go_ret
    exact ⟨rfl, HB0.out⟩
  · have g2 : ¬ (60 : Int) < (ts.length : Int) := by omega
    have hr1 : Hid (r = if ts.any (badW l) = true then 1 else 0) := by show _ = _; rw [HR.out, decide_eq_false h60, Bool.false_or]
    have HML := hide hm
    go_enter Tryz.func114, Tryz.ntmps114
    go_upto_region 1 with (fail)
    generalize hw0 : World.alloc _ _ = w0
    obtain ⟨hb0, hB0, hs0⟩ := alloc1 hw0
    have HL0 : Hid (LoBox w0 w.heap.size A0 A1 A2 A3 A4 A5 q0 q1 q2 q3 q4 q5 l) := hb0
    have HB0 := hide hB0
    obtain ⟨lb, hlb⟩ : ∃ z, w.heap.size = z := ⟨_, rfl⟩
    rw [hlb] at HL0 ⊢
    have HBp : Hid (Below lb w w0) := by rw [← hlb]; exact HB0
    have HLL : Hid (lb ≤ w0.heap.size) := by rw [← hlb]; exact hB0.size
    have HLB := hide hlb
    clear hw0 hb0 hB0 hs0 hlb
    obtain ⟨W0, hW0⟩ : ∃ wo : World, wo = w0 := ⟨_, rfl⟩
    subst hW0
    go_wp2_with fail
    go_loopw [5] (fun iv wr => ∃ k : Nat, iv = .int .i64 k ∧ k ≤ ts.length ∧ Hid (∀ j, j < k → badW l (ts.getD j 0) = false) ∧ Hid (Below W0.heap.size W0 wr)) (fun iv _ => ts.length - (intOf iv).toNat)
    case atStart => exact ⟨0, rfl, Nat.zero_le _, fun j hj => by omega, Below.refl _ _⟩
    case round =>
      obtain ⟨k, rfl, hk, hz, HW⟩ := hrel
      by_cases hlt : k < ts.length
      case neg =>
        have hlt1 : ¬ (k : Int) < (ts.length : Int) := by omega
        have hr0 : r = 0 := by rw [hr1.out, chk_any_none (fun j hj => hz.out j (by omega)), if_neg (by simp)]
        subst hr0
        go_wp2_with fail
        go_ret
        exact ⟨rfl, by rw [HLB.out]; exact HBp.out.trans (HW.out.mono HLL.out)⟩
      case pos =>
        have hlt1 : (k : Int) < (ts.length : Int) := by omega
        have ik0 : (0 : Int) ≤ (k : Int) := by omega
        obtain ⟨b, off, x, HX, hA, hbb, hq, e0⟩ := (Ints.up HV.out (Below.trans HB0.out (HW.out.mono HB0.out.size))).at7 hlt
        subst hA
        have iq : (ts.length : Int) ≤ (qs : Int) := by omega
        have HLr := hide (HL0.out.to HW.out)
        obtain ⟨c0, c1, c2, c3, c4, c5⟩ := zL HLr.out
        have hlb := box_lt HLr.out
        have wm : IntKind.i64.wrap ((l.ws.length : Int) - 1) = (l.ws.length : Int) - 1 := by rw [IntWalk.i64_in _ (by omega)]
        obtain ⟨z, hzz⟩ : ∃ z, btw x 0 ((l.ws.length : Int) - 1) = z := ⟨_, rfl⟩
        have HZ := hide hzz
        clear hq hzz
        cases z with
        | true =>
          have HBD : Hid (badW l (ts.getD k 0) = false) := by show _ = _; rw [HX.out]; unfold badW; rw [HZ.out]; rfl
          go_upto_region 6 with (fail)
          refine wp_region_held_drew (S := (fun w' => Below wr.heap.size wr w')) (by kernel_rfl) ?_ (fun hHeld => ?_)
          · try dsimp only
            exact zP
          refine zT 0 rfl ?_
          refine zT 1 rfl ?_
          refine zT 2 rfl ?_
          refine zT 3 rfl ?_
          refine zT 4 rfl ?_
          refine zT 5 rfl ?_
          refine zT 6 rfl ?_
          refine zT 7 rfl ?_
          refine wpAnyH_ready (rs := [8]) (by kernel_rfl) (by simp) ?_
          refine AllReadyH.cons rfl (fun K hK => ?_) AllReadyH.nil
          go_simp
          ((go_at_call 75; refine (rwithin12_any _ _ _ _ _ HZ.out).mono ?_; rintro e w1 ⟨rfl, rfl⟩))
          (try dsimp only)
          refine hK.out _ _ zP fun hNext => ?_; clear hK K hHeld; have hHeld := hNext; clear hNext; (try dsimp only at hHeld); try simp only [zX]
          refine zT 9 rfl ?_
          refine wpAnyH_done (by kernel_rfl) ?_ _
          generalize hw6 : World.drew _ = w6 at hHeld ⊢
          have HB6 := hide (Below.to HW.out hHeld (Nat.le_refl _))
          clear hw6 hHeld e0 c0 c1 c2 c3 c4 c5 hlb wm hbb
          go_wp2_with fail
          go_roundw
          case rel => exact ⟨k + 1, by go_num, by omega, fun j hj => by
            rcases Nat.lt_or_ge j k with h | h
            · exact hz.out j h
            · rw [show j = k from by omega]; exact HBD.out, HB6.out⟩
          case measure => simp [intOf]; omega
        | false =>
          have hrt : r = 1 := by
            rw [hr1.out, chk_any_at hlt (by rw [HX.out]; unfold badW; rw [HZ.out]; rfl), if_pos rfl]
          subst hrt
          go_upto_region 6 with (fail)
          refine wp_region_held_drew (S := (fun w' => Below wr.heap.size wr w')) (by kernel_rfl) ?_ (fun hHeld => ?_)
          · try dsimp only
            exact zP
          refine zT 0 rfl ?_
          refine zT 1 rfl ?_
          refine zT 2 rfl ?_
          refine zT 3 rfl ?_
          refine zT 4 rfl ?_
          refine zT 5 rfl ?_
          refine zT 6 rfl ?_
          refine zT 7 rfl ?_
          refine wpAnyH_ready (rs := [8]) (by kernel_rfl) (by simp) ?_
          refine AllReadyH.cons rfl (fun K hK => ?_) AllReadyH.nil
          go_simp
          ((go_at_call 75; refine (rwithin12_any _ _ _ _ _ HZ.out).mono ?_; rintro e w1 ⟨rfl, rfl⟩))
          (try dsimp only)
          refine hK.out _ _ zP fun hNext => ?_; clear hK K hHeld; have hHeld := hNext; clear hNext; (try dsimp only at hHeld); try simp only [zX]
          refine zT 9 rfl ?_
          refine wpAnyH_done (by kernel_rfl) ?_ _
          generalize hw6 : World.drew _ = w6 at hHeld ⊢
          have HB6 := hide (Below.to HW.out hHeld (Nat.le_refl _))
          clear hw6 hHeld e0 c0 c1 c2 c3 c4 c5 hlb wm hbb
          go_wp2_with fail
          go_ret
          exact ⟨rfl, by rw [HLB.out]; exact HBp.out.trans (HB6.out.mono HLL.out)⟩
noncomputable def pcI (l : Lo) (i : Nat) : Int × Int := ((l.ws.getD i Wi.o).size, lenW l i)
noncomputable def cutK (l : Lo) (L : List Nat) (k : Nat) : List (Int × Int) := ((L.take k).filter fun i => decide (0 < lenW l i)).map (pcI l)
noncomputable def cutP (l : Lo) (x : List Bool) : List (Int × Int) := cutK l (belL l x) (belL l x).length
noncomputable def cutL (l : Lo) (x : List Bool) : List Ct := if copE l x = 0 then cutS (cutP l x) else []
def mC (ps : List (Int × Int)) (p : Int × Int) : Option Int := if 0 < cntC ps p.1 p.2 then some ((cntC ps p.1 p.2 : Nat) : Int) else none
def dwn (O : List Ct) (X : Ct) (k : Nat) : List Ct := O.take k ++ X :: O.drop k
theorem pik_cop (l : Lo) (x : List Bool) : pikE l [] x = copE l x := by
  unfold pikE copE havE bldE
  by_cases h : l.err = 0
  · rw [if_neg (show ¬ l.err ≠ 0 by simp [h])]
    simp [h]
    unfold mustE
    by_cases h2 : x.length = l.m.opts.length <;> simp [h2]
  · rw [if_pos h, if_neg h, if_pos h]
theorem Ints.nods {w : World} {B : Nat} {v : Value} {l : List Int} (h : Ints w B v l) (h0 : ∀ t ∈ l, 0 ≤ t) : Nods w B v (l.map Int.toNat) := by
  unfold Nods
  rw [List.length_map]
  refine Sl.congr h fun i j hi hj => ?_
  have h1 := h0 _ (getD_mem3 (z := 0) hi)
  have h2 : (l.map Int.toNat).getD i 0 = (l.getD i 0).toNat := by simp [List.getD_eq_getElem?_getD, List.getElem?_eq_getElem hi]
  rw [h2]
  congr 1
  omega
def badS (l : Lo) (t : Int) : Bool := !btw t 0 ((l.ss.length : Int) - 1)
def givB (l : Lo) (ts : List Int) : Bool := btw ts.length 1 40 && !(ts.any (badS l))
def givE (l : Lo) (ts : List Int) : Int := havE l (givB l ts)
end Go.Proofs.YtehadoecnmfeoaaGreat

/- Part 43 of this claim's texts: walks and plain laws. -/
import Derived.Test.YtehadoecnmfeoaaGreatRows
import Derived.Test.YtehadoecnmfeoaaGreatGBN42
import Derived.Test.YtehadoecnmfeoaaGreatGBN39
import Derived.Laws.EntriesVeiled
import Derived.Deep.DeepMust
import Derived.Deep.RegionHeld3
import Derived.Deep.DrawnRows
import Derived.Test.YtehadoecnmfeoaaGreatGBN3
set_option linter.unusedVariables false
set_option linter.unusedSimpArgs false
set_option linter.unusedSectionVars false
namespace Go.Proofs.YtehadoecnmfeoaaGreat
open Go.RowKit
def ntsE (l : Lo) (ts : List Int) : Int := if l.err = 0 then chkE l ts else l.err
def ntsL (l : Lo) (ts : List Int) : List (List Pn) := if ntsE l ts = 0 then netL (esL l (ts.map Int.toNat)) else []
def NtsP (E : Int) (Q : List (List Pn)) (w : World) (e : Ending) (w' : World) : Prop := ∃ v vs, e = .returned (.tuple #[v, .int .i64 E]) ∧ NetS w' w.heap.size w'.heap.size v Q vs ∧ Below w.heap.size w w'
theorem bldE_nil (l : Lo) : bldE l [] = l.err := by
  unfold bldE
  by_cases h : l.err = 0
  · simp [h]
  · rw [if_pos h]
theorem ts_nat {l : Lo} {ts : List Int} (h : chkE l ts = 0) : (∀ i ∈ ts.map Int.toNat, i < l.ws.length) ∧ (ts.map Int.toNat).length ≤ 60 := by
  obtain ⟨h1, h2⟩ := chkE_zero h
  refine ⟨fun i hi => ?_, by rw [List.length_map]; exact h1⟩
  obtain ⟨t, ht, rfl⟩ := List.mem_map.1 hi
  have := h2 t ht
  omega
set_option maxRecDepth 100000 in
set_option maxHeartbeats 4000000 in
theorem Nets_any (As : Option Addr) (qs : Nat) (ts : List Int) (A0 A1 A2 A3 A4 A5 : Option Addr) (q0 q1 q2 q3 q4 q5 : Nat) (l : Lo) (w : World) (hs : SizedL l) (hm : ts.length ≤ maxLen) (h : LoA w w.heap.size A0 A1 A2 A3 A4 A5 q0 q1 q2 q3 q4 q5 l) (hv : Ints w w.heap.size (.slice As ts.length qs) ts) :
    Calls Tryz.prog 42 #[.agg #[.slice A0 l.m.opts.length q0, .slice A1 l.m.rules.length q1, .slice A2 l.ss.length q2, .slice A3 l.us.length q3, .slice A4 l.ps.length q4, .slice A5 l.ws.length q5], .slice As ts.length qs] w (NtsP (ntsE l ts) (ntsL l ts) w) := by
  have H := hide h
  have HS := hide hs
  have HV := hide hv
  have HM := hide hm
  have HD0 : Hid (SizedD []) := ⟨by unfold maxLen; simp, fun d hd => by cases hd⟩
  obtain ⟨er, her⟩ : ∃ z, l.err = z := ⟨_, rfl⟩
  have HER := hide her
  have HEB : Hid (bldE l [] = er) := (bldE_nil l).trans her
  clear h hs hv hm
  by_cases h0 : er = 0
  case neg =>
    have hE : ntsE l ts = er := by unfold ntsE; rw [her, if_neg h0]
    have hL : ntsL l ts = [] := by unfold ntsL; rw [hE, if_neg h0]
    rw [hE, hL]
    have g1 : (er != 0) = true := by simpa using h0
    clear her h0 hE hL
    go_enter Tryz.func42, Tryz.ntmps42
    go_upto_region 1 with (fail)
    generalize hw0 : World.alloc _ _ = w0
    obtain ⟨hb0, hB0, hs0⟩ := alloc1 hw0
    have HB0 := hide hB0
    obtain ⟨c0, c1, c2, c3, c4, c5⟩ := zL hb0
    have hlb := box_lt hb0
    clear hw0 hb0 hB0 hs0
    go_wp2_with (go_at_call 62; refine (Check_any A0 A1 A2 A3 A4 A5 q0 q1 q2 q3 q4 q5 l _ HS.out (H.out.up HB0.out)).mono ?_; rw [HER.out]; rintro e w1 ⟨rfl, hB1⟩; have HB1 := hide (Below.to HB0.out hB1 (Nat.le_refl _)); clear hB1 c0 c1 c2 c3 c4 c5 hlb)
    go_ret2
    exact ⟨_, [], rfl, NetS.empty _ _ _, HB1.out⟩
  case pos =>
  subst h0
  have g0 : ((0 : Int) != 0) = false := by decide
  obtain ⟨ec, hec⟩ : ∃ z, chkE l ts = z := ⟨_, rfl⟩
  have HEC := hide hec
  have hE : ntsE l ts = ec := by unfold ntsE; rw [her, if_pos rfl, hec]
  have ok := Lo.err_ok her
  have h60 := ok.w60
  by_cases h0 : ec = 0
  case neg =>
    have hL : ntsL l ts = [] := by unfold ntsL; rw [hE, if_neg h0]
    rw [hE, hL]
    have g1 : (ec != 0) = true := by simpa using h0
    clear her h0 hE hL hec ok
    go_enter Tryz.func42, Tryz.ntmps42
    go_upto_region 1 with (fail)
    generalize hw0 : World.alloc _ _ = w0
    obtain ⟨hb0, hB0, hs0⟩ := alloc1 hw0
    have HL0 : Hid (LoBox w0 w.heap.size A0 A1 A2 A3 A4 A5 q0 q1 q2 q3 q4 q5 l) := hb0
    have HB0 := hide hB0
    obtain ⟨c0, c1, c2, c3, c4, c5⟩ := zL hb0
    have hlb := box_lt hb0
    clear hw0 hb0 hB0 hs0
    go_upto_region 4 with (go_at_call 62; refine (Check_any A0 A1 A2 A3 A4 A5 q0 q1 q2 q3 q4 q5 l _ HS.out (H.out.up HB0.out)).mono ?_; rw [HER.out]; rintro e w1 ⟨rfl, hB1⟩; have HL1 := hide (HL0.out.to hB1); have HB1 := hide (Below.to HB0.out hB1 (Nat.le_refl _)); clear hB1 c0 c1 c2 c3 c4 c5 hlb)
    obtain ⟨d0, d1, d2, d3, d4, d5⟩ := zL HL1.out
    have hld := box_lt HL1.out
    go_wp2_with (go_at_call 112; refine (checkWires_any As qs ts A0 A1 A2 A3 A4 A5 q0 q1 q2 q3 q4 q5 l _ HS.out.w HM.out (H.out.up HB1.out) (Ints.up HV.out HB1.out)).mono ?_; rw [HEC.out]; rintro e w2 ⟨rfl, hB2⟩; have HB2 := hide (Below.to HB1.out hB2 (Nat.le_refl _)); clear hB2 d0 d1 d2 d3 d4 d5 hld)
    go_ret2
    exact ⟨_, [], rfl, NetS.empty _ _ _, HB2.out⟩
  case pos =>
    subst h0
    have hL : ntsL l ts = netL (esL l (ts.map Int.toNat)) := by unfold ntsL; rw [hE, if_pos rfl]
    rw [hE, hL]
    have HTN := hide (ts_nat hec)
    have HT0 : Hid (∀ t ∈ ts, 0 ≤ t) := fun t ht => ((chkE_zero hec).2 t ht).1
    have HTL : Hid ((ts.map Int.toNat).length = ts.length) := List.length_map _
    clear her hE hL hec ok
    go_enter Tryz.func42, Tryz.ntmps42
    go_upto_region 1 with (fail)
    generalize hw0 : World.alloc _ _ = w0
    obtain ⟨hb0, hB0, hs0⟩ := alloc1 hw0
    have HL0 : Hid (LoBox w0 w.heap.size A0 A1 A2 A3 A4 A5 q0 q1 q2 q3 q4 q5 l) := hb0
    have HB0 := hide hB0
    obtain ⟨c0, c1, c2, c3, c4, c5⟩ := zL hb0
    have hlb := box_lt hb0
    clear hw0 hb0 hB0 hs0
    go_upto_region 4 with (go_at_call 62; refine (Check_any A0 A1 A2 A3 A4 A5 q0 q1 q2 q3 q4 q5 l _ HS.out (H.out.up HB0.out)).mono ?_; rw [HER.out]; rintro e w1 ⟨rfl, hB1⟩; have HL1 := hide (HL0.out.to hB1); have HB1 := hide (Below.to HB0.out hB1 (Nat.le_refl _)); clear hB1 c0 c1 c2 c3 c4 c5 hlb)
    obtain ⟨d0, d1, d2, d3, d4, d5⟩ := zL HL1.out
    have hld := box_lt HL1.out
    go_upto_region 7 with (go_at_call 112; refine (checkWires_any As qs ts A0 A1 A2 A3 A4 A5 q0 q1 q2 q3 q4 q5 l _ HS.out.w HM.out (H.out.up HB1.out) (Ints.up HV.out HB1.out)).mono ?_; rw [HEC.out]; rintro e w2 ⟨rfl, hB2⟩; have HL2 := hide (HL1.out.to hB2); have HB2 := hide (Below.to HB1.out hB2 (Nat.le_refl _)); clear hB2 d0 d1 d2 d3 d4 d5 hld)
    obtain ⟨f0, f1, f2, f3, f4, f5⟩ := zL HL2.out
    have hlf := box_lt HL2.out
    have hn60 : (ts.map Int.toNat).length ≤ 100 := by have := HTN.out.2; omega
    go_wp2_with (go_at_call 113; refine (nets_any (ts.map Int.toNat) _ A0 A1 A2 A3 A4 A5 q0 q1 q2 q3 q4 q5 l _ (H.out.up HB2.out) HTN.out.1 hn60 (by omega) (Ints.nods (Ints.up HV.out HB2.out) HT0.out)).mono ?_; rintro e w3 ⟨v3, vs3, rfl, hN3, hB3⟩; have HN3 := hide (hN3.base HB2.out.size); have HB3 := hide (Below.to HB2.out hB3 (Nat.le_refl _)); clear hN3 hB3 f0 f1 f2 f3 f4 f5 hlf)
    go_ret2
    exact ⟨_, vs3, rfl, HN3.out, HB3.out⟩
set_option maxRecDepth 100000 in
set_option maxHeartbeats 4000000 in
theorem rNets_any (As : Option Addr) (qs : Nat) (ts : List Int) (A0 A1 A2 A3 A4 A5 : Option Addr) (q0 q1 q2 q3 q4 q5 : Nat) (l : Lo) (w : World) (hs : SizedL l) (hm : ts.length ≤ maxLen) (h : LoA w w.heap.size A0 A1 A2 A3 A4 A5 q0 q1 q2 q3 q4 q5 l) (hv : Ints w w.heap.size (.slice As ts.length qs) ts) :
    Calls Tryz.prog 43 #[.agg #[.slice A0 l.m.opts.length q0, .slice A1 l.m.rules.length q1, .slice A2 l.ss.length q2, .slice A3 l.us.length q3, .slice A4 l.ps.length q4, .slice A5 l.ws.length q5], .slice As ts.length qs] w (NtsP (ntsE l ts) (ntsL l ts) w) := by
  have H := hide h
  have HS := hide hs
  have HV := hide hv
  have HM := hide hm
  have HD0 : Hid (SizedD []) := ⟨by unfold maxLen; simp, fun d hd => by cases hd⟩
  obtain ⟨er, her⟩ : ∃ z, l.err = z := ⟨_, rfl⟩
  have HER := hide her
  have HEB : Hid (bldE l [] = er) := (bldE_nil l).trans her
  clear h hs hv hm
  by_cases h0 : er = 0
  case neg =>
    have hE : ntsE l ts = er := by unfold ntsE; rw [her, if_neg h0]
    have hL : ntsL l ts = [] := by unfold ntsL; rw [hE, if_neg h0]
    rw [hE, hL]
    have g1 : (er != 0) = true := by simpa using h0
    clear her h0 hE hL
    go_enter Tryz.func43, Tryz.ntmps43
    go_upto_region 1 with (fail)
    generalize hw0 : World.alloc _ _ = w0
    obtain ⟨hb0, hB0, hs0⟩ := alloc1 hw0
    have HB0 := hide hB0
    obtain ⟨c0, c1, c2, c3, c4, c5⟩ := zL hb0
    have hlb := box_lt hb0
    clear hw0 hb0 hB0 hs0
    go_wp2_with (go_at_call 27; refine (rbCheck_any [] none 0 A0 A1 A2 A3 A4 A5 q0 q1 q2 q3 q4 q5 l _ HS.out HD0.out (H.out.up HB0.out) (Mods.nil _ _)).mono ?_; rw [HEB.out]; rintro e w1 ⟨rfl, hB1⟩; have HB1 := hide (Below.to HB0.out hB1 (Nat.le_refl _)); clear hB1 c0 c1 c2 c3 c4 c5 hlb)
    go_ret2
    exact ⟨_, [], rfl, NetS.empty _ _ _, HB1.out⟩
  case pos =>
  subst h0
  have g0 : ((0 : Int) != 0) = false := by decide
  obtain ⟨ec, hec⟩ : ∃ z, chkE l ts = z := ⟨_, rfl⟩
  have HEC := hide hec
  have hE : ntsE l ts = ec := by unfold ntsE; rw [her, if_pos rfl, hec]
  have ok := Lo.err_ok her
  have h60 := ok.w60
  by_cases h0 : ec = 0
  case neg =>
    have hL : ntsL l ts = [] := by unfold ntsL; rw [hE, if_neg h0]
    rw [hE, hL]
    have g1 : (ec != 0) = true := by simpa using h0
    clear her h0 hE hL hec ok
    go_enter Tryz.func43, Tryz.ntmps43
    go_upto_region 1 with (fail)
    generalize hw0 : World.alloc _ _ = w0
    obtain ⟨hb0, hB0, hs0⟩ := alloc1 hw0
    have HL0 : Hid (LoBox w0 w.heap.size A0 A1 A2 A3 A4 A5 q0 q1 q2 q3 q4 q5 l) := hb0
    have HB0 := hide hB0
    obtain ⟨c0, c1, c2, c3, c4, c5⟩ := zL hb0
    have hlb := box_lt hb0
    clear hw0 hb0 hB0 hs0
    go_upto_region 4 with (go_at_call 27; refine (rbCheck_any [] none 0 A0 A1 A2 A3 A4 A5 q0 q1 q2 q3 q4 q5 l _ HS.out HD0.out (H.out.up HB0.out) (Mods.nil _ _)).mono ?_; rw [HEB.out]; rintro e w1 ⟨rfl, hB1⟩; have HL1 := hide (HL0.out.to hB1); have HB1 := hide (Below.to HB0.out hB1 (Nat.le_refl _)); clear hB1 c0 c1 c2 c3 c4 c5 hlb)
    obtain ⟨d0, d1, d2, d3, d4, d5⟩ := zL HL1.out
    have hld := box_lt HL1.out
    go_wp2_with (go_at_call 114; refine (rcheckWires_any As qs ts A0 A1 A2 A3 A4 A5 q0 q1 q2 q3 q4 q5 l _ HS.out.w HM.out (H.out.up HB1.out) (Ints.up HV.out HB1.out)).mono ?_; rw [HEC.out]; rintro e w2 ⟨rfl, hB2⟩; have HB2 := hide (Below.to HB1.out hB2 (Nat.le_refl _)); clear hB2 d0 d1 d2 d3 d4 d5 hld)
    go_ret2
    exact ⟨_, [], rfl, NetS.empty _ _ _, HB2.out⟩
  case pos =>
    subst h0
    have hL : ntsL l ts = netL (esL l (ts.map Int.toNat)) := by unfold ntsL; rw [hE, if_pos rfl]
    rw [hE, hL]
    have HTN := hide (ts_nat hec)
    have HT0 : Hid (∀ t ∈ ts, 0 ≤ t) := fun t ht => ((chkE_zero hec).2 t ht).1
    have HTL : Hid ((ts.map Int.toNat).length = ts.length) := List.length_map _
    clear her hE hL hec ok
    go_enter Tryz.func43, Tryz.ntmps43
    go_upto_region 1 with (fail)
    generalize hw0 : World.alloc _ _ = w0
    obtain ⟨hb0, hB0, hs0⟩ := alloc1 hw0
    have HL0 : Hid (LoBox w0 w.heap.size A0 A1 A2 A3 A4 A5 q0 q1 q2 q3 q4 q5 l) := hb0
    have HB0 := hide hB0
    obtain ⟨c0, c1, c2, c3, c4, c5⟩ := zL hb0
    have hlb := box_lt hb0
    clear hw0 hb0 hB0 hs0
    go_upto_region 4 with (go_at_call 27; refine (rbCheck_any [] none 0 A0 A1 A2 A3 A4 A5 q0 q1 q2 q3 q4 q5 l _ HS.out HD0.out (H.out.up HB0.out) (Mods.nil _ _)).mono ?_; rw [HEB.out]; rintro e w1 ⟨rfl, hB1⟩; have HL1 := hide (HL0.out.to hB1); have HB1 := hide (Below.to HB0.out hB1 (Nat.le_refl _)); clear hB1 c0 c1 c2 c3 c4 c5 hlb)
    obtain ⟨d0, d1, d2, d3, d4, d5⟩ := zL HL1.out
    have hld := box_lt HL1.out
    go_upto_region 7 with (go_at_call 114; refine (rcheckWires_any As qs ts A0 A1 A2 A3 A4 A5 q0 q1 q2 q3 q4 q5 l _ HS.out.w HM.out (H.out.up HB1.out) (Ints.up HV.out HB1.out)).mono ?_; rw [HEC.out]; rintro e w2 ⟨rfl, hB2⟩; have HL2 := hide (HL1.out.to hB2); have HB2 := hide (Below.to HB1.out hB2 (Nat.le_refl _)); clear hB2 d0 d1 d2 d3 d4 d5 hld)
    obtain ⟨f0, f1, f2, f3, f4, f5⟩ := zL HL2.out
    have hlf := box_lt HL2.out
    have hn60 : (ts.map Int.toNat).length ≤ 100 := by have := HTN.out.2; omega
    go_wp2_with (go_at_call 111; refine (rnets_any (ts.map Int.toNat) _ A0 A1 A2 A3 A4 A5 q0 q1 q2 q3 q4 q5 l _ (H.out.up HB2.out) HTN.out.1 hn60 (by omega) (Ints.nods (Ints.up HV.out HB2.out) HT0.out)).mono ?_; rintro e w3 ⟨v3, vs3, rfl, hN3, hB3⟩; have HN3 := hide (hN3.base HB2.out.size); have HB3 := hide (Below.to HB2.out hB3 (Nat.le_refl _)); clear hN3 hB3 f0 f1 f2 f3 f4 f5 hlf)
    go_ret2
    exact ⟨_, vs3, rfl, HN3.out, HB3.out⟩
abbrev PP := Pn × Pn
def ppE (p : PP) : List Value := [.int .i64 p.1.1, .int .i64 p.1.2, .int .i64 p.2.1, .int .i64 p.2.2]
theorem ppE_len (p : PP) : (ppE p).length = 4 := rfl
def ppZ : PP := ((0, 0), (0, 0))
theorem infoPair : (Tryz.prog.info? 151).map (fun i => (i.zero, i.size, i.bytes)) = some (some (.agg #[.int .i64 0, .int .i64 0, .int .i64 0, .int .i64 0]), 4, 32) := by kernel_rfl
def jonA (o : List (List Pn)) (i : Nat) : List PP := (List.range i).flatMap fun i => jonN (o.getD i [])
def jonB (net : List Pn) (k : Nat) : List PP := (List.range k).map fun k => (net.getD k (0, 0), net.getD (k + 1) (0, 0))
def apaA (o : List (List Pn)) (i : Nat) : List PP := (List.range i).flatMap (apaN o)
def apaB (o : List (List Pn)) (i k : Nat) : List PP := (List.range k).map fun m => (hdP (o.getD i []), hdP (o.getD (i + 1 + m) []))
theorem jonA_succ (o : List (List Pn)) (i : Nat) : jonA o (i + 1) = jonA o i ++ jonN (o.getD i []) := by
  unfold jonA
  rw [List.range_succ, List.flatMap_append]
  simp
theorem apaA_succ (o : List (List Pn)) (i : Nat) : apaA o (i + 1) = apaA o i ++ apaN o i := by
  unfold apaA
  rw [List.range_succ, List.flatMap_append]
  simp
theorem jonB_succ (net : List Pn) (k : Nat) : jonB net (k + 1) = jonB net k ++ [(net.getD k (0, 0), net.getD (k + 1) (0, 0))] := by
  unfold jonB
  rw [List.range_succ, List.map_append]
  rfl
theorem apaB_succ (o : List (List Pn)) (i k : Nat) : apaB o i (k + 1) = apaB o i k ++ [(hdP (o.getD i []), hdP (o.getD (i + 1 + k) []))] := by
  unfold apaB
  rw [List.range_succ, List.map_append]
  rfl
theorem jonB_all (net : List Pn) : jonB net (net.length - 1) = jonN net := rfl
theorem apaB_all (o : List (List Pn)) (i : Nat) : apaB o i (o.length - (i + 1)) = apaN o i := by
  unfold apaB apaN
  apply List.ext_getElem
  · simp
  · intro k h1 h2
    have h3 : i + 1 + k < o.length := by simp at h1; omega
    rw [List.getElem_map, List.getElem_map, List.getElem_range, List.getElem_drop, List.getD_eq_getElem?_getD (l := o) (i := i + 1 + k), List.getElem?_eq_getElem h3]
    rfl
theorem jonA_all (o : List (List Pn)) : jonA o o.length = jonL o := by
  unfold jonA jonL
  conv => rhs; rw [← map_rangeD o]
  rw [List.flatMap_map]
theorem apaA_all (o : List (List Pn)) : apaA o o.length = apaL o := rfl
theorem jonN_len (net : List Pn) : (jonN net).length = net.length - 1 := by unfold jonN; simp
theorem jonA_len (o : List (List Pn)) : ∀ i, i ≤ o.length → (jonA o i).length ≤ totN (o.take i)
  | 0, _ => by simp [jonA]
  | i + 1, h => by
    have h1 := jonA_len o i (by omega)
    rw [jonA_succ, List.length_append, jonN_len]
    have e : totN (o.take (i + 1)) = totN (o.take i) + (o.getD i []).length := by
      unfold totN
      rw [List.take_add_one, List.flatten_append, List.length_append, List.getD_eq_getElem?_getD, List.getElem?_eq_getElem (by omega)]
      simp
    omega
theorem jonA_le (o : List (List Pn)) {i : Nat} (h : i ≤ o.length) : (jonA o i).length ≤ totN o := Nat.le_trans (jonA_len o i h) (take_tot o i)
theorem apaN_len (o : List (List Pn)) (i : Nat) : (apaN o i).length ≤ o.length := by unfold apaN; simp
theorem apaA_len (o : List (List Pn)) : ∀ i, (apaA o i).length ≤ i * o.length
  | 0 => by simp [apaA]
  | i + 1 => by
    have h1 := apaA_len o i
    have h2 := apaN_len o i
    rw [apaA_succ, List.length_append, Nat.succ_mul]
    omega
theorem apaA_le (o : List (List Pn)) {i : Nat} (h : i ≤ o.length) (hN : o.length ≤ 100) : (apaA o i).length ≤ 10000 := by
  have h1 := apaA_len o i
  have h2 : i * o.length ≤ 100 * 100 := Nat.mul_le_mul (by omega) hN
  omega
theorem jonB_len (net : List Pn) (k : Nat) : (jonB net k).length = k := by unfold jonB; simp
theorem apaB_len (o : List (List Pn)) (i k : Nat) : (apaB o i k).length = k := by unfold apaB; simp
structure PrS (W1 wr : World) (J A : List PP) (jv av : Value) : Prop where
  j : wr.ownsRow W1.heap.size 151 4 jv J.length (rowV ppE J)
  a : wr.ownsRow W1.heap.size 151 4 av A.length (rowV ppE A)
  ne : ∀ g, jv.ownBlock = some g → av.ownBlock ≠ some g
  bel : Below W1.heap.size W1 wr
section
variable {W1 wr w' : World} {J A : List PP} {jv av v1 : Value} {p : PP} {o : Obj}
theorem PrS.start (W1 : World) : PrS W1 W1 [] [] (.slice none 0 0) (.slice none 0 0) := ⟨World.ownsRow_nil _ _ _ _, World.ownsRow_nil _ _ _ _, fun g hg => (nomatch hg), Below.refl _ _⟩
theorem owns_sib {w : World} {b e s n : Nat} {v u : Value} {xs : List Value} (h : w.ownsRow b e s v n xs) (hg : w.grownBy w' u.ownBlock) (hne : ∀ g, u.ownBlock = some g → v.ownBlock ≠ some g) : w'.ownsRow b e s v n xs := by
  obtain ⟨h1, h2 | ⟨g, cap, cur, h3, h4, h5, h6⟩⟩ := h
  · exact ⟨h1, .inl h2⟩
  · refine ⟨h1, .inr ⟨g, cap, cur, h3, h4, (hg.block g (Array.getElem?_eq_some_iff.1 h5).1 (fun e => hne g e.symm ?_)).trans h5, h6⟩⟩
    rw [h3]
    rfl
theorem PrS.pushJ (h : PrS W1 wr J A jv av) (hown : w'.ownsRow W1.heap.size 151 4 v1 (J.length + 1) (rowV ppE J ++ ppE p)) (hg : (wr.drew.alloc o).grownBy w' jv.ownBlock) (hat : v1.ownBlock = jv.ownBlock ∨ v1.ownBlock = some (wr.drew.alloc o).heap.size) : PrS W1 w' (J ++ [p]) A v1 av := by
  have ha : Below wr.heap.size wr (wr.drew.alloc o) := (Below.drew (Below.refl _ _)).alloc (Nat.le_refl _) _
  have h1 := owns_below h.a ha
  refine ⟨by rw [List.length_append, List.length_singleton, rowV_snoc]; exact hown, owns_sib h1 hg h.ne, fun g hg1 hg2 => ?_, ?_⟩
  · rcases hat with h3 | h3
    · exact h.ne g (h3 ▸ hg1) hg2
    · have h4 := (h1.lt g hg2).2
      rw [h3] at hg1
      injection hg1 with hg1
      omega
  · exact Below.grown (Below.to h.bel ha (Nat.le_refl _)) hg (Nat.le_trans h.bel.size ha.size) (fun k hk => (h.j.lt k hk).1)
theorem PrS.pushA (h : PrS W1 wr J A jv av) (hown : w'.ownsRow W1.heap.size 151 4 v1 (A.length + 1) (rowV ppE A ++ ppE p)) (hg : (wr.drew.alloc o).grownBy w' av.ownBlock) (hat : v1.ownBlock = av.ownBlock ∨ v1.ownBlock = some (wr.drew.alloc o).heap.size) : PrS W1 w' J (A ++ [p]) jv v1 := by
  have ha : Below wr.heap.size wr (wr.drew.alloc o) := (Below.drew (Below.refl _ _)).alloc (Nat.le_refl _) _
  have h1 := owns_below h.j ha
  refine ⟨owns_sib h1 hg fun g hg1 hg2 => h.ne g hg2 hg1, by rw [List.length_append, List.length_singleton, rowV_snoc]; exact hown, fun g hg1 hg2 => ?_, ?_⟩
  · rcases hat with h3 | h3
    · exact h.ne g hg1 (h3 ▸ hg2)
    · have h4 := (h1.lt g hg1).2
      rw [h3] at hg2
      injection hg2 with hg2
      omega
  · exact Below.grown (Below.to h.bel ha (Nat.le_refl _)) hg (Nat.le_trans h.bel.size ha.size) (fun k hk => (h.a.lt k hk).1)
theorem PrS.forms (h : PrS W1 wr J A jv av) : (∃ Aj qj, jv = .slice Aj J.length qj) ∧ ∃ Aa qa, av = .slice Aa A.length qa := ⟨owns_form h.j, owns_form h.a⟩
end
def ppF (p : PP) (j : Nat) : Value := match j with
  | 0 => .int .i64 p.1.1
  | 1 => .int .i64 p.1.2
  | 2 => .int .i64 p.2.1
  | _ => .int .i64 p.2.2
theorem ppE_get (p : PP) {j : Nat} (hj : j < 4) : (ppE p)[j]? = some (ppF p j) := by
  match j, hj with
  | 0, _ => rfl
  | 1, _ => rfl
  | 2, _ => rfl
  | 3, _ => rfl
def Pps (w : World) (B : Nat) (v : Value) (L : List PP) : Prop := Sl w B 4 v L.length (fun i j => ppF (L.getD i ppZ) j)
theorem Pps.of_own {w : World} {B e : Nat} {v : Value} {L : List PP} (h : w.ownsRow B e 4 v L.length (rowV ppE L)) : Pps w w.heap.size v L :=
  Sl.of_owns h fun i j hi hj => (rowV_get ppE_len ppZ hi hj).trans (ppE_get _ hj)
theorem Pps.up {w w' : World} {v : Value} {L : List PP} (h : Pps w w.heap.size v L) (hb : Below w.heap.size w w') : Pps w' w'.heap.size v L := Sl.up h hb
theorem Pps.form {w : World} {B : Nat} {v : Value} {L : List PP} (h : Pps w B v L) : ∃ A q, v = .slice A L.length q := Sl.form h
theorem Pps.at {w : World} {B : Nat} {A : Option Addr} {m q : Nat} {L : List PP} (h : Pps w B (.slice A m q) L) {k : Nat} (hk : k < L.length) : ∃ b off a, Hid (L.getD k ppZ = a) ∧ A = some ⟨b, off, none⟩ ∧ b < B ∧ L.length ≤ q ∧
    w.cell? ⟨b, off + k * 4, none⟩ = some (.int .i64 a.1.1) ∧ w.cell? ⟨b, off + k * 4 + 1, none⟩ = some (.int .i64 a.1.2) ∧ w.cell? ⟨b, off + k * 4 + 2, none⟩ = some (.int .i64 a.2.1) ∧ w.cell? ⟨b, off + k * 4 + 3, none⟩ = some (.int .i64 a.2.2) := by
  obtain ⟨h1, h2, b, off, h3, h4, h5⟩ := sl_at h hk
  exact ⟨b, off, _, rfl, h3, h4, by omega, h5 0 (by omega), h5 1 (by omega), h5 2 (by omega), h5 3 (by omega)⟩
end Go.Proofs.YtehadoecnmfeoaaGreat

/- Part 46 of this claim's texts: walks and plain laws. -/
import Derived.Test.YtehadoecnmfeoaaGreatRows
import Derived.Test.YtehadoecnmfeoaaGreatGBN45
import Derived.Laws.EntriesVeiled
import Derived.Deep.DeepMust
import Derived.Deep.RegionHeld3
import Derived.Deep.DrawnRows
import Derived.Test.YtehadoecnmfeoaaGreatGBN3
set_option linter.unusedVariables false
set_option linter.unusedSimpArgs false
set_option linter.unusedSectionVars false
namespace Go.Proofs.YtehadoecnmfeoaaGreat
open Go.RowKit
theorem netL_perm (es : List (Pn × Pn)) : (netL es).Perm (netU es) := by
  have hin : ∀ (a : List Pn) (o : List (List Pn)), (insN a o).Perm (a :: o) := by
    intro a o
    induction o with
    | nil => exact List.Perm.refl _
    | cons b r ih =>
      unfold insN
      split
      · exact (List.Perm.cons b ih).trans (List.Perm.swap a b r)
      · exact List.Perm.refl _
  have key : ∀ (l o : List (List Pn)), (l.foldl (fun s x => insN x s) o).Perm (l ++ o) := by
    intro l
    induction l with
    | nil => intro o; exact List.Perm.refl _
    | cons a l ih =>
      intro o
      rw [List.foldl_cons]
      exact (ih _).trans (((hin a o).append_left l).trans List.perm_middle)
  have h1 := key (netU es) []
  rw [List.append_nil] at h1
  exact h1
theorem netL_i (es : List (Pn × Pn)) : NetI (netL es) where
  ne net hn := (netU_i es).ne net (netL_mem.1 hn)
  asc net hn := (netU_i es).asc net (netL_mem.1 hn)
  apart := ((netL_perm es).pairwise_iff fun {_ _} => Apart.symm).2 (netU_i es).apart
set_option maxRecDepth 100000 in
set_option maxHeartbeats 4000000 in
theorem rProbes_any (x : List Bool) (Ax : Option Addr) (qx : Nat) (A0 A1 A2 A3 A4 A5 : Option Addr) (q0 q1 q2 q3 q4 q5 : Nat) (l : Lo) (w : World) (hs : SizedL l) (h : LoA w w.heap.size A0 A1 A2 A3 A4 A5 q0 q1 q2 q3 q4 q5 l) (hx : Bols w w.heap.size (.slice Ax x.length qx) x) :
    Calls Tryz.prog 46 #[.agg #[.slice A0 l.m.opts.length q0, .slice A1 l.m.rules.length q1, .slice A2 l.ss.length q2, .slice A3 l.us.length q3, .slice A4 l.ps.length q4, .slice A5 l.ws.length q5], .slice Ax x.length qx] w (PrbE (copE l x) (prbJ l x) (prbA l x) w) := by
  have H := hide h
  have HS := hide hs
  have HX := hide hx
  have HD0 : Hid (SizedD []) := ⟨by unfold maxLen; simp, fun d hd => by cases hd⟩
  obtain ⟨er, her⟩ : ∃ z, copE l x = z := ⟨_, rfl⟩
  have HER : Hid (pikE l [] x = er) := (pik_cop l x).trans her
  clear h hs hx
  by_cases h0 : er = 0
  case neg =>
    have hJ : prbJ l x = [] := by unfold prbJ; rw [her, if_neg h0]
    have hA : prbA l x = [] := by unfold prbA; rw [her, if_neg h0]
    rw [her, hJ, hA]
    have g1 : (er != 0) = true := by simpa using h0
    clear her h0 hJ hA
    go_enter Tryz.func46, Tryz.ntmps46
    go_upto_region 1 with (fail)
    generalize hw0 : World.alloc _ _ = w0
    obtain ⟨hb0, hB0, hs0⟩ := alloc1 hw0
    have HB0 := hide hB0
    obtain ⟨c0, c1, c2, c3, c4, c5⟩ := zL hb0
    have hlb := box_lt hb0
    clear hw0 hb0 hB0 hs0
    go_wp2_with (go_at_call 86; refine (rcheckVariant_any [] x none 0 Ax qx A0 A1 A2 A3 A4 A5 q0 q1 q2 q3 q4 q5 l _ HS.out HD0.out (H.out.up HB0.out) (Mods.nil _ _)).mono ?_; rw [HER.out]; rintro e w1 ⟨rfl, hB1⟩; have HB1 := hide (Below.to HB0.out hB1 (Nat.le_refl _)); clear hB1 c0 c1 c2 c3 c4 c5 hlb)
    go_ret3
    exact ⟨_, _, rfl, Sl.nil _ _ _ _, Sl.nil _ _ _ _, HB1.out⟩
  case pos =>
  subst h0
  have g0 : ((0 : Int) != 0) = false := by decide
  have hJ : prbJ l x = jonL (prbN l x) := by unfold prbJ; rw [her, if_pos rfl]
  have hA : prbA l x = apaL (prbN l x) := by unfold prbA; rw [her, if_pos rfl]
  rw [her, hJ, hA]
  obtain ⟨ok, hxl⟩ := copE_ok her
  have OK := hide ok
  have HXL := hide hxl
  have h60 := ok.w60
  have hb60 : (belL l x).length ≤ 60 := Nat.le_trans (belK_le l x _) h60
  have HNF := hide (net_facts (es := esL l (belL l x)) (by unfold esL; rw [List.length_map]; exact hb60))
  have hin : Hid (∀ i ∈ belL l x, i < l.ws.length) := fun i hi => (belL_lt hi).1
  obtain ⟨o, ho⟩ : ∃ z, netL (esL l (belL l x)) = z := ⟨_, rfl⟩
  have hon : prbN l x = o := ho
  rw [ho] at HNF
  rw [hon]
  have HO := hide ho
  have hb100 : Hid ((belL l x).length ≤ 100) := by show _ ≤ _; omega
  have hw1000 : Hid (l.ws.length ≤ 1000) := by show _ ≤ _; omega
  clear her hJ hA ok ho hon hxl
  go_enter Tryz.func46, Tryz.ntmps46
  go_upto_region 1 with (fail)
  generalize hw0 : World.alloc _ _ = w0
  obtain ⟨hb0, hB0, hs0⟩ := alloc1 hw0
  have HL0 : Hid (LoBox w0 w.heap.size A0 A1 A2 A3 A4 A5 q0 q1 q2 q3 q4 q5 l) := hb0
  have HB0 := hide hB0
  obtain ⟨c0, c1, c2, c3, c4, c5⟩ := zL hb0
  have hlb := box_lt hb0
  clear hw0 hb0 hB0 hs0
  go_upto_region 4 with (go_at_call 86; refine (rcheckVariant_any [] x none 0 Ax qx A0 A1 A2 A3 A4 A5 q0 q1 q2 q3 q4 q5 l _ HS.out HD0.out (H.out.up HB0.out) (Mods.nil _ _)).mono ?_; rw [HER.out]; rintro e w1 ⟨rfl, hB1⟩; have HL1 := hide (HL0.out.to hB1); have HB1 := hide (Below.to HB0.out hB1 (Nat.le_refl _)); clear hB1 c0 c1 c2 c3 c4 c5 hlb)
  obtain ⟨d0, d1, d2, d3, d4, d5⟩ := zL HL1.out
  have hld := box_lt HL1.out
  refine wp_region_held_drew (S := (fun w' => Below w1.heap.size w1 w')) (by kernel_rfl) ?_ (fun hHeld => ?_)
  · try dsimp only
    exact zP
  refine zT 0 rfl ?_
  refine zT 1 rfl ?_
  refine zT 2 rfl ?_
  refine wpAnyH_ready (rs := [3]) (by kernel_rfl) (by simp) ?_
  refine AllReadyH.cons rfl (fun K hK => ?_) AllReadyH.nil
  go_simp
  (first
    | (go_at_call 98; refine (rbelong_any x _ A0 A1 A2 A3 A4 A5 q0 q1 q2 q3 q4 q5 l _ HS.out (H.out.up (Below.to HB1.out zP (Nat.le_refl _))) OK.out (Sl.up HX.out (Below.to HB1.out zP (Nat.le_refl _))) HXL.out).mono ?_; rintro e w2 ⟨v2, rfl, hv2, hB2⟩; have HV2 := hide hv2; have HB2 : Hid (Below w1.heap.size w1 w2) := zP; clear hv2)
    | (go_at_call 111; refine (rnets_any (belL l x) _ A0 A1 A2 A3 A4 A5 q0 q1 q2 q3 q4 q5 l _ (H.out.up (Below.to HB1.out HB2.out (Nat.le_refl _))) hin.out hb100.out hw1000.out HV2.out).mono ?_; rw [HO.out]; rintro e w3 ⟨v3, vs3, rfl, hN3, hB3⟩; have HN3 := hide hN3; clear hN3)
    | (go_at_call 115; refine (rprobes_any o vs3 _ _ _ _ HNF.out.2.2 HN3.out HNF.out.1 HNF.out.2.1 (Nat.le_refl _)).mono ?_; rintro e w4 ⟨jv4, av4, rfl, hj4, ha4, hB4⟩; have HJ4 := hide hj4; have HA4 := hide ha4; clear hj4 ha4))
  (try dsimp only)
  refine hK.out _ _ zP fun hNext => ?_; clear hK K hHeld; have hHeld := hNext; clear hNext; (try dsimp only at hHeld); try simp only [zX]
  refine wpAnyH_ready (rs := [4]) (by kernel_rfl) (by simp) ?_
  refine AllReadyH.cons rfl (fun K hK => ?_) AllReadyH.nil
  go_simp
  (first
    | (go_at_call 98; refine (rbelong_any x _ A0 A1 A2 A3 A4 A5 q0 q1 q2 q3 q4 q5 l _ HS.out (H.out.up (Below.to HB1.out zP (Nat.le_refl _))) OK.out (Sl.up HX.out (Below.to HB1.out zP (Nat.le_refl _))) HXL.out).mono ?_; rintro e w2 ⟨v2, rfl, hv2, hB2⟩; have HV2 := hide hv2; have HB2 : Hid (Below w1.heap.size w1 w2) := zP; clear hv2)
    | (go_at_call 111; refine (rnets_any (belL l x) _ A0 A1 A2 A3 A4 A5 q0 q1 q2 q3 q4 q5 l _ (H.out.up (Below.to HB1.out HB2.out (Nat.le_refl _))) hin.out hb100.out hw1000.out HV2.out).mono ?_; rw [HO.out]; rintro e w3 ⟨v3, vs3, rfl, hN3, hB3⟩; have HN3 := hide hN3; clear hN3)
    | (go_at_call 115; refine (rprobes_any o vs3 _ _ _ _ HNF.out.2.2 HN3.out HNF.out.1 HNF.out.2.1 (Nat.le_refl _)).mono ?_; rintro e w4 ⟨jv4, av4, rfl, hj4, ha4, hB4⟩; have HJ4 := hide hj4; have HA4 := hide ha4; clear hj4 ha4))
  (try dsimp only)
  refine hK.out _ _ zP fun hNext => ?_; clear hK K hHeld; have hHeld := hNext; clear hNext; (try dsimp only at hHeld); try simp only [zX]
  refine wpAnyH_ready (rs := [5]) (by kernel_rfl) (by simp) ?_
  refine AllReadyH.cons rfl (fun K hK => ?_) AllReadyH.nil
  go_simp
  (first
    | (go_at_call 98; refine (rbelong_any x _ A0 A1 A2 A3 A4 A5 q0 q1 q2 q3 q4 q5 l _ HS.out (H.out.up (Below.to HB1.out zP (Nat.le_refl _))) OK.out (Sl.up HX.out (Below.to HB1.out zP (Nat.le_refl _))) HXL.out).mono ?_; rintro e w2 ⟨v2, rfl, hv2, hB2⟩; have HV2 := hide hv2; have HB2 : Hid (Below w1.heap.size w1 w2) := zP; clear hv2)
    | (go_at_call 111; refine (rnets_any (belL l x) _ A0 A1 A2 A3 A4 A5 q0 q1 q2 q3 q4 q5 l _ (H.out.up (Below.to HB1.out HB2.out (Nat.le_refl _))) hin.out hb100.out hw1000.out HV2.out).mono ?_; rw [HO.out]; rintro e w3 ⟨v3, vs3, rfl, hN3, hB3⟩; have HN3 := hide hN3; clear hN3)
    | (go_at_call 115; refine (rprobes_any o vs3 _ _ _ _ HNF.out.2.2 HN3.out HNF.out.1 HNF.out.2.1 (Nat.le_refl _)).mono ?_; rintro e w4 ⟨jv4, av4, rfl, hj4, ha4, hB4⟩; have HJ4 := hide hj4; have HA4 := hide ha4; clear hj4 ha4))
  (try dsimp only)
  refine hK.out _ _ zP fun hNext => ?_; clear hK K hHeld; have hHeld := hNext; clear hNext; (try dsimp only at hHeld); try simp only [zX]
  refine zT 6 rfl ?_
  refine zT 7 rfl ?_
  refine zT 8 rfl ?_
  refine zT 9 rfl ?_
  refine zT 10 rfl ?_
  refine wpAnyH_done (by kernel_rfl) ?_ _
  have HBZ := hide (Below.to HB1.out hHeld (Nat.le_refl _))
  clear d0 d1 d2 d3 d4 d5 hld hHeld
  go_wp2_with fail
  go_ret3
  exact ⟨_, _, rfl, HJ4.out, HA4.out, HBZ.out⟩
/-! whether nets connect two pins -/
set_option maxRecDepth 100000 in
set_option maxHeartbeats 2000000 in
theorem conn1_any (a b : Pn) (net : List Pn) (An : Option Addr) (qn pa pb : Nat) (w : World) (c : Bool) (ha : w.heap[pa]? = some (.cells #[.int .i64 a.1, .int .i64 a.2] 74 (0, 0))) (hb : w.heap[pb]? = some (.cells #[.int .i64 b.1, .int .i64 b.2] 74 (0, 0))) (hn : Pns w w.heap.size (.slice An net.length qn) net) (hN : net.length ≤ 100000) (hc : (net.contains a && net.contains b) = c) :
    Calls Tryz.prog 189 #[.slice An net.length qn, .pointer (some ⟨pa, 0, none⟩), .pointer (some ⟨pb, 0, none⟩)] w fun e w' => e = .returned (.bool c) ∧ Below w.heap.size w w' := by
  obtain ⟨c1, hc1⟩ : ∃ c, net.contains a = c := ⟨_, rfl⟩
  obtain ⟨c2, hc2⟩ : ∃ c, net.contains b = c := ⟨_, rfl⟩
  rw [hc1, hc2] at hc
  subst hc
  have HA := hide ha
  have HB := hide hb
  have HN := hide hn
  have HC1 := hide hc1
  have HC2 := hide hc2
  have x0 := cellOf ha 0
  have x1 := cellOf ha 1
  have lx := box_lt ha
  have hm1 : Hid (net.length ≤ maxLen) := by show _ ≤ _; unfold maxLen; omega
  clear ha hb hn hc1 hc2
  cases c1 with
  | false =>
    go_enter Tryz.func189, Tryz.ntmps189
    go_wp2_with (go_at_call 174; refine (containsP_any net a _ _ _ hm1.out HN.out HC1.out).mono ?_; rintro e w1 ⟨rfl, hB1⟩; have HB1 := hide hB1; clear hB1 x0 x1 lx)
    go_ret
    exact ⟨rfl, HB1.out⟩
  | true =>
    go_enter Tryz.func189, Tryz.ntmps189
    go_wp2_with (first | (go_at_call 174; have hgd := lx; refine (containsP_any net a _ _ _ hm1.out HN.out HC1.out).mono ?_; rintro e w1 ⟨rfl, hB1⟩; have HB1 := hide hB1; have HN1 := hide (HN.out.up hB1); have HBb := hide (box_to HB.out hB1); clear hB1 x0 x1 lx hgd; have y0 := cellOf HBb.out 0; have y1 := cellOf HBb.out 1; have ly := box_lt HBb.out) | (go_at_call 174; refine (containsP_any net b _ _ _ hm1.out HN1.out HC2.out).mono ?_; rintro e w2 ⟨rfl, hB2⟩; have HB2 := hide (Below.to HB1.out hB2 (Nat.le_refl _)); clear hB2 y0 y1 ly))
    go_ret
    exact ⟨rfl, HB2.out⟩
def conP (a b : Pn) (net : List Pn) : Bool := net.contains a && net.contains b
set_option maxRecDepth 100000 in
set_option maxHeartbeats 2000000 in
theorem indexConn_any (a b : Pn) (o : List (List Pn)) (vs : List Value) (A : Option Addr) (q pa pb b0 B : Nat) (w : World) (ha : w.heap[pa]? = some (.cells #[.int .i64 a.1, .int .i64 a.2] 74 (0, 0))) (hb : w.heap[pb]? = some (.cells #[.int .i64 b.1, .int .i64 b.2] 74 (0, 0))) (hn : NetS w b0 B (.slice A o.length q) o vs) (hN : o.length ≤ 100000) (hB : B ≤ w.heap.size) :
    Calls Tryz.prog 234 #[.slice A o.length q, .func (.func 189) #[] #[.pointer (some ⟨pa, 0, none⟩), .pointer (some ⟨pb, 0, none⟩)]] w
      fun e w' => e = .returned (.int .i64 (idxI (conP a b) o)) ∧ Below w.heap.size w w' := by
  have HA := hide ha
  have HB := hide hb
  have HS := hide hn
  have HBW := hide hB
  clear ha hb hn hB
  go_enter Tryz.func234, Tryz.ntmps234
  go_wp2
  go_loopw [5, 8] (fun _ i wr => ∃ k : Nat, k ≤ o.length ∧ i = .int .i64 k ∧ Hid (∀ j, j < k → conP a b (o.getD j []) = false) ∧ Hid (Below w.heap.size w wr)) (fun _ i _ => o.length - (intOf i).toNat)
  case atStart => exact ⟨0, Nat.zero_le _, rfl, fun j hj => by omega, Below.refl _ _⟩
  case round =>
    obtain ⟨k, hk, rfl, hz, HBr⟩ := hrel
    by_cases hlt : k < o.length
    case neg =>
      have hlt1 : ¬ (k : Int) < (o.length : Int) := by omega
      go_wp2
      go_ret
      have hid : idxI (conP a b) o = -1 := idxI_none _ [] o (fun j hj => hz.out j (by omega))
      exact ⟨ret_int hid.symm, HBr.out⟩
    case pos =>
      have hlt1 : (k : Int) < (o.length : Int) := by omega
      have ik0 : (0 : Int) ≤ (k : Int) := by omega
      obtain ⟨g, Ai, qi, net, HNT, hA, lg, hq, hnl, _, cg, hpn⟩ := (HS.out.below HBW.out HBr.out).at hlt
      subst hA
      have iq : (o.length : Int) ≤ (q : Int) := by omega
      obtain ⟨c, hc⟩ : ∃ c, conP a b net = c := ⟨_, rfl⟩
      have HCALL := hide (conn1_any a b net Ai qi pa pb wr c (box_to HA.out HBr.out) (box_to HB.out HBr.out) hpn hnl hc)
      have HC := hide hc
      clear hpn hq hc hnl
      cases c with
      | true =>
        go_wp2_with (go_at_call 189; refine HCALL.out.mono ?_; rintro e w1 ⟨rfl, hj2⟩; have HJ2 := hide (Below.to HBr.out hj2 (Nat.le_refl _)); clear hj2 cg lg)
        go_ret
        have hid : idxI (conP a b) o = (k : Int) := idxI_at _ [] o k hz.out hlt (by rw [HNT.out]; exact HC.out)
        exact ⟨ret_int hid.symm, HJ2.out⟩
      | false =>
        go_wp2_with (go_at_call 189; refine HCALL.out.mono ?_; rintro e w1 ⟨rfl, hj2⟩; have HJ2 := hide (Below.to HBr.out hj2 (Nat.le_refl _)); clear hj2 cg lg)
        go_roundw
        case rel => exact ⟨k + 1, by omega, by go_num, fun j hj => by
          rcases Nat.lt_or_ge j k with h | h
          · exact hz.out j h
          · rw [show j = k from by omega, HNT.out]; exact HC.out, HJ2⟩
        case measure => simp [intOf]; omega
set_option maxRecDepth 100000 in
theorem containsConn_any (a b : Pn) (o : List (List Pn)) (vs : List Value) (A : Option Addr) (q pa pb b0 B : Nat) (w : World) (ha : w.heap[pa]? = some (.cells #[.int .i64 a.1, .int .i64 a.2] 74 (0, 0))) (hb : w.heap[pb]? = some (.cells #[.int .i64 b.1, .int .i64 b.2] 74 (0, 0))) (hn : NetS w b0 B (.slice A o.length q) o vs) (hN : o.length ≤ 100000) (hB : B ≤ w.heap.size) (r : Bool) (hr : conB o a b = r) :
    Calls Tryz.prog 188 #[.slice A o.length q, .func (.func 189) #[] #[.pointer (some ⟨pa, 0, none⟩), .pointer (some ⟨pb, 0, none⟩)]] w
      fun e w' => e = .returned (.bool r) ∧ Below w.heap.size w w' := by
  have hid : decide (0 ≤ idxI (conP a b) o) = r := by rw [idxI_any]; exact hr
  have HI := hide (indexConn_any a b o vs A q pa pb b0 B w ha hb hn hN hB)
  have HR := hide hid
  clear ha hb hn hr hid hB
  go_enter Tryz.func188, Tryz.ntmps188
  go_wp2_with (go_at_call 234; refine HI.out.mono ?_; rintro e w1 ⟨rfl, hB1⟩)
  go_ret
  exact ⟨ret_bool HR.out, hB1⟩
set_option maxRecDepth 100000 in
theorem connected_any (a b : Pn) (o : List (List Pn)) (vs : List Value) (v : Value) (b0 B : Nat) (w : World) (hn : NetS w b0 B v o vs) (hN : o.length ≤ 100000) (hB : B ≤ w.heap.size) (r : Bool) (hr : conB o a b = r) :
    Calls Tryz.prog 116 #[v, .agg #[.int .i64 a.1, .int .i64 a.2], .agg #[.int .i64 b.1, .int .i64 b.2]] w fun e w' => e = .returned (.bool r) ∧ Below w.heap.size w w' := by
  obtain ⟨A, q, rfl⟩ := owns_form hn.own
  have HS := hide hn
  have HR := hide hr
  have HBW := hide hB
  clear hn hr hB
  go_enter Tryz.func116, Tryz.ntmps116
  go_upto_region 1 with (fail)
  generalize hw0 : World.alloc _ _ = w0
  obtain ⟨hb0, hb1, hB0, hs0⟩ := alloc2 hw0
  have HB0 := hide hB0
  obtain ⟨pa, hpa⟩ : ∃ z, w.heap.size = z := ⟨_, rfl⟩
  obtain ⟨pb, hpb⟩ : ∃ z, w.heap.size + 1 = z := ⟨_, rfl⟩
  rw [hpb] at hb1 ⊢
  rw [hpa] at hb0 ⊢
  have HC := hide (containsConn_any a b o vs A q pa pb b0 B w0 hb0 hb1 (HS.out.below HBW.out hB0) hN (Nat.le_trans HBW.out hB0.size) r HR.out)
  have HPA := hide hpa
  clear hw0 hb0 hb1 hB0 hs0 hpa hpb
  go_wp2_with (go_at_call 188; refine HC.out.mono ?_; rintro e w1 ⟨rfl, hB1⟩; have HB1 := hide (Below.to HB0.out hB1 (Nat.le_refl _)); clear hB1)
  go_ret
  exact ⟨rfl, HB1.out⟩
noncomputable def pasE (l : Lo) (x : List Bool) (ts : List Int) : Int := if copE l x = 0 then chkE l ts else copE l x
noncomputable def pasV (l : Lo) (x : List Bool) (ts : List Int) : Bool := if pasE l x ts = 0 then pasB (prbN l x) (netL (esL l (ts.map Int.toNat))) else false
def PasP (b : Bool) (E : Int) (w : World) (e : Ending) (w' : World) : Prop := e = .returned (.tuple #[.bool b, .int .i64 E]) ∧ Below w.heap.size w w'
theorem all_pp {p : PP → Bool} {L : List PP} (h : ∀ j, j < L.length → p (L.getD j ppZ) = true) : L.all p = true := by
  rw [List.all_eq_true]
  intro x hx
  obtain ⟨i, hi, rfl⟩ := List.getElem_of_mem hx
  have := h i hi
  rw [List.getD_eq_getElem?_getD, List.getElem?_eq_getElem hi] at this
  exact this
theorem not_all_pp {p : PP → Bool} {L : List PP} {k : Nat} (hk : k < L.length) (h : p (L.getD k ppZ) = false) : L.all p = false := by
  rw [Bool.eq_false_iff]
  intro hc
  have h1 := List.all_eq_true.1 hc (L.getD k ppZ) (by rw [List.getD_eq_getElem?_getD, List.getElem?_eq_getElem hk]; exact List.getElem_mem hk)
  rw [h] at h1
  cases h1
theorem jonL_le (o : List (List Pn)) : (jonL o).length ≤ totN o := by
  rw [← jonA_all]
  exact jonA_le o (Nat.le_refl _)
theorem apaL_le {o : List (List Pn)} (h : o.length ≤ 100) : (apaL o).length ≤ 10000 := by
  rw [← apaA_all]
  exact apaA_le o (Nat.le_refl _) h
set_option maxRecDepth 100000 in
set_option maxHeartbeats 8000000 in
theorem Passed_any (x : List Bool) (Ax : Option Addr) (qx : Nat) (As : Option Addr) (qs : Nat) (ts : List Int) (A0 A1 A2 A3 A4 A5 : Option Addr) (q0 q1 q2 q3 q4 q5 : Nat) (l : Lo) (w : World) (hs : SizedL l) (hm : ts.length ≤ maxLen) (h : LoA w w.heap.size A0 A1 A2 A3 A4 A5 q0 q1 q2 q3 q4 q5 l) (hx : Bols w w.heap.size (.slice Ax x.length qx) x) (hv : Ints w w.heap.size (.slice As ts.length qs) ts) :
    Calls Tryz.prog 48 #[.agg #[.slice A0 l.m.opts.length q0, .slice A1 l.m.rules.length q1, .slice A2 l.ss.length q2, .slice A3 l.us.length q3, .slice A4 l.ps.length q4, .slice A5 l.ws.length q5], .slice Ax x.length qx, .slice As ts.length qs] w (PasP (pasV l x ts) (pasE l x ts) w) := by
  have H := hide h
  have HS := hide hs
  have HX := hide hx
  have HV := hide hv
  have HM := hide hm
  obtain ⟨er, her⟩ : ∃ z, copE l x = z := ⟨_, rfl⟩
  have HPR : Hid (∀ W, Below w.heap.size w W → Calls Tryz.prog 45 #[.agg #[.slice A0 l.m.opts.length q0, .slice A1 l.m.rules.length q1, .slice A2 l.ss.length q2, .slice A3 l.us.length q3, .slice A4 l.ps.length q4, .slice A5 l.ws.length q5], .slice Ax x.length qx] W (PrbE er (prbJ l x) (prbA l x) W)) := fun W hW => by
    have h1 := Probes_any x Ax qx A0 A1 A2 A3 A4 A5 q0 q1 q2 q3 q4 q5 l W hs (h.up hW) (Sl.up hx hW)
    rw [her] at h1
    exact h1
  clear h hs hx hv hm
  by_cases h0 : er = 0
  case neg =>
    have hE : pasE l x ts = er := by unfold pasE; rw [her, if_neg h0]
    have hL : pasV l x ts = false := by unfold pasV; rw [hE, if_neg h0]
    rw [hE, hL]
    have g1 : (er != 0) = true := by simpa using h0
    clear her h0 hE hL
    go_enter Tryz.func48, Tryz.ntmps48
    go_upto_region 1 with (fail)
    generalize hw0 : World.alloc _ _ = w0
    obtain ⟨hb0, hB0, hs0⟩ := alloc1 hw0
    have HB0 := hide hB0
    obtain ⟨c0, c1, c2, c3, c4, c5⟩ := zL hb0
    have hlb := box_lt hb0
    clear hw0 hb0 hB0 hs0
    go_wp2_with (go_at_call 45; refine (HPR.out _ HB0.out).mono ?_; rintro e w1 ⟨jv, av, rfl, hj1, ha1, hB1⟩; have HB1 := hide (Below.to HB0.out hB1 (Nat.le_refl _)); clear hj1 ha1 hB1 c0 c1 c2 c3 c4 c5 hlb)
    go_ret2
    exact ⟨rfl, HB1.out⟩
  case pos =>
  subst h0
  have g0 : ((0 : Int) != 0) = false := by decide
  obtain ⟨ec, hec⟩ : ∃ z, chkE l ts = z := ⟨_, rfl⟩
  have HEC := hide hec
  have hE : pasE l x ts = ec := by unfold pasE; rw [her, if_pos rfl, hec]
  obtain ⟨ok, hxl⟩ := copE_ok her
  have OK := hide ok
  have HXL := hide hxl
  have h60 := ok.w60
  have hpJ : prbJ l x = jonL (prbN l x) := by unfold prbJ; rw [her, if_pos rfl]
  have hpA : prbA l x = apaL (prbN l x) := by unfold prbA; rw [her, if_pos rfl]
  have HPJ := hide hpJ
  have HPA := hide hpA
  have hb60 : (belL l x).length ≤ 60 := Nat.le_trans (belK_le l x _) h60
  have HNF := hide (net_facts (es := esL l (belL l x)) (by unfold esL; rw [List.length_map]; exact hb60))
  have hin : Hid (∀ i ∈ belL l x, i < l.ws.length) := fun i hi => (belL_lt hi).1
  have hb100 : Hid ((belL l x).length ≤ 100) := by show _ ≤ _; omega
  have hw1000 : Hid (l.ws.length ≤ 1000) := by show _ ≤ _; omega
  by_cases h0 : ec = 0
  case neg =>
    have hL : pasV l x ts = false := by unfold pasV; rw [hE, if_neg h0]
    rw [hE, hL]
    have g1 : (ec != 0) = true := by simpa using h0
    clear her h0 hE hL hec ok hxl hpJ hpA hb60
    go_enter Tryz.func48, Tryz.ntmps48
    go_upto_region 1 with (fail)
    generalize hw0 : World.alloc _ _ = w0
    obtain ⟨hb0, hB0, hs0⟩ := alloc1 hw0
    have HL0 : Hid (LoBox w0 w.heap.size A0 A1 A2 A3 A4 A5 q0 q1 q2 q3 q4 q5 l) := hb0
    have HB0 := hide hB0
    obtain ⟨c0, c1, c2, c3, c4, c5⟩ := zL hb0
    have hlb := box_lt hb0
    clear hw0 hb0 hB0 hs0
    go_upto_region 4 with (go_at_call 45; refine (HPR.out _ HB0.out).mono ?_; rintro e w1 ⟨jv, av, rfl, hj1, ha1, hB1⟩; have HL1 := hide (HL0.out.to hB1); have HJ1 := hide hj1; have HA1 := hide ha1; have HB1 := hide (Below.to HB0.out hB1 (Nat.le_refl _)); clear hj1 ha1 hB1 c0 c1 c2 c3 c4 c5 hlb)
    obtain ⟨d0, d1, d2, d3, d4, d5⟩ := zL HL1.out
    have hld := box_lt HL1.out
    go_wp2_with (go_at_call 112; refine (checkWires_any As qs ts A0 A1 A2 A3 A4 A5 q0 q1 q2 q3 q4 q5 l _ HS.out.w HM.out (H.out.up HB1.out) (Ints.up HV.out HB1.out)).mono ?_; rw [HEC.out]; rintro e w2 ⟨rfl, hB2⟩; have HB2 := hide (Below.to HB1.out hB2 (Nat.le_refl _)); clear hB2 d0 d1 d2 d3 d4 d5 hld)
    go_ret2
    exact ⟨rfl, HB2.out⟩
  case pos =>
  subst h0
  have hL : pasV l x ts = pasB (prbN l x) (netL (esL l (ts.map Int.toNat))) := by unfold pasV; rw [hE, if_pos rfl]
  rw [hE, hL]
  have HTN := hide (ts_nat hec)
  have HT0 : Hid (∀ t ∈ ts, 0 ≤ t) := fun t ht => ((chkE_zero hec).2 t ht).1
  have HQF := hide (net_facts (es := esL l (ts.map Int.toNat)) (by unfold esL; rw [List.length_map]; exact HTN.out.2))
  have HQI := hide (netL_i (esL l (ts.map Int.toNat)))
  obtain ⟨Q, hQ⟩ : ∃ z, netL (esL l (ts.map Int.toNat)) = z := ⟨_, rfl⟩
  obtain ⟨o, ho⟩ : ∃ z, prbN l x = z := ⟨_, rfl⟩
  have HNL : Hid (netL (esL l (belL l x)) = o) := ho
  rw [hQ] at HQF HQI ⊢
  rw [show netL (esL l (belL l x)) = o from ho] at HNF
  rw [ho] at HPJ HPA ⊢
  have HQ := hide hQ
  have hql : Q.length ≤ 100000 := by have := HQF.out.1; omega
  have hjl : (jonL o).length ≤ 1000 := Nat.le_trans (jonL_le o) HNF.out.2.1
  have hal : (apaL o).length ≤ 10000 := apaL_le HNF.out.1
  obtain ⟨J, hJ⟩ : ∃ z, jonL o = z := ⟨_, rfl⟩
  obtain ⟨A, hA⟩ : ∃ z, apaL o = z := ⟨_, rfl⟩
  obtain ⟨r, hr⟩ : ∃ z, pasB o Q = z := ⟨_, rfl⟩
  have HR : Hid (r = (J.all (fun p => conB Q p.1 p.2) && A.all fun p => !conB Q p.1 p.2)) := by show _ = _; rw [← hr, ← hJ, ← hA]; rfl
  rw [hr]
  rw [hJ] at hjl HPJ
  rw [hA] at hal HPA
  have HJO := hide hJ
  have HAO := hide hA
  clear her hE hL hec ok hxl hpJ hpA hb60 hQ ho hr hJ hA
  go_enter Tryz.func48, Tryz.ntmps48
  go_upto_region 1 with (fail)
  generalize hw0 : World.alloc _ _ = w0
  obtain ⟨hb0, hB0, hs0⟩ := alloc1 hw0
  have HL0 : Hid (LoBox w0 w.heap.size A0 A1 A2 A3 A4 A5 q0 q1 q2 q3 q4 q5 l) := hb0
  have HB0 := hide hB0
  obtain ⟨c0, c1, c2, c3, c4, c5⟩ := zL hb0
  have hlb := box_lt hb0
  clear hw0 hb0 hB0 hs0
  go_upto_region 4 with (go_at_call 45; refine (HPR.out _ HB0.out).mono ?_; rintro e w1 ⟨jv, av, rfl, hj1, ha1, hB1⟩; have HL1 := hide (HL0.out.to hB1); have HJ1 := hide hj1; have HA1 := hide ha1; have HB1 := hide (Below.to HB0.out hB1 (Nat.le_refl _)); clear hj1 ha1 hB1 c0 c1 c2 c3 c4 c5 hlb)
  obtain ⟨d0, d1, d2, d3, d4, d5⟩ := zL HL1.out
  have hld := box_lt HL1.out
  go_upto_region 7 with (go_at_call 112; refine (checkWires_any As qs ts A0 A1 A2 A3 A4 A5 q0 q1 q2 q3 q4 q5 l _ HS.out.w HM.out (H.out.up HB1.out) (Ints.up HV.out HB1.out)).mono ?_; rw [HEC.out]; rintro e w2 ⟨rfl, hB2⟩; have HL2 := hide (HL1.out.to hB2); have HB2 := hide (Below.to HB1.out hB2 (Nat.le_refl _)); have HJ2 := hide (HJ1.out.up hB2); have HA2 := hide (HA1.out.up hB2); clear hB2 d0 d1 d2 d3 d4 d5 hld)
  obtain ⟨f0, f1, f2, f3, f4, f5⟩ := zL HL2.out
  have hlf := box_lt HL2.out
  have hn60 : (ts.map Int.toNat).length ≤ 100 := by have := HTN.out.2; omega
  go_upto_region 8 with (go_at_call 113; refine (nets_any (ts.map Int.toNat) _ A0 A1 A2 A3 A4 A5 q0 q1 q2 q3 q4 q5 l _ (H.out.up HB2.out) HTN.out.1 hn60 hw1000.out (Ints.nods (Ints.up HV.out HB2.out) HT0.out)).mono ?_; rw [HQ.out]; rintro e w3 ⟨v3, vs3, rfl, hN3, hB3⟩; have HN3 := hide hN3; have HJ3 := hide (HJ2.out.up hB3); have HA3 := hide (HA2.out.up hB3); have HB3 := hide (Below.to HB2.out hB3 (Nat.le_refl _)); clear hN3 hB3 f0 f1 f2 f3 f4 f5 hlf)
  rw [HPJ.out] at HJ3
  rw [HPA.out] at HA3
  obtain ⟨W3, hW3⟩ : ∃ wo : World, wo = w3 := ⟨_, rfl⟩
  subst hW3
  obtain ⟨Aj, qj, e1⟩ := HJ3.out.form
  subst e1
  obtain ⟨Aa, qa, e1⟩ := HA3.out.form
  subst e1
  have hBn : Hid (W3.heap.size ≤ W3.heap.size) := Nat.le_refl _
  go_wp2_with fail
  go_loopw [38] (fun kv wr => ∃ k : Nat, kv = .int .i64 k ∧ k ≤ J.length ∧ Hid (∀ j, j < k → conB Q (J.getD j ppZ).1 (J.getD j ppZ).2 = true) ∧ Hid (Below W3.heap.size W3 wr)) (fun kv _ => J.length - (intOf kv).toNat)
  case atStart => exact ⟨0, rfl, Nat.zero_le _, fun j hj => by omega, Below.refl _ _⟩
  case round =>
    obtain ⟨k, rfl, hk, hz, HW⟩ := hrel
    by_cases hlt : k < J.length
    case pos =>
      have hlt1 : (k : Int) < (J.length : Int) := by omega
      have ik0 : (0 : Int) ≤ (k : Int) := by omega
      obtain ⟨b, off, p, HP, hAj, hbb, hq, e0, e1, e2, e3⟩ := (HJ3.out.up HW.out).at hlt
      subst hAj
      have iq : (J.length : Int) ≤ (qj : Int) := by omega
      obtain ⟨c, hc⟩ : ∃ c, conB Q p.1 p.2 = c := ⟨_, rfl⟩
      have HC := hide hc
      clear hc hq
      go_upto_region 11 with (fail)
      generalize hw6 : World.alloc _ _ = w6
      obtain ⟨hb6, hB6, hs6⟩ := alloc1 hw6
      have HB6 := hide (Below.to HW.out hB6 (Nat.le_refl _))
      have HCN := hide (connected_any p.1 p.2 Q vs3 _ _ _ w6 (HN3.out.below (Nat.le_refl _) (Below.trans (Below.refl _ _) HB6.out)) hql HB6.out.size c HC.out)
      have z0 := cellOf hb6 0
      have z1 := cellOf hb6 1
      have z2 := cellOf hb6 2
      have z3 := cellOf hb6 3
      have lz := box_lt hb6
      clear hw6 hb6 hB6 hs6 e0 e1 e2 e3 hbb
      cases c with
      | true =>
        go_wp2_with (go_at_call 116; refine HCN.out.mono ?_; rintro e w7 ⟨rfl, hB7⟩; have HB7 := hide (Below.to HB6.out hB7 (Nat.le_refl _)); clear hB7 z0 z1 z2 z3 lz)
        go_roundw
        case rel => exact ⟨k + 1, by go_num, by omega, fun j hj => by
          rcases Nat.lt_or_ge j k with h | h
          · exact hz.out j h
          · rw [show j = k from by omega, HP.out]; exact HC.out, HB7.out⟩
        case measure => simp [intOf]; omega
      | false =>
        have hrf : r = false := by
          rw [HR.out, not_all_pp hlt (by rw [HP.out]; exact HC.out), Bool.false_and]
        subst hrf
        go_wp2_with (go_at_call 116; refine HCN.out.mono ?_; rintro e w7 ⟨rfl, hB7⟩; have HB7 := hide (Below.to HB6.out hB7 (Nat.le_refl _)); clear hB7 z0 z1 z2 z3 lz)
        go_ret2
        exact ⟨rfl, Below.trans HB3.out (HB7.out.mono HB3.out.size)⟩
    case neg =>
      have hlt1 : ¬ (k : Int) < (J.length : Int) := by omega
      have HJA : Hid (J.all (fun p => conB Q p.1 p.2) = true) := all_pp fun j hj => hz.out j (by omega)
      obtain ⟨W4, hW4⟩ : ∃ wo : World, wo = wr := ⟨_, rfl⟩
      subst hW4
      have HA4 := hide (HA3.out.up HW.out)
      have HN4 := hide (HN3.out.below (Nat.le_refl _) HW.out)
      have HS4 : Hid (W3.heap.size ≤ W4.heap.size) := HW.out.size
      go_wp2_with fail
      go_loopw [52] (fun kv wr => ∃ k : Nat, kv = .int .i64 k ∧ k ≤ A.length ∧ Hid (∀ j, j < k → (!conB Q (A.getD j ppZ).1 (A.getD j ppZ).2) = true) ∧ Hid (Below W4.heap.size W4 wr)) (fun kv _ => A.length - (intOf kv).toNat)
      case atStart => exact ⟨0, rfl, Nat.zero_le _, fun j hj => by omega, Below.refl _ _⟩
      case round =>
        obtain ⟨k, rfl, hk, hz2, HW2⟩ := hrel
        by_cases hlt2 : k < A.length
        case pos =>
          have hlt1 : (k : Int) < (A.length : Int) := by omega
          have ik0 : (0 : Int) ≤ (k : Int) := by omega
          obtain ⟨b, off, p, HP, hAj, hbb, hq, e0, e1, e2, e3⟩ := (HA4.out.up HW2.out).at hlt2
          subst hAj
          have iq : (A.length : Int) ≤ (qa : Int) := by omega
          obtain ⟨c, hc⟩ : ∃ c, conB Q p.1 p.2 = c := ⟨_, rfl⟩
          have HC := hide hc
          clear hc hq
          go_upto_region 17 with (fail)
          generalize hw6 : World.alloc _ _ = w6
          obtain ⟨hb6, hB6, hs6⟩ := alloc1 hw6
          have HB6 := hide (Below.to HW2.out hB6 (Nat.le_refl _))
          have HCN := hide (connected_any p.1 p.2 Q vs3 _ _ _ w6 (HN4.out.below HS4.out HB6.out) hql (Nat.le_trans HS4.out HB6.out.size) c HC.out)
          have z0 := cellOf hb6 0
          have z1 := cellOf hb6 1
          have z2 := cellOf hb6 2
          have z3 := cellOf hb6 3
          have lz := box_lt hb6
          clear hw6 hb6 hB6 hs6 e0 e1 e2 e3 hbb
          cases c with
          | false =>
            go_wp2_with (go_at_call 116; refine HCN.out.mono ?_; rintro e w7 ⟨rfl, hB7⟩; have HB7 := hide (Below.to HB6.out hB7 (Nat.le_refl _)); clear hB7 z0 z1 z2 z3 lz)
            go_roundw
            case rel => exact ⟨k + 1, by go_num, by omega, fun j hj => by
              rcases Nat.lt_or_ge j k with h | h
              · exact hz2.out j h
              · rw [show j = k from by omega, HP.out, HC.out]; rfl, HB7.out⟩
            case measure => simp [intOf]; omega
          | true =>
            have hrf : r = false := by
              rw [HR.out, not_all_pp hlt2 (by rw [HP.out, HC.out]; rfl), Bool.and_false]
            subst hrf
            go_wp2_with (go_at_call 116; refine HCN.out.mono ?_; rintro e w7 ⟨rfl, hB7⟩; have HB7 := hide (Below.to HB6.out hB7 (Nat.le_refl _)); clear hB7 z0 z1 z2 z3 lz)
            go_ret2
            exact ⟨rfl, Below.trans HB3.out ((Below.to HW.out HB7.out (Nat.le_refl _)).mono HB3.out.size)⟩
        case neg =>
          have hlt1 : ¬ (k : Int) < (A.length : Int) := by omega
          have hrt : r = true := by
            rw [HR.out, HJA.out, all_pp fun j hj => hz2.out j (by omega)]
            rfl
          subst hrt
          go_wp2_with fail
          go_ret2
          exact ⟨rfl, Below.trans HB3.out ((Below.to HW.out HW2.out (Nat.le_refl _)).mono HB3.out.size)⟩
end Go.Proofs.YtehadoecnmfeoaaGreat

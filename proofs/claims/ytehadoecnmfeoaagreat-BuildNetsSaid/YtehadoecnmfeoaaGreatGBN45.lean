/- Part 45 of this claim's texts: walks and plain laws. -/
import Derived.Test.YtehadoecnmfeoaaGreatRows
import Derived.Test.YtehadoecnmfeoaaGreatGBN44
import Derived.Test.YtehadoecnmfeoaaGreatGBN26
import Derived.Deep.DeepMust
import Derived.Deep.RegionHeld3
import Derived.Deep.DrawnRows
import Derived.Test.YtehadoecnmfeoaaGreatGBN3
set_option linter.unusedVariables false
set_option linter.unusedSimpArgs false
set_option linter.unusedSectionVars false
namespace Go.Proofs.YtehadoecnmfeoaaGreat
open Go.RowKit
def PrbE (E : Int) (J A : List PP) (w : World) (e : Ending) (w' : World) : Prop := ∃ jv av, e = .returned (.tuple #[jv, av, .int .i64 E]) ∧ Pps w' w'.heap.size jv J ∧ Pps w' w'.heap.size av A ∧ Below w.heap.size w w'
noncomputable def prbN (l : Lo) (x : List Bool) : List (List Pn) := netL (esL l (belL l x))
noncomputable def prbJ (l : Lo) (x : List Bool) : List PP := if copE l x = 0 then jonL (prbN l x) else []
noncomputable def prbA (l : Lo) (x : List Bool) : List PP := if copE l x = 0 then apaL (prbN l x) else []
set_option maxRecDepth 100000 in
theorem sizeNetT (w : World) : (sizeOf 86).run Tryz.prog w = .ok 1 w := by kernel_rfl
set_option maxRecDepth 100000 in
theorem slc_net (A : Option Addr) (n cap k : Nat) (hk : k ≤ n) (i : Int) (hi : i = k) (W : World) : (Instr.slice 82 (.slice A n cap) (some (.int .i64 i)) none none).run Tryz.prog W = .ok (sliced A k n cap 1) W := by
  subst hi
  have h := run_slice_l (P := Tryz.prog) W 82 A n cap Tryz.underlying82 .i64 (k : Int) (by omega) (by omega)
  rw [h]
  have he : Tryz.prog.elem 82 = 86 := by kernel_rfl
  rw [he, sizeNetT, Int.toNat_natCast]
  rfl
theorem slc_form (g n cap k : Nat) (hk : k ≤ n) (hc : n ≤ cap) : ∃ Ar qr, sliced (some ⟨g, 0, none⟩) k n cap 1 = .slice Ar (n - k) qr ∧ (k < n → Ar = some ⟨g, k, none⟩) ∧ n - k ≤ qr := by
  unfold sliced
  split
  · rename_i hck
    exact ⟨_, cap - k, rfl, fun h => by omega, by omega⟩
  · refine ⟨_, _, rfl, fun _ => ?_, by omega⟩
    simp only [Option.map_some, Nat.mul_one]
    congr 1
    unfold Addr.add
    split
    · rename_i h0; rw [h0]
    · simp
theorem net_facts {es : List (Pn × Pn)} (h : es.length ≤ 60) : (netL es).length ≤ 100 ∧ totN (netL es) ≤ 1000 ∧ ∀ net ∈ netL es, net ≠ [] := by
  have hp : (netL es).Perm (netU es) := by
    have key : ∀ (l o : List (List Pn)), (l.foldl (fun s x => insN x s) o).Perm (l ++ o) := by
      intro l
      induction l with
      | nil => intro o; exact List.Perm.refl _
      | cons a l ih =>
        intro o
        rw [List.foldl_cons]
        refine (ih _).trans ?_
        have hin : ∀ o : List (List Pn), (insN a o).Perm (a :: o) := by
          intro o
          induction o with
          | nil => exact List.Perm.refl _
          | cons b r ih =>
            unfold insN
            split
            · exact (List.Perm.cons b ih).trans (List.Perm.swap a b r)
            · exact List.Perm.refl _
        exact ((hin o).append_left l).trans List.perm_middle
    have h1 := key (netU es) []
    rw [List.append_nil] at h1
    exact h1
  have h1 := netU_len es
  have h2 := netU_tot es
  refine ⟨by rw [hp.length_eq]; omega, ?_, fun net hn => (netU_i es).ne net (netL_mem.1 hn)⟩
  have h3 : totN (netL es) = totN (netU es) := by
    unfold totN
    rw [List.length_flatten, List.length_flatten]
    exact (hp.map List.length).sum_nat
  omega
set_option maxRecDepth 100000 in
set_option maxHeartbeats 8000000 in
theorem Probes_any (x : List Bool) (Ax : Option Addr) (qx : Nat) (A0 A1 A2 A3 A4 A5 : Option Addr) (q0 q1 q2 q3 q4 q5 : Nat) (l : Lo) (w : World) (hs : SizedL l) (h : LoA w w.heap.size A0 A1 A2 A3 A4 A5 q0 q1 q2 q3 q4 q5 l) (hx : Bols w w.heap.size (.slice Ax x.length qx) x) :
    Calls Tryz.prog 45 #[.agg #[.slice A0 l.m.opts.length q0, .slice A1 l.m.rules.length q1, .slice A2 l.ss.length q2, .slice A3 l.us.length q3, .slice A4 l.ps.length q4, .slice A5 l.ws.length q5], .slice Ax x.length qx] w (PrbE (copE l x) (prbJ l x) (prbA l x) w) := by
  obtain ⟨i0, hi0, iz0, iz1, iz2⟩ := info_parts infoPair
  have H := hide h
  have HS := hide hs
  have HX := hide hx
  obtain ⟨er, her⟩ : ∃ z, copE l x = z := ⟨_, rfl⟩
  obtain ⟨LB, hLB⟩ : ∃ z, belN l x = z := ⟨_, rfl⟩
  have HBE : Hid (∀ W, Below w.heap.size w W → Calls Tryz.prog 93 #[.agg #[.slice A0 l.m.opts.length q0, .slice A1 l.m.rules.length q1, .slice A2 l.ss.length q2, .slice A3 l.us.length q3, .slice A4 l.ps.length q4, .slice A5 l.ws.length q5], .slice Ax x.length qx] W (PicP LB er W)) := fun W hW => by
    have h1 := belonging_any x Ax qx A0 A1 A2 A3 A4 A5 q0 q1 q2 q3 q4 q5 l W hs (h.up hW) (Sl.up hx hW)
    rw [her, hLB] at h1
    exact h1
  clear h hs hx
  by_cases h0 : er = 0
  case neg =>
    have hJ : prbJ l x = [] := by unfold prbJ; rw [her, if_neg h0]
    have hA : prbA l x = [] := by unfold prbA; rw [her, if_neg h0]
    rw [her, hJ, hA]
    have g1 : (er != 0) = true := by simpa using h0
    clear her h0 hJ hA hLB
    go_enter Tryz.func45, Tryz.ntmps45
    go_upto_region 1 with (fail)
    generalize hw0 : World.alloc _ _ = w0
    obtain ⟨hb0, hB0, hs0⟩ := alloc1 hw0
    have HB0 := hide hB0
    obtain ⟨c0, c1, c2, c3, c4, c5⟩ := zL hb0
    have hlb := box_lt hb0
    clear hw0 hb0 hB0 hs0
    go_wp2_with (go_at_call 93; refine (HBE.out _ HB0.out).mono ?_; rintro e w1 ⟨v1, rfl, hv1, hB1⟩; have HB1 := hide (Below.to HB0.out hB1 (Nat.le_refl _)); clear hB1 c0 c1 c2 c3 c4 c5 hlb)
    ((try simp only [Exit.inBlock, Exit.then]); refine bodyPost_ret (results_tmp3 rfl _ _ _) rfl ?_)
    exact ⟨_, _, rfl, Sl.nil _ _ _ _, Sl.nil _ _ _ _, HB1.out⟩
  case pos =>
  subst h0
  have g0 : ((0 : Int) != 0) = false := by decide
  have hbl : LB = belL l x := by rw [← hLB]; unfold belN; rw [her, if_pos rfl]
  subst hbl
  have hJ : prbJ l x = jonL (prbN l x) := by unfold prbJ; rw [her, if_pos rfl]
  have hA : prbA l x = apaL (prbN l x) := by unfold prbA; rw [her, if_pos rfl]
  rw [her, hJ, hA]
  have ok := (copE_ok her).1
  have h60 := ok.w60
  have hb60 : (belL l x).length ≤ 60 := Nat.le_trans (belK_le l x _) h60
  have HNF := hide (net_facts (es := esL l (belL l x)) (by unfold esL; rw [List.length_map]; exact hb60))
  have hin : Hid (∀ i ∈ belL l x, i < l.ws.length) := fun i hi => (belL_lt hi).1
  obtain ⟨o, ho⟩ : ∃ z, netL (esL l (belL l x)) = z := ⟨_, rfl⟩
  have hon : prbN l x = o := ho
  rw [ho] at HNF
  rw [hon]
  have HO := hide ho
  clear her hJ hA hLB ok ho hon
  go_enter Tryz.func45, Tryz.ntmps45
  go_upto_region 1 with (fail)
  generalize hw0 : World.alloc _ _ = w0
  obtain ⟨hb0, hB0, hs0⟩ := alloc1 hw0
  have HL0 : Hid (LoBox w0 w.heap.size A0 A1 A2 A3 A4 A5 q0 q1 q2 q3 q4 q5 l) := hb0
  have HB0 := hide hB0
  obtain ⟨c0, c1, c2, c3, c4, c5⟩ := zL hb0
  have hlb := box_lt hb0
  clear hw0 hb0 hB0 hs0
  go_upto_region 4 with (go_at_call 93; refine (HBE.out _ HB0.out).mono ?_; rintro e w1 ⟨v1, rfl, hv1, hB1⟩; obtain ⟨Av1, qv1, hve⟩ := Sl.form hv1; subst hve; have HV1 := hide hv1; have HL1 := hide (HL0.out.to hB1); have HB1 := hide (Below.to HB0.out hB1 (Nat.le_refl _)); clear hv1 hB1 c0 c1 c2 c3 c4 c5 hlb)
  obtain ⟨d0, d1, d2, d3, d4, d5⟩ := zL HL1.out
  have hld := box_lt HL1.out
  have hb100 : (belL l x).length ≤ 100 := by omega
  have hw1000 : l.ws.length ≤ 1000 := by omega
  go_upto_region 5 with (go_at_call 113; refine (nets_any (belL l x) _ A0 A1 A2 A3 A4 A5 q0 q1 q2 q3 q4 q5 l _ (H.out.up HB1.out) hin.out hb100 hw1000 HV1.out).mono ?_; rw [HO.out]; rintro e w2 ⟨v2, vs, rfl, hN2, hB2⟩; obtain ⟨A2n, q2n, hve⟩ := owns_form hN2.own; subst hve; have HS2 := hide hN2; have HB2 := hide (Below.to HB1.out hB2 (Nat.le_refl _)); clear hN2 hB2 d0 d1 d2 d3 d4 d5 hld)
  obtain ⟨W2, hW2⟩ : ∃ wo : World, wo = w2 := ⟨_, rfl⟩
  subst hW2
  have hN : o.length ≤ 100 := HNF.out.1
  have HT : Hid (totN o ≤ 1000) := HNF.out.2.1
  have HI : Hid (∀ net ∈ o, net ≠ []) := HNF.out.2.2
  obtain ⟨b0, hb0⟩ : ∃ z, w1.heap.size = z := ⟨_, rfl⟩
  rw [hb0] at HS2
  clear hb0 hb60 hb100 hw1000 h60
  go_wp2_with fail
  go_loopw [4, 5, 28] (fun jv av iv wr => ∃ i : Nat, iv = .int .i64 i ∧ i ≤ o.length ∧ Hid (PrS W2 wr (jonA o i) (apaA o i) jv av)) (fun _ _ iv _ => o.length - (intOf iv).toNat)
  case atStart => exact ⟨0, rfl, Nat.zero_le _, PrS.start W2⟩
  case round =>
    obtain ⟨i, rfl, hi, HP⟩ := hrel
    obtain ⟨⟨Aj, qj, e1⟩, ⟨Aa, qa, e2⟩⟩ := HP.out.forms
    subst e1 e2
    by_cases hlt : i < o.length
    case neg =>
      have hlt1 : ¬ (i : Int) < (o.length : Int) := by omega
      have hio : Hid (i = o.length) := by show _ = _; omega
      go_wp2_with fail
      ((try simp only [Exit.inBlock, Exit.then]); refine bodyPost_ret (results_tmp3 rfl _ _ _) rfl ?_)
      refine ⟨_, _, rfl, ?_, ?_, Below.trans HB2.out (HP.out.bel.mono HB2.out.size)⟩
      · rw [← jonA_all, ← hio.out]
        exact Pps.of_own HP.out.j
      · rw [← apaA_all, ← hio.out]
        exact Pps.of_own HP.out.a
    case pos =>
      have hlt1 : (i : Int) < (o.length : Int) := by omega
      have ii0 : (0 : Int) ≤ (i : Int) := by omega
      obtain ⟨net, hnet⟩ : ∃ z, o.getD i [] = z := ⟨_, rfl⟩
      have hnm : net ∈ o := by rw [← hnet, List.getD_eq_getElem?_getD, List.getElem?_eq_getElem hlt]; exact List.getElem_mem hlt
      have hnl : net.length ≤ 1000 := by
        have h1 := one_tot o i
        have h2 := HT.out
        rw [hnet] at h1
        omega
      have hJ1 : ∀ k, k ≤ net.length - 1 → (jonA o i ++ jonB net k).length ≤ 2000 := fun k hk => by
        have h1 := jonA_le o hi
        have h2 := HT.out
        rw [List.length_append, jonB_len]
        omega
      have hA1 : ∀ k, k ≤ o.length → (apaA o i ++ apaB o i k).length ≤ 11000 := fun k hk => by
        have h1 := apaA_le o hi hN
        rw [List.length_append, apaB_len]
        omega
      have HJ1 := hide hJ1
      have HA1 := hide hA1
      have HNT := hide hnet
      have HP1 : Hid (PrS W2 wr (jonA o i ++ jonB net 0) (apaA o i) (.slice Aj (jonA o i).length qj) (.slice Aa (apaA o i).length qa)) := by
        show PrS _ _ _ _ _ _
        rw [show jonB net 0 = [] from rfl, List.append_nil]
        exact HP.out
      have hpos : 0 < net.length := List.length_pos_iff.2 (HI.out net hnm)
      have hS := HS2.out.below (Nat.le_refl _) HP.out.bel
      obtain ⟨g, Ai, qi, net', HNT', hA, lg, hq, hnl', hvi, cg, hpn⟩ := hS.at hlt
      have hne : net = net' := HNT.out.symm.trans HNT'.out
      subst hne
      subst hA
      have HVI := hide hvi
      have hqo : o.length ≤ q2n := hq
      clear hJ1 hA1 hnet hnm hS hvi hpn hnl' hq
      have wn : IntKind.i64.wrap ((net.length : Int) - 1) = (net.length : Int) - 1 := by rw [IntWalk.i64_in _ (by omega)]
      go_wp2_with fail
      clear cg lg wn
      go_loopw [4, 36] (fun jv kv wr => ∃ k : Nat, kv = .int .i64 k ∧ k + 1 ≤ net.length ∧ Hid (PrS W2 wr (jonA o i ++ jonB net k) (apaA o i) jv (.slice Aa (apaA o i).length qa))) (fun _ kv _ => net.length - (intOf kv).toNat)
      case atStart => exact ⟨0, rfl, hpos, HP1.out⟩
      case round =>
        obtain ⟨k, rfl, hk, HPk⟩ := hrel
        obtain ⟨J, hJ⟩ : ∃ z, jonA o i ++ jonB net k = z := ⟨_, rfl⟩
        have hJl : J.length ≤ 2000 := by rw [← hJ]; exact HJ1.out k (by omega)
        rw [hJ] at HPk
        have HJE := hide hJ
        obtain ⟨Ak, qk, e1⟩ := owns_form HPk.out.j
        subst e1
        clear hJ
        by_cases hkl : k + 1 < net.length
        case neg =>
          have hkl1 : ¬ (k : Int) < (net.length : Int) - 1 := by omega
          have hkn : Hid (J = jonA o (i + 1)) := by show _ = _; rw [← HJE.out, jonA_succ, HNT.out, ← jonB_all, show net.length - 1 = k by omega]
          have HPm : Hid (PrS W2 wr J (apaA o i ++ apaB o i 0) (.slice Ak J.length qk) (.slice Aa (apaA o i).length qa)) := by
            show PrS _ _ _ _ _ _
            rw [show apaB o i 0 = [] from rfl, List.append_nil]
            exact HPk.out
          have HLT := hide hlt
          obtain ⟨Ar, qr, hsf, hsa, hsq⟩ := slc_form g o.length q2n (i + 1) (by omega) hqo
          have hsl := fun W => slc_net (some ⟨g, 0, none⟩) o.length q2n (i + 1) (by omega) ((i : Int) + 1) (by omega) W
          rw [hsf] at hsl
          have HSA := hide hsa
          have HSQ := hide hsq
          have wi1 : IntKind.i64.wrap ((i : Int) + 1) = (i : Int) + 1 := by rw [IntWalk.i64_in _ (by omega)]
          obtain ⟨r, hr⟩ : ∃ z, o.length - (i + 1) = z := ⟨_, rfl⟩
          have HR : Hid (o.length = i + 1 + r) := by show _ = _; omega
          have hr100 : r ≤ 100 := by omega
          rw [hr] at hsl
          clear hsf hsa hsq hr
          go_wp2_with fail
          clear hsl wi1
          go_loopw [5, 58] (fun av kv wr => ∃ m : Nat, kv = .int .i64 m ∧ m ≤ r ∧ Hid (PrS W2 wr J (apaA o i ++ apaB o i m) (.slice Ak J.length qk) av)) (fun _ kv _ => r - (intOf kv).toNat)
          case atStart => exact ⟨0, rfl, Nat.zero_le _, HPm.out⟩
          case round =>
            obtain ⟨m, rfl, hm, HPq⟩ := hrel
            obtain ⟨a, ha⟩ : ∃ z, apaA o i ++ apaB o i m = z := ⟨_, rfl⟩
            have hal : a.length ≤ 11000 := by rw [← ha]; exact HA1.out m (by have := HR.out; omega)
            rw [ha] at HPq
            have HAE := hide ha
            obtain ⟨Am, qm, e1⟩ := owns_form HPq.out.a
            subst e1
            clear ha
            by_cases hml : m < r
            case neg =>
              have hml1 : ¬ (m : Int) < (r : Int) := by omega
              have hmn : Hid (a = apaA o (i + 1)) := by show _ = _; rw [← HAE.out, apaA_succ, ← apaB_all, show o.length - (i + 1) = m by have := HR.out; omega]
              have HPz : Hid (PrS W2 wr (jonA o (i + 1)) (apaA o (i + 1)) (.slice Ak J.length qk) (.slice Am a.length qm)) := by
                show PrS _ _ _ _ _ _
                rw [← hkn.out, ← hmn.out]
                exact HPq.out
              go_wp2_with fail
              go_roundw
              case rel => exact ⟨i + 1, by go_num, by have := HLT.out; omega, HPz⟩
              case measure => simp [intOf]; have := HLT.out; omega
            case pos =>
              have hml1 : (m : Int) < (r : Int) := by omega
              have hml2 : i + 1 + m < o.length := by have := HR.out; omega
              have hS := HS2.out.below (Nat.le_refl _) HPq.out.bel
              obtain ⟨g', g1, n1, c1, hA1, lg, hqq, x0, hz1, n1p, n1c, l1, x1, x2⟩ := hS.firstAt HI.out HLT.out
              obtain ⟨g'', g2, n2, c2, hA2, hz2, hz3, y0, hz4, n2p, n2c, l2, y1, y2⟩ := hS.firstAt HI.out hml2
              injection hA1 with hA1
              injection hA1 with hA1 _ _
              subst hA1
              injection hA2 with hA2
              injection hA2 with hA2 _ _
              subst hA2
              have har := HSA.out (by omega)
              subst har
              have hv1 := HVI.out
              rw [hz1] at hv1
              injection hv1 with e1 e2 e3
              obtain ⟨p, hp⟩ : ∃ p, hdP (o.getD i []) = p := ⟨_, rfl⟩
              obtain ⟨y, hy⟩ : ∃ y, hdP (o.getD (i + 1 + m) []) = y := ⟨_, rfl⟩
              rw [hp] at x1 x2
              rw [hy] at y1 y2
              have gne : ¬ (Value.slice Am a.length qm).ownBlock = some g := by
                obtain ⟨C, hC⟩ := own_box1 hS.own
                exact ownsNot HPq.out.a hC (by decide)
              have own_pt : ∀ {k gk n c : Nat}, k < o.length → vs.getD k undef = .slice (some ⟨gk, 0, none⟩) n c → ¬ (Value.slice Am a.length qm).ownBlock = some gk := fun {k gk n c} hk hv => by
                have hrow := (hS.row k hk).1
                rw [hv] at hrow
                obtain ⟨C, hC⟩ : ∃ C, wr.heap[gk]? = some (.cells C 74 (0, 0)) := by
                  rcases hrow.2 with ⟨h', _⟩ | ⟨g', cap', cur, h', _, hg', _⟩
                  · cases h'
                  · injection h' with e1
                    injection e1 with e1
                    injection e1 with e1
                    subst e1
                    exact ⟨cur, hg'⟩
                exact ownsNot HPq.out.a hC (by decide)
              have g1ne := own_pt HLT.out hz1
              have g2ne := own_pt hml2 hz4
              have iq : (r : Int) ≤ (qr : Int) := by have h1 := HSQ.out; have h2 := HR.out; omega
              have im0 : (0 : Int) ≤ (m : Int) := by omega
              have in1 : (0 : Int) < (n1 : Int) := by omega
              have in2 : (0 : Int) < (n2 : Int) := by omega
              have inl : (0 : Int) < (net.length : Int) := by omega
              have hAB : Hid (apaA o i ++ apaB o i (m + 1) = a ++ [(p, y)]) := by show _ = _; rw [apaB_succ, ← List.append_assoc, HAE.out, hp, hy]
              have HML := hide hml
              have HHS := hide hS
              subst e1
              clear hS own_pt hz1 hz2 hz3 hz4 hp hy hqq n1c n2c hml2 x0 e2 e3
              go_upto_region 16 with (fail)
              refine wp_region_held_drew (S := (fun w' => Keeps (fun j => (Value.slice Am a.length qm).ownBlock = some j) wr w')) (by kernel_rfl) ?_ (fun hHeld => ?_)
              · try dsimp only
                exact zQ
              refine zU 0 rfl ?_
              refine zU 1 rfl ?_
              refine zU 2 rfl ?_
              refine zU 3 rfl ?_
              refine zU 4 rfl ?_
              refine zU 5 rfl ?_
              refine zU 6 rfl ?_
              refine zU 7 rfl ?_
              refine wpAnyH_ready (rs := [8]) (by kernel_rfl) (by simp) ?_
              refine (AllReadyH.cons rfl (fun K hK => ?_) AllReadyH.nil)
              go_simp
              refine hK.out _ _ zQ fun hNext => ?_; clear hK K hHeld; have hHeld := hNext; clear hNext; (try dsimp only at hHeld); try simp only [zX]
              refine wpAnyH_ready (rs := [9]) (by kernel_rfl) (by simp) ?_
              refine (AllReadyH.cons rfl (fun K hK => ?_) AllReadyH.nil)
              (refine step_append_any _ (by rfl) (.tmp 62) (.tmp 70) _ (by rfl) W2.heap.size 151 i0 _ 4 32 Tryz.underlying87 hi0 iz0 iz1 iz2 (by rfl) (by omega) (.slice Am a.length qm) a.length (rowV ppE a) (by rfl) (World.ownsRow.alloc (w := wr.drew) HPq.out.a _) (wr.heap.size + 1) (some ⟨wr.heap.size, 0, none⟩) 1 1 [.int .i64 p.1, .int .i64 p.2, .int .i64 y.1, .int .i64 y.2] (by rfl) ⟨rfl, fun _ => ⟨_, rfl, by simp, World.news_of_block (heap_alloc_new wr.drew _)⟩⟩ (by simp [Value.oneCell']) (by unfold maxLen; omega) (by omega) (by have h2 := HPq.out.bel.size; simp; omega) ?_; intro v6 w6 hown6 hg6 hat6; obtain ⟨A6, q6, hv6⟩ := owns_form hown6; subst hv6; have hKeep : Hid (Keeps (fun j => (Value.slice Am a.length qm).ownBlock = some j) wr w6) := Keeps.trans (((Keeps.refl _ wr).drew).alloc _) (Keeps.of_grown hg6 (fun k hk => hk)) (fun _ _ h => h))
              (try dsimp only)
              refine hK.out _ _ zQ fun hNext => ?_; clear hK K hHeld; have hHeld := hNext; clear hNext; (try dsimp only at hHeld); try simp only [zX]
              refine zU 10 rfl ?_
              refine wpAnyH_done (by kernel_rfl) ?_ _
              have HPn : Hid (PrS W2 w6 J (apaA o i ++ apaB o i (m + 1)) (.slice Ak J.length qk) (.slice A6 (a.length + 1) q6)) := by
                show PrS _ _ _ _ _ _
                rw [hAB.out]
                exact HPq.out.pushA (p := (p, y)) (o := .cells #[.int .i64 p.1, .int .i64 p.2, .int .i64 y.1, .int .i64 y.2] 151 (0, 0)) hown6 ⟨hg6.os, hg6.tape, hg6.output, hg6.size, hg6.block⟩ hat6
              clear hHeld hKeep hown6 hg6 hat6 x1 x2 y0 y1 y2 g1ne g2ne gne lg l1 l2
              go_wp2_with fail
              go_roundw
              case rel => exact ⟨m + 1, by go_num, by have := HML.out; omega, HPn⟩
              case measure => simp [intOf]; have := HML.out; omega
        case pos =>
          have hkl1 : (k : Int) < (net.length : Int) - 1 := by omega
          have hS := HS2.out.below (Nat.le_refl _) HPk.out.bel
          have hrow := (hS.row i hlt).1
          rw [HVI.out, HNT.out] at hrow
          obtain ⟨g1, p, HX, hA1, hz1, l1, hz2, hz3, x0, x1, hz4⟩ := own_pn hrow (k := k) (by omega)
          obtain ⟨_, y, HY, hA2, hz5, hz6, hz7, hz8, y0, y1, hz9⟩ := own_pn hrow (k := k + 1) (by omega)
          subst hA1
          injection hA2 with hA2
          injection hA2 with hA2 _ _
          subst hA2
          have g1ne : ¬ (Value.slice Ak J.length qk).ownBlock = some g1 := by
            obtain ⟨C, hC⟩ : ∃ C, wr.heap[g1]? = some (.cells C 74 (0, 0)) := by
              rcases hrow.2 with ⟨h', _⟩ | ⟨g', cap', cur, h', _, hg', _⟩
              · cases h'
              · injection h' with e1
                injection e1 with e1
                injection e1 with e1
                subst e1
                exact ⟨cur, hg'⟩
            exact ownsNot HPk.out.j hC (by decide)
          have ik0 : (0 : Int) ≤ (k : Int) := by omega
          have ik1 : (k : Int) < (net.length : Int) := by omega
          have ik2 : 0 ≤ (k : Int) + 1 := by omega
          have ik3 : (k : Int) + 1 < (net.length : Int) := by omega
          have wk1 : IntKind.i64.wrap ((k : Int) + 1) = (k : Int) + 1 := by rw [IntWalk.i64_in _ (by omega)]
          have hJB : Hid (jonA o i ++ jonB net (k + 1) = J ++ [(p, y)]) := by show _ = _; rw [jonB_succ, ← List.append_assoc, HJE.out, HX.out, HY.out]
          have HKL := hide hkl
          clear hrow hS hz1 hz2 hz3 hz4 hz5 hz6 hz7 hz8 hz9
          go_upto_region 11 with (fail)
          refine wp_region_held_drew (S := (fun w' => Keeps (fun j => (Value.slice Ak J.length qk).ownBlock = some j) wr w')) (by kernel_rfl) ?_ (fun hHeld => ?_)
          · try dsimp only
            exact zQ
          refine zU 0 rfl ?_
          refine zU 1 rfl ?_
          refine zU 2 rfl ?_
          refine zU 3 rfl ?_
          refine zU 4 rfl ?_
          refine zU 5 rfl ?_
          refine zU 6 rfl ?_
          refine zU 7 rfl ?_
          refine zU 8 rfl ?_
          refine zU 9 rfl ?_
          refine zU 10 rfl ?_
          refine wpAnyH_ready (rs := [11]) (by kernel_rfl) (by simp) ?_
          refine (AllReadyH.cons rfl (fun K hK => ?_) AllReadyH.nil)
          go_simp
          refine hK.out _ _ zQ fun hNext => ?_; clear hK K hHeld; have hHeld := hNext; clear hNext; (try dsimp only at hHeld); try simp only [zX]
          refine wpAnyH_ready (rs := [12]) (by kernel_rfl) (by simp) ?_
          refine (AllReadyH.cons rfl (fun K hK => ?_) AllReadyH.nil)
          (refine step_append_any _ (by rfl) (.tmp 39) (.tmp 50) _ (by rfl) W2.heap.size 151 i0 _ 4 32 Tryz.underlying87 hi0 iz0 iz1 iz2 (by rfl) (by omega) (.slice Ak J.length qk) J.length (rowV ppE J) (by rfl) (World.ownsRow.alloc (w := wr.drew) HPk.out.j _) (wr.heap.size + 1) (some ⟨wr.heap.size, 0, none⟩) 1 1 [.int .i64 p.1, .int .i64 p.2, .int .i64 y.1, .int .i64 y.2] (by rfl) ⟨rfl, fun _ => ⟨_, rfl, by simp, World.news_of_block (heap_alloc_new wr.drew _)⟩⟩ (by simp [Value.oneCell']) (by unfold maxLen; omega) (by omega) (by have h2 := HPk.out.bel.size; simp; omega) ?_; intro v6 w6 hown6 hg6 hat6; obtain ⟨A6, q6, hv6⟩ := owns_form hown6; subst hv6; have hKeep : Hid (Keeps (fun j => (Value.slice Ak J.length qk).ownBlock = some j) wr w6) := Keeps.trans (((Keeps.refl _ wr).drew).alloc _) (Keeps.of_grown hg6 (fun k hk => hk)) (fun _ _ h => h))
          (try dsimp only)
          refine hK.out _ _ zQ fun hNext => ?_; clear hK K hHeld; have hHeld := hNext; clear hNext; (try dsimp only at hHeld); try simp only [zX]
          refine zU 13 rfl ?_
          refine wpAnyH_done (by kernel_rfl) ?_ _
          have HPn : Hid (PrS W2 w6 (jonA o i ++ jonB net (k + 1)) (apaA o i) (.slice A6 (J.length + 1) q6) (.slice Aa (apaA o i).length qa)) := by
            show PrS _ _ _ _ _ _
            rw [hJB.out]
            exact HPk.out.pushJ (p := (p, y)) (o := .cells #[.int .i64 p.1, .int .i64 p.2, .int .i64 y.1, .int .i64 y.2] 151 (0, 0)) hown6 ⟨hg6.os, hg6.tape, hg6.output, hg6.size, hg6.block⟩ hat6
          clear hHeld hKeep hown6 hg6 hat6 x0 x1 y0 y1 g1ne l1
          go_wp2_with fail
          go_roundw
          case rel => exact ⟨k + 1, by go_num, by have := HKL.out; omega, HPn⟩
          case measure => simp [intOf]; have := HKL.out; omega
end Go.Proofs.YtehadoecnmfeoaaGreat

/- Part 44 of this claim's texts: walks and plain laws. -/
import Derived.Test.YtehadoecnmfeoaaGreatRows
import Derived.Test.YtehadoecnmfeoaaGreatGBN43
import Derived.Deep.DeepMust
import Derived.Deep.RegionHeld3
import Derived.Deep.DrawnRows
import Derived.Test.YtehadoecnmfeoaaGreatGBN3
set_option linter.unusedVariables false
set_option linter.unusedSimpArgs false
set_option linter.unusedSectionVars false
namespace Go.Proofs.YtehadoecnmfeoaaGreat
open Go.RowKit
def PrbP (J A : List PP) (w : World) (e : Ending) (w' : World) : Prop := ∃ jv av, e = .returned (.tuple #[jv, av]) ∧ Pps w' w'.heap.size jv J ∧ Pps w' w'.heap.size av A ∧ Below w.heap.size w w'
set_option maxRecDepth 100000 in
set_option maxHeartbeats 8000000 in
theorem rprobes_any (o : List (List Pn)) (vs : List Value) (v : Value) (b0 B : Nat) (w : World) (hi : ∀ net ∈ o, net ≠ []) (hn : NetS w b0 B v o vs) (hN : o.length ≤ 100) (ht : totN o ≤ 1000) (hB : B ≤ w.heap.size) :
    Calls Tryz.prog 115 #[v] w (PrbP (jonL o) (apaL o) w) := by
  obtain ⟨i0, hi0, iz0, iz1, iz2⟩ := info_parts infoPair
  obtain ⟨A, q, rfl⟩ := owns_form hn.own
  have HS := hide hn
  have HI := hide hi
  have HT := hide ht
  have HBW := hide hB
  clear hn hi ht hB
  go_enter Tryz.func115, Tryz.ntmps115
  go_wp2_with fail
  go_loopw [4, 5, 6] (fun jv av iv wr => ∃ i : Nat, iv = .int .i64 i ∧ i ≤ o.length ∧ Hid (PrS w wr (jonA o i) (apaA o i) jv av)) (fun _ _ iv _ => o.length - (intOf iv).toNat)
  case atStart => exact ⟨0, rfl, Nat.zero_le _, PrS.start w⟩
  case round =>
    obtain ⟨i, rfl, hi, HP⟩ := hrel
    obtain ⟨⟨Aj, qj, e1⟩, ⟨Aa, qa, e2⟩⟩ := HP.out.forms
    subst e1 e2
    by_cases hlt : i < o.length
    case neg =>
      have hlt1 : ¬ (i : Int) < (o.length : Int) := by omega
      have hio : Hid (i = o.length) := by show _ = _; omega
      go_wp2_with fail
      go_ret2
      refine ⟨_, _, rfl, ?_, ?_, HP.out.bel⟩
      · rw [← jonA_all, ← hio.out]
        exact Pps.of_own HP.out.j
      · rw [← apaA_all, ← hio.out]
        exact Pps.of_own HP.out.a
    case pos =>
      have hlt1 : (i : Int) < (o.length : Int) := by omega
      have ii0 : (0 : Int) ≤ (i : Int) := by omega
      obtain ⟨net, hnet⟩ : ∃ z, o.getD i [] = z := ⟨_, rfl⟩
      have hnm : net ∈ o := by rw [← hnet, List.getD_eq_getElem?_getD, List.getElem?_eq_getElem hlt]; exact List.getElem_mem hlt
      have hnl : net.length ≤ 1000 := by
        have h1 := one_tot o i
        have h2 := HT.out
        rw [hnet] at h1
        omega
      have hJ1 : ∀ k, k ≤ net.length - 1 → (jonA o i ++ jonB net k).length ≤ 2000 := fun k hk => by
        have h1 := jonA_le o hi
        have h2 := HT.out
        rw [List.length_append, jonB_len]
        omega
      have hA1 : ∀ k, k ≤ o.length → (apaA o i ++ apaB o i k).length ≤ 11000 := fun k hk => by
        have h1 := apaA_le o hi hN
        rw [List.length_append, apaB_len]
        omega
      have HJ1 := hide hJ1
      have HA1 := hide hA1
      have HNT := hide hnet
      have HP1 : Hid (PrS w wr (jonA o i ++ jonB net 0) (apaA o i) (.slice Aj (jonA o i).length qj) (.slice Aa (apaA o i).length qa)) := by
        show PrS _ _ _ _ _ _
        rw [show jonB net 0 = [] from rfl, List.append_nil]
        exact HP.out
      have hpos : 0 < net.length := List.length_pos_iff.2 (HI.out net hnm)
      clear hJ1 hA1 hnet hnm
      go_wp2_with fail
      go_loopw [4, 7] (fun jv kv wr => ∃ k : Nat, kv = .int .i64 (k + 1 : Nat) ∧ k + 1 ≤ net.length ∧ Hid (PrS w wr (jonA o i ++ jonB net k) (apaA o i) jv (.slice Aa (apaA o i).length qa))) (fun _ kv _ => net.length - (intOf kv).toNat)
      case atStart => exact ⟨0, rfl, hpos, HP1.out⟩
      case round =>
        obtain ⟨k, rfl, hk, HPk⟩ := hrel
        obtain ⟨J, hJ⟩ : ∃ z, jonA o i ++ jonB net k = z := ⟨_, rfl⟩
        have hJl : J.length ≤ 2000 := by rw [← hJ]; exact HJ1.out k (by omega)
        rw [hJ] at HPk
        have HJE := hide hJ
        obtain ⟨Ak, qk, e1⟩ := owns_form HPk.out.j
        subst e1
        obtain ⟨g, Ai, qi, net', HNT', hA, lg, hq, hnl', hvi, cg, hpn⟩ := (HS.out.below HBW.out HPk.out.bel).at hlt
        have hne : net = net' := HNT.out.symm.trans HNT'.out
        subst hne
        subst hA
        have hrow := ((HS.out.below HBW.out HPk.out.bel).row i hlt).1
        rw [hvi, HNT.out] at hrow
        have iq : (o.length : Int) ≤ (q : Int) := by omega
        have gne : ¬ (Value.slice Ak J.length qk).ownBlock = some g := by
          obtain ⟨C, hC⟩ := own_box1 (HS.out.below HBW.out HPk.out.bel).own
          exact ownsNot HPk.out.j hC (by decide)
        clear hJ
        by_cases hkl : k + 1 < net.length
        case neg =>
          have hkl1 : ¬ ((k + 1 : Nat) : Int) < (net.length : Int) := by omega
          have hkn : Hid (J = jonA o (i + 1)) := by show _ = _; rw [← HJE.out, jonA_succ, HNT.out, ← jonB_all, show net.length - 1 = k by omega]
          have HPm : Hid (PrS w wr J (apaA o i ++ apaB o i 0) (.slice Ak J.length qk) (.slice Aa (apaA o i).length qa)) := by
            show PrS _ _ _ _ _ _
            rw [show apaB o i 0 = [] from rfl, List.append_nil]
            exact HPk.out
          have HLT := hide hlt
          have HROW0 : Hid (w.heap.size ≤ wr.heap.size) := HPk.out.bel.size
          clear hrow hpn hvi hq hnl' gne
          go_wp2_with fail
          clear cg lg
          go_loopw [5, 8] (fun av kv wr => ∃ m : Nat, kv = .int .i64 (i + 1 + m : Nat) ∧ i + 1 + m ≤ o.length ∧ Hid (PrS w wr J (apaA o i ++ apaB o i m) (.slice Ak J.length qk) av)) (fun _ kv _ => o.length - (intOf kv).toNat)
          case atStart => exact ⟨0, by go_num, by have := HLT.out; omega, HPm.out⟩
          case round =>
            obtain ⟨m, rfl, hm, HPq⟩ := hrel
            obtain ⟨a, ha⟩ : ∃ z, apaA o i ++ apaB o i m = z := ⟨_, rfl⟩
            have hal : a.length ≤ 11000 := by rw [← ha]; exact HA1.out m (by omega)
            rw [ha] at HPq
            have HAE := hide ha
            obtain ⟨Am, qm, e1⟩ := owns_form HPq.out.a
            subst e1
            clear ha
            by_cases hml : i + 1 + m < o.length
            case neg =>
              have hml1 : ¬ ((i + 1 + m : Nat) : Int) < (o.length : Int) := by omega
              have hmn : Hid (a = apaA o (i + 1)) := by show _ = _; rw [← HAE.out, apaA_succ, ← apaB_all, show o.length - (i + 1) = m by omega]
              have HPz : Hid (PrS w wr (jonA o (i + 1)) (apaA o (i + 1)) (.slice Ak J.length qk) (.slice Am a.length qm)) := by
                show PrS _ _ _ _ _ _
                rw [← hkn.out, ← hmn.out]
                exact HPq.out
              go_wp2_with fail
              go_roundw
              case rel => exact ⟨i + 1, by go_num, by have := HLT.out; omega, HPz⟩
              case measure => simp [intOf]; have := HLT.out; omega
            case pos =>
              have hml1 : ((i + 1 + m : Nat) : Int) < (o.length : Int) := by omega
              have hS := HS.out.below HBW.out HPq.out.bel
              obtain ⟨g, g1, n1, c1, hA1, lg, hqq, x0, hz1, n1p, n1c, l1, x1, x2⟩ := hS.firstAt HI.out HLT.out
              obtain ⟨g', g2, n2, c2, hA2, hz2, hz3, y0, hz4, n2p, n2c, l2, y1, y2⟩ := hS.firstAt HI.out hml
              injection hA1 with hA1
              injection hA1 with hA1 _ _
              subst hA1
              injection hA2 with hA2
              injection hA2 with hA2 _ _
              subst hA2
              obtain ⟨x, hx⟩ : ∃ x, hdP (o.getD i []) = x := ⟨_, rfl⟩
              obtain ⟨y, hy⟩ : ∃ y, hdP (o.getD (i + 1 + m) []) = y := ⟨_, rfl⟩
              rw [hx] at x1 x2
              rw [hy] at y1 y2
              have gne : ¬ (Value.slice Am a.length qm).ownBlock = some g := by
                obtain ⟨C, hC⟩ := own_box1 hS.own
                exact ownsNot HPq.out.a hC (by decide)
              have own_pt : ∀ {k gk n c : Nat}, k < o.length → vs.getD k undef = .slice (some ⟨gk, 0, none⟩) n c → ¬ (Value.slice Am a.length qm).ownBlock = some gk := fun {k gk n c} hk hv => by
                have hrow := (hS.row k hk).1
                rw [hv] at hrow
                obtain ⟨C, hC⟩ : ∃ C, wr.heap[gk]? = some (.cells C 74 (0, 0)) := by
                  rcases hrow.2 with ⟨h', _⟩ | ⟨g', cap', cur, h', _, hg', _⟩
                  · cases h'
                  · injection h' with e1
                    injection e1 with e1
                    injection e1 with e1
                    subst e1
                    exact ⟨cur, hg'⟩
                exact ownsNot HPq.out.a hC (by decide)
              have g1ne := own_pt HLT.out hz1
              have g2ne := own_pt hml hz4
              have iq : (o.length : Int) ≤ (q : Int) := by omega
              have im0 : (0 : Int) ≤ ((i + 1 + m : Nat) : Int) := by omega
              have im1 : (0 : Int) ≤ (i : Int) + 1 + (m : Int) := by omega
              have im2 : (i : Int) + 1 + (m : Int) < (o.length : Int) := by omega
              have itn : ((i : Int) + 1 + (m : Int)).toNat = i + 1 + m := by omega
              have in1 : (0 : Int) < (n1 : Int) := by omega
              have in2 : (0 : Int) < (n2 : Int) := by omega
              have hAB : Hid (apaA o i ++ apaB o i (m + 1) = a ++ [(x, y)]) := by show _ = _; rw [apaB_succ, ← List.append_assoc, HAE.out, hx, hy]
              have HML := hide hml
              clear hS own_pt hz1 hz2 hz3 hz4 hx hy hqq n1c n2c
              go_upto_region 12 with (fail)
              refine wp_region_held_drew (S := (fun w' => Keeps (fun j => (Value.slice Am a.length qm).ownBlock = some j) wr w')) (by kernel_rfl) ?_ (fun hHeld => ?_)
              · try dsimp only
                exact zQ
              refine zU 0 rfl ?_
              refine zU 1 rfl ?_
              refine zU 2 rfl ?_
              refine zU 3 rfl ?_
              refine zU 4 rfl ?_
              refine zU 5 rfl ?_
              refine zU 6 rfl ?_
              refine zU 7 rfl ?_
              refine zU 8 rfl ?_
              refine zU 9 rfl ?_
              refine zU 10 rfl ?_
              refine zU 11 rfl ?_
              refine zU 12 rfl ?_
              refine zU 13 rfl ?_
              refine wpAnyH_ready (rs := [14]) (by kernel_rfl) (by simp) ?_
              refine (AllReadyH.cons rfl (fun K hK => ?_) AllReadyH.nil)
              go_simp
              refine hK.out _ _ zQ fun hNext => ?_; clear hK K hHeld; have hHeld := hNext; clear hNext; (try dsimp only at hHeld); try simp only [zX]
              refine wpAnyH_ready (rs := [15]) (by kernel_rfl) (by simp) ?_
              refine (AllReadyH.cons rfl (fun K hK => ?_) AllReadyH.nil)
              (refine step_append_any _ (by rfl) (.tmp 51) (.tmp 65) _ (by rfl) w.heap.size 151 i0 _ 4 32 Tryz.underlying87 hi0 iz0 iz1 iz2 (by rfl) (by omega) (.slice Am a.length qm) a.length (rowV ppE a) (by rfl) (World.ownsRow.alloc (w := wr.drew) HPq.out.a _) (wr.heap.size + 1) (some ⟨wr.heap.size, 0, none⟩) 1 1 [.int .i64 x.1, .int .i64 x.2, .int .i64 y.1, .int .i64 y.2] (by rfl) ⟨rfl, fun _ => ⟨_, rfl, by simp, World.news_of_block (heap_alloc_new wr.drew _)⟩⟩ (by simp [Value.oneCell']) (by unfold maxLen; omega) (by omega) (by have h2 := HPq.out.bel.size; simp; omega) ?_; intro v6 w6 hown6 hg6 hat6; obtain ⟨A6, q6, hv6⟩ := owns_form hown6; subst hv6; have hKeep : Hid (Keeps (fun j => (Value.slice Am a.length qm).ownBlock = some j) wr w6) := Keeps.trans (((Keeps.refl _ wr).drew).alloc _) (Keeps.of_grown hg6 (fun k hk => hk)) (fun _ _ h => h))
              (try dsimp only)
              refine hK.out _ _ zQ fun hNext => ?_; clear hK K hHeld; have hHeld := hNext; clear hNext; (try dsimp only at hHeld); try simp only [zX]
              refine zU 16 rfl ?_
              refine wpAnyH_done (by kernel_rfl) ?_ _
              have HPn : Hid (PrS w w6 J (apaA o i ++ apaB o i (m + 1)) (.slice Ak J.length qk) (.slice A6 (a.length + 1) q6)) := by
                show PrS _ _ _ _ _ _
                rw [hAB.out]
                exact HPq.out.pushA (p := (x, y)) (o := .cells #[.int .i64 x.1, .int .i64 x.2, .int .i64 y.1, .int .i64 y.2] 151 (0, 0)) hown6 ⟨hg6.os, hg6.tape, hg6.output, hg6.size, hg6.block⟩ hat6
              clear hHeld hKeep hown6 hg6 hat6 x0 x1 x2 y0 y1 y2 g1ne g2ne gne lg l1 l2
              go_wp2_with fail
              go_roundw
              case rel => exact ⟨m + 1, by go_num, by have := HML.out; omega, HPn⟩
              case measure => simp [intOf]; have := HML.out; omega
        case pos =>
          have hkl1 : ((k + 1 : Nat) : Int) < (net.length : Int) := by omega
          obtain ⟨g1, x, HX, hA1, hz1, l1, hz2, hz3, x0, x1, hz4⟩ := own_pn hrow (k := k) (by omega)
          obtain ⟨_, y, HY, hA2, hz5, hz6, hz7, hz8, y0, y1, hz9⟩ := own_pn hrow (k := k + 1) (by omega)
          subst hA1
          injection hA2 with hA2
          injection hA2 with hA2 _ _
          subst hA2
          have g1ne : ¬ (Value.slice Ak J.length qk).ownBlock = some g1 := by
            obtain ⟨C, hC⟩ : ∃ C, wr.heap[g1]? = some (.cells C 74 (0, 0)) := by
              rcases hrow.2 with ⟨h', _⟩ | ⟨g', cap', cur, h', _, hg', _⟩
              · cases h'
              · injection h' with e1
                injection e1 with e1
                injection e1 with e1
                subst e1
                exact ⟨cur, hg'⟩
            exact ownsNot HPk.out.j hC (by decide)
          have ik0 : (0 : Int) ≤ (k : Int) := by omega
          have ik1 : (k : Int) < (net.length : Int) := by omega
          have ik2 : 0 ≤ (k : Int) + 1 := by omega
          have ik3 : (k : Int) + 1 < (net.length : Int) := by omega
          have ik4 : (0 : Int) ≤ ((k + 1 : Nat) : Int) := by omega
          have wm : IntKind.i64.wrap (((k + 1 : Nat) : Int) - 1) = (k : Int) := by rw [IntWalk.i64_in _ (by omega)]; omega
          have wm2 : IntKind.i64.wrap ((k : Int) + 1 - 1) = (k : Int) := by rw [IntWalk.i64_in _ (by omega)]; omega
          have wm3 : IntKind.i64.wrap (k : Int) = (k : Int) := by rw [IntWalk.i64_in _ (by omega)]
          have hJB : Hid (jonA o i ++ jonB net (k + 1) = J ++ [(x, y)]) := by show _ = _; rw [jonB_succ, ← List.append_assoc, HJE.out, HX.out, HY.out]
          have HKL := hide hkl
          clear hrow hpn hvi hz1 hz2 hz3 hz4 hz5 hz6 hz7 hz8 hz9 hq hnl'
          go_upto_region 8 with (fail)
          refine wp_region_held_drew (S := (fun w' => Keeps (fun j => (Value.slice Ak J.length qk).ownBlock = some j) wr w')) (by kernel_rfl) ?_ (fun hHeld => ?_)
          · try dsimp only
            exact zQ
          refine zU 0 rfl ?_
          refine zU 1 rfl ?_
          refine zU 2 rfl ?_
          refine zU 3 rfl ?_
          refine zU 4 rfl ?_
          refine zU 5 rfl ?_
          refine zU 6 rfl ?_
          refine zU 7 rfl ?_
          refine zU 8 rfl ?_
          refine zU 9 rfl ?_
          refine zU 10 rfl ?_
          refine zU 11 rfl ?_
          refine zU 12 rfl ?_
          refine zU 13 rfl ?_
          refine zU 14 rfl ?_
          refine zU 15 rfl ?_
          refine zU 16 rfl ?_
          refine wpAnyH_ready (rs := [17]) (by kernel_rfl) (by simp) ?_
          refine (AllReadyH.cons rfl (fun K hK => ?_) AllReadyH.nil)
          go_simp
          refine hK.out _ _ zQ fun hNext => ?_; clear hK K hHeld; have hHeld := hNext; clear hNext; (try dsimp only at hHeld); try simp only [zX]
          refine wpAnyH_ready (rs := [18]) (by kernel_rfl) (by simp) ?_
          refine (AllReadyH.cons rfl (fun K hK => ?_) AllReadyH.nil)
          (refine step_append_any _ (by rfl) (.tmp 24) (.tmp 41) _ (by rfl) w.heap.size 151 i0 _ 4 32 Tryz.underlying87 hi0 iz0 iz1 iz2 (by rfl) (by omega) (.slice Ak J.length qk) J.length (rowV ppE J) (by rfl) (World.ownsRow.alloc (w := wr.drew) HPk.out.j _) (wr.heap.size + 1) (some ⟨wr.heap.size, 0, none⟩) 1 1 [.int .i64 x.1, .int .i64 x.2, .int .i64 y.1, .int .i64 y.2] (by rfl) ⟨rfl, fun _ => ⟨_, rfl, by simp, World.news_of_block (heap_alloc_new wr.drew _)⟩⟩ (by simp [Value.oneCell']) (by unfold maxLen; omega) (by omega) (by have h2 := HPk.out.bel.size; simp; omega) ?_; intro v6 w6 hown6 hg6 hat6; obtain ⟨A6, q6, hv6⟩ := owns_form hown6; subst hv6; have hKeep : Hid (Keeps (fun j => (Value.slice Ak J.length qk).ownBlock = some j) wr w6) := Keeps.trans (((Keeps.refl _ wr).drew).alloc _) (Keeps.of_grown hg6 (fun k hk => hk)) (fun _ _ h => h))
          (try dsimp only)
          refine hK.out _ _ zQ fun hNext => ?_; clear hK K hHeld; have hHeld := hNext; clear hNext; (try dsimp only at hHeld); try simp only [zX]
          refine zU 19 rfl ?_
          refine wpAnyH_done (by kernel_rfl) ?_ _
          have HPn : Hid (PrS w w6 (jonA o i ++ jonB net (k + 1)) (apaA o i) (.slice A6 (J.length + 1) q6) (.slice Aa (apaA o i).length qa)) := by
            show PrS _ _ _ _ _ _
            rw [hJB.out]
            exact HPk.out.pushJ (p := (x, y)) (o := .cells #[.int .i64 x.1, .int .i64 x.2, .int .i64 y.1, .int .i64 y.2] 151 (0, 0)) hown6 ⟨hg6.os, hg6.tape, hg6.output, hg6.size, hg6.block⟩ hat6
          clear hHeld hKeep hown6 hg6 hat6 cg x0 x1 y0 y1 g1ne gne lg l1
          go_wp2_with fail
          go_roundw
          case rel => exact ⟨k + 1, by go_num, by have := HKL.out; omega, HPn⟩
          case measure => simp [intOf]; have := HKL.out; omega
end Go.Proofs.YtehadoecnmfeoaaGreat

/- Part 41 of this claim's texts: walks and plain laws. -/
import Derived.Test.YtehadoecnmfeoaaGreatRows
import Derived.Test.YtehadoecnmfeoaaGreatGBC39
import Derived.Test.YtehadoecnmfeoaaGreatGBC40
import Derived.Laws.EntriesVeiled
import Derived.Deep.DeepMust
import Derived.Deep.RegionHeld3
import Derived.Deep.DrawnRows
import Derived.Test.YtehadoecnmfeoaaGreatGBC3
/- What has to be cut (the program): walk. -/
namespace Go.Proofs.YtehadoecnmfeoaaGreat
open Go.RowKit Go.Maps
open Go.Maps (Keyed)
open Go.ChangeMaps Go.MapKept Go.WideShapes
set_option linter.unusedVariables false
set_option linter.unusedSimpArgs false
def CutP (L : List Ct) (er : Int) (w : World) (e : Ending) (w' : World) : Prop := ∃ v, e = .returned (.tuple #[v, .int .i64 er]) ∧ Cts w' w'.heap.size v L ∧ Below w.heap.size w w'
structure CuR (W wr : World) (b r n B : Nat) (ps : List (Int × Int)) (D : DataW Unit) (left : Lit → Bool) (cnt : Nat) (ov : Value) (Q : List Ct) : Prop where
  rg : wr.ranges Tryz.prog 67 (plainElem Tryz.prog 3) b r n D left cnt
  sub : ∀ kl, left kl = true → Maps.has D kl = true
  done : ∀ p kl x, keyOf Tryz.prog 67 (cuE p) = some kl → mC ps p = some x → left kl = true ∨ (⟨p.1, p.2, x⟩ : Ct) ∈ Q
  got : ∀ c ∈ Q, mC ps (c.s, c.n) = some c.c ∧ ∀ kl, keyOf Tryz.prog 67 (cuE (c.s, c.n)) = some kl → left kl = false
  ne : Q.Pairwise fun a b => ¬ (a.s = b.s ∧ a.n = b.n)
  cnt : Q.length + cnt ≤ 60
  own : wr.ownsRow B 67 3 ov Q.length (rowV ctE Q)
  below : Below W.heap.size W wr
  lo : W.heap.size ≤ B ∧ b < B ∧ r < B ∧ W.heap.size ≤ b ∧ W.heap.size ≤ r
  sz : B ≤ wr.heap.size
theorem CuR.push {W wr wn wb w3 : World} {b r n B : Nat} {ps : List (Int × Int)} {D : DataW Unit} {left : Lit → Bool} {cnt cnt1 : Nat} {Ao : Option Addr} {qo : Nat} {Q : List Ct} (h : CuR W wr b r n B ps D left cnt (.slice Ao Q.length qo) Q) {a1 a2 x : Int} {kl : Lit} {v1 : Value} {o : Obj}
    (hka : keyOf Tryz.prog 67 (cuE (a1, a2)) = some kl) (hlk : left kl = true) (hma : mC ps (a1, a2) = some x) (hrg : wn.ranges Tryz.prog 67 (plainElem Tryz.prog 3) b r n D (fun z => left z && !z.sameKey kl) cnt1) (hlt : cnt1 < cnt)
    (hgn : wr.grownBy wn (some r)) (hBn : Below wn.heap.size wn wb) (hown : w3.ownsRow B 67 3 v1 (Q.length + 1) (rowV ctE Q ++ [.int .i64 a1, .int .i64 a2, .int .i64 x])) (hg : (wb.alloc o).grownBy w3 (Value.slice Ao Q.length qo).ownBlock) :
    CuR W w3 b r n B ps D (fun z => left z && !z.sameKey kl) cnt1 v1 (Q ++ [⟨a1, a2, x⟩]) := by
  have hno : ∀ j, j < B → (Value.slice Ao Q.length qo).ownBlock ≠ some j := fun j hj e => by have := (h.own.lt j e).1; omega
  have hB := h.lo.2
  have hgN : wn.grownBy wb none := ⟨hBn.os, hBn.tape, hBn.output, hBn.size, fun j hj _ => hBn.block j hj⟩
  refine ⟨((hrg.kept hgN (by simp) (by simp)).alloc o).kept hg (fun e => hno b hB.1 e.symm) (fun e => hno r hB.2.1 e.symm), fun k hk => h.sub k (by simp at hk; exact hk.1), fun p k y hp hy => ?_, fun c hc => ?_, ?_, by have := h.cnt; simp; omega, ?_, ?_, h.lo, ?_⟩
  · rcases h.done p k y hp hy with h1 | h1
    · cases hs : k.sameKey kl with
      | true =>
        have e1 : k = kl := WideAt.sameKey_eq hs
        subst e1
        have e2 := cuE_inj _ _ (cuLaw.inj hp hka)
        subst e2
        rw [hma] at hy
        injection hy with hy
        subst hy
        exact .inr (by simp)
      | false => exact .inl (by simp [h1, hs])
    · exact .inr (by simp [h1])
  · rcases List.mem_append.1 hc with hc | hc
    · obtain ⟨h1, h2⟩ := h.got c hc
      exact ⟨h1, fun k hk => by show (left k && !k.sameKey kl) = false; rw [h2 k hk]; rfl⟩
    · have e : c = ⟨a1, a2, x⟩ := by simpa using hc
      subst e
      refine ⟨hma, fun k hk => ?_⟩
      have e1 : k = kl := by
        have h3 := hk.symm.trans hka
        injection h3
      subst e1
      show (left k && !k.sameKey k) = false
      rw [WideAt.sameKey_self (cuLaw.key hka)]
      simp
  · refine List.pairwise_append.2 ⟨h.ne, List.pairwise_singleton _ _, fun c hc c' hc' e => ?_⟩
    have e1 : c' = ⟨a1, a2, x⟩ := by simpa using hc'
    subst e1
    have h3 := (h.got c hc).2 kl (by rw [show ((c.s, c.n) : Int × Int) = (a1, a2) from Prod.ext e.1 e.2]; exact hka)
    rw [hlk] at h3
    cases h3
  · rw [rowV_snoc, List.length_append]
    exact hown
  · have h1 : Below W.heap.size W wn := h.below.grown hgn h.below.size (fun j e => by injection e with e; have := h.lo; omega)
    exact Below.grown (Below.allocT (Below.to h1 hBn (Nat.le_refl _)) (Nat.le_refl _) _) hg (by have := h1.size; have := hBn.size; simp; omega) (fun j hj => by have := (h.own.lt j hj).1; have := h.lo; omega)
  · have h2 := hgn.size
    have h3 := hBn.size
    have h4 := hg.size
    have h5 := h.sz
    have h6 : wb.heap.size ≤ (wb.alloc o).heap.size := by simp
    omega
set_option maxRecDepth 100000 in
set_option maxHeartbeats 8000000 in
theorem Cuts_any (x : List Bool) (Ax : Option Addr) (qx : Nat) (A0 A1 A2 A3 A4 A5 : Option Addr) (q0 q1 q2 q3 q4 q5 : Nat) (l : Lo) (w : World) (hs : SizedL l) (h : LoA w w.heap.size A0 A1 A2 A3 A4 A5 q0 q1 q2 q3 q4 q5 l) (hx : Bols w w.heap.size (.slice Ax x.length qx) x) :
    Calls Tryz.prog 34 #[.agg #[.slice A0 l.m.opts.length q0, .slice A1 l.m.rules.length q1, .slice A2 l.ss.length q2, .slice A3 l.us.length q3, .slice A4 l.ps.length q4, .slice A5 l.ws.length q5], .slice Ax x.length qx] w (CutP (cutL l x) (copE l x) w) := by
  obtain ⟨i0, hi0, iz0, iz1, iz2⟩ := info_parts infoCut
  have hmm := @run_makeMap Tryz.prog
  have H := hide h
  have HS := hide hs
  have HX := hide hx
  obtain ⟨er, her⟩ : ∃ z, copE l x = z := ⟨_, rfl⟩
  obtain ⟨LR, hLR⟩ : ∃ z, belN l x = z := ⟨_, rfl⟩
  have HER := hide her
  have HLR := hide hLR
  obtain ⟨R, hR⟩ : ∃ z, cutL l x = z := ⟨_, rfl⟩
  rw [hR, her]
  have HR := hide hR
  clear h hs hx hLR hR
  by_cases h0 : er = 0
  case neg =>
    have hp := cutL_err (l := l) (x := x) (by rw [her]; exact h0)
    obtain rfl : R = [] := HR.out.symm.trans hp
    have hz1 : (er != 0) = true := by simpa using h0
    clear her h0 hp
    go_enter Tryz.func34, Tryz.ntmps34
    go_upto_region 1 with (fail)
    generalize hw0 : World.alloc _ _ = w0
    obtain ⟨hb0, hB0, hs0⟩ := alloc1 hw0
    have HB0 := hide hB0
    have c0 := cellOf hb0 0; have c1 := cellOf hb0 1; have c2 := cellOf hb0 2; have c3 := cellOf hb0 3; have c4 := cellOf hb0 4; have c5 := cellOf hb0 5
    have hlb := box_lt hb0
    clear hw0 hb0 hB0 hs0
    go_wp2_with (go_at_call 93; refine (belonging_any x Ax qx A0 A1 A2 A3 A4 A5 q0 q1 q2 q3 q4 q5 l _ HS.out (H.out.up HB0.out) (Sl.up HX.out HB0.out)).mono ?_; rw [HER.out, HLR.out]; rintro e w1 ⟨v1, rfl, hv1, hB1⟩; have HB1 := hide (Below.to HB0.out hB1 (Nat.le_refl _)); clear hB1 hv1 c0 c1 c2 c3 c4 c5 hlb)
    go_ret2
    exact ⟨_, rfl, Sl.nil _ _ _ _, HB1.out⟩
  case pos =>
  subst h0
  have hp := cutL_ok her
  obtain ⟨ok, hxl⟩ := copE_ok her
  have HE0 := hide (copE_zero her)
  have hLL : belL l x = LR := by rw [← HLR.out]; unfold belN; rw [if_pos her]
  have OK := hide ok
  have h60 := ok.w60
  have HPB : Hid (∀ p ∈ cutK l LR LR.length, I63 p.1 ∧ I63 p.2) := fun p hp => by
    unfold cutK at hp
    obtain ⟨i, hi, rfl⟩ := List.mem_map.1 hp
    have h1 := (List.mem_filter.1 hi).1
    rw [List.take_length, ← hLL] at h1
    have h2 := pcI_bd OK.out (belL_lt h1).1
    exact ⟨⟨by omega, by omega⟩, ⟨by omega, by omega⟩⟩
  have HLT : Hid (∀ i, i < LR.length → LR.getD i 0 < l.ws.length) := fun i hi => by
    rw [← hLL] at hi ⊢
    exact (belL_lt (getD_mem7 hi)).1
  have hLR60 : LR.length ≤ 60 := by rw [← hLL]; exact Nat.le_trans (belK_le l x _) h60
  have HRR : Hid (cutS (cutK l LR LR.length) = R) := by
    show _ = _
    rw [← HR.out, hp]
    unfold cutP
    rw [hLL]
  have n0 : ((0 : Int) != 0) = false := by decide
  clear her ok hxl hp hLL
  go_enter Tryz.func34, Tryz.ntmps34
  go_upto_region 1 with (fail)
  generalize hw0 : World.alloc _ _ = w0
  obtain ⟨hb0, hB0, hs0⟩ := alloc1 hw0
  have HL0 : Hid (LoBox w0 w.heap.size A0 A1 A2 A3 A4 A5 q0 q1 q2 q3 q4 q5 l) := hb0
  have HB0 := hide hB0
  have c0 := cellOf hb0 0; have c1 := cellOf hb0 1; have c2 := cellOf hb0 2; have c3 := cellOf hb0 3; have c4 := cellOf hb0 4; have c5 := cellOf hb0 5
  have hlb := box_lt hb0
  clear hw0 hb0 hB0 hs0
  go_upto_region 4 with (go_at_call 93; refine (belonging_any x Ax qx A0 A1 A2 A3 A4 A5 q0 q1 q2 q3 q4 q5 l _ HS.out (H.out.up HB0.out) (Sl.up HX.out HB0.out)).mono ?_; rw [HER.out, HLR.out]; rintro e w1 ⟨v1, rfl, hv1, hB1⟩; obtain ⟨AL, qL, e1⟩ := Sl.form hv1; subst e1; have HV1 := hide hv1; have HL1 := hide (HL0.out.to hB1); have HB1 := hide (Below.to HB0.out hB1 (Nat.le_refl _)); clear hB1 hv1 c0 c1 c2 c3 c4 c5 hlb)
  go_upto_region 5 with (fail)
  have hM0 := MapAll.made Tryz.prog w1 67 3 cuE
  rw [← mC_nil] at hM0
  have hB2 : Below w1.heap.size w1 (w1.alloc (.map #[] 0)) := Below.allocT (Below.refl _ _) (Nat.le_refl _) _
  generalize hw2 : World.alloc _ _ = w2 at hM0 hB2 ⊢
  obtain ⟨b, hb⟩ : ∃ z, w1.heap.size = z := ⟨_, rfl⟩
  have HBB := hide hb
  rw [hb] at hM0 ⊢
  have HM2 : Hid (MapAll Tryz.prog w2 67 3 b 0 cuE (mC (cutK l LR 0))) := hM0
  have HB2 := hide hB2
  clear hw2 hM0 hB2 hb
  go_wp2_with fail
  go_loopw [9, 10, 11, 26] (fun _ _ _ i wr => ∃ k : Nat, i = .int .i64 k ∧ k ≤ LR.length ∧ Hid (MapAll Tryz.prog wr 67 3 b k cuE (mC (cutK l LR k))) ∧ Hid (Below w1.heap.size w1 wr)) (fun _ _ _ i _ => LR.length - (intOf i).toNat)
  case atStart => exact ⟨0, rfl, Nat.zero_le _, HM2.out, HB2.out⟩
  case round =>
    obtain ⟨k, rfl, hk, HM, HB⟩ := hrel
    have HBr := hide (Below.to HB1.out HB.out (Nat.le_refl _))
    have HLr := hide (HL1.out.to HB.out)
    by_cases hkl : k < LR.length
    case pos =>
      have hk1 : (k : Int) < (LR.length : Int) := by omega
      have ik0 : (0 : Int) ≤ (k : Int) := by omega
      obtain ⟨b1, o1, i, HI, hA, hb1, hq1, ei0⟩ := HV1.out.at8 hkl
      subst hA
      have ei := (HB.out.cell (p := ⟨b1, o1 + k, none⟩) hb1).trans ei0
      have lb1 : b1 < wr.heap.size := Nat.lt_of_lt_of_le hb1 HB.out.size
      have iq : (LR.length : Int) ≤ (qL : Int) := by omega
      have hi : i < l.ws.length := by rw [← HI.out]; exact HLT.out k hkl
      have hst := cutK_succ (l := l) hkl HI.out
      have hrou : rouE l (i : Int) = 0 := by
        unfold rouE havE
        rw [if_neg (by rw [HE0.out]; simp), show btw (i : Int) 0 ((l.ws.length : Int) - 1) = true from btw_iff.2 ⟨by omega, by omega⟩]
        rfl
      have hlen : lenN l (i : Int) = lenW l i := by unfold lenN; rw [if_pos hrou]; rfl
      obtain ⟨n, hn⟩ : ∃ z, lenW l i = z := ⟨_, rfl⟩
      have HN := hide hn
      have hbd := pcI_bd OK.out hi
      unfold pcI at hbd hst
      rw [hn] at hst hlen
      simp only [hn] at hbd
      have HLN := hide hlen
      have HRO := hide hrou
      have c0 := cellOf HLr.out 0; have c1 := cellOf HLr.out 1; have c2 := cellOf HLr.out 2; have c3 := cellOf HLr.out 3; have c4 := cellOf HLr.out 4; have c5 := cellOf HLr.out 5
      have hlb := box_lt HLr.out
      clear ei0 hq1 hrou hlen hn
      by_cases hn0 : 0 < n
      · rw [if_pos hn0] at hst
        have HST := hide hst
        have hn0i : (0 : Int) < n := hn0
        clear hst hn0
        go_upto_region 10 with (go_at_call 38; refine (Length_any (i : Int) A0 A1 A2 A3 A4 A5 q0 q1 q2 q3 q4 q5 l wr HS.out (H.out.up HBr.out)).mono ?_; rw [HLN.out, HRO.out]; rintro e w4 ⟨rfl, hB4⟩; have HM4 := hide (HM.out.same (hB4.block b HM.out.lt)); have HL4 := hide (HLr.out.to hB4); have HB4 := hide (Below.to HB.out hB4 (Nat.le_refl _)); clear hB4 c0 c1 c2 c3 c4 c5 hlb ei lb1)
        have HBr4 := hide (Below.to HB1.out HB4.out (Nat.le_refl _))
        obtain ⟨bw, ow, dw, Af, qf, HX7, hA5, hbw, hq5, HF, e0, e1, e2, e3, e4, e5, e6⟩ := H.out.wi hi
        subst hA5
        have g5 := (HBr4.out.cell (p := ⟨bw, ow + i * 7 + 5, none⟩) hbw).trans e5
        have lbw : bw < w4.heap.size := Nat.lt_of_lt_of_le hbw HBr4.out.size
        have iq5 : (l.ws.length : Int) ≤ (q5 : Int) := by omega
        have ii0 : (0 : Int) ≤ (i : Int) := by omega
        have ii1 : (i : Int) < (l.ws.length : Int) := by omega
        rw [HX7.out] at hbd
        obtain ⟨s, hs⟩ : ∃ z, dw.size = z := ⟨_, rfl⟩
        have hst := HST.out
        rw [HX7.out, hs] at hst
        rw [hs] at hbd g5
        have hbb : w.heap.size < b := by rw [← HBB.out]; exact box_lt HL1.out
        have hbw1 : w1.heap.size ≤ b := by rw [HBB.out]; exact Nat.le_refl _
        have nb1 : ¬ w.heap.size = b := by omega
        have nb2 : ¬ bw = b := by omega
        obtain ⟨kl, hkl2⟩ := cuKey (p := (s, n)) ⟨by omega, by omega⟩ ⟨by omega, by omega⟩
        have hMd : MapAll Tryz.prog w4.drew 67 3 b k cuE (mC (cutK l LR k)) := HM4.out.same rfl
        obtain ⟨v0, st, w5, hE, hg5, hs5, hL5, hS5⟩ := MapAll.entry hMd cuLaw cuKeyLaw Tryz.underlying132 Tryz.underlying3 zInt cuE_inj (by unfold maxLen; omega) hkl2
        have hla := hMd.is.look1 cuLaw Tryz.underlying132 Tryz.underlying3 (zInt _) hkl2
        have hlb2 := hL5 w5 rfl
        rw [mC_getD] at hla hlb2
        have hcle := cntC_le (cutK l LR k) s n
        have hcl2 := cutK_len l LR k
        obtain ⟨c, hc⟩ : ∃ z, cntC (cutK l LR k) s n = z := ⟨_, rfl⟩
        simp only [hc] at hla hlb2
        rw [hc] at hcle
        obtain ⟨w6, hSt, hM6, hg6⟩ := hS5 w5 ((c : Int) + 1) (wf63 ⟨by omega, by omega⟩) rfl
        have hput := mC_put (cutK l LR k) (s, n)
        simp only [hc] at hput
        rw [hput, ← hst] at hM6
        have HM6 := hide hM6
        have hgA : w4.grownBy w5 (some b) := only_trans (only_drew (only_refl _ _)) hg5
        have hgB : w4.grownBy w6 (some b) := only_trans hgA hg6
        have HB6 : Hid (Below w1.heap.size w1 w6) := below_only HB4.out hgB hbw1
        have hKeep : Hid (Keeps (fun k => k = b) w4 w4.drew) := (Keeps.refl _ _).drew
        have hkA : Keeps (fun k => k = b) w4 w5 := ⟨hgA.os, hgA.tape, hgA.output, hgA.size, fun j hj hne => hgA.block j hj (fun e => by injection e with e; exact hne e)⟩
        have hkB : Keeps (fun k => k = b) w4 w6 := ⟨hgB.os, hgB.tape, hgB.output, hgB.size, fun j hj hne => hgB.block j hj (fun e => by injection e with e; exact hne e)⟩
        have wr1 : IntKind.i64.wrap ((c : Int) + 1) = (c : Int) + 1 := by rw [IntWalk.i64_in _ (by omega)]
        have hE2 : (Instr.mapEntry 132 (.map (some b)) (.agg #[.int .i64 s, .int .i64 n, .int .i64 0])).run Tryz.prog w4.drew = .ok (.tuple #[v0, .int .i64 (st : Nat)]) w5 := hE
        have hla2 : (Instr.lookup 132 (.map (some b)) (.agg #[.int .i64 s, .int .i64 n, .int .i64 0]) false).run Tryz.prog w4.drew = .ok (.int .i64 (c : Nat)) w4.drew := hla
        have hlb3 : (Instr.lookup 132 (.map (some b)) (.agg #[.int .i64 s, .int .i64 n, .int .i64 0]) false).run Tryz.prog w5 = .ok (.int .i64 (c : Nat)) w5 := hlb2
        have hSt2 : (Instr.entryStore 132 (.map (some b)) (.int .i64 (st : Nat)) (.int .i64 ((c : Int) + 1))).run Tryz.prog w5 = .ok () w6 := hSt
        have z0 := cellOf HL4.out 0; have z1 := cellOf HL4.out 1; have z2 := cellOf HL4.out 2; have z3 := cellOf HL4.out 3; have z4 := cellOf HL4.out 4; have z5 := cellOf HL4.out 5
        have lz := box_lt HL4.out
        clear e0 e1 e2 e3 e4 e5 e6 hq5 hs hst hE hla hlb2 hSt hput hM6 hc hMd hL5 hS5 hs5 hg5 hg6 hgA hgB hkl2
        refine wp_region_held_drew (S := (fun w' => Keeps (fun k => k = b) w4 w')) (by kernel_rfl) ?_ (fun hHeld => ?_)
        · try dsimp only
          (repeat (first | (with_reducible exact Keeps.refl _ _) | exact hKeep.out | exact hKeepS.out _ | assumption | (with_reducible refine Keeps.drew ?_) | (with_reducible refine Keeps.drewN ?_ _) | (with_reducible refine Keeps.alloc ?_ _) | (with_reducible refine Keeps.setCell ?_ (.inl (by first | exact .inl rfl | exact .inr rfl)) _)))
        refine zI 0 rfl ?_
        refine zI 1 rfl ?_
        refine zI 2 rfl ?_
        refine zI 3 rfl ?_
        refine zI 4 rfl ?_
        refine zI 5 rfl ?_
        refine zI 6 rfl ?_
        refine zI 7 rfl ?_
        refine zI 8 rfl ?_
        refine wpAnyH_ready (rs := [9, 11]) (by kernel_rfl) (by simp) ?_
        refine (AllReadyH.cons rfl (fun K hK => ?o1_10_9) (AllReadyH.cons rfl (fun K hK => ?o1_10_11) AllReadyH.nil))
        case' o1_10_9 =>
          go_simp
          refine hK.out _ _ ?_ (fun hNext => ?_)
          · try dsimp only
            (repeat (first | (with_reducible exact Keeps.refl _ _) | exact hKeep.out | exact hKeepS.out _ | assumption | (with_reducible refine Keeps.drew ?_) | (with_reducible refine Keeps.drewN ?_ _) | (with_reducible refine Keeps.alloc ?_ _) | (with_reducible refine Keeps.setCell ?_ (.inl (by first | exact .inl rfl | exact .inr rfl)) _)))
          clear hK K hHeld
          have hHeld := hNext
          clear hNext
          (try dsimp only at hHeld)
          try simp only [zX]
          refine zI 10 rfl ?_
          refine wpAnyH_ready (rs := [11]) (by kernel_rfl) (by simp) ?_
          refine (AllReadyH.cons rfl (fun K hK => ?_) AllReadyH.nil)
          go_simp
          refine hK.out _ _ ?_ (fun hNext => ?_)
          · try dsimp only
            (repeat (first | (with_reducible exact Keeps.refl _ _) | exact hKeep.out | exact hKeepS.out _ | assumption | (with_reducible refine Keeps.drew ?_) | (with_reducible refine Keeps.drewN ?_ _) | (with_reducible refine Keeps.alloc ?_ _) | (with_reducible refine Keeps.setCell ?_ (.inl (by first | exact .inl rfl | exact .inr rfl)) _)))
          clear hK K hHeld
          have hHeld := hNext
          clear hNext
          (try dsimp only at hHeld)
          try simp only [zX]
          refine zI 12 rfl ?_
          refine wpAnyH_ready (rs := [13]) (by kernel_rfl) (by simp) ?_
          refine (AllReadyH.cons rfl (fun K hK => ?_) AllReadyH.nil)
          go_simp
          refine hK.out _ _ ?_ (fun hNext => ?_)
          · try dsimp only
            (repeat (first | (with_reducible exact Keeps.refl _ _) | exact hKeep.out | exact hKeepS.out _ | assumption | (with_reducible refine Keeps.drew ?_) | (with_reducible refine Keeps.drewN ?_ _) | (with_reducible refine Keeps.alloc ?_ _) | (with_reducible refine Keeps.setCell ?_ (.inl (by first | exact .inl rfl | exact .inr rfl)) _)))
          clear hK K hHeld
          have hHeld := hNext
          clear hNext
          (try dsimp only at hHeld)
          try simp only [zX]
          refine wpAnyH_done (by kernel_rfl) ?_ _
        case' o1_10_11 =>
          go_simp
          refine hK.out _ _ ?_ (fun hNext => ?_)
          · try dsimp only
            (repeat (first | (with_reducible exact Keeps.refl _ _) | exact hKeep.out | exact hKeepS.out _ | assumption | (with_reducible refine Keeps.drew ?_) | (with_reducible refine Keeps.drewN ?_ _) | (with_reducible refine Keeps.alloc ?_ _) | (with_reducible refine Keeps.setCell ?_ (.inl (by first | exact .inl rfl | exact .inr rfl)) _)))
          clear hK K hHeld
          have hHeld := hNext
          clear hNext
          (try dsimp only at hHeld)
          try simp only [zX]
          refine zI 12 rfl ?_
          refine wpAnyH_ready (rs := [9]) (by kernel_rfl) (by simp) ?_
          refine (AllReadyH.cons rfl (fun K hK => ?_) AllReadyH.nil)
          go_simp
          refine hK.out _ _ ?_ (fun hNext => ?_)
          · try dsimp only
            (repeat (first | (with_reducible exact Keeps.refl _ _) | exact hKeep.out | exact hKeepS.out _ | assumption | (with_reducible refine Keeps.drew ?_) | (with_reducible refine Keeps.drewN ?_ _) | (with_reducible refine Keeps.alloc ?_ _) | (with_reducible refine Keeps.setCell ?_ (.inl (by first | exact .inl rfl | exact .inr rfl)) _)))
          clear hK K hHeld
          have hHeld := hNext
          clear hNext
          (try dsimp only at hHeld)
          try simp only [zX]
          refine zI 10 rfl ?_
          refine wpAnyH_ready (rs := [13]) (by kernel_rfl) (by simp) ?_
          refine (AllReadyH.cons rfl (fun K hK => ?_) AllReadyH.nil)
          go_simp
          refine hK.out _ _ ?_ (fun hNext => ?_)
          · try dsimp only
            (repeat (first | (with_reducible exact Keeps.refl _ _) | exact hKeep.out | exact hKeepS.out _ | assumption | (with_reducible refine Keeps.drew ?_) | (with_reducible refine Keeps.drewN ?_ _) | (with_reducible refine Keeps.alloc ?_ _) | (with_reducible refine Keeps.setCell ?_ (.inl (by first | exact .inl rfl | exact .inr rfl)) _)))
          clear hK K hHeld
          have hHeld := hNext
          clear hNext
          (try dsimp only at hHeld)
          try simp only [zX]
          refine wpAnyH_done (by kernel_rfl) ?_ _
        all_goals
          clear hkA hkB hE2 hla2 hlb3 hSt2 hKeep hHeld z0 z1 z2 z3 z4 z5 lz g5 lbw nb1 nb2
          go_wp2_with fail
          go_roundw
          case rel => exact ⟨k + 1, by go_num, by omega, HM6, HB6⟩
          case measure => simp [intOf]; omega
      · rw [if_neg hn0] at hst
        have HST := hide hst
        have hn0i : ¬ (0 : Int) < n := hn0
        clear hst hn0
        go_wp2_with (go_at_call 38; refine (Length_any (i : Int) A0 A1 A2 A3 A4 A5 q0 q1 q2 q3 q4 q5 l wr HS.out (H.out.up HBr.out)).mono ?_; rw [HLN.out, HRO.out]; rintro e w4 ⟨rfl, hB4⟩; have HM4 := hide (HM.out.same (hB4.block b HM.out.lt)); have HB4 := hide (Below.to HB.out hB4 (Nat.le_refl _)); clear hB4 c0 c1 c2 c3 c4 c5 hlb ei lb1)
        have HM5 : Hid (MapAll Tryz.prog w4 67 3 b (k + 1) cuE (mC (cutK l LR (k + 1)))) := by
          have h1 := HM4.out.mono (Nat.le_succ k)
          rw [← HST.out] at h1
          exact h1
        go_roundw
        case rel => exact ⟨k + 1, by go_num, by omega, HM5, HB4⟩
        case measure => simp [intOf]; omega
    case neg =>
    have hk1 : ¬ (k : Int) < (LR.length : Int) := by omega
    obtain rfl : k = LR.length := by omega
    obtain ⟨ps, hps⟩ : ∃ z, cutK l LR LR.length = z := ⟨_, rfl⟩
    have hpl := cutK_len l LR LR.length
    have hm := HM.out
    have hr := HRR.out
    have hpb := HPB.out
    rw [hps] at hm hr hpl hpb
    have HPB2 := hide hpb
    obtain ⟨D, hD1, hD2, hD3⟩ := hm
    have HD2 := hide hD2
    have HD3 := hide hD3
    have HR2 := hide hr
    have hps60 : ps.length ≤ 60 := by omega
    have hbw := hD1.lt
    have HBlo : Hid (w.heap.size ≤ b) := by show _ ≤ _; rw [← HBB.out]; exact HB1.out.size
    clear hD2 hD3 hps hr hk hkl hpl hpb HPB
    go_wp2_with (first
      | (at_range; refine wpList_range_own _ rfl _ 132 rfl 67 3 cuLaw Tryz.underlying132 _ b _ D rfl hD1 ?_; intro w0r hrg0 hg0 hs0)
      | go_in)
    have hBg := (Below.to HBr.out ⟨hg0.os, hg0.tape, hg0.output, hg0.size, fun j hj => hg0.block j hj (by simp)⟩ (Nat.le_refl _) : Below w.heap.size w w0r)
    have HBG := hide hBg
    have hsz0 := hD1.size_le
    obtain ⟨r, hr⟩ : ∃ z, wr.heap.size = z := ⟨_, rfl⟩
    rw [hr] at hrg0 hs0 ⊢
    have HC0 : Hid (CuR w w0r b r LR.length w0r.heap.size ps D (Maps.has D) (Maps.size D) (.slice none 0 0) []) := ⟨hrg0, fun _ h => h, fun p kl x h1 h2 => .inl ((HD2.out p kl h1).2 x h2).1, fun c hc => absurd hc (by simp), List.Pairwise.nil, by simp; omega, World.ownsRow_nil _ _ _ _, hBg, ⟨HBG.out.size, by omega, by omega, HBlo.out, by rw [← hr]; exact HBr.out.size⟩, Nat.le_refl _⟩
    obtain ⟨B, hB⟩ : ∃ z, w0r.heap.size = z := ⟨_, rfl⟩
    rw [hB] at HC0
    have HDA : Hid (∀ a kl, keyOf Tryz.prog 67 (cuE a) = some kl → ∀ x, mC ps a = some x → D.atKey kl (.lit (.int .i64 0)) = .lit (.int .i64 x)) := fun a kl h1 x h2 => ((HD2.out a kl h1).2 x h2).2
    clear hrg0 hg0 hs0 hBg hsz0 hD1 HM
    go_loopw [4, 12, 13] (fun ov _ _ wq => ∃ (left : Lit → Bool) (cnt : Nat) (Q : List Ct), Hid (CuR w wq b r LR.length B ps D left cnt ov Q)) (fun _ _ _ wq => wq.rangeLeft b r)
    case atStart => exact ⟨_, _, [], HC0.out⟩
    case round =>
      obtain ⟨left, cnt, Q, HC⟩ := hrel
      obtain ⟨Ao, qo, hov⟩ := owns_form HC.out.own
      subst hov
      have hQ60 : Q.length ≤ 60 := by have := HC.out.cnt; omega
      go_wp2_with (first
        | (at_next; refine wpList_next_all _ rfl _ rfl cuLaw Tryz.underlying3 HDA.out (fun k hk => HD3.out k (HC.out.sub k hk)) rfl HC.out.rg ?_ ?_)
        | go_in)
      · intro hl0
        have HL0' := hide hl0
        clear hl0
        go_wp2_with (go_at_call 94; refine (sortCuts_own Q B _ wr (by omega) HC.out.own).mono ?_; rintro e w2 ⟨rfl, Q', hp, hs, ho, hb⟩; have HP := hide hp; have HSO := hide hs; have HOW := hide ho; have HBS := hide hb; clear hp hs ho hb)
        go_ret2
        have hRQ : Q' = R := by
          rw [← HR2.out]
          refine cut_sorted (fun c hc => (HC.out.got c hc).1) (fun p y hy => ?_) HC.out.ne HP.out HSO.out
          obtain ⟨h1, h2⟩ := HPB2.out p (mC_some hy).2
          obtain ⟨k, hk⟩ := cuKey h1 h2
          rcases HC.out.done p k y hk hy with h3 | h3
          · rw [HL0'.out k] at h3
            cases h3
          · exact h3
        have hcts := Cts.of_own HOW.out
        rw [hRQ] at hcts
        exact ⟨_, rfl, hcts, Below.trans HC.out.below ((HBS.out HC.out.sz).mono HC.out.lo.1)⟩
      · intro a1 a2 x kl wn cnt1 hka hlk hma hrg1 hlt hgn hsn hen
        have HKA := hide hka
        have HMA := hide hma
        have HRG := hide hrg1
        have HLK := hide hlk
        have HGN := hide hgn
        have HSN := hide hsn
        unfold cuE at hen ⊢
        clear hka hma hrg1 hlk hgn hsn
        go_upto_region 15 with (fail)
        generalize hwa : World.alloc _ _ = wa
        obtain ⟨hba, hBa, hsa⟩ := alloc1 hwa
        obtain ⟨xb, hxb⟩ : ∃ z, wn.heap.size = z := ⟨_, rfl⟩
        have HXB := hide hxb
        rw [hxb] at hba ⊢
        have hua := unfrozenOf hba 2
        have hca := cellOf hba 2
        have hla := box_lt hba
        have HBX := hide hba
        have HBA := hide hBa
        clear hwa hba hBa hsa hen
        go_upto_region 16 with (fail)
        have hbx := setCellOf HBX.out (.int .i64 x) (i := 2)
        have hbb := Below.setCell HBA.out (show wn.heap.size ≤ xb by rw [HXB.out]; exact Nat.le_refl _) (p := ⟨xb, 2, none⟩) (.int .i64 x)
        generalize hwb : World.setCell _ _ _ = wb at hbx hbb ⊢
        have HBX2 : Hid (wb.heap[xb]? = some (.cells #[.int .i64 a1, .int .i64 a2, .int .i64 x] 67 (0, 0))) := hbx
        have HBB2 := hide hbb
        have hca0 := cellOf HBX2.out 0
        have hca1 := cellOf HBX2.out 1
        have hca2 := cellOf HBX2.out 2
        have hlb := box_lt HBX2.out
        have HOB : Hid (wb.ownsRow B 67 3 (.slice Ao Q.length qo) Q.length (rowV ctE Q)) := owns_below (ownsRow_same7 HC.out.own fun j hj => HGN.out.block j (HC.out.own.lt j hj).2 (fun e => by injection e with e; have h1 := (HC.out.own.lt j hj).1; have h2 := HC.out.lo; omega)) HBB2.out
        have hBsz : B ≤ wb.heap.size := by have h1 := HC.out.sz; have h2 := HGN.out.size; have h3 := HBB2.out.size; omega
        clear hwb hbx hbb hua hca hla
        go_wp2_with (at_builtin; go_must (refine wpList_append_own_at _ rfl (.tmp 61) (.tmp 63) _ rfl (B) 67 i0 _ 3 24 Tryz.underlying63 hi0 iz0 iz1 iz2 rfl (by omega) _ _ _ rfl ((HOB.out).alloc _) ⟨wb.heap.size, 0, none⟩ 1 1 [.int .i64 a1, .int .i64 a2, .int .i64 x] rfl rfl (World.news_of_block (heap_alloc_new wb _)) (by simp [Value.oneCell']) (by have h1 := hQ60; unfold maxLen; omega) (by have h1 := hQ60; omega) (by have h1 := hBsz; simp; omega) ?_); intro v1 w3 hown1 hg1 _ hat1)
        have HNEW := hide (HC.out.push HKA.out HLK.out HMA.out HRG.out hlt HGN.out HBB2.out hown1 hg1)
        clear hown1 hg1 hat1 hca0 hca1 hca2 hlb
        go_roundw
        case rel => exact ⟨_, cnt1, _, HNEW.out⟩
        case measure => rw [HNEW.out.rg.left_eq, HC.out.rg.left_eq]; exact hlt
end Go.Proofs.YtehadoecnmfeoaaGreat

/- Part 39 of this claim's texts: walks and plain laws. -/
import Derived.Test.YtmabfnddedffoaaRows
import Derived.Test.YtmabfnddedffoaaGLO37
import Derived.Test.YtmabfnddedffoaaGLO38
import Derived.Laws.EntriesVeiled
import Derived.Deep.RegionHeld3
import Derived.Deep.DrawnRows
import Derived.Test.YtmabfnddedffoaaGLO34
import Derived.Test.YtmabfnddedffoaaGLO24
import Derived.Test.YtmabfnddedffoaaGLO9
import Derived.Test.YtmabfnddedffoaaGLO35
import Derived.ArgAppend
import Derived.Deep.DeepMust
import Derived.Test.YtmabfnddedffoaaGLO11
/- Splice, both: walks. -/
namespace Go.Proofs.Ytmabfnddedffoaa
open Go.RowKit
set_option linter.unusedVariables false
set_option linter.unusedSimpArgs false
/-- Two numbers and an error. -/
def SplP (a b er : Int) (w : World) (e : Ending) (w' : World) : Prop := e = .returned (.tuple #[.int .i64 a, .int .i64 b, .int .i64 er]) ∧ Below w.heap.size w w'
noncomputable def splS (l : Lo) (ts : List Int) : Int := if givE l ts = 0 then ((spliceN l (ts.map Int.toNat)).1 : Nat) else 0
noncomputable def splM (l : Lo) (ts : List Int) : Int := if givE l ts = 0 then (spliceN l (ts.map Int.toNat)).2 else 0
theorem spl_err {l : Lo} {ts : List Int} (h : givE l ts ≠ 0) : splS l ts = 0 ∧ splM l ts = 0 := by
  unfold splS splM
  rw [if_neg h, if_neg h]
  exact ⟨rfl, rfl⟩
theorem toNat_at {ts : List Int} {p : Nat} (hp : p < ts.length) : (ts.map Int.toNat).getD p 0 = (ts.getD p 0).toNat := by simp [List.getD_eq_getElem?_getD, List.getElem?_eq_getElem hp]
theorem sumD_take {l : Lo} {s p t : Nat} {T : List Nat} (hp : p < T.length) (ht : T.getD p 0 = t) : sumD l s (T.take (p + 1)) = sumD l s (T.take p) + distN l.rs (runLen l) s t := by
  rw [take_snoc hp, ht, sumD_snoc]
/-- What both programs keep of the spots before k. -/
def BstS (f : Nat → Int) (z : Int) (k a : Nat) (b : Int) : Prop := (k = 0 ∧ a = 0 ∧ b = z) ∨ (0 < k ∧ bestN f (k - 1) = (a, b))
theorem BstS.first {f : Nat → Int} {x : Int} (hx : f 0 = x) (z : Int) : BstS f z (0 + 1) 0 x := .inr ⟨by omega, by rw [← hx]; rfl⟩
theorem BstS.take {f : Nat → Int} {z x : Int} {k a : Nat} {b : Int} (h : BstS f z k a b) (hk : 0 < k) (hx : f k = x) (hl : x < b) : BstS f z (k + 1) k x := by
  rcases h with h | h
  · omega
  · refine .inr ⟨by omega, ?_⟩
    obtain ⟨j, rfl⟩ : ∃ j, k = j + 1 := ⟨k - 1, by omega⟩
    have h2 := h.2
    rw [Nat.add_sub_cancel] at h2 ⊢
    show (if f (j + 1) < (bestN f j).2 then _ else _) = _
    rw [h2, hx, if_pos hl]
theorem BstS.stay {f : Nat → Int} {z x : Int} {k a : Nat} {b : Int} (h : BstS f z k a b) (hk : 0 < k) (hx : f k = x) (hl : ¬ x < b) : BstS f z (k + 1) a b := by
  rcases h with h | h
  · omega
  · refine .inr ⟨by omega, ?_⟩
    obtain ⟨j, rfl⟩ : ∃ j, k = j + 1 := ⟨k - 1, by omega⟩
    have h2 := h.2
    rw [Nat.add_sub_cancel] at h2 ⊢
    show (if f (j + 1) < (bestN f j).2 then _ else _) = _
    rw [h2, hx, if_neg hl]
theorem BstS.range {f : Nat → Int} {z : Int} {k a : Nat} {b lo hi : Int} (h : BstS f z k a b) (hk : 0 < k) (hf : ∀ s, lo ≤ f s ∧ f s ≤ hi) : lo ≤ b ∧ b ≤ hi ∧ a ≤ k := by
  rcases h with h | h
  · omega
  · obtain ⟨h1, h2⟩ := bestN_is f (k - 1)
    rw [h.2] at h1 h2
    simp only at h1 h2
    have := hf a
    rw [← h1] at this
    exact ⟨this.1, this.2, by omega⟩
set_option maxRecDepth 100000 in
set_option maxHeartbeats 1000000 in
theorem have_splice (p0 p1 : Value) (b : Bool) (A0 A1 A2 A3 A4 A5 : Option Addr) (q0 q1 q2 q3 q4 q5 : Nat) (l : Lo) (w : World) (hs : SizedL l) (h : LoA w w.heap.size A0 A1 A2 A3 A4 A5 q0 q1 q2 q3 q4 q5 l)
    (hf : l.err = 0 → ∀ W, Below w.heap.size w W → Calls Try.prog 92 #[p0, p1] W fun e w' => e = .returned (.bool b) ∧ Below W.heap.size W w') :
    Calls Try.prog 82 #[.agg #[.slice A0 l.m.opts.length q0, .slice A1 l.m.rules.length q1, .slice A2 l.ss.length q2, .slice A3 l.us.length q3, .slice A4 l.ps.length q4, .slice A5 l.ws.length q5], .func (.func 92) #[] #[p0, p1]] w fun e w' => e = .returned (.int .i64 (havE l b)) ∧ Below w.heap.size w w' := by
  have H := hide h
  have HF := hide hf
  obtain ⟨z, hz⟩ : ∃ z, l.err = z := ⟨_, rfl⟩
  have HZ := hide hz
  clear h hf
  by_cases hz0 : z = 0
  · subst hz0
    have hr : havE l b = mustE b 1 := by unfold havE; rw [hz]; rfl
    rw [hr]
    have hf := HF.out hz
    have HF2 := hide hf
    clear hf hz hr
    go_enter Try.func82, Try.ntmps82
    go_upto_region 1 with (fail)
    generalize hw0 : World.alloc _ _ = w0
    obtain ⟨hb0, hB0, hs0⟩ := alloc1 hw0
    have c0 := cellOf hb0 0; have c1 := cellOf hb0 1; have c2 := cellOf hb0 2; have c3 := cellOf hb0 3; have c4 := cellOf hb0 4; have c5 := cellOf hb0 5
    have hlb := box_lt hb0
    have hck := Check_any A0 A1 A2 A3 A4 A5 q0 q1 q2 q3 q4 q5 l w0 hs (H.out.up hB0)
    rw [HZ.out] at hck
    have HCK := hide hck
    have HB0 := hide hB0
    clear hw0 hb0 hB0 hs0 hck
    go_wp2_with (first | (go_at_call 17; refine HCK.out.mono ?_; rintro e w1 ⟨rfl, hB1⟩; have HB1 := hide (Below.to HB0.out hB1 (Nat.le_refl _)); clear hB1 c0 c1 c2 c3 c4 c5 hlb) | (go_at_call 92; refine (HF2.out _ HB1.out).mono ?_; rintro e w2 ⟨rfl, hB2⟩; have HB2 := hide (Below.to HB1.out hB2 (Nat.le_refl _)); clear hB2) | (go_at_call 57; refine (must_any _ _ _).mono ?_; rintro e w3 ⟨rfl, rfl⟩))
    go_ret
    exact ⟨rfl, HB2.out⟩
  · have hr : havE l b = z := by unfold havE; rw [hz, if_pos hz0]
    have hz1 : (z != 0) = true := by simpa using hz0
    rw [hr]
    clear hz hr hz0
    go_enter Try.func82, Try.ntmps82
    go_upto_region 1 with (fail)
    generalize hw0 : World.alloc _ _ = w0
    obtain ⟨hb0, hB0, hs0⟩ := alloc1 hw0
    have c0 := cellOf hb0 0; have c1 := cellOf hb0 1; have c2 := cellOf hb0 2; have c3 := cellOf hb0 3; have c4 := cellOf hb0 4; have c5 := cellOf hb0 5
    have hlb := box_lt hb0
    have hck := Check_any A0 A1 A2 A3 A4 A5 q0 q1 q2 q3 q4 q5 l w0 hs (H.out.up hB0)
    rw [HZ.out] at hck
    have HCK := hide hck
    have HB0 := hide hB0
    clear hw0 hb0 hB0 hs0 hck
    go_wp2_with (go_at_call 17; refine HCK.out.mono ?_; rintro e w1 ⟨rfl, hB1⟩; have HB1 := hide (Below.to HB0.out hB1 (Nat.le_refl _)); clear hB1 c0 c1 c2 c3 c4 c5 hlb)
    go_ret
    exact ⟨rfl, HB1.out⟩

set_option maxRecDepth 100000 in
set_option maxHeartbeats 1000000 in
theorem splice1_any (As : Option Addr) (qs : Nat) (ts : List Int) (A0 A1 A2 A3 A4 A5 : Option Addr) (q0 q1 q2 q3 q4 q5 : Nat) (l : Lo) (lb sb : Nat) (w : World) (hs : SizedL l) (hm : ts.length ≤ maxLen) (hl : LoA w w.heap.size A0 A1 A2 A3 A4 A5 q0 q1 q2 q3 q4 q5 l) (hv : Ints w w.heap.size (.slice As ts.length qs) ts) (hr : w.heap[sb]? = some (.cells #[.slice As ts.length qs] 41 (0, 0))) (h : LoBox w lb A0 A1 A2 A3 A4 A5 q0 q1 q2 q3 q4 q5 l) :
    Calls Try.prog 92 #[.pointer (some ⟨lb, 0, none⟩), .pointer (some ⟨sb, 0, none⟩)] w fun e w' => e = .returned (.bool (givB l ts)) ∧ Below w.heap.size w w' := by
  have c0 := cellOf h 0; have c1 := cellOf h 1; have c2 := cellOf h 2; have c3 := cellOf h 3; have c4 := cellOf h 4; have c5 := cellOf h 5
  have d0 := cellOf hr 0
  have hlb := box_lt h
  have hlr := box_lt hr
  have HL := hide hl
  have HV := hide hv
  clear h hr hl hv
  go_enter Try.func92, Try.ntmps92
  go_wp2_with (go_at_call 93; refine (given_any As qs ts A0 A1 A2 A3 A4 A5 q0 q1 q2 q3 q4 q5 l _ hs hm HL.out HV.out).mono ?_; rintro e w1 ⟨rfl, hB1⟩)
  go_ret
  exact ⟨rfl, hB1⟩
set_option maxRecDepth 100000 in
set_option maxHeartbeats 4000000 in
theorem Splice_any (As : Option Addr) (qs : Nat) (ts : List Int) (A0 A1 A2 A3 A4 A5 : Option Addr) (q0 q1 q2 q3 q4 q5 : Nat) (l : Lo) (w : World) (hs : SizedL l) (hm : ts.length ≤ maxLen) (h : LoA w w.heap.size A0 A1 A2 A3 A4 A5 q0 q1 q2 q3 q4 q5 l) (hv : Ints w w.heap.size (.slice As ts.length qs) ts) :
    Calls Try.prog 28 #[.agg #[.slice A0 l.m.opts.length q0, .slice A1 l.m.rules.length q1, .slice A2 l.ss.length q2, .slice A3 l.us.length q3, .slice A4 l.ps.length q4, .slice A5 l.ws.length q5], .slice As ts.length qs] w (SplP (splS l ts) (splM l ts) (givE l ts) w) := by
  have H := hide h
  have HS := hide hs
  have HV := hide hv
  obtain ⟨z, hz⟩ : ∃ z, givE l ts = z := ⟨_, rfl⟩
  obtain ⟨n1, hn1⟩ : ∃ z, splS l ts = z := ⟨_, rfl⟩
  obtain ⟨n2, hn2⟩ : ∃ z, splM l ts = z := ⟨_, rfl⟩
  rw [hz, hn1, hn2]
  have HZ := hide hz
  clear h hs hv
  go_enter Try.func28, Try.ntmps28
  go_upto_region 1 with (fail)
  generalize hw0 : World.alloc _ _ = w0
  obtain ⟨hb0, hb1, hB0, hs0⟩ := alloc2 hw0
  have c0 := cellOf hb0 0; have c1 := cellOf hb0 1; have c2 := cellOf hb0 2; have c3 := cellOf hb0 3; have c4 := cellOf hb0 4; have c5 := cellOf hb0 5
  have hlb := box_lt hb0
  have hhv := have_splice (.pointer (some ⟨w.heap.size, 0, none⟩)) (.pointer (some ⟨w.heap.size + 1, 0, none⟩)) (givB l ts) A0 A1 A2 A3 A4 A5 q0 q1 q2 q3 q4 q5 l w0 HS.out (H.out.up hB0) (fun _ W hW => splice1_any As qs ts A0 A1 A2 A3 A4 A5 q0 q1 q2 q3 q4 q5 l _ _ W HS.out hm ((H.out.up hB0).up hW) (Ints.up (Ints.up HV.out hB0) hW) (box_to hb1 hW) (LoBox.to hb0 hW))
  rw [show havE l (givB l ts) = z from HZ.out] at hhv
  have HHV := hide hhv
  have HB0 := hide hB0
  have HL0 : Hid (LoBox w0 w.heap.size A0 A1 A2 A3 A4 A5 q0 q1 q2 q3 q4 q5 l) := hb0
  have HR0 := hide hb1
  clear hw0 hb0 hb1 hB0 hs0 hhv
  by_cases hz0 : z = 0
  case neg =>
    obtain ⟨e1, e2⟩ := spl_err (by rw [hz]; exact hz0)
    rw [e1] at hn1
    rw [e2] at hn2
    subst hn1 hn2
    have hz1 : (z != 0) = true := by simpa using hz0
    clear hz hz0 e1 e2
    go_wp2_with (go_at_call 82; refine HHV.out.mono ?_; rintro e w1 ⟨rfl, hB1⟩; have HB1 := hide (Below.to HB0.out hB1 (Nat.le_refl _)); clear hB1)
    go_ret3
    exact ⟨rfl, HB1.out⟩
  case pos =>
  subst hz0
  obtain ⟨ok, l1, l2, hin⟩ := givE_ok hz
  obtain ⟨T, hT⟩ : ∃ T, ts.map Int.toNat = T := ⟨_, rfl⟩
  obtain ⟨f, hf⟩ : ∃ f : Nat → Int, (fun s => sumD l s T) = f := ⟨_, rfl⟩
  have hfs : ∀ s, f s = sumD l s T := fun s => by rw [← hf]
  have hTl : T.length = ts.length := by rw [← hT, List.length_map]
  have hfr : ∀ s, 0 ≤ f s ∧ f s ≤ 1600000000 := fun s => by
    have := sumD_range ok s T
    rw [hfs]
    omega
  have hN : spliceN l T = bestN f (l.ss.length - 1) := by unfold spliceN; rw [hf]
  have hn1' : ((bestN f (l.ss.length - 1)).1 : Nat) = n1 := by rw [← hn1]; unfold splS; rw [if_pos hz, hT, hN]
  have hn2' : (bestN f (l.ss.length - 1)).2 = n2 := by rw [← hn2]; unfold splM; rw [if_pos hz, hT, hN]
  have hTg : ∀ p, p < ts.length → ts.getD p 0 = (T.getD p 0 : Nat) ∧ T.getD p 0 < l.ss.length := fun p hp => by
    obtain ⟨h1, h2⟩ := hin _ (getD_mem3 (z := 0) hp)
    have h3 := toNat_at hp
    rw [hT] at h3
    omega
  have OK := hide ok
  have HTG := hide hTg
  have HFS := hide hfs
  have HFR := hide hfr
  have HN1 := hide hn1'
  have HN2 := hide hn2'
  have HTL := hide hTl
  have hpos := ok.pos
  have s40 := ok.s40
  clear hz hn1 hn2 ok hin hT hf hfs hTl hfr hN hn1' hn2' hTg
  go_wp2_with (first | (go_at_call 82; refine HHV.out.mono ?_; rintro e w1 ⟨rfl, hB1⟩; have d0 := cellOf (HL0.out.to hB1) 0; have d1 := cellOf (HL0.out.to hB1) 1; have d2 := cellOf (HL0.out.to hB1) 2; have d3 := cellOf (HL0.out.to hB1) 3; have d4 := cellOf (HL0.out.to hB1) 4; have d5 := cellOf (HL0.out.to hB1) 5; have ld := box_lt (HL0.out.to hB1); have HL1 := hide (HL0.out.to hB1); have HR1 := hide (box_to HR0.out hB1); have HB1 := hide (Below.to HB0.out hB1 (Nat.le_refl _)); clear hB1 c0 c1 c2 c3 c4 c5 hlb) | (go_at_call 94; refine (measure_any A0 A1 A2 A3 A4 A5 q0 q1 q2 q3 q4 q5 l _ (H.out.up HB1.out) OK.out).mono ?_; rintro e w2 ⟨bm, rfl, hm2⟩; have g0 := cellOf (HL1.out.to hm2.below) 0; have g1 := cellOf (HL1.out.to hm2.below) 1; have g2 := cellOf (HL1.out.to hm2.below) 2; have g3 := cellOf (HL1.out.to hm2.below) 3; have g4 := cellOf (HL1.out.to hm2.below) 4; have g5 := cellOf (HL1.out.to hm2.below) 5; have lg := box_lt (HL1.out.to hm2.below); have HR2 := hide (box_to HR1.out hm2.below); have HB2 := hide (Below.to HB1.out hm2.below (Nat.le_refl _)); have HM2 := hide hm2; clear hm2 d0 d1 d2 d3 d4 d5 ld))
  clear g0 g1 g2 g3 g4 g5 lg
  go_loop [4, 5, 9, 10, 12, 24] (fun x y _ _ _ i => ∃ (k a : Nat) (b : Int), i = .int .i64 k ∧ x = .int .i64 a ∧ y = .int .i64 b ∧ k ≤ l.ss.length ∧ Hid (BstS f 0 k a b)) (fun _ _ _ _ _ i => l.ss.length - (intOf i).toNat)
  case atStart => exact ⟨0, 0, 0, rfl, rfl, rfl, Nat.zero_le _, .inl ⟨rfl, rfl, rfl⟩⟩
  case round =>
    obtain ⟨k, a, b, rfl, rfl, rfl, hk, HBS⟩ := hrel
    by_cases hkl : k < l.ss.length
    · have ik : (k : Int) < (l.ss.length : Int) := by omega
      have g0 := cellOf HR2.out 0
      have lg := box_lt HR2.out
      go_wp2_with fail
      clear g0 lg
      go_loop [10, 12, 29] (fun o _ i => ∃ (p : Nat) (s : Int), i = .int .i64 p ∧ o = .int .i64 s ∧ p ≤ ts.length ∧ Hid (sumD l k (T.take p) = s)) (fun _ _ i => ts.length - (intOf i).toNat)
      case atStart => exact ⟨0, 0, rfl, rfl, Nat.zero_le _, by show sumD _ _ _ = _; simp [sumD]⟩
      case round =>
        obtain ⟨p, s, rfl, rfl, hp, HSU⟩ := hrel
        by_cases hpl : p < ts.length
        · obtain ⟨bt, ot, t, HT, rfl, hbt, hqt, ct⟩ := (Ints.up HV.out HB2.out).at hpl
          obtain ⟨h1, h2⟩ := HTG.out p hpl
          rw [HT.out] at h1
          obtain ⟨u, hu⟩ : ∃ u, T.getD p 0 = u := ⟨_, rfl⟩
          rw [hu] at h1 h2
          subst h1
          have hsum := sumD_take (l := l) (s := k) (show p < T.length by rw [HTL.out]; exact hpl) hu
          rw [HSU.out] at hsum
          have hrng := sumD_range OK.out k (T.take p)
          rw [HSU.out, List.length_take] at hrng
          have hd := OK.out.dist (x := k) (z := u)
          have hlk := HM2.out.look1 k u (by omega) (by omega)
          rw [meaM_at l hkl h2, Option.getD_some] at hlk
          obtain ⟨x, hx⟩ : ∃ x, distN l.rs (runLen l) k u = x := ⟨_, rfl⟩
          rw [hx] at hsum hd hlk
          have HSUM := hide hsum
          have hs2 : 0 ≤ s ∧ s ≤ 1600000000 := by omega
          have ip : (p : Int) < (ts.length : Int) := by omega
          have iqt : (ts.length : Int) ≤ (qs : Int) := by omega
          clear hu h2 hsum hrng hx hqt
          go_wp2_with fail
          clear hlk
          go_round
          case rel => exact ⟨p + 1, s + x, by go_num, by go_num, by omega, HSUM.out⟩
          case measure => simp [intOf]; omega
        · have hpe : p = ts.length := by omega
          subst hpe
          have hS := HSU.out
          rw [← HTL.out, List.take_length, ← HFS.out] at hS
          have hr := HFR.out k
          rw [hS] at hr
          have HSF := hide hS
          clear hS
          rcases Nat.eq_zero_or_pos k with hk0 | hk0
          · subst hk0
            have g1 : (((0 : Nat) : Int) == 0) = true := rfl
            go_wp2_with fail
            go_round
            case rel => exact ⟨0 + 1, 0, s, by go_num, rfl, rfl, by omega, BstS.first HSF.out 0⟩
            case measure => simp [intOf]; omega
          · have g1 : ((k : Int) == 0) = false := by simp; omega
            obtain ⟨b0, b1, b2⟩ := HBS.out.range hk0 HFR.out
            by_cases hlt : s < b
            · have hd1 : decide (s < b) = true := by simpa using hlt
              have HLT := hide hlt
              have HK0 := hide hk0
              clear hlt
              go_wp2_with fail
              go_round
              case rel => exact ⟨k + 1, k, s, by go_num, rfl, rfl, by omega, HBS.out.take HK0.out HSF.out HLT.out⟩
              case measure => simp [intOf]; omega
            · have hd1 : decide (s < b) = false := by simpa using hlt
              have HLT := hide hlt
              have HK0 := hide hk0
              clear hlt
              go_wp2_with fail
              go_round
              case rel => exact ⟨k + 1, a, b, by go_num, rfl, rfl, by omega, HBS.out.stay HK0.out HSF.out HLT.out⟩
              case measure => simp [intOf]; omega
    · have hke : k = l.ss.length := by omega
      subst hke
      have hfin : n1 = a ∧ n2 = b := by
        rcases HBS.out with h | h
        · omega
        · have h1 := HN1.out
          have h2 := HN2.out
          rw [h.2] at h1 h2
          simp only at h1 h2
          exact ⟨by omega, by omega⟩
      have HFIN := hide hfin
      clear hfin
      go_wp2_with fail
      go_ret3
      exact ⟨by rw [HFIN.out.1, HFIN.out.2]; rfl, HB2.out⟩
end Go.Proofs.Ytmabfnddedffoaa
/- The program's route and length: walks. -/
namespace Go.Proofs.Ytmabfnddedffoaa
open Go.RowKit
set_option linter.unusedVariables false
set_option linter.unusedSimpArgs false
open Classical in
/-- The way between two spots. -/
noncomputable def wayL (l : Lo) (a b : Nat) : List Nat := if h : ∃ P, WayP l.rs (-1) a P b then Classical.choose h else []
/-- What Route and Length answer. -/
def rouE (l : Lo) (i : Int) : Int := havE l (btw i 0 ((l.ws.length : Int) - 1))
noncomputable def rouW (l : Lo) (i : Nat) : List Nat := spotsW l.rs (endF l i) (wayL l (endF l i) (endT l i))
noncomputable def rouL (l : Lo) (i : Int) : List Nat := if rouE l i = 0 then rouW l i.toNat else []
noncomputable def lenW (l : Lo) (i : Nat) : Int := distN l.rs (runLen l) (endF l i) (endT l i)
noncomputable def lenN (l : Lo) (i : Int) : Int := if rouE l i = 0 then lenW l i.toNat else 0
end Go.Proofs.Ytmabfnddedffoaa
/- The program's copper of a variant: walk. -/
namespace Go.Proofs.Ytmabfnddedffoaa
open Go.RowKit
set_option linter.unusedVariables false
set_option linter.unusedSimpArgs false
/-- The copper of the first wires of a variant. -/
noncomputable def copF (l : Lo) (v : List Bool) (i : Nat) : Int := if inB l v i then lenW l i * (l.ws.getD i Wi.o).size else 0
def copE (l : Lo) (v : List Bool) : Int := havE l (decide (v.length = l.m.opts.length))
noncomputable def copN (l : Lo) (v : List Bool) : Int := if copE l v = 0 then sumN (copF l v) l.ws.length else 0
end Go.Proofs.Ytmabfnddedffoaa
/- No buildable variant fills a run more than its worst; copper by runs: plain. -/
namespace Go.Proofs.Ytmabfnddedffoaa
open Go.RowKit
set_option linter.unusedVariables false
set_option linter.unusedSimpArgs false
set_option linter.unusedSectionVars false
theorem bui_all {m : Mo} {vs : List Bool} (he : buiE m vs = 0) (hb : buiB m vs = true) : m.err = 0 ∧ vs.length = m.opts.length ∧ allF (vf vs) m.rules = true := by
  have h0 := he
  unfold buiE at h0
  split at h0
  · rename_i h1; exact absurd h0 h1
  · rename_i h1
    split at h0
    · omega
    · rename_i h2
      refine ⟨by omega, by omega, ?_⟩
      unfold buiB at hb
      rw [if_pos he] at hb
      have h3 : fstR vs m.rules < 0 := of_decide_eq_true hb
      have h4 := idxI_any (fun f => !evF1 (vf vs) f) m.rules
      have h5 : m.rules.any (fun f => !evF1 (vf vs) f) = false := by
        rw [← h4]
        refine decide_eq_false ?_
        unfold fstR at h3
        omega
      unfold allF
      rw [List.all_eq_true]
      intro f hf
      rw [List.any_eq_false] at h5
      have := h5 f hf
      simpa using this
section
variable {l : Lo} (ok : LoOk l)
include ok
theorem LoOk.in_is {v : List Bool} (hv : v.length = l.m.opts.length) {i : Nat} (hi : i < l.ws.length) : inB l v i = evF1 (vf v) (l.ws.getD i Wi.o).form := by
  have h1 := (ok.wi hi).2
  have h2 : l.m.errF [(l.ws.getD i Wi.o).form] = 0 := by
    generalize l.ws.getD i Wi.o = x at h1
    unfold Mo.errF
    rw [if_neg (by simp [ok.m]), if_neg (by simp [h1])]
  have h3 : holE l.m (l.ws.getD i Wi.o).form v = 0 := by
    generalize l.ws.getD i Wi.o = x at h2
    unfold holE; rw [if_neg (by simp [h2]), if_neg (by simp [hv])]
  unfold inB holB
  rw [if_pos h3]
theorem LoOk.car_zero {v : List Bool} (he : l.err = 0) (hv : v.length = l.m.opts.length) {r : Nat} (hr : r < l.us.length) : carE l r v = 0 ∧ carL l r v = (thruL l r).filter (inB l v) := by
  have h1 : carE l r v = 0 := by
    unfold carE havE
    rw [if_neg (by simp [he]), btw_t (by omega) (by omega), decide_eq_true hv]
    rfl
  refine ⟨h1, ?_⟩
  unfold carL thruL
  rw [if_pos h1, List.filter_filter, Int.toNat_natCast]
  congr 1
  funext i
  exact Bool.and_comm _ _
open Classical in
theorem LoOk.fil_pre {v : List Bool} {r : Nat} (hr : r < l.us.length) : ∀ {m : Nat}, m ≤ l.ws.length → filN l (((List.range m).filter (thruB l r)).filter (inB l v)) = sumN (fun i => if inB l v i ∧ ¬ Rch l.rs r (endF l i) (endT l i) then (l.ws.getD i Wi.o).size else 0) m
  | 0, _ => rfl
  | m + 1, h => by
    have ih := LoOk.fil_pre (v := v) hr (m := m) (by omega)
    have h1 := ok.thru hr (show m < l.ws.length by omega)
    have h2 : sumN (fun i => if inB l v i ∧ ¬ Rch l.rs r (endF l i) (endT l i) then (l.ws.getD i Wi.o).size else 0) (m + 1) = sumN (fun i => if inB l v i ∧ ¬ Rch l.rs r (endF l i) (endT l i) then (l.ws.getD i Wi.o).size else 0) m + if inB l v m ∧ ¬ Rch l.rs r (endF l m) (endT l m) then (l.ws.getD m Wi.o).size else 0 := rfl
    rw [h2, ← ih, List.range_succ, List.filter_append, List.filter_append]
    cases hb : inB l v m with
    | false =>
      rw [if_neg (by simp)]
      cases ht : thruB l r m <;> simp [ht, hb]
    | true =>
      cases ht : thruB l r m with
      | false =>
        have h3 : ¬ ¬ Rch l.rs r (endF l m) (endT l m) := fun q => by rw [h1.2 q] at ht; cases ht
        rw [if_neg (fun q => h3 q.2)]
        simp [ht]
      | true =>
        rw [if_pos ⟨rfl, h1.1 ht⟩]
        have e1 : List.filter (thruB l r) [m] = [m] := by simp [ht]
        have e2 : List.filter (inB l v) [m] = [m] := by simp [hb]
        rw [e1, e2, filN_snoc]
open Classical in
theorem LoOk.fil_run {v : List Bool} (he : l.err = 0) (hv : v.length = l.m.opts.length) {r : Nat} (hr : r < l.us.length) : filN l (carL l r v) = sumN (fun i => if inB l v i ∧ ¬ Rch l.rs r (endF l i) (endT l i) then (l.ws.getD i Wi.o).size else 0) l.ws.length := by
  rw [(ok.car_zero he hv hr).2]
  exact ok.fil_pre hr (Nat.le_refl _)
open Classical in
/-- The copper by runs. -/
theorem LoOk.copper_runs {v : List Bool} (he : l.err = 0) (hv : v.length = l.m.opts.length) : copE l v = 0 ∧ copN l v = sumN (fun r => filN l (carL l r v) * runLen l r) l.us.length := by
  have h1 : copE l v = 0 := by
    unfold copE havE
    rw [if_neg (by simp [he]), decide_eq_true hv]
    rfl
  refine ⟨h1, ?_⟩
  unfold copN
  rw [if_pos h1]
  have h2 := Go.Proofs.Ytmabfnddedffoaa.copper_runs l.rs (runLen l) l.ws.length (inB l v) (fun i => (l.ws.getD i Wi.o).size) (endF l) (endT l)
  have h3 : copF l v = fun i => if inB l v i then distN l.rs (runLen l) (endF l i) (endT l i) * (l.ws.getD i Wi.o).size else 0 := rfl
  rw [h3, h2, rs_len]
  refine sumN_congr fun r hr => ?_
  rw [ok.fil_run he hv hr]
end
end Go.Proofs.Ytmabfnddedffoaa
/- Without clashes no two wires of a buildable variant share a pin; a splice elsewhere is never shorter: plain. -/
namespace Go.Proofs.Ytmabfnddedffoaa
open Go.RowKit
set_option linter.unusedVariables false
set_option linter.unusedSimpArgs false
theorem claI_mem {l : Lo} {i k n : Nat} (h : i < k) (hk : k < n) (hb : claB l i k = true) : (i, k) ∈ claI l i n := by
  unfold claI
  exact List.mem_map.2 ⟨k, List.mem_filter.2 ⟨List.mem_range.2 hk, by simp [h, hb]⟩, rfl⟩
theorem claE_nil {l : Lo} (he : l.err = 0) (hK : claE l = []) {i k : Nat} (h : i < k) (hk : k < l.ws.length) : claB l i k = false := by
  cases hb : claB l i k with
  | false => rfl
  | true =>
    have h1 := claI_mem h hk hb
    have h2 : (i, k) ∈ claE l := by
      unfold claE
      rw [if_pos he]
      unfold claO
      exact List.mem_flatMap.2 ⟨i, List.mem_range.2 (by omega), h1⟩
    rw [hK] at h2
    simp at h2
theorem LoOk.no_share {l : Lo} (ok : LoOk l) (he : l.err = 0) (hK : claE l = []) {v : List Bool} (hv : v.length = l.m.opts.length) (hr : allF (vf v) l.m.rules = true) {i k : Nat} (h : i < k) (hk : k < l.ws.length) (h1 : inB l v i = true) (h2 : inB l v k = true) : sharB (l.ws.getD i Wi.o) (l.ws.getD k Wi.o) = false := by
  have h3 := claE_nil he hK h hk
  have hi : i < l.ws.length := by omega
  rw [ok.in_is hv hi] at h1
  rw [ok.in_is hv hk] at h2
  have h4 : meeB l.m [(l.ws.getD i Wi.o).form, (l.ws.getD k Wi.o).form] = true := by
    have hf : frmE l.m [(l.ws.getD i Wi.o).form, (l.ws.getD k Wi.o).form] = 0 := by
      have a := (ok.wi hi).2
      have b := (ok.wi hk).2
      generalize l.ws.getD i Wi.o = x at a
      generalize l.ws.getD k Wi.o = y at b
      unfold frmE
      rw [if_neg (by simp [ok.m]), if_neg (by simp), if_neg (by simp [a, b])]
    unfold meeB
    rw [if_pos hf]
    have hm : v ∈ meeL l.m [(l.ws.getD i Wi.o).form, (l.ws.getD k Wi.o).form] := by
      unfold meeL satM
      refine List.mem_filter.2 ⟨exts_all _ _ hv, ?_⟩
      have e : allF (vf v) [(l.ws.getD i Wi.o).form, (l.ws.getD k Wi.o).form] = true := by
        unfold allF
        rw [List.all_cons, List.all_cons, h1, h2]
        rfl
      rw [hr, Bool.true_and]
      exact e
    cases hq : meeL l.m [(l.ws.getD i Wi.o).form, (l.ws.getD k Wi.o).form] with
    | nil => rw [hq] at hm; simp at hm
    | cons a t => rfl
  unfold claB at h3
  rw [h4, Bool.and_true] at h3
  exact h3
end Go.Proofs.Ytmabfnddedffoaa
/- Joined, both: walks. -/
namespace Go.Proofs.Ytmabfnddedffoaa
open Go.RowKit
set_option linter.unusedVariables false
set_option linter.unusedSimpArgs false
/-- Some of the spots lie on the first side of a run, and some do not. -/
def sdA (l : Lo) (k : Nat) (t : Int) : Bool := decide (t.toNat ∈ sideL l k)
def sdB (l : Lo) (k : Nat) (t : Int) : Bool := !decide (t.toNat ∈ sideL l k)
noncomputable def joiT (l : Lo) (T : List Nat) : Nat → Int := fun k => if (T.any fun t => decide (t ∈ sideL l k)) && (T.any fun t => !decide (t ∈ sideL l k)) then runLen l k else 0
noncomputable def joiN (l : Lo) (ts : List Int) : Int := if givE l ts = 0 then joinN l.rs (runLen l) (ts.map Int.toNat) else 0
end Go.Proofs.Ytmabfnddedffoaa
/- The elder route and length: walks. -/
namespace Go.Proofs.Ytmabfnddedffoaa
open Go.RowKit
set_option linter.unusedVariables false
set_option linter.unusedSimpArgs false
end Go.Proofs.Ytmabfnddedffoaa
/- Sharp bends, the program: walk. -/
namespace Go.Proofs.Ytmabfnddedffoaa
open Go.RowKit
set_option linter.unusedVariables false
set_option linter.unusedSimpArgs false
/-- A sharp bend between three spots. -/
def bndN (a b c : Sp) : Int := (b.x - a.x) * (c.x - b.x) + (b.y - a.y) * (c.y - b.y) + (b.z - a.z) * (c.z - b.z)
noncomputable def benB (l : Lo) (Q : List Nat) (k : Nat) : Bool := decide (bndN (l.ss.getD (Q.getD (k - 1) 0) Sp.o) (l.ss.getD (Q.getD k 0) Sp.o) (l.ss.getD (Q.getD (k + 1) 0) Sp.o) < 0)
noncomputable def benI (l : Lo) (i k : Nat) : List (Nat × Nat) := ((List.range k).filter fun j => decide (1 ≤ j) && benB l (rouW l i) j).map fun j => (i, (rouW l i).getD j 0)
noncomputable def benO (l : Lo) (i : Nat) : List (Nat × Nat) := (List.range i).flatMap fun j => benI l j ((rouW l j).length - 1)
noncomputable def benE (l : Lo) : List (Nat × Nat) := if l.err = 0 then benO l l.ws.length else []
theorem LoOk.sp {l : Lo} (ok : LoOk l) {k : Nat} (hk : k < l.ss.length) : (-100000 ≤ (l.ss.getD k Sp.o).x ∧ (l.ss.getD k Sp.o).x ≤ 100000) ∧ (-100000 ≤ (l.ss.getD k Sp.o).y ∧ (l.ss.getD k Sp.o).y ≤ 100000) ∧ (-100000 ≤ (l.ss.getD k Sp.o).z ∧ (l.ss.getD k Sp.o).z ≤ 100000) := by
  have h := ok.ss _ (getD_mem3 (z := Sp.o) hk)
  unfold Sp.ok at h
  simp only [Bool.and_eq_true, btw_iff] at h
  exact ⟨h.1.1, h.1.2, h.2⟩
/-- Three spots in cells of their own. -/
structure BenC (wr wc : World) (ba bb bc : Nat) (a b c : Sp) : Prop where
  below : Below wr.heap.size wr wc
  a : wc.heap[ba]? = some (.cells #[.int .i64 a.x, .int .i64 a.y, .int .i64 a.z] 97 (0, 0))
  b : wc.heap[bb]? = some (.cells #[.int .i64 b.x, .int .i64 b.y, .int .i64 b.z] 97 (0, 0))
  c : wc.heap[bc]? = some (.cells #[.int .i64 c.x, .int .i64 c.y, .int .i64 c.z] 97 (0, 0))
end Go.Proofs.Ytmabfnddedffoaa
/- Along a route the rest becomes shorter by each step; lists of two and three numbers: plain. -/
namespace Go.Proofs.Ytmabfnddedffoaa
open Go.RowKit
set_option linter.unusedVariables false
set_option linter.unusedSimpArgs false
section
variable {l : Lo} (ok : LoOk l)
include ok
end
theorem disE_zero {l : Lo} {a b : Nat} (he : l.err = 0) (ha : a < l.ss.length) (hb : b < l.ss.length) : disE l a b = 0 ∧ disN l a b = distN l.rs (runLen l) a b := by
  have h1 : disE l a b = 0 := by
    unfold disE havE disB
    rw [if_neg (by simp [he]), btw_t (by omega) (by omega), btw_t (by omega) (by omega)]
    rfl
  refine ⟨h1, ?_⟩
  rw [disN_ok h1, Int.toNat_natCast, Int.toNat_natCast]
end Go.Proofs.Ytmabfnddedffoaa
/- The laws' looms, opened: no condition. -/
namespace Go.Proofs.Ytmabfnddedffoaa
open Go.Joins Go.ChangeShapes Go.WideShapes Go.ChangeAt Go.RowKit Go.Deep
set_option maxRecDepth 100000
set_option linter.unusedVariables false
set_option linter.unusedSimpArgs false
section
variable {H : Type} {enc : TypeId × Value → H} {W : World} {base b0 : Nat} {r : Reach} {spare : Nat → Bool} {held : Bool} {v : Value} {d : DataW H} {p : List MemPlace}
theorem open_lo (hv : Value.okWide Try.prog W r b0 31 v) (h : DataW.Trod enc Try.prog W base spare held 31 v d p) :
    ∃ (A0 A1 A2 A3 A4 A5 : Option Addr) (q0 q1 q2 q3 q4 q5 : Nat), ∃ l : Lo, v = .agg #[.slice A0 l.m.opts.length q0, .slice A1 l.m.rules.length q1, .slice A2 l.ss.length q2, .slice A3 l.us.length q3, .slice A4 l.ps.length q4, .slice A5 l.ws.length q5] ∧ LoA W W.heap.size A0 A1 A2 A3 A4 A5 q0 q1 q2 q3 q4 q5 l ∧ SizedL l := by
  obtain ⟨ov, rv, sv, uv, pv, wv, l, rfl, hl, hs, _⟩ := open_loom hv h
  obtain ⟨A0, A1, A2, A3, A4, A5, q0, q1, q2, q3, q4, q5, rfl, rfl, rfl, rfl, rfl, rfl, hla⟩ := hl.form
  exact ⟨A0, A1, A2, A3, A4, A5, q0, q1, q2, q3, q4, q5, l, rfl, hla, hs⟩
end
end Go.Proofs.Ytmabfnddedffoaa

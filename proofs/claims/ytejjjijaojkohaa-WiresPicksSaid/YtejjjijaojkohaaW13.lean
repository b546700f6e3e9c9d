/- How warm a wire ever becomes: the plain law. -/
import Derived.Test.YtejjjijaojkohaaRows
import Derived.Test.YtejjjijaojkohaaW9
namespace Go.Proofs.Ytejjjijaojkohaa
open Go.RowKit
set_option linter.unusedVariables false

theorem warmI_mono (g : Ga) (hc0 : 0 ≤ g.cool) (hc1 : g.cool ≤ 1024) (a b x : Int) (h : a ≤ b) : warmI g a x ≤ warmI g b x := by
  obtain ⟨d, hd⟩ : ∃ d, d = b - a := ⟨_, rfl⟩
  have hb : b = a + d := by omega
  subst hb
  unfold warmI
  rw [Int.add_mul]
  have h1 : d * g.cool ≤ d * 1024 := Int.mul_le_mul_of_nonneg_left hc1 (by omega)
  have h2 : 0 ≤ d * g.cool := Int.mul_nonneg (by omega) hc0
  omega
theorem heatI_mono (f : Fu) (a b x : Int) (h : a ≤ b) : heatI f a x ≤ heatI f b x := by
  unfold heatI; omega

/-- The state behind s seconds of a cycle, and the greatest one on the way. -/
def stU (f : Int → Int → Int) (cs : List Cu) (r : Int) (s : Nat) : Int := runSt f r (ups cs s)
def mxU (f : Int → Int → Int) (cs : List Cu) (r : Int) (s : Nat) : Int := runMx f r (ups cs s)
theorem stU_zero (f : Int → Int → Int) (cs : List Cu) (r : Int) : stU f cs r 0 = r := rfl
theorem stU_succ (f : Int → Int → Int) (cs : List Cu) (r : Int) (s : Nat) : stU f cs r (s + 1) = f (stU f cs r s) (ampAt cs s) := by
  unfold stU; rw [ups_succ, runSt_snoc]
theorem mxU_zero (f : Int → Int → Int) (cs : List Cu) (r : Int) : mxU f cs r 0 = r := rfl
theorem mxU_succ (f : Int → Int → Int) (cs : List Cu) (r : Int) (s : Nat) : mxU f cs r (s + 1) = max (mxU f cs r s) (stU f cs r (s + 1)) := by
  unfold mxU; rw [ups_succ, runMx_snoc, stU_succ]; rfl
section
variable {f : Int → Int → Int} (hf : ∀ a b x, a ≤ b → f a x ≤ f b x) {cs : List Cu}
include hf
theorem stU_mono {a b : Int} (h : a ≤ b) : ∀ s, stU f cs a s ≤ stU f cs b s
  | 0 => h
  | s + 1 => by rw [stU_succ, stU_succ]; exact hf _ _ _ (stU_mono h s)
theorem mxU_mono {a b : Int} (h : a ≤ b) : ∀ s, mxU f cs a s ≤ mxU f cs b s
  | 0 => h
  | s + 1 => by
    have h1 := mxU_mono h s
    have h2 := stU_mono hf (cs := cs) h (s + 1)
    rw [mxU_succ, mxU_succ]; omega
end
theorem mxU_le (f : Int → Int → Int) (cs : List Cu) (r : Int) : ∀ {s t : Nat}, s ≤ t → mxU f cs r s ≤ mxU f cs r t
  | s, 0, h => by have : s = 0 := by omega
                  subst this; exact Int.le_refl _
  | s, t + 1, h => by
    rcases Nat.lt_or_ge t s with h1 | h1
    · have : s = t + 1 := by omega
      subst this; exact Int.le_refl _
    · have := mxU_le f cs r h1
      rw [mxU_succ]; omega
theorem st_le_mxU (f : Int → Int → Int) (cs : List Cu) (r : Int) : ∀ s, stU f cs r s ≤ mxU f cs r s
  | 0 => Int.le_refl _
  | s + 1 => by rw [mxU_succ]; omega
theorem st_le_mxU' (f : Int → Int → Int) (cs : List Cu) (r : Int) {s t : Nat} (h : s ≤ t) : stU f cs r s ≤ mxU f cs r t := Int.le_trans (st_le_mxU f cs r s) (mxU_le f cs r h)

/-- One cycle: the state behind it, and the greatest one on the way. -/
def cySt (f : Int → Int → Int) (cs : List Cu) (r : Int) : Int := stU f cs r (secsN cs)
def cyMx (f : Int → Int → Int) (cs : List Cu) (r : Int) : Int := mxU f cs r (secsN cs)
theorem cySt_le_Mx (f : Int → Int → Int) (cs : List Cu) (r : Int) : cySt f cs r ≤ cyMx f cs r := st_le_mxU _ _ _ _
theorem le_cyMx (f : Int → Int → Int) (cs : List Cu) (r : Int) : r ≤ cyMx f cs r := st_le_mxU' f cs r (s := 0) (Nat.zero_le _)

/-- Cycle by cycle, until the limit is passed or the state stays. -/
def pk (f : Int → Int → Int) (cs : List Cu) (limit : Int) : Nat → Int → Int
  | 0, _ => limit + 1
  | n + 1, r => if limit < cyMx f cs r then limit + 1 else if cySt f cs r = r then cyMx f cs r else pk f cs limit n (cySt f cs r)
def peakI (g : Ga) (cs : List Cu) (limit : Int) : Int := pk (warmI g) cs limit (limit.toNat + 2) 0
/-- How far the search is, r reached, with this much fuel left. -/
structure PkAt (f : Int → Int → Int) (cs : List Cu) (limit : Int) (res r : Int) : Prop where
  lo : 0 ≤ r
  hi : r ≤ limit
  up : r ≤ cySt f cs r
  fuel : ∃ n : Nat, limit - r + 1 < n ∧ pk f cs limit n r = res
theorem PkAt.over {f : Int → Int → Int} {cs : List Cu} {limit res r : Int} (h : PkAt f cs limit res r) (hm : limit < cyMx f cs r) : res = limit + 1 := by
  obtain ⟨h1, h2, h3, n, h4, h5⟩ := h
  cases n with
  | zero => omega
  | succ n => rw [← h5]; simp only [pk, if_pos hm]
theorem PkAt.stay {f : Int → Int → Int} {cs : List Cu} {limit res r : Int} (h : PkAt f cs limit res r) (hm : ¬ limit < cyMx f cs r) (hs : cySt f cs r = r) : res = cyMx f cs r := by
  obtain ⟨h1, h2, h3, n, h4, h5⟩ := h
  cases n with
  | zero => omega
  | succ n => rw [← h5]; simp only [pk, if_neg hm, if_pos hs]
theorem PkAt.next {f : Int → Int → Int} {cs : List Cu} {limit res r : Int} (hf : ∀ a b x, a ≤ b → f a x ≤ f b x) (h : PkAt f cs limit res r) (hm : ¬ limit < cyMx f cs r) (hs : ¬ cySt f cs r = r) : PkAt f cs limit res (cySt f cs r) ∧ r < cySt f cs r := by
  obtain ⟨h1, h2, h3, n, h4, h5⟩ := h
  have hlt : r < cySt f cs r := by omega
  have h6 := cySt_le_Mx f cs r
  refine ⟨⟨by omega, by omega, stU_mono hf h3 _, ?_⟩, hlt⟩
  cases n with
  | zero => omega
  | succ n =>
    refine ⟨n, by omega, ?_⟩
    rw [← h5]; simp only [pk, if_neg hm, if_neg hs]
theorem PkAt.start {f : Int → Int → Int} {cs : List Cu} {limit : Int} (h0 : 0 ≤ limit) (hup : 0 ≤ cySt f cs 0) : PkAt f cs limit (pk f cs limit (limit.toNat + 2) 0) 0 :=
  ⟨Int.le_refl _, h0, hup, limit.toNat + 2, by omega, rfl⟩
theorem cySt_nonneg {g : Ga} (hg : g.Ok) {cs : List Cu} (hok : cycOk cs = true) {r : Int} (hr : 0 ≤ r) : 0 ≤ cySt (warmI g) cs r := (st_range hg hok hr _).1

theorem Cyc.grown {w w' : World} {B : Nat} {v : Value} {cs : List Cu} (h : Cyc w B v cs) (hg : w.grownBy w' (some B)) (hB : B ≤ w.heap.size) : Cyc w' B v cs :=
  h.keep fun b o hlt => World.cell?_of_block (hg.block b (by omega) (fun e => by injection e; omega))

set_option maxRecDepth 100000 in
theorem peak_any (bw : Nat) (g : Ga) (limit : Int) (v : Value) (cs : List Cu) (w : World) (hw : WireAt w bw g 0) (hok : cycOk cs = true) (h : Cyc w bw v cs) (hg : g.Ok) (hl0 : 0 ≤ limit) (hl1 : limit ≤ 1000) :
    Calls Try.prog 68 #[.iface 92 (.pointer (some ⟨bw, 0, none⟩)), v, .int .i64 limit] w fun e w' => e = .returned (.int .i64 (peakI g cs limit)) ∧ w.grownBy w' (some bw) := by
  have H := hide h
  obtain ⟨A0, cap0, rfl⟩ := h.form
  clear h
  have hbw := box_lt hw
  have hN := secsN_le hok
  have HOK := hide hok
  have HG := hide hg
  have HW := hide hw
  clear hok hg hw
  have m1 := warmWire
  conv at m1 =>
    enter [a, w, 1, 2, 4]
    whnf
  go_enter Try.func68, Try.ntmps68
  go_wp2
  go_loopg [] (limit.toNat + 1) (fun m wr => ∃ r : Int, Hid (m = (limit - r + 1).toNat) ∧ Hid (PkAt (warmI g) cs limit (peakI g cs limit) r) ∧ WireAt wr bw g r ∧ w.grownBy wr (some bw))
  case atStart => exact ⟨0, (by show _ = _; omega), PkAt.start hl0 (cySt_nonneg HG.out HOK.out (Int.le_refl _)), HW.out, only_refl _ _⟩
  case round =>
    obtain ⟨r, hm, hp, hwr, hgr⟩ := hrel
    have hp1 := hp.out.lo
    have hp2 := hp.out.hi
    have hbr := box_lt hwr
    have HWR := hide hwr
    have HGR := hide hgr
    clear hwr hgr
    have HC : Hid (Cyc wr bw (.slice A0 cs.length cap0) cs) := H.out.grown HGR.out (by omega)
    go_wp2_with fail
    refine (wireWarm_any bw g r _ HWR.out).mono ?_
    rintro e w1 ⟨rfl, rfl⟩
    go_wp2_with fail
    refine (long_any _ cs _ HOK.out (HC.out.more (by omega))).mono ?_
    rintro e w1 ⟨rfl, hB1⟩
    have HB1 := hide hB1
    clear hB1
    go_wp2_with fail
    refine (runWire_any bw g r _ _ cs w1 (box_to HWR.out HB1.out) (box_lt (box_to HWR.out HB1.out)) HOK.out (HC.out.below (HB1.out.mono (by omega))) (by omega) (by omega) HG.out.heat0 HG.out.heat1 HG.out.cool0 HG.out.cool1 hp1 (by omega)).mono ?_
    rw [Int.toNat_natCast]
    rintro e w2 ⟨rfl, hw2, hg2⟩
    have HW2 : Hid (WireAt w2 bw g (cySt (warmI g) cs r)) := hw2
    have HG2 := hide hg2
    clear hw2 hg2
    obtain ⟨mx, hmx⟩ : ∃ mx, runMx (warmI g) r (ups cs (secsN cs)) = mx := ⟨_, rfl⟩
    rw [hmx]
    have HMX : Hid (cyMx (warmI g) cs r = mx) := hmx
    clear hmx
    have HGA : Hid (w.grownBy w2 (some bw)) := only_trans HGR.out (by
      have h1 := HB1.out
      have h2 := HG2.out
      exact ⟨h2.os.trans h1.os, h2.tape.trans h1.tape, h2.output.trans h1.output, Nat.le_trans h1.size h2.size, fun i hi hne => (h2.block i (Nat.lt_of_lt_of_le hi h1.size) hne).trans (h1.block i hi)⟩)
    by_cases hov : limit < mx
    · go_wp2_with fail
      go_ret
      exact ⟨ret_int (hp.out.over (by rw [HMX.out]; exact hov)).symm, HGA.out⟩
    · obtain ⟨r2, hr2⟩ : ∃ r2, cySt (warmI g) cs r = r2 := ⟨_, rfl⟩
      have HW3 := HW2.out
      rw [hr2] at HW3
      have HW4 := hide HW3
      clear HW3
      have HR2 := hide hr2
      clear hr2
      by_cases hst : r2 = r
      · have hst1 : (r2 == r) = true := by simp [hst]
        have HST := hide hst
        clear hst
        go_wp2_with fail
        refine (wireWarm_any bw g r2 _ HW4.out).mono ?_
        rintro e w3 ⟨rfl, rfl⟩
        go_wp2_with fail
        go_ret
        exact ⟨ret_int (by rw [hp.out.stay (by rw [HMX.out]; omega) (HR2.out.trans HST.out), HMX.out]), HGA.out⟩
      · have hst1 : (r2 == r) = false := by simp [hst]
        go_wp2_with fail
        refine (wireWarm_any bw g r2 _ HW4.out).mono ?_
        rintro e w3 ⟨rfl, rfl⟩
        go_wp2_with fail
        have hnx := hp.out.next (warmI_mono g HG.out.cool0 HG.out.cool1) (by rw [HMX.out]; omega) (by rw [HR2.out]; exact hst)
        rw [HR2.out] at hnx
        go_roundg ((limit - r2 + 1).toNat)
        case rel => exact ⟨r2, rfl, hnx.1, HW4.out, HGA.out⟩
        case measure =>
          rw [hm.out]
          have := hnx.1.hi
          omega
end Go.Proofs.Ytejjjijaojkohaa

/- Part 1 of this claim's texts: walks and plain laws. -/
import Derived.Test.YtejjjijaojkohaaRows
import Derived.Test.YtejjjijaojkohaaGP0
import Derived.Deep.RegionHeld3
/- The rise of a wire: what the reference and the program compute: walks. -/
namespace Go.Proofs.Ytejjjijaojkohaa
open Go.RowKit
set_option linter.unusedVariables false

/-- The slice value v holds n integers, the first n of L, below block B. -/
def Ints (w : World) (B : Nat) (v : Value) (n : Nat) (L : List Int) : Prop := Sl w B 1 v n (fun i _ => .int .i64 (L.getD i 0))
theorem Ints.of_owns {w : World} {base n : Nat} {v : Value} {L : List Int} (h : w.ownsRow base 3 1 v n (L.map (Value.int .i64))) : Ints w w.heap.size v n L := by
  have hn : n = L.length := by have := h.1; simpa using this.symm
  subst hn
  refine Sl.of_owns h fun i j hi hj => ?_
  obtain rfl : j = 0 := by omega
  simp [hi]
theorem intAt {w wr : World} {B b off n : Nat} {A : Option Addr} {L : List Int} {k : Nat} (hB : Below B w wr) (hA : A = some ⟨b, off, none⟩ ∧ b < B ∨ n = 0)
    (hc : ∀ i j, i < n → j < 1 → w.cell? ⟨b, off + (i * 1 + j), none⟩ = some ((fun i _ => .int .i64 (L.getD i 0) : Nat → Nat → Value) i j)) (hlt : k < n) :
    ∃ z, Hid (L.getD k 0 = z) ∧ A = some ⟨b, off, none⟩ ∧ b < B ∧ wr.cell? ⟨b, off + k, none⟩ = some (.int .i64 z) := by
  rcases hA with ⟨hA1, hA2⟩ | hA1
  · refine ⟨_, rfl, hA1, hA2, (hB.cell (p := ⟨b, off + k, none⟩) hA2).trans ?_⟩
    have := hc k 0 hlt (by omega)
    rwa [Nat.mul_one, Nat.add_zero] at this
  · omega

theorem rwarm_any (g : Ga) (r i : Int) (w : World) (hh0 : 0 ≤ g.heat) (hh1 : g.heat ≤ 1000) (hc0 : 0 ≤ g.cool) (hc1 : g.cool ≤ 1024) (hr0 : 0 ≤ r) (hr1 : r ≤ 1000000000) (hi0 : 0 ≤ i) (hi1 : i ≤ 500) :
    Calls Try.prog 67 #[.agg #[.int .i64 g.area, .int .i64 g.ohm, .int .i64 g.heat, .int .i64 g.cool, .int .i64 g.limit], .int .i64 r, .int .i64 i] w fun e w' => e = .returned (.int .i64 (warmI g r i)) ∧ Below w.heap.size w w' := by
  obtain ⟨p1, p2⟩ := mul_range hi0 hi1 hi0 hi1
  obtain ⟨p3, p4⟩ := mul_range p1 p2 hh0 hh1
  obtain ⟨p5, p6⟩ := mul_range hr0 hr1 hc0 hc1
  go_enter Try.func67, Try.ntmps67
  go_wp2
  go_ret
  exact ⟨ret_int (by unfold warmI; omega), (by repeat (first | exact Below.refl _ _ | assumption | refine Below.drew ?_ | refine Below.drewN ?_ _ | refine Below.allocT ?_ (Nat.le_refl _) _ | refine Below.setCell ?_ (by simp <;> omega) _ | refine Below.to ?_ (by assumption) (Nat.le_refl _)))⟩

def riseErr (g : Ga) (cs : List Cu) (n : Int) : Int := if g.ok then if cycOk cs then if fromB n 0 10000 then 0 else 1 else 71 else 70
def riseVal (g : Ga) (cs : List Cu) (n : Int) : Int := if g.ok && cycOk cs && fromB n 0 10000 then runSt (warmI g) 0 (ups cs n.toNat) else 0

theorem ampAt_range {cs : List Cu} (hok : cycOk cs = true) (j : Nat) : 0 ≤ ampAt cs j ∧ ampAt cs j ≤ 500 := by
  have hp := secsN_pos hok
  have hm := Nat.mod_lt j hp
  unfold ampAt
  rw [← secsL_length] at hm
  have h : (secsL cs).getD (j % secsN cs) 0 ∈ secsL cs := by
    rw [← secsL_length]
    have h : (secsL cs).getD (j % (secsL cs).length) 0 = (secsL cs)[j % (secsL cs).length]'(by rw [secsL_length] at hm ⊢; exact hm) := by
      rw [List.getD_eq_getElem?_getD, List.getElem?_eq_getElem (by rw [secsL_length] at hm ⊢; exact hm)]
      rfl
    rw [h]; exact List.getElem_mem _
  unfold secsL at h
  rw [List.mem_flatMap] at h
  obtain ⟨c, hc, hx⟩ := h
  have := cycOk_cu hok hc
  rw [List.mem_replicate] at hx
  unfold secsL
  omega
theorem st_range {g : Ga} (hg : g.Ok) {cs : List Cu} (hok : cycOk cs = true) {r : Int} (hr : 0 ≤ r) (s : Nat) : 0 ≤ runSt (warmI g) r (ups cs s) ∧ runSt (warmI g) r (ups cs s) ≤ r + 61036 * s := by
  induction s with
  | zero => simp [ups, runSt]; omega
  | succ s ih =>
    rw [ups_succ, runSt_snoc]
    have ha := ampAt_range hok s
    have := warmI_range g (runSt (warmI g) r (ups cs s)) (ampAt cs s) hg.heat0 hg.heat1 hg.cool0 hg.cool1 ih.1 ha.1 ha.2
    omega

set_option maxRecDepth 100000 in
theorem rRise_any (g : Ga) (v : Value) (cs : List Cu) (n : Int) (w : World) (hn : cs.length ≤ 20) (h : Cyc w w.heap.size v cs) :
    Calls Try.prog 27 #[.agg #[.int .i64 g.area, .int .i64 g.ohm, .int .i64 g.heat, .int .i64 g.cool, .int .i64 g.limit], v, .int .i64 n] w fun e w' => e = .returned (.tuple #[.int .i64 (riseVal g cs n), .int .i64 (riseErr g cs n)]) ∧ Below w.heap.size w w' := by
  have H := hide h
  obtain ⟨A0, cap0, rfl⟩ := h.form
  clear h
  by_cases hg : g.ok = true
  · by_cases hok : cycOk cs = true
    · by_cases h1 : fromB n 0 10000 = true
      · have g1 := Ga.ok_iff.1 hg
        obtain ⟨n0, n1⟩ := fromB_iff.1 h1
        have HG := hide g1; clear g1
        have HOK := hide hok
        go_enter Try.func27, Try.ntmps27
        go_wp2_with (first
          | (go_at_call 51; refine (gauge_any g _).mono ?_; rw [hg]; rintro e w1 ⟨rfl, hB1⟩
             have hW1 : Below w.heap.size w w1 := (by repeat (first | exact Below.refl _ _ | assumption | refine Below.drew ?_ | refine Below.drewN ?_ _ | refine Below.allocT ?_ (Nat.le_refl _) _ | refine Below.setCell ?_ (by simp <;> omega) _ | refine Below.to ?_ (by assumption) (Nat.le_refl _)))
             have H1 : Cyc w1 w1.heap.size (.slice A0 cs.length cap0) cs := (H.out.below hW1).more hW1.size
             have H1 := hide H1)
          | (go_at_call 61; refine (cycled_any _ cs _ hn H1.out).mono ?_; rw [hok]; rintro e w2 ⟨rfl, hB2⟩
             have hW2 : Below w.heap.size w w2 := (by repeat (first | exact Below.refl _ _ | assumption | refine Below.drew ?_ | refine Below.drewN ?_ _ | refine Below.allocT ?_ (Nat.le_refl _) _ | refine Below.setCell ?_ (by simp <;> omega) _ | refine Below.to ?_ (by assumption) (Nat.le_refl _)))
             have H2 : Cyc w2 w2.heap.size (.slice A0 cs.length cap0) cs := (H.out.below hW2).more hW2.size
             have H2 := hide H2)
          | (go_at_call 52; refine (from_any _ _ _ _).mono ?_; rw [h1]; rintro e w' ⟨rfl, rfl⟩)
          | (go_at_call 66; refine (seconds_any _ cs _ HOK.out H2.out).mono ?_; rintro e w3 ⟨v3, rfl, hown, hB3⟩
             have hW3 : Below w.heap.size w w3 := (by repeat (first | exact Below.refl _ _ | assumption | refine Below.drew ?_ | refine Below.drewN ?_ _ | refine Below.allocT ?_ (Nat.le_refl _) _ | refine Below.setCell ?_ (by simp <;> omega) _ | refine Below.to ?_ (by assumption) (Nat.le_refl _)))
             have HO := hide hown
             clear hown))
        have hlenN := secsL_length cs
        have hposN := secsN_pos HOK.out
        have hleN := secsN_le HOK.out
        obtain ⟨m, rfl⟩ := Int.eq_ofNat_of_zero_le n0
        have hGb : w3.heap[w.heap.size]? = some (.cells #[.int .i64 g.area, .int .i64 g.ohm, .int .i64 g.heat, .int .i64 g.cool, .int .i64 g.limit] 23 (0, 0)) := by
          rw [hB3.block _ (by have := hB1.size; have := hB2.size; simp at *; omega), hB2.block _ (by have := hB1.size; simp at *; omega), hB1.block _ (by simp), heap_new _ _ _ rfl]
        have hs3 : w.heap.size < w3.heap.size := (Array.getElem?_eq_some_iff.1 hGb).1
        have hI := Ints.of_owns HO.out
        obtain ⟨A, b, off, cap, hv3, hcp, hA, hc⟩ := hI
        have HC := hide hc; clear hc
        have HA := hide hA; clear hA
        have HGB := hide hGb; clear hGb
        rw [hv3]
        clear hB1 hB2 hB3 H1 H2 hv3 hlenN hcp
        clear H1 H2
        go_loopw [9, 10] (fun r s wr => ∃ (k : Nat) (x : Int), k ≤ m ∧ 0 ≤ x ∧ x ≤ 61036 * k ∧ s = .int .i64 k ∧ r = .int .i64 x ∧ Hid (runSt (warmI g) 0 (ups cs k) = x) ∧ Below w3.heap.size w3 wr) (fun _ s _ => m - (intOf s).toNat)
        case atStart => exact ⟨0, 0, Nat.zero_le _, by omega, by omega, rfl, rfl, rfl, Below.refl _ _⟩
        case round =>
          obtain ⟨k, x, hk, hx0, hx1, rfl, rfl, hx, hB⟩ := hrel
          by_cases hlt : k < m
          · obtain ⟨p, hp, hpl, htm, hN0⟩ : ∃ p, Hid (k % secsN cs = p) ∧ p < secsN cs ∧ Int.tmod (k : Int) (secsN cs : Int) = (p : Int) ∧ ¬ secsN cs = 0 :=
              ⟨_, rfl, Nat.mod_lt _ hposN, by rw [Int.tmod_eq_emod_of_nonneg (by omega)]; rfl, by omega⟩
            obtain ⟨z, hz, hA1, hA2, hcz⟩ := intAt (k := p) hB HA.out HC.out hpl
            subst hA1
            have hG := (hB.block _ hs3).trans HGB.out
            have q0 := cellOf hG 0
            have q1 := cellOf hG 1
            have q2 := cellOf hG 2
            have q3 := cellOf hG 3
            have q4 := cellOf hG 4
            clear hG
            go_wp2
            go_still_tail 9, (by kernel_rfl)
            change wpList _ _ _ _ _ wr.drew
            have hz2 : ampAt cs k = z := by unfold ampAt; rw [hp.out]; exact hz.out
            have hzr := ampAt_range HOK.out k
            rw [hz2] at hzr
            obtain ⟨hz3, hz4⟩ := hzr
            have HZ2 := hide hz2
            clear hz2
            have g1 := HG.out
            go_wp2_with (go_at_call 67; refine (rwarm_any g x z _ g1.heat0 g1.heat1 g1.cool0 g1.cool1 hx0 (by omega) hz3 hz4).mono ?_; rintro e w' ⟨rfl, hB4⟩)
            have hrg := warmI_range g x z g1.heat0 g1.heat1 g1.cool0 g1.cool1 hx0 hz3 hz4
            go_roundw
            case rel => exact ⟨k + 1, warmI g x z, by omega, hrg.1, by omega, by go_num, rfl, by show _ = _; rw [ups_succ, runSt_snoc, hx.out, HZ2.out], Below.to hB (show Below wr.heap.size wr w' from ⟨hB4.os, hB4.tape, hB4.output, hB4.size, hB4.block⟩) (Nat.le_refl _)⟩
            case measure => simp [intOf]; omega
          · go_wp2
            go_ret2
            have hkm : k = m := by omega
            subst hkm
            exact ⟨by simp [riseVal, riseErr, hg, hok, h1]; exact hx.out.symm, hW3.trans (hB.mono hW3.size)⟩
      · go_enter Try.func27, Try.ntmps27
        go_wp2_with (first
          | (go_at_call 51; refine (gauge_any g _).mono ?_; rw [hg]; rintro e w1 ⟨rfl, hB1⟩
             have hW1 : Below w.heap.size w w1 := (by repeat (first | exact Below.refl _ _ | assumption | refine Below.drew ?_ | refine Below.drewN ?_ _ | refine Below.allocT ?_ (Nat.le_refl _) _ | refine Below.setCell ?_ (by simp <;> omega) _ | refine Below.to ?_ (by assumption) (Nat.le_refl _)))
             have H1 : Cyc w1 w1.heap.size (.slice A0 cs.length cap0) cs := (H.out.below hW1).more hW1.size
             have H1 := hide H1)
          | (go_at_call 61; refine (cycled_any _ cs _ hn H1.out).mono ?_; rw [hok]; rintro e w2 ⟨rfl, hB2⟩
             have hW2 : Below w.heap.size w w2 := (by repeat (first | exact Below.refl _ _ | assumption | refine Below.drew ?_ | refine Below.drewN ?_ _ | refine Below.allocT ?_ (Nat.le_refl _) _ | refine Below.setCell ?_ (by simp <;> omega) _ | refine Below.to ?_ (by assumption) (Nat.le_refl _))))
          | (go_at_call 52; refine (from_any _ _ _ _).mono ?_; rintro e w' ⟨rfl, rfl⟩))
        go_ret2
        exact ⟨by simp [riseVal, riseErr, hg, hok, h1], hW2⟩
    · have hok' : cycOk cs = false := by simpa using hok
      go_enter Try.func27, Try.ntmps27
      go_wp2_with (first
          | (go_at_call 51; refine (gauge_any g _).mono ?_; rw [hg]; rintro e w1 ⟨rfl, hB1⟩
             have hW1 : Below w.heap.size w w1 := (by repeat (first | exact Below.refl _ _ | assumption | refine Below.drew ?_ | refine Below.drewN ?_ _ | refine Below.allocT ?_ (Nat.le_refl _) _ | refine Below.setCell ?_ (by simp <;> omega) _ | refine Below.to ?_ (by assumption) (Nat.le_refl _)))
             have H1 : Cyc w1 w1.heap.size (.slice A0 cs.length cap0) cs := (H.out.below hW1).more hW1.size
             have H1 := hide H1)
          | (go_at_call 61; refine (cycled_any _ cs _ hn H1.out).mono ?_; rw [hok']; rintro e w2 ⟨rfl, hB2⟩
             have hW2 : Below w.heap.size w w2 := (by repeat (first | exact Below.refl _ _ | assumption | refine Below.drew ?_ | refine Below.drewN ?_ _ | refine Below.allocT ?_ (Nat.le_refl _) _ | refine Below.setCell ?_ (by simp <;> omega) _ | refine Below.to ?_ (by assumption) (Nat.le_refl _)))))
      go_ret2
      exact ⟨by simp [riseVal, riseErr, hg, hok], hW2⟩
  · have hg' : g.ok = false := by simpa using hg
    go_enter Try.func27, Try.ntmps27
    go_wp2_with (go_at_call 51; refine (gauge_any g _).mono ?_; rw [hg']; rintro e w1 ⟨rfl, hB1⟩
                 have hW1 : Below w.heap.size w w1 := (by repeat (first | exact Below.refl _ _ | assumption | refine Below.drew ?_ | refine Below.drewN ?_ _ | refine Below.allocT ?_ (Nat.le_refl _) _ | refine Below.setCell ?_ (by simp <;> omega) _ | refine Below.to ?_ (by assumption) (Nat.le_refl _))))
    go_ret2
    exact ⟨by simp [riseVal, riseErr, hg], hW1⟩

theorem errors2v (b : Nat) (x y z : Int) (w : World) (h0 : w.cell? ⟨b, 0, none⟩ = some (.int .i64 x)) (h1 : w.cell? ⟨b, 1, none⟩ = some (.int .i64 y)) (hz : (if x = 0 then y else x) = z) :
    Calls Try.prog 58 #[.slice (some ⟨b, 0, none⟩) 2 2] w fun e w' => e = .returned (.int .i64 z) ∧ w = w' := hz ▸ errors2_any b x y w h0 h1
theorem errors3v (b : Nat) (x y z r : Int) (w : World) (h0 : w.cell? ⟨b, 0, none⟩ = some (.int .i64 x)) (h1 : w.cell? ⟨b, 1, none⟩ = some (.int .i64 y)) (h2 : w.cell? ⟨b, 2, none⟩ = some (.int .i64 z)) (hr : (if x = 0 then if y = 0 then z else y else x) = r) :
    Calls Try.prog 58 #[.slice (some ⟨b, 0, none⟩) 3 3] w fun e w' => e = .returned (.int .i64 r) ∧ w = w' := hr ▸ errors3_any b x y z w h0 h1 h2
theorem errors4v (b : Nat) (x y z u r : Int) (w : World) (h0 : w.cell? ⟨b, 0, none⟩ = some (.int .i64 x)) (h1 : w.cell? ⟨b, 1, none⟩ = some (.int .i64 y)) (h2 : w.cell? ⟨b, 2, none⟩ = some (.int .i64 z)) (h3 : w.cell? ⟨b, 3, none⟩ = some (.int .i64 u)) (hr : (if x = 0 then if y = 0 then if z = 0 then u else z else y else x) = r) :
    Calls Try.prog 58 #[.slice (some ⟨b, 0, none⟩) 4 4] w fun e w' => e = .returned (.int .i64 r) ∧ w = w' := hr ▸ errors4_any b x y z u w h0 h1 h2 h3

theorem gaugeI (g : Ga) (h : g.ok = true) : (if g.ok = true then (0 : Int) else 70) = 0 := if_pos h
theorem cycI {cs : List Cu} (h : cycOk cs = true) : cycErr cs = 0 := if_pos h
theorem cycI' {cs : List Cu} (h : ¬ cycOk cs = true) : cycErr cs = 71 := if_neg h

set_option maxRecDepth 100000 in
theorem Rise_any (g : Ga) (v : Value) (cs : List Cu) (n : Int) (w : World) (hn : cs.length ≤ 20) (h : Cyc w w.heap.size v cs) :
    Calls Try.prog 26 #[.agg #[.int .i64 g.area, .int .i64 g.ohm, .int .i64 g.heat, .int .i64 g.cool, .int .i64 g.limit], v, .int .i64 n] w fun e w' => e = .returned (.tuple #[.int .i64 (riseVal g cs n), .int .i64 (riseErr g cs n)]) ∧ Below w.heap.size w w' := by
  have H := hide h
  obtain ⟨A0, cap0, rfl⟩ := h.form
  clear h
  by_cases hg : g.ok = true
  · have hgi := gaugeI g hg
    by_cases hok : cycOk cs = true
    · have hci := cycI hok
      by_cases h1 : fromB n 0 10000 = true
      · have g1 := Ga.ok_iff.1 hg
        obtain ⟨n0, n1⟩ := fromB_iff.1 h1
        have HG := hide g1; clear g1
        have HOK := hide hok
        go_enter Try.func26, Try.ntmps26
        go_wp2_with (first
          | (go_at_call 48; refine (checkGauge_any g _).mono ?_; rw [hgi]; rintro e w1 ⟨rfl, hB1⟩
             have hW1 : Below w.heap.size w w1 := (by repeat (first | exact Below.refl _ _ | assumption | refine Below.drew ?_ | refine Below.drewN ?_ _ | refine Below.allocT ?_ (Nat.le_refl _) _ | refine Below.setCell ?_ (by simp <;> omega) _ | refine Below.to ?_ (by assumption) (Nat.le_refl _)))
             have H1 : Cyc w1 w1.heap.size (.slice A0 cs.length cap0) cs := (H.out.below hW1).more hW1.size
             have H1 := hide H1
             have hb1 := box_at hB1
             have q10 := cellOf hb1 0; have q11 := cellOf hb1 1; have q12 := cellOf hb1 2; have q13 := cellOf hb1 3; have q14 := cellOf hb1 4; have q1l := box_lt hb1; have q1h := hide hb1; clear hb1)
          | (go_at_call 59; refine (checkCycle_any _ cs _ hn H1.out).mono ?_; rw [hci]; rintro e w2 ⟨rfl, hB2⟩
             have hW2 : Below w.heap.size w w2 := (by repeat (first | exact Below.refl _ _ | assumption | refine Below.drew ?_ | refine Below.drewN ?_ _ | refine Below.allocT ?_ (Nat.le_refl _) _ | refine Below.setCell ?_ (by simp <;> omega) _ | refine Below.to ?_ (by assumption) (Nat.le_refl _)))
             have H2 : Cyc w2 w2.heap.size (.slice A0 cs.length cap0) cs := (H.out.below hW2).more hW2.size
             have H2 := hide H2
             have hb2 := box_to q1h.out hB2
             have q20 := cellOf hb2 0; have q21 := cellOf hb2 1; have q22 := cellOf hb2 2; have q23 := cellOf hb2 3; have q24 := cellOf hb2 4; have q2l := box_lt hb2; have q2h := hide hb2; clear hb2)
          | (go_at_call 58; refine (errors2v _ 0 0 0 _ (by simp) (by simp) (by simp)).mono ?_; rintro e w3 ⟨rfl, rfl⟩)
          | (go_at_call 49; refine (within_any _ _ _ _).mono ?_; rw [h1]; rintro e w' ⟨rfl, rfl⟩))
        refine (runWire_any (w2.heap.size + 1) g 0 n _ cs _ (heap_new _ _ _ (by simp)) (by simp) HOK.out (((H2.out.below (Below.allocT (Below.allocT (Below.refl _ _) (Nat.le_refl _) _) (Nat.le_refl _) _)).more (by omega))) n0 n1 HG.out.heat0 HG.out.heat1 HG.out.cool0 HG.out.cool1 (by omega) (by omega)).mono ?_
        rintro e w5 ⟨rfl, hwa, hgr⟩
        have c5 : w5.cell? ⟨w2.heap.size + 1, 5, none⟩ = some (.int .i64 (runSt (warmI g) 0 (ups cs n.toNat))) := cellOf hwa 5
        clear hwa
        have HGR := hide hgr
        clear hgr
        go_wp2
        go_ret2
        refine ⟨by simp [riseVal, riseErr, hg, hok, h1], ?_⟩
        exact below_only (Below.allocT (Below.allocT hW2 (Nat.le_refl _) _) (Nat.le_refl _) _) HGR.out (by have := hW2.size; omega)
      · go_enter Try.func26, Try.ntmps26
        go_wp2_with (first
          | (go_at_call 48; refine (checkGauge_any g _).mono ?_; rw [hgi]; rintro e w1 ⟨rfl, hB1⟩
             have hW1 : Below w.heap.size w w1 := (by repeat (first | exact Below.refl _ _ | assumption | refine Below.drew ?_ | refine Below.drewN ?_ _ | refine Below.allocT ?_ (Nat.le_refl _) _ | refine Below.setCell ?_ (by simp <;> omega) _ | refine Below.to ?_ (by assumption) (Nat.le_refl _)))
             have H1 : Cyc w1 w1.heap.size (.slice A0 cs.length cap0) cs := (H.out.below hW1).more hW1.size
             have H1 := hide H1)
          | (go_at_call 59; refine (checkCycle_any _ cs _ hn H1.out).mono ?_; rw [hci]; rintro e w2 ⟨rfl, hB2⟩
             have hW2 : Below w.heap.size w w2 := (by repeat (first | exact Below.refl _ _ | assumption | refine Below.drew ?_ | refine Below.drewN ?_ _ | refine Below.allocT ?_ (Nat.le_refl _) _ | refine Below.setCell ?_ (by simp <;> omega) _ | refine Below.to ?_ (by assumption) (Nat.le_refl _))))
          | (go_at_call 58; refine (errors2v _ 0 0 0 _ (by simp) (by simp) (by simp)).mono ?_; rintro e w3 ⟨rfl, rfl⟩)
          | (go_at_call 49; refine (within_any _ _ _ _).mono ?_; rintro e w' ⟨rfl, rfl⟩))
        go_ret2
        exact ⟨by simp [riseVal, riseErr, hg, hok, h1], (by repeat (first | exact Below.refl _ _ | assumption | refine Below.drew ?_ | refine Below.drewN ?_ _ | refine Below.allocT ?_ (Nat.le_refl _) _ | refine Below.setCell ?_ (by simp <;> omega) _ | refine Below.to ?_ (by assumption) (Nat.le_refl _)))⟩
    · have hci := cycI' hok
      go_enter Try.func26, Try.ntmps26
      go_wp2_with (first
          | (go_at_call 48; refine (checkGauge_any g _).mono ?_; rw [hgi]; rintro e w1 ⟨rfl, hB1⟩
             have hW1 : Below w.heap.size w w1 := (by repeat (first | exact Below.refl _ _ | assumption | refine Below.drew ?_ | refine Below.drewN ?_ _ | refine Below.allocT ?_ (Nat.le_refl _) _ | refine Below.setCell ?_ (by simp <;> omega) _ | refine Below.to ?_ (by assumption) (Nat.le_refl _)))
             have H1 : Cyc w1 w1.heap.size (.slice A0 cs.length cap0) cs := (H.out.below hW1).more hW1.size
             have H1 := hide H1)
          | (go_at_call 59; refine (checkCycle_any _ cs _ hn H1.out).mono ?_; rw [hci]; rintro e w2 ⟨rfl, hB2⟩
             have hW2 : Below w.heap.size w w2 := (by repeat (first | exact Below.refl _ _ | assumption | refine Below.drew ?_ | refine Below.drewN ?_ _ | refine Below.allocT ?_ (Nat.le_refl _) _ | refine Below.setCell ?_ (by simp <;> omega) _ | refine Below.to ?_ (by assumption) (Nat.le_refl _))))
          | (go_at_call 58; refine (errors2v _ 0 71 71 _ (by simp) (by simp) (by simp)).mono ?_; rintro e w3 ⟨rfl, rfl⟩))
      go_ret2
      exact ⟨by simp [riseVal, riseErr, hg, hok], (by repeat (first | exact Below.refl _ _ | assumption | refine Below.drew ?_ | refine Below.drewN ?_ _ | refine Below.allocT ?_ (Nat.le_refl _) _ | refine Below.setCell ?_ (by simp <;> omega) _ | refine Below.to ?_ (by assumption) (Nat.le_refl _)))⟩
  · have hgi : (if g.ok = true then (0 : Int) else 70) = 70 := if_neg hg
    obtain ⟨ce, hce⟩ : ∃ ce, cycErr cs = ce := ⟨_, rfl⟩
    go_enter Try.func26, Try.ntmps26
    go_wp2_with (first
          | (go_at_call 48; refine (checkGauge_any g _).mono ?_; rw [hgi]; rintro e w1 ⟨rfl, hB1⟩
             have hW1 : Below w.heap.size w w1 := (by repeat (first | exact Below.refl _ _ | assumption | refine Below.drew ?_ | refine Below.drewN ?_ _ | refine Below.allocT ?_ (Nat.le_refl _) _ | refine Below.setCell ?_ (by simp <;> omega) _ | refine Below.to ?_ (by assumption) (Nat.le_refl _)))
             have H1 : Cyc w1 w1.heap.size (.slice A0 cs.length cap0) cs := (H.out.below hW1).more hW1.size
             have H1 := hide H1)
          | (go_at_call 59; refine (checkCycle_any _ cs _ hn H1.out).mono ?_; rw [hce]; rintro e w2 ⟨rfl, hB2⟩
             have hW2 : Below w.heap.size w w2 := (by repeat (first | exact Below.refl _ _ | assumption | refine Below.drew ?_ | refine Below.drewN ?_ _ | refine Below.allocT ?_ (Nat.le_refl _) _ | refine Below.setCell ?_ (by simp <;> omega) _ | refine Below.to ?_ (by assumption) (Nat.le_refl _))))
          | (go_at_call 58; refine (errors2v _ 70 ce 70 _ (by simp) (by simp) (by simp)).mono ?_; rintro e w3 ⟨rfl, rfl⟩))
    go_ret2
    exact ⟨by simp [riseVal, riseErr, hg], (by repeat (first | exact Below.refl _ _ | assumption | refine Below.drew ?_ | refine Below.drewN ?_ _ | refine Below.allocT ?_ (Nat.le_refl _) _ | refine Below.setCell ?_ (by simp <;> omega) _ | refine Below.to ?_ (by assumption) (Nat.le_refl _)))⟩
end Go.Proofs.Ytejjjijaojkohaa
/- The look at an example: works returns true: a walk. -/
namespace Go.Proofs.Ytejjjijaojkohaa
open Go.RowKit
set_option linter.unusedVariables false

theorem worksR : riseVal ⟨100, 20, 512, 128, 90⟩ [⟨10, 1⟩] 6 = 54 ∧ riseErr ⟨100, 20, 512, 128, 90⟩ [⟨10, 1⟩] 6 = 0 := by decide +kernel
theorem worksB : blowN ⟨9, 100⟩ 10 = 100 ∧ blowD ⟨9, 100⟩ 10 = 19 ∧ blowErr ⟨9, 100⟩ 10 = 0 := by decide +kernel

theorem cyc_one {w : World} {k : Nat} {a s : Int} {t : TypeId} (h : w.heap[k]? = some (.cells #[.int .i64 a, .int .i64 s] t (0, 0))) : Cyc w w.heap.size (.slice (some ⟨k, 0, none⟩) 1 1) [⟨a, s⟩] := by
  refine ⟨_, k, 0, 1, rfl, Nat.le_refl _, .inl ⟨rfl, box_lt h⟩, fun i j hi hj => ?_⟩
  have hi0 : i = 0 := by have : i < 1 := hi; omega
  subst hi0
  rw [cellOf h]
  match j, hj with
  | 0, _ => rfl
  | 1, _ => rfl

/-- Block b holds a gauge's numbers. -/
def GaugeAt (w : World) (b : Nat) (g : Ga) : Prop := w.heap[b]? = some (.cells #[.int .i64 g.area, .int .i64 g.ohm, .int .i64 g.heat, .int .i64 g.cool, .int .i64 g.limit] 23 (0, 0))
theorem gauge5 {w0 w1 : World} {b : Nat} {g : Ga} (h : GaugeAt w0 b g) (hB : Below w0.heap.size w0 w1) :
    w1.cell? ⟨b, 0, none⟩ = some (.int .i64 g.area) ∧ w1.cell? ⟨b, 1, none⟩ = some (.int .i64 g.ohm) ∧ w1.cell? ⟨b, 2, none⟩ = some (.int .i64 g.heat) ∧ w1.cell? ⟨b, 3, none⟩ = some (.int .i64 g.cool) ∧ w1.cell? ⟨b, 4, none⟩ = some (.int .i64 g.limit) ∧ Below w0.heap.size w0 w1 :=
  ⟨cellOf (box_to h hB) 0, cellOf (box_to h hB) 1, cellOf (box_to h hB) 2, cellOf (box_to h hB) 3, cellOf (box_to h hB) 4, hB⟩

theorem works_any (w : World) :
    Calls Try.prog 17 #[] w fun e w' => e = .returned (.bool true) ∧ Below w.heap.size w w' := by
  obtain ⟨r1, r2⟩ := worksR
  obtain ⟨b1, b2, b3⟩ := worksB
  have HR1 := hide r1
  have HR2 := hide r2
  have HB1 := hide b1
  have HB2 := hide b2
  have HB3 := hide b3
  clear r1 r2 b1 b2 b3
  go_enter Try.func17, Try.ntmps17
  go_wp2_with fail
  refine (Rise_any ⟨100, 20, 512, 128, 90⟩ _ [⟨10, 1⟩] 6 _ (by simp) (cyc_one (heap_new _ _ _ (by simp)))).mono ?_
  rw [HR1.out, HR2.out]
  rintro e w1 ⟨rfl, hB⟩
  have hW1 : Below w.heap.size w w1 := (by repeat (first | exact Below.refl _ _ | assumption | refine Below.drew ?_ | refine Below.drewN ?_ _ | refine Below.allocT ?_ (Nat.le_refl _) _ | refine Below.setCell ?_ (by simp <;> omega) _ | refine Below.to ?_ (by assumption) (Nat.le_refl _)))
  go_wp2_with (go_at_call 19; refine (Blow_any ⟨9, 100⟩ 10 _).mono ?_; rw [HB1.out, HB2.out, HB3.out]; rintro e w2 ⟨rfl, hB2⟩)
  go_ret
  exact ⟨rfl, (by repeat (first | exact Below.refl _ _ | assumption | refine Below.drew ?_ | refine Below.drewN ?_ _ | refine Below.allocT ?_ (Nat.le_refl _) _ | refine Below.setCell ?_ (by simp <;> omega) _ | refine Below.to ?_ (by assumption) (Nat.le_refl _)))⟩
end Go.Proofs.Ytejjjijaojkohaa
/- The arguments of the laws about wires, opened: no condition. -/
namespace Go.Proofs.Ytejjjijaojkohaa
open Go.Joins Go.ChangeShapes Go.WideShapes Go.ChangeAt Go.RowKit Go.Deep
set_option maxRecDepth 100000
section
variable {H : Type} {enc : TypeId × Value → H} {W : World} {base b0 : Nat} {r : Reach} {spare : Nat → Bool} {held : Bool} {v : Value} {d : DataW H} {p : List MemPlace}

def I64 (n : Int) : Prop := -9223372036854775808 ≤ n ∧ n ≤ 9223372036854775807
theorem I64.of {n : Int} (h : (Lit.int .i64 n).wf = true) : I64 n := by
  simp [Lit.wf, IntKind.min, IntKind.max, IntKind.signed, IntKind.bits] at h
  exact ⟨by omega, by omega⟩
theorem int_cell {n : Nat} {c : Value} {y : DataW H × List MemPlace} (h : DataW.trod enc Try.prog W base spare held n 3 [c] = some y) : ∃ a, c = .int .i64 a ∧ I64 a := by
  obtain ⟨a, e0, _, wa⟩ := DataW.trod_int Try.underlying3 h
  simp at e0
  exact ⟨a, e0, I64.of wa⟩

theorem open_gauge (hv : Value.okWide Try.prog W r b0 23 v) (h : DataW.Trod enc Try.prog W base spare held 23 v d p) :
    ∃ g : Ga, v = .agg #[.int .i64 g.area, .int .i64 g.ohm, .int .i64 g.heat, .int .i64 g.cool, .int .i64 g.limit] := by
  obtain ⟨c0, c1, c2, c3, c4, y0, y1, y2, y3, y4, m, rfl, _, _, hy0, hy1, hy2, hy3, hy4⟩ := open_agg5 Try.underlying23 (by kernel_rfl) (by kernel_rfl) hv h
  obtain ⟨a0, rfl, _⟩ := int_cell hy0
  obtain ⟨a1, rfl, _⟩ := int_cell hy1
  obtain ⟨a2, rfl, _⟩ := int_cell hy2
  obtain ⟨a3, rfl, _⟩ := int_cell hy3
  obtain ⟨a4, rfl, _⟩ := int_cell hy4
  exact ⟨⟨a0, a1, a2, a3, a4⟩, rfl⟩
theorem open_fuse (hv : Value.okWide Try.prog W r b0 30 v) (h : DataW.Trod enc Try.prog W base spare held 30 v d p) :
    ∃ f : Fu, v = .agg #[.int .i64 f.rating, .int .i64 f.melt] := by
  obtain ⟨c0, c1, y0, y1, m, rfl, _, _, hy0, hy1⟩ := open_agg2 Try.underlying30 (by kernel_rfl) (by kernel_rfl) hv h
  obtain ⟨a0, rfl, _⟩ := int_cell hy0
  obtain ⟨a1, rfl, _⟩ := int_cell hy1
  exact ⟨⟨a0, a1⟩, rfl⟩
theorem open_i64 (hv : Value.okWide Try.prog W r b0 3 v) (h : DataW.Trod enc Try.prog W base spare held 3 v d p) : ∃ a, v = .int .i64 a ∧ I64 a := by
  obtain ⟨a, rfl, _, _, wa⟩ := open_int Try.underlying3 hv h
  exact ⟨a, rfl, I64.of wa⟩

instance : Inhabited Cu := ⟨Cu.z⟩
/-- Where a slice's first cell was read there is a block, and the address names no part of a cell. -/
theorem cell_addr0 {a : Addr} {u : Value} (h : W.cell? (a.add 0) = some u) : a.spot = none ∧ a.block < W.heap.size := by
  have h' : W.cell? a = some u := h
  unfold World.cell? at h'
  cases hh : W.heap[a.block]? with
  | none => rw [hh] at h'; cases h'
  | some o =>
    refine ⟨?_, (Array.getElem?_eq_some_iff.1 hh).1⟩
    rw [hh] at h'
    cases o with
    | cells c t f =>
      simp only at h'
      cases hsp : a.spot with
      | none => rfl
      | some q => rw [if_pos (by simp [hsp])] at h'; cases h'
    | _ => cases h'
theorem cell_addr {a : Addr} {m : Nat} {u : Value} (hs : a.spot = none) (h : W.cell? (a.add m) = some u) : W.cell? ⟨a.block, a.off + m, none⟩ = some u := by
  obtain ⟨b, o, s⟩ := a
  simp only at hs
  subst hs
  unfold Addr.add at h
  split at h
  · rename_i h0
    rw [h0]; exact h
  · exact h

theorem open_cycle (hv : Value.okWide Try.prog W r b0 31 v) (h : DataW.Trod enc Try.prog W base spare held 31 v d p) :
    ∃ cs : List Cu, Cyc W W.heap.size v cs ∧ cs.length ≤ maxLen ∧ ∀ c ∈ cs, I64 c.amps ∧ I64 c.secs := by
  obtain ⟨a0, len, cap, rfl⟩ := okWide_slice Try.underlying31 hv
  obtain ⟨fuel, hf⟩ := h
  rcases open_slice_fields Try.underlying31 Try.underlying54 (by kernel_rfl) (by kernel_rfl) hf with ⟨hcs, _⟩ | ⟨a, len', cap', m, D, Pl, hcs, _, hl, hm, hmm, _, hel⟩
  · simp [Value.cells] at hcs
    obtain ⟨rfl, rfl, rfl⟩ := hcs
    exact ⟨[], Sl.nil _ _ _ _, by simp, by simp⟩
  · simp [Value.cells] at hcs
    obtain ⟨rfl, rfl, rfl⟩ := hcs
    have hlm : len ≤ m := by rw [hmm]; split <;> omega
    have hel2 : ∀ i, i < len → ∃ c : Cu, W.cell? (a.add (i * 2 + 0)) = some (.int .i64 c.amps) ∧ W.cell? (a.add (i * 2 + 1)) = some (.int .i64 c.secs) ∧ I64 c.amps ∧ I64 c.secs := by
      intro i hi
      obtain ⟨ys, n, _, _, _, hfd⟩ := hel i (by omega)
      obtain ⟨u0, y0, hc0, _, ht0⟩ := hfd 0 _ rfl
      obtain ⟨u1, y1, hc1, _, ht1⟩ := hfd 1 _ rfl
      obtain ⟨x0, rfl, w0⟩ := int_cell ht0
      obtain ⟨x1, rfl, w1⟩ := int_cell ht1
      exact ⟨⟨x0, x1⟩, hc0, hc1, w0, w1⟩
    obtain ⟨F, hF⟩ := choose_lt (α := Cu) hel2
    refine ⟨(List.range len).map F, ?_, by simp; omega, ?_⟩
    · have hlen : ((List.range len).map F).length = len := by simp
      have hget : ∀ i, i < len → ((List.range len).map F).getD i Cu.z = F i := fun i hi => by simp [hi]
      unfold Cyc
      rw [hlen]
      rcases Nat.eq_zero_or_pos len with h0 | h0
      · exact ⟨_, 0, 0, _, rfl, hl, .inr h0, fun i j hi => absurd hi (by omega)⟩
      · obtain ⟨hs, hb⟩ := cell_addr0 (hF 0 h0).1
        refine ⟨_, a.block, a.off, _, rfl, hl, .inl ⟨by rw [← hs], hb⟩, fun i j hi hj => ?_⟩
        have h2 := hF i hi
        unfold cyF
        rw [hget i hi]
        match j, hj with
        | 0, _ => exact cell_addr hs h2.1
        | 1, _ => exact cell_addr hs h2.2.1
    · intro c hc
      obtain ⟨i, hi, rfl⟩ := List.mem_map.1 hc
      have := hF i (by simpa using hi)
      exact this.2.2
end
end Go.Proofs.Ytejjjijaojkohaa
/- The greatest current of a cycle: walks of both. -/
namespace Go.Proofs.Ytejjjijaojkohaa
open Go.RowKit
set_option linter.unusedVariables false
set_option linter.unusedSimpArgs false

/-- The greatest current of the first k parts of a cycle. -/
def maxTo (cs : List Cu) : Nat → Int
  | 0 => 0
  | k + 1 => max (maxTo cs k) (cs.getD k Cu.z).amps
def gtI (cs : List Cu) : Int := maxTo cs cs.length
theorem maxTo_range {cs : List Cu} (hok : cycOk cs = true) : ∀ k, k ≤ cs.length → 0 ≤ maxTo cs k ∧ maxTo cs k ≤ 500
  | 0, _ => by simp [maxTo]
  | k + 1, h => by
    have h1 := maxTo_range hok k (by omega)
    have h2 : (cs.getD k Cu.z) ∈ cs := by
      rw [List.getD_eq_getElem?_getD, List.getElem?_eq_getElem (by omega)]
      exact List.getElem_mem _
    have h3 := cycOk_cu hok h2
    unfold maxTo
    omega
theorem gtI_range {cs : List Cu} (hok : cycOk cs = true) : 0 ≤ gtI cs ∧ gtI cs ≤ 500 := maxTo_range hok _ (Nat.le_refl _)

theorem rgreatest_any (v : Value) (cs : List Cu) (w : World) (hok : cycOk cs = true) (h : Cyc w w.heap.size v cs) :
    Calls Try.prog 83 #[v] w fun e w' => e = .returned (.int .i64 (gtI cs)) ∧ Below w.heap.size w w' := by
  obtain ⟨A, b, off, cap, rfl, hnc, hA, hc⟩ := h
  have HC := hide hc; clear hc
  have HA := hide hA; clear hA
  have HOK := hide hok; clear hok
  have hlen := (cycOk_len HOK.out).2
  go_enter Try.func83, Try.ntmps83
  go_wp2
  go_loop [3, 4] (fun n i => ∃ (k : Nat) (x : Int), k ≤ cs.length ∧ i = .int .i64 k ∧ n = .int .i64 x ∧ Hid (maxTo cs k = x)) (fun _ i => cs.length - (intOf i).toNat)
  case atStart => exact ⟨0, 0, Nat.zero_le _, rfl, rfl, rfl⟩
  case round =>
    obtain ⟨k, x, hk, rfl, rfl, hx⟩ := hrel
    by_cases hlt : k < cs.length
    · obtain ⟨c, HZ, hA1, h0, h1⟩ := cyAt (Below.refl _ w) HA.out HC.out hlt
      subst hA1
      go_wp2
      go_round
      case rel => exact ⟨k + 1, max x c.amps, by omega, by go_num, congrArg (Value.int IntKind.i64) (by first | rfl | omega | (split <;> omega)), (by show _ = _; rw [show maxTo cs (k + 1) = max (maxTo cs k) (cs.getD k Cu.z).amps from rfl, hx.out, HZ.out])⟩
      case measure => simp [intOf]; omega
    · go_wp2
      go_ret
      exact ⟨ret_int (by rw [← hx.out, show k = cs.length by omega]; rfl), (by repeat (first | exact Below.refl _ _ | assumption | refine Below.drew ?_ | refine Below.drewN ?_ _ | refine Below.allocT ?_ (Nat.le_refl _) _ | refine Below.setCell ?_ (by simp <;> omega) _ | refine Below.to ?_ (by assumption) (Nat.le_refl _)))⟩

def cmpI (a b : Int) : Int := if a < b then -1 else if b < a then 1 else 0
theorem isNaN_any (a : Int) (w : World) : Calls Try.prog 111 #[.int .i64 a] w fun e w' => e = .returned (.bool false) ∧ w = w' := by
  go_enter Try.func111, Try.ntmps111
  go_wp2
  go_ret
  exact ⟨by simp, rfl⟩
theorem compare_any (a b : Int) (w : World) : Calls Try.prog 103 #[.int .i64 a, .int .i64 b] w fun e w' => e = .returned (.int .i64 (cmpI a b)) ∧ w = w' := by
  by_cases h1 : a < b
  · go_enter Try.func103, Try.ntmps103
    go_wp2_with (go_at_call 111; refine (isNaN_any _ _).mono ?_; rintro e w' ⟨rfl, rfl⟩)
    go_ret
    exact ⟨ret_int (by simp [cmpI, h1]), rfl⟩
  · by_cases h2 : b < a
    · go_enter Try.func103, Try.ntmps103
      go_wp2_with (go_at_call 111; refine (isNaN_any _ _).mono ?_; rintro e w' ⟨rfl, rfl⟩)
      go_ret
      exact ⟨ret_int (by simp [cmpI, h1, h2]), rfl⟩
    · go_enter Try.func103, Try.ntmps103
      go_wp2_with (go_at_call 111; refine (isNaN_any _ _).mono ?_; rintro e w' ⟨rfl, rfl⟩)
      go_ret
      exact ⟨ret_int (by unfold cmpI; rw [if_neg (by omega), if_neg (by omega)]), rfl⟩
theorem cmpCu_any (a b c d : Int) (w : World) : Calls Try.prog 102 #[.agg #[.int .i64 a, .int .i64 c], .agg #[.int .i64 b, .int .i64 d]] w fun e w' => e = .returned (.int .i64 (cmpI a b)) ∧ Below w.heap.size w w' := by
  go_enter Try.func102, Try.ntmps102
  go_wp2_with (go_at_call 103; refine (compare_any _ _ _).mono ?_; rintro e w' ⟨rfl, rfl⟩)
  go_ret
  exact ⟨rfl, (by repeat (first | exact Below.refl _ _ | assumption | refine Below.drew ?_ | refine Below.drewN ?_ _ | refine Below.allocT ?_ (Nat.le_refl _) _ | refine Below.setCell ?_ (by simp <;> omega) _ | refine Below.to ?_ (by assumption) (Nat.le_refl _)))⟩

theorem results_cell1 {P : Program} {fn : Func} {p : Tmp} {ty : TypeId} (h : fn.results = #[.cell p ty]) (tmps : Array Value) (w : World) :
    (results fn tmps).run P w = ((asAddr (tmps.getD p undef)).run P w).andThen fun a w₁ => (loadVar ty a).run P w₁ := by
  simp only [results, h]
  simp [Sem.run_bind, Result.andThen]
  try (congr; done)
theorem mx_keep {wr w4 : World} {b o m : Nat} {a s x y : Int} (hB : Below wr.heap.size wr w4) (hb : b < wr.heap.size) (h0 : wr.cell? ⟨b, o, none⟩ = some (.int .i64 a)) (h1 : wr.cell? ⟨b, o + 1, none⟩ = some (.int .i64 s)) (hm : wr.heap[m]? = some (.cells #[.int .i64 x, .int .i64 y] 54 (0, 0))) :
    w4.cell? ⟨b, o, none⟩ = some (.int .i64 a) ∧ w4.cell? ⟨b, o + 1, none⟩ = some (.int .i64 s) ∧ w4.cell? ⟨m, 0, none⟩ = some (.int .i64 x) ∧ w4.cell? ⟨m, 1, none⟩ = some (.int .i64 y) ∧ Below wr.heap.size wr w4 :=
  ⟨(hB.cell (p := ⟨b, o, none⟩) hb).trans h0, (hB.cell (p := ⟨b, o + 1, none⟩) hb).trans h1, cellOf (box_to hm hB) 0, cellOf (box_to hm hB) 1, hB⟩

set_option maxRecDepth 100000 in
theorem maxFunc_any (v : Value) (cs : List Cu) (w : World) (hok : cycOk cs = true) (h : Cyc w w.heap.size v cs) :
    Calls Try.prog 101 #[v, .func (.func 102) #[] #[]] w
      fun e w' => (∃ s, e = .returned (.agg #[.int .i64 (gtI cs), .int .i64 s])) ∧ Below w.heap.size w w' := by
  obtain ⟨A, b, off, cap, rfl, hnc, hA, hc⟩ := h
  have HC := hide hc; clear hc
  have HA := hide hA; clear hA
  have HOK := hide hok; clear hok
  obtain ⟨hlen1, hlen2⟩ := cycOk_len HOK.out
  obtain ⟨c0, HZ0, hA1, e0, e1⟩ := cyAt (Below.refl _ w) HA.out HC.out (k := 0) (by omega)
  subst hA1
  have hbw : b < w.heap.size := cyB HA.out (by omega)
  have hfirst : maxTo cs 1 = c0.amps := by
    have h2 : (cs.getD 0 Cu.z) ∈ cs := by
      rw [List.getD_eq_getElem?_getD, List.getElem?_eq_getElem (by omega)]
      exact List.getElem_mem _
    have h3 := cycOk_cu HOK.out h2
    rw [HZ0.out] at h3
    rw [show maxTo cs 1 = max 0 (cs.getD 0 Cu.z).amps from rfl, HZ0.out]
    omega
  have HFI := hide hfirst
  clear hfirst
  rw [show off + 0 * 2 = off by omega] at e0 e1
  go_enter Try.func101, Try.ntmps101
  go_wp2
  go_loopw [6] (fun i wr => ∃ (k : Nat) (x s : Int), 1 ≤ k ∧ k ≤ cs.length ∧ i = .int .i64 k ∧ Hid (maxTo cs k = x) ∧ Hid (wr.heap[w.heap.size + 1]? = some (.cells #[.int .i64 x, .int .i64 s] 54 (0, 0))) ∧ Hid (wr.heap[w.heap.size]? = some (.cells #[.int .i64 0, .int .i64 0] 54 (0, 0))) ∧ Below w.heap.size w wr) (fun i _ => cs.length - (intOf i).toNat)
  case atStart =>
    refine ⟨1, c0.amps, c0.secs, by omega, hlen1, rfl, HFI.out, ?_, ?_, ?_⟩
    · show _ = _
      rw [heap_new _ _ _ (by simp)]
    · show _ = _
      rw [heap_old _ _ _ (by simp), heap_new _ _ _ rfl]
    · exact (by repeat (first | exact Below.refl _ _ | assumption | refine Below.drew ?_ | refine Below.drewN ?_ _ | refine Below.allocT ?_ (Nat.le_refl _) _ | refine Below.setCell ?_ (by simp <;> omega) _ | refine Below.to ?_ (by assumption) (Nat.le_refl _)))
  case round =>
    obtain ⟨k, x, s, hk1, hk, rfl, hx, hm, hr, hB⟩ := hrel
    have m0 : wr.cell? ⟨w.heap.size + 1, 0, none⟩ = some (.int .i64 x) := cellOf hm.out 0
    have m1 : wr.cell? ⟨w.heap.size + 1, 1, none⟩ = some (.int .i64 s) := cellOf hm.out 1
    by_cases hlt : k < cs.length
    · obtain ⟨c, hc⟩ : ∃ c, cs.getD k Cu.z = c := ⟨_, rfl⟩
      obtain ⟨h0, h1⟩ := cyAt2 hB hbw HC.out hlt hc
      have HZ := hide hc
      obtain ⟨cv, hcv⟩ : ∃ cv, cmpI c.amps x = cv := ⟨_, rfl⟩
      have HCV := hide hcv
      have hcx : 0 < cv ∧ x < c.amps ∨ ¬ 0 < cv ∧ c.amps ≤ x := by
        rw [← hcv]; unfold cmpI
        split
        · omega
        · split <;> omega
      clear hcv hc
      have hbs : b < wr.heap.size := Nat.lt_of_lt_of_le hbw hB.size
      go_wp2_with fail
      rcases hcx with ⟨hc1, hc2⟩ | ⟨hc1, hc2⟩
      · go_region_held3 (fun w' => w'.cell? ⟨b, off + k * 2, none⟩ = some (.int .i64 c.amps) ∧ w'.cell? ⟨b, off + k * 2 + 1, none⟩ = some (.int .i64 c.secs) ∧ w'.cell? ⟨w.heap.size + 1, 0, none⟩ = some (.int .i64 x) ∧ w'.cell? ⟨w.heap.size + 1, 1, none⟩ = some (.int .i64 s) ∧ Below wr.heap.size wr w')
          (exact mx_keep (by repeat (first | exact Below.refl _ _ | assumption | refine Below.drew ?_ | refine Below.drewN ?_ _ | refine Below.allocT ?_ (Nat.le_refl _) _ | refine Below.setCell ?_ (by simp <;> omega) _ | refine Below.to ?_ (by assumption) (Nat.le_refl _))) hbs h0 h1 hm.out)
          ((go_at_call 102; refine (cmpCu_any c.amps x c.secs s _).mono ?_; rw [HCV.out]; rintro e w4 ⟨rfl, hB4⟩))
        rename_i hh
        obtain ⟨g0, g1, g2, g3, hB5⟩ := hh
        have hm5 := box_to hm.out hB5
        have hr5 := box_to hr.out hB5
        have fm0 : w4.frozen? ⟨w.heap.size + 1, 0, none⟩ = false := unfrozenOf hm5 0
        have fm1 : w4.frozen? ⟨w.heap.size + 1, 1, none⟩ = false := unfrozenOf hm5 1
        have HM5 := hide hm5
        have HR5 := hide hr5
        clear hm5 hr5 m0 m1 h0 h1
        go_wp2_with fail
        go_roundw
        case rel => exact ⟨k + 1, c.amps, c.secs, by omega, by omega, by go_num, (by show _ = _; rw [show maxTo cs (k + 1) = max (maxTo cs k) (cs.getD k Cu.z).amps from rfl, hx.out, HZ.out]; omega), setCellOf (setCellOf HM5.out _) _, (by show _ = _; rw [Below.heap_setCell _ _ _ _ (by simp), Below.heap_setCell _ _ _ _ (by simp)]; exact HR5.out), Below.setCell (Below.setCell (Below.to hB hB5 (Nat.le_refl _)) (by simp) _) (by simp) _⟩
        case measure => simp [intOf]; omega
      · go_region_held3 (fun w' => w'.cell? ⟨b, off + k * 2, none⟩ = some (.int .i64 c.amps) ∧ w'.cell? ⟨b, off + k * 2 + 1, none⟩ = some (.int .i64 c.secs) ∧ w'.cell? ⟨w.heap.size + 1, 0, none⟩ = some (.int .i64 x) ∧ w'.cell? ⟨w.heap.size + 1, 1, none⟩ = some (.int .i64 s) ∧ Below wr.heap.size wr w')
          (exact mx_keep (by repeat (first | exact Below.refl _ _ | assumption | refine Below.drew ?_ | refine Below.drewN ?_ _ | refine Below.allocT ?_ (Nat.le_refl _) _ | refine Below.setCell ?_ (by simp <;> omega) _ | refine Below.to ?_ (by assumption) (Nat.le_refl _))) hbs h0 h1 hm.out)
          ((go_at_call 102; refine (cmpCu_any c.amps x c.secs s _).mono ?_; rw [HCV.out]; rintro e w4 ⟨rfl, hB4⟩))
        rename_i hh
        obtain ⟨g0, g1, g2, g3, hB5⟩ := hh
        go_wp2_with fail
        go_roundw
        case rel => exact ⟨k + 1, x, s, by omega, by omega, by go_num, (by show _ = _; rw [show maxTo cs (k + 1) = max (maxTo cs k) (cs.getD k Cu.z).amps from rfl, hx.out, HZ.out]; omega), box_to hm.out hB5, box_to hr.out hB5, Below.to hB hB5 (Nat.le_refl _)⟩
        case measure => simp [intOf]; omega
    · have fr0 : wr.frozen? ⟨w.heap.size, 0, none⟩ = false := unfrozenOf hr.out 0
      have fr1 : wr.frozen? ⟨w.heap.size, 1, none⟩ = false := unfrozenOf hr.out 1
      have r0 : wr.cell? ⟨w.heap.size, 0, none⟩ = some (.int .i64 0) := cellOf hr.out 0
      have r1 : wr.cell? ⟨w.heap.size, 1, none⟩ = some (.int .i64 0) := cellOf hr.out 1
      go_wp2_with fail
      have hW : ((wr.setCell ⟨w.heap.size, 0, none⟩ (.int .i64 x)).setCell ⟨w.heap.size, 1, none⟩ (.int .i64 s)).heap[w.heap.size]? = some (.cells #[.int .i64 x, .int .i64 s] 54 (0, 0)) := setCellOf (setCellOf hr.out _) _
      have hBz : Below w.heap.size w ((wr.setCell ⟨w.heap.size, 0, none⟩ (.int .i64 x)).setCell ⟨w.heap.size, 1, none⟩ (.int .i64 s)) := Below.setCell (Below.setCell hB (by simp) _) (by simp) _
      obtain ⟨wz, hwz⟩ : ∃ wz : World, (wr.setCell ⟨w.heap.size, 0, none⟩ (.int .i64 x)).setCell ⟨w.heap.size, 1, none⟩ (.int .i64 s) = wz := ⟨_, rfl⟩
      rw [hwz] at hW hBz ⊢
      have z0 : wz.cell? ⟨w.heap.size, 0, none⟩ = some (.int .i64 x) := cellOf hW 0
      have z1 : wz.cell? ⟨w.heap.size, 1, none⟩ = some (.int .i64 s) := cellOf hW 1
      clear r0 r1 fr0 fr1 m0 m1
      refine bodyPost_ret (v := .agg #[.int .i64 x, .int .i64 s]) ?_ rfl ⟨⟨s, ?_⟩, hBz⟩
      · rw [results_cell1 rfl]
        go_simp
      · rw [show gtI cs = x from by rw [← hx.out, show k = cs.length by omega]; rfl]

theorem field_cu (a s : Int) (w : World) : Sem.run Try.prog (Instr.field 54 (.agg #[.int .i64 a, .int .i64 s]) 0) w = .ok (.int .i64 a) w := by kernel_rfl
set_option maxRecDepth 100000 in
theorem greatest_any (v : Value) (cs : List Cu) (w : World) (hok : cycOk cs = true) (h : Cyc w w.heap.size v cs) :
    Calls Try.prog 82 #[v] w fun e w' => e = .returned (.int .i64 (gtI cs)) ∧ Below w.heap.size w w' := by
  have H := hide h
  have HOK := hide hok
  obtain ⟨A, cap, rfl⟩ := h.form
  clear h hok
  go_enter Try.func82, Try.ntmps82
  go_wp2_with fail
  refine (maxFunc_any _ cs _ HOK.out H.out).mono ?_
  rintro e w1 ⟨⟨s, rfl⟩, hB1⟩
  have hfl := field_cu (gtI cs) s w1
  go_wp2_with fail
  go_ret
  exact ⟨rfl, hB1⟩
end Go.Proofs.Ytejjjijaojkohaa
/- A need: both checks: walks. -/
namespace Go.Proofs.Ytejjjijaojkohaa
open Go.RowKit
set_option linter.unusedVariables false
set_option linter.unusedSimpArgs false

/-- What a need says beside its cycle. -/
structure Ne where
  len : Int
  drop : Int
  amb : Int
def needOk (n : Ne) (cs : List Cu) : Bool := cycOk cs && fromB n.len 0 1000000 && fromB n.drop 0 100000 && fromB n.amb 0 1000
def needErr (n : Ne) (cs : List Cu) : Int := if needOk n cs then 0 else 71
structure NeOk (n : Ne) (cs : List Cu) : Prop where
  cyc : cycOk cs = true
  len0 : 0 ≤ n.len
  len1 : n.len ≤ 1000000
  drop0 : 0 ≤ n.drop
  drop1 : n.drop ≤ 100000
  amb0 : 0 ≤ n.amb
  amb1 : n.amb ≤ 1000
theorem needOk_iff {n : Ne} {cs : List Cu} : needOk n cs = true ↔ NeOk n cs := by
  unfold needOk
  simp only [Bool.and_eq_true, fromB_iff]
  constructor
  · rintro ⟨⟨⟨h1, h2⟩, h3⟩, h4⟩
    exact ⟨h1, h2.1, h2.2, h3.1, h3.2, h4.1, h4.2⟩
  · intro h
    exact ⟨⟨⟨h.cyc, h.len0, h.len1⟩, h.drop0, h.drop1⟩, h.amb0, h.amb1⟩

/-- Block b holds a need. -/
def NeedAt (w : World) (b : Nat) (v : Value) (n : Ne) : Prop := w.heap[b]? = some (.cells #[v, .int .i64 n.len, .int .i64 n.drop, .int .i64 n.amb] 48 (0, 0))
theorem need4 {w0 w1 : World} {b : Nat} {v : Value} {n : Ne} (h : NeedAt w0 b v n) (hB : Below w0.heap.size w0 w1) :
    w1.cell? ⟨b, 0, none⟩ = some v ∧ w1.cell? ⟨b, 1, none⟩ = some (.int .i64 n.len) ∧ w1.cell? ⟨b, 2, none⟩ = some (.int .i64 n.drop) ∧ w1.cell? ⟨b, 3, none⟩ = some (.int .i64 n.amb) ∧ Below w0.heap.size w0 w1 :=
  ⟨cellOf (box_to h hB) 0, cellOf (box_to h hB) 1, cellOf (box_to h hB) 2, cellOf (box_to h hB) 3, hB⟩

theorem checkNeed_any (n : Ne) (v : Value) (cs : List Cu) (w : World) (hn : cs.length ≤ 20) (h : Cyc w w.heap.size v cs) :
    Calls Try.prog 72 #[.agg #[v, .int .i64 n.len, .int .i64 n.drop, .int .i64 n.amb]] w fun e w' => e = .returned (.int .i64 (needErr n cs)) ∧ Below w.heap.size w w' := by
  have H := hide h
  obtain ⟨A0, cap0, rfl⟩ := h.form
  clear h
  obtain ⟨l, hl⟩ : ∃ x, fromB n.len 0 1000000 = x := ⟨_, rfl⟩
  obtain ⟨d, hd⟩ : ∃ x, fromB n.drop 0 100000 = x := ⟨_, rfl⟩
  obtain ⟨a, ha⟩ : ∃ x, fromB n.amb 0 1000 = x := ⟨_, rfl⟩
  obtain ⟨c, hc⟩ : ∃ x, cycOk cs = x := ⟨_, rfl⟩
  have HR : Hid (needErr n cs = if c && l && d && a then 0 else 71) := by
    show _ = _
    rw [← hl, ← hd, ← ha, ← hc]
    rfl
  have HL := hide hl
  have HD := hide hd
  have HA := hide ha
  have HC : Hid (cycErr cs = if c then 0 else 71) := by show _ = _; rw [← hc]; rfl
  clear hl hd ha hc
  go_enter Try.func72, Try.ntmps72
  go_wp2_with fail
  refine (checkCycle_any _ cs _ hn ((H.out.below (by repeat (first | exact Below.refl _ _ | assumption | refine Below.drew ?_ | refine Below.drewN ?_ _ | refine Below.allocT ?_ (Nat.le_refl _) _ | refine Below.setCell ?_ (by simp <;> omega) _ | refine Below.to ?_ (by assumption) (Nat.le_refl _)))).more (by simp))).mono ?_
  rw [HC.out]
  rintro e w1 ⟨rfl, hB1⟩
  have hN : NeedAt w1 w.heap.size (.slice A0 cs.length cap0) n := box_at hB1
  have hW1 : Below w.heap.size w w1 := (by repeat (first | exact Below.refl _ _ | assumption | refine Below.drew ?_ | refine Below.drewN ?_ _ | refine Below.allocT ?_ (Nat.le_refl _) _ | refine Below.setCell ?_ (by simp <;> omega) _ | refine Below.to ?_ (by assumption) (Nat.le_refl _)))
  obtain ⟨k0, k1, k2, k3, _⟩ := need4 hN (Below.refl _ w1)
  clear hN hB1
  have HW1 := hide hW1
  clear hW1
  cases c
  · go_wp2_with fail
    go_ret
    exact ⟨ret_int (by rw [HR.out]; rfl), HW1.out⟩
  · cases l <;> cases d <;> cases a
    all_goals
      go_wp2_with (go_at_call 49; refine (within_any _ _ _ _).mono ?_; (first | rw [HL.out] | rw [HD.out] | rw [HA.out]); rintro e w' ⟨rfl, rfl⟩)
      go_ret
      exact ⟨ret_int (by rw [HR.out]; rfl), HW1.out⟩

theorem rneed_any (n : Ne) (v : Value) (cs : List Cu) (w : World) (hn : cs.length ≤ 20) (h : Cyc w w.heap.size v cs) :
    Calls Try.prog 74 #[.agg #[v, .int .i64 n.len, .int .i64 n.drop, .int .i64 n.amb]] w fun e w' => e = .returned (.bool (needOk n cs)) ∧ Below w.heap.size w w' := by
  have H := hide h
  obtain ⟨A0, cap0, rfl⟩ := h.form
  clear h
  obtain ⟨l, hl⟩ : ∃ x, fromB n.len 0 1000000 = x := ⟨_, rfl⟩
  obtain ⟨d, hd⟩ : ∃ x, fromB n.drop 0 100000 = x := ⟨_, rfl⟩
  obtain ⟨a, ha⟩ : ∃ x, fromB n.amb 0 1000 = x := ⟨_, rfl⟩
  obtain ⟨c, hc⟩ : ∃ x, cycOk cs = x := ⟨_, rfl⟩
  have HR : Hid (needOk n cs = (c && l && d && a)) := by
    show _ = _
    rw [← hl, ← hd, ← ha, ← hc]
    rfl
  have HL := hide hl
  have HD := hide hd
  have HA := hide ha
  have HC := hide hc
  clear hl hd ha hc
  go_enter Try.func74, Try.ntmps74
  go_wp2_with fail
  refine (cycled_any _ cs _ hn ((H.out.below (by repeat (first | exact Below.refl _ _ | assumption | refine Below.drew ?_ | refine Below.drewN ?_ _ | refine Below.allocT ?_ (Nat.le_refl _) _ | refine Below.setCell ?_ (by simp <;> omega) _ | refine Below.to ?_ (by assumption) (Nat.le_refl _)))).more (by simp))).mono ?_
  rw [HC.out]
  rintro e w1 ⟨rfl, hB1⟩
  have hN : NeedAt w1 w.heap.size (.slice A0 cs.length cap0) n := box_at hB1
  have hW1 : Below w.heap.size w w1 := (by repeat (first | exact Below.refl _ _ | assumption | refine Below.drew ?_ | refine Below.drewN ?_ _ | refine Below.allocT ?_ (Nat.le_refl _) _ | refine Below.setCell ?_ (by simp <;> omega) _ | refine Below.to ?_ (by assumption) (Nat.le_refl _)))
  obtain ⟨k0, k1, k2, k3, _⟩ := need4 hN (Below.refl _ w1)
  clear hN hB1
  have HW1 := hide hW1
  clear hW1
  cases c
  · go_wp2_with fail
    go_ret
    exact ⟨ret_bool (by rw [HR.out]; rfl), HW1.out⟩
  · cases l <;> cases d <;> cases a
    all_goals
      go_wp2_with (go_at_call 52; refine (from_any _ _ _ _).mono ?_; (first | rw [HL.out] | rw [HD.out] | rw [HA.out]); rintro e w' ⟨rfl, rfl⟩)
      go_ret
      exact ⟨ret_bool (by rw [HR.out]; rfl), HW1.out⟩
end Go.Proofs.Ytejjjijaojkohaa
/- How warm a wire ever becomes: the plain law. -/
namespace Go.Proofs.Ytejjjijaojkohaa
open Go.RowKit
set_option linter.unusedVariables false

theorem warmI_mono (g : Ga) (hc0 : 0 ≤ g.cool) (hc1 : g.cool ≤ 1024) (a b x : Int) (h : a ≤ b) : warmI g a x ≤ warmI g b x := by
  obtain ⟨d, hd⟩ : ∃ d, d = b - a := ⟨_, rfl⟩
  have hb : b = a + d := by omega
  subst hb
  unfold warmI
  rw [Int.add_mul]
  have h1 : d * g.cool ≤ d * 1024 := Int.mul_le_mul_of_nonneg_left hc1 (by omega)
  have h2 : 0 ≤ d * g.cool := Int.mul_nonneg (by omega) hc0
  omega
theorem heatI_mono (f : Fu) (a b x : Int) (h : a ≤ b) : heatI f a x ≤ heatI f b x := by
  unfold heatI; omega

/-- The state behind s seconds of a cycle, and the greatest one on the way. -/
def stU (f : Int → Int → Int) (cs : List Cu) (r : Int) (s : Nat) : Int := runSt f r (ups cs s)
def mxU (f : Int → Int → Int) (cs : List Cu) (r : Int) (s : Nat) : Int := runMx f r (ups cs s)
theorem stU_zero (f : Int → Int → Int) (cs : List Cu) (r : Int) : stU f cs r 0 = r := rfl
theorem stU_succ (f : Int → Int → Int) (cs : List Cu) (r : Int) (s : Nat) : stU f cs r (s + 1) = f (stU f cs r s) (ampAt cs s) := by
  unfold stU; rw [ups_succ, runSt_snoc]
theorem mxU_zero (f : Int → Int → Int) (cs : List Cu) (r : Int) : mxU f cs r 0 = r := rfl
theorem mxU_succ (f : Int → Int → Int) (cs : List Cu) (r : Int) (s : Nat) : mxU f cs r (s + 1) = max (mxU f cs r s) (stU f cs r (s + 1)) := by
  unfold mxU; rw [ups_succ, runMx_snoc, stU_succ]; rfl
section
variable {f : Int → Int → Int} (hf : ∀ a b x, a ≤ b → f a x ≤ f b x) {cs : List Cu}
include hf
theorem stU_mono {a b : Int} (h : a ≤ b) : ∀ s, stU f cs a s ≤ stU f cs b s
  | 0 => h
  | s + 1 => by rw [stU_succ, stU_succ]; exact hf _ _ _ (stU_mono h s)
theorem mxU_mono {a b : Int} (h : a ≤ b) : ∀ s, mxU f cs a s ≤ mxU f cs b s
  | 0 => h
  | s + 1 => by
    have h1 := mxU_mono h s
    have h2 := stU_mono hf (cs := cs) h (s + 1)
    rw [mxU_succ, mxU_succ]; omega
end
theorem mxU_le (f : Int → Int → Int) (cs : List Cu) (r : Int) : ∀ {s t : Nat}, s ≤ t → mxU f cs r s ≤ mxU f cs r t
  | s, 0, h => by have : s = 0 := by omega
                  subst this; exact Int.le_refl _
  | s, t + 1, h => by
    rcases Nat.lt_or_ge t s with h1 | h1
    · have : s = t + 1 := by omega
      subst this; exact Int.le_refl _
    · have := mxU_le f cs r h1
      rw [mxU_succ]; omega
theorem st_le_mxU (f : Int → Int → Int) (cs : List Cu) (r : Int) : ∀ s, stU f cs r s ≤ mxU f cs r s
  | 0 => Int.le_refl _
  | s + 1 => by rw [mxU_succ]; omega
theorem st_le_mxU' (f : Int → Int → Int) (cs : List Cu) (r : Int) {s t : Nat} (h : s ≤ t) : stU f cs r s ≤ mxU f cs r t := Int.le_trans (st_le_mxU f cs r s) (mxU_le f cs r h)

/-- One cycle: the state behind it, and the greatest one on the way. -/
def cySt (f : Int → Int → Int) (cs : List Cu) (r : Int) : Int := stU f cs r (secsN cs)
def cyMx (f : Int → Int → Int) (cs : List Cu) (r : Int) : Int := mxU f cs r (secsN cs)
theorem cySt_le_Mx (f : Int → Int → Int) (cs : List Cu) (r : Int) : cySt f cs r ≤ cyMx f cs r := st_le_mxU _ _ _ _
theorem le_cyMx (f : Int → Int → Int) (cs : List Cu) (r : Int) : r ≤ cyMx f cs r := st_le_mxU' f cs r (s := 0) (Nat.zero_le _)

/-- Cycle by cycle, until the limit is passed or the state stays. -/
def pk (f : Int → Int → Int) (cs : List Cu) (limit : Int) : Nat → Int → Int
  | 0, _ => limit + 1
  | n + 1, r => if limit < cyMx f cs r then limit + 1 else if cySt f cs r = r then cyMx f cs r else pk f cs limit n (cySt f cs r)
def peakI (g : Ga) (cs : List Cu) (limit : Int) : Int := pk (warmI g) cs limit (limit.toNat + 2) 0
/-- How far the search is, r reached, with this much fuel left. -/
structure PkAt (f : Int → Int → Int) (cs : List Cu) (limit : Int) (res r : Int) : Prop where
  lo : 0 ≤ r
  hi : r ≤ limit
  up : r ≤ cySt f cs r
  fuel : ∃ n : Nat, limit - r + 1 < n ∧ pk f cs limit n r = res
theorem PkAt.over {f : Int → Int → Int} {cs : List Cu} {limit res r : Int} (h : PkAt f cs limit res r) (hm : limit < cyMx f cs r) : res = limit + 1 := by
  obtain ⟨h1, h2, h3, n, h4, h5⟩ := h
  cases n with
  | zero => omega
  | succ n => rw [← h5]; simp only [pk, if_pos hm]
theorem PkAt.stay {f : Int → Int → Int} {cs : List Cu} {limit res r : Int} (h : PkAt f cs limit res r) (hm : ¬ limit < cyMx f cs r) (hs : cySt f cs r = r) : res = cyMx f cs r := by
  obtain ⟨h1, h2, h3, n, h4, h5⟩ := h
  cases n with
  | zero => omega
  | succ n => rw [← h5]; simp only [pk, if_neg hm, if_pos hs]
theorem PkAt.next {f : Int → Int → Int} {cs : List Cu} {limit res r : Int} (hf : ∀ a b x, a ≤ b → f a x ≤ f b x) (h : PkAt f cs limit res r) (hm : ¬ limit < cyMx f cs r) (hs : ¬ cySt f cs r = r) : PkAt f cs limit res (cySt f cs r) ∧ r < cySt f cs r := by
  obtain ⟨h1, h2, h3, n, h4, h5⟩ := h
  have hlt : r < cySt f cs r := by omega
  have h6 := cySt_le_Mx f cs r
  refine ⟨⟨by omega, by omega, stU_mono hf h3 _, ?_⟩, hlt⟩
  cases n with
  | zero => omega
  | succ n =>
    refine ⟨n, by omega, ?_⟩
    rw [← h5]; simp only [pk, if_neg hm, if_neg hs]
theorem PkAt.start {f : Int → Int → Int} {cs : List Cu} {limit : Int} (h0 : 0 ≤ limit) (hup : 0 ≤ cySt f cs 0) : PkAt f cs limit (pk f cs limit (limit.toNat + 2) 0) 0 :=
  ⟨Int.le_refl _, h0, hup, limit.toNat + 2, by omega, rfl⟩
theorem cySt_nonneg {g : Ga} (hg : g.Ok) {cs : List Cu} (hok : cycOk cs = true) {r : Int} (hr : 0 ≤ r) : 0 ≤ cySt (warmI g) cs r := (st_range hg hok hr _).1

theorem Cyc.grown {w w' : World} {B : Nat} {v : Value} {cs : List Cu} (h : Cyc w B v cs) (hg : w.grownBy w' (some B)) (hB : B ≤ w.heap.size) : Cyc w' B v cs :=
  h.keep fun b o hlt => World.cell?_of_block (hg.block b (by omega) (fun e => by injection e; omega))

set_option maxRecDepth 100000 in
theorem peak_any (bw : Nat) (g : Ga) (limit : Int) (v : Value) (cs : List Cu) (w : World) (hw : WireAt w bw g 0) (hok : cycOk cs = true) (h : Cyc w bw v cs) (hg : g.Ok) (hl0 : 0 ≤ limit) (hl1 : limit ≤ 1000) :
    Calls Try.prog 68 #[.iface 92 (.pointer (some ⟨bw, 0, none⟩)), v, .int .i64 limit] w fun e w' => e = .returned (.int .i64 (peakI g cs limit)) ∧ w.grownBy w' (some bw) := by
  have H := hide h
  obtain ⟨A0, cap0, rfl⟩ := h.form
  clear h
  have hbw := box_lt hw
  have hN := secsN_le hok
  have HOK := hide hok
  have HG := hide hg
  have HW := hide hw
  clear hok hg hw
  have m1 := warmWire
  conv at m1 =>
    enter [a, w, 1, 2, 4]
    whnf
  go_enter Try.func68, Try.ntmps68
  go_wp2
  go_loopg [] (limit.toNat + 1) (fun m wr => ∃ r : Int, Hid (m = (limit - r + 1).toNat) ∧ Hid (PkAt (warmI g) cs limit (peakI g cs limit) r) ∧ WireAt wr bw g r ∧ w.grownBy wr (some bw))
  case atStart => exact ⟨0, (by show _ = _; omega), PkAt.start hl0 (cySt_nonneg HG.out HOK.out (Int.le_refl _)), HW.out, only_refl _ _⟩
  case round =>
    obtain ⟨r, hm, hp, hwr, hgr⟩ := hrel
    have hp1 := hp.out.lo
    have hp2 := hp.out.hi
    have hbr := box_lt hwr
    have HWR := hide hwr
    have HGR := hide hgr
    clear hwr hgr
    have HC : Hid (Cyc wr bw (.slice A0 cs.length cap0) cs) := H.out.grown HGR.out (by omega)
    go_wp2_with fail
    refine (wireWarm_any bw g r _ HWR.out).mono ?_
    rintro e w1 ⟨rfl, rfl⟩
    go_wp2_with fail
    refine (long_any _ cs _ HOK.out (HC.out.more (by omega))).mono ?_
    rintro e w1 ⟨rfl, hB1⟩
    have HB1 := hide hB1
    clear hB1
    go_wp2_with fail
    refine (runWire_any bw g r _ _ cs w1 (box_to HWR.out HB1.out) (box_lt (box_to HWR.out HB1.out)) HOK.out (HC.out.below (HB1.out.mono (by omega))) (by omega) (by omega) HG.out.heat0 HG.out.heat1 HG.out.cool0 HG.out.cool1 hp1 (by omega)).mono ?_
    rw [Int.toNat_natCast]
    rintro e w2 ⟨rfl, hw2, hg2⟩
    have HW2 : Hid (WireAt w2 bw g (cySt (warmI g) cs r)) := hw2
    have HG2 := hide hg2
    clear hw2 hg2
    obtain ⟨mx, hmx⟩ : ∃ mx, runMx (warmI g) r (ups cs (secsN cs)) = mx := ⟨_, rfl⟩
    rw [hmx]
    have HMX : Hid (cyMx (warmI g) cs r = mx) := hmx
    clear hmx
    have HGA : Hid (w.grownBy w2 (some bw)) := only_trans HGR.out (by
      have h1 := HB1.out
      have h2 := HG2.out
      exact ⟨h2.os.trans h1.os, h2.tape.trans h1.tape, h2.output.trans h1.output, Nat.le_trans h1.size h2.size, fun i hi hne => (h2.block i (Nat.lt_of_lt_of_le hi h1.size) hne).trans (h1.block i hi)⟩)
    by_cases hov : limit < mx
    · go_wp2_with fail
      go_ret
      exact ⟨ret_int (hp.out.over (by rw [HMX.out]; exact hov)).symm, HGA.out⟩
    · obtain ⟨r2, hr2⟩ : ∃ r2, cySt (warmI g) cs r = r2 := ⟨_, rfl⟩
      have HW3 := HW2.out
      rw [hr2] at HW3
      have HW4 := hide HW3
      clear HW3
      have HR2 := hide hr2
      clear hr2
      by_cases hst : r2 = r
      · have hst1 : (r2 == r) = true := by simp [hst]
        have HST := hide hst
        clear hst
        go_wp2_with fail
        refine (wireWarm_any bw g r2 _ HW4.out).mono ?_
        rintro e w3 ⟨rfl, rfl⟩
        go_wp2_with fail
        go_ret
        exact ⟨ret_int (by rw [hp.out.stay (by rw [HMX.out]; omega) (HR2.out.trans HST.out), HMX.out]), HGA.out⟩
      · have hst1 : (r2 == r) = false := by simp [hst]
        go_wp2_with fail
        refine (wireWarm_any bw g r2 _ HW4.out).mono ?_
        rintro e w3 ⟨rfl, rfl⟩
        go_wp2_with fail
        have hnx := hp.out.next (warmI_mono g HG.out.cool0 HG.out.cool1) (by rw [HMX.out]; omega) (by rw [HR2.out]; exact hst)
        rw [HR2.out] at hnx
        go_roundg ((limit - r2 + 1).toNat)
        case rel => exact ⟨r2, rfl, hnx.1, HW4.out, HGA.out⟩
        case measure =>
          rw [hm.out]
          have := hnx.1.hi
          omega
end Go.Proofs.Ytejjjijaojkohaa
/- How warm a wire ever becomes: the reference's walk, and both Peaks. -/
namespace Go.Proofs.Ytejjjijaojkohaa
open Go.RowKit
set_option linter.unusedVariables false

theorem ampAt_lt {cs : List Cu} {t : Nat} (h : t < secsN cs) : ampAt cs t = (secsL cs).getD t 0 := by
  unfold ampAt; rw [Nat.mod_eq_of_lt h]

set_option maxRecDepth 100000 in
theorem rpeak_any (g : Ga) (v : Value) (cs : List Cu) (w : World) (hg : g.Ok) (hok : cycOk cs = true) (h : Cyc w w.heap.size v cs) :
    Calls Try.prog 69 #[.agg #[.int .i64 g.area, .int .i64 g.ohm, .int .i64 g.heat, .int .i64 g.cool, .int .i64 g.limit], v] w fun e w' => e = .returned (.int .i64 (peakI g cs g.limit)) ∧ Below w.heap.size w w' := by
  have H := hide h
  obtain ⟨A0, cap0, rfl⟩ := h.form
  clear h
  have HG := hide hg
  have HOK := hide hok
  have hl0 := hg.limit0
  have hl1 := hg.limit1
  clear hg hok
  go_enter Try.func69, Try.ntmps69
  go_wp2_with fail
  refine (seconds_any _ cs _ HOK.out ((H.out.below (by repeat (first | exact Below.refl _ _ | assumption | refine Below.drew ?_ | refine Below.drewN ?_ _ | refine Below.allocT ?_ (Nat.le_refl _) _ | refine Below.setCell ?_ (by simp <;> omega) _ | refine Below.to ?_ (by assumption) (Nat.le_refl _)))).more (by simp))).mono ?_
  rintro e w3 ⟨v3, rfl, hown, hB3⟩
  have hGb := box_at hB3
  have hW3 : Below w.heap.size w w3 := (by repeat (first | exact Below.refl _ _ | assumption | refine Below.drew ?_ | refine Below.drewN ?_ _ | refine Below.allocT ?_ (Nat.le_refl _) _ | refine Below.setCell ?_ (by simp <;> omega) _ | refine Below.to ?_ (by assumption) (Nat.le_refl _)))
  have hs3 := box_lt hGb
  have hposN := secsN_pos HOK.out
  have hleN := secsN_le HOK.out
  obtain ⟨A, b, off, cap, hv3, hcp, hA, hc⟩ := Ints.of_owns hown
  have HC := hide hc; clear hc
  have HA := hide hA; clear hA
  have HGB := hide hGb; clear hGb
  rw [hv3]
  clear hB3 hv3 hcp hown
  go_wp2
  go_loopg [6, 7] (g.limit.toNat + 1) (fun m rise most wr => ∃ r M : Int, Hid (m = (g.limit - r + 1).toNat) ∧ Hid (PkAt (warmI g) cs g.limit (peakI g cs g.limit) r) ∧ rise = .int .i64 r ∧ most = .int .i64 M ∧ r ≤ M ∧ M ≤ g.limit ∧ Hid (M ≤ cyMx (warmI g) cs r) ∧ Below w3.heap.size w3 wr)
  case atStart => exact ⟨0, 0, (by show _ = _; omega), PkAt.start hl0 (cySt_nonneg HG.out HOK.out (Int.le_refl _)), rfl, rfl, by omega, by omega, le_cyMx _ _ _, Below.refl _ _⟩
  case round =>
    obtain ⟨r, M, hm, hp, rfl, rfl, hrM, hMl, hMc, hB⟩ := hrel
    have hp1 := hp.out.lo
    have hp2 := hp.out.hi
    go_wp2
    obtain ⟨wo, rfl⟩ : ∃ wo : World, wo = wr := ⟨_, rfl⟩
    go_loopw [6, 7, 9] (fun rise most s wr => ∃ (t : Nat) (x y : Int), t ≤ secsN cs ∧ s = .int .i64 t ∧ rise = .int .i64 x ∧ most = .int .i64 y ∧ Hid (stU (warmI g) cs r t = x) ∧ Hid (max M (mxU (warmI g) cs r t) = y) ∧ 0 ≤ x ∧ x ≤ y ∧ y ≤ g.limit ∧ Below w3.heap.size w3 wr) (fun _ _ s _ => secsN cs - (intOf s).toNat)
    case atStart => exact ⟨0, r, M, Nat.zero_le _, rfl, rfl, rfl, rfl, (by show max M r = M; omega), hp1, hrM, hMl, hB⟩
    case round =>
      obtain ⟨t, x, y, ht, rfl, rfl, rfl, hx, hy, hx0, hxy, hyl, hB2⟩ := hrel
      by_cases hlt : t < secsN cs
      · obtain ⟨z, hz, hA1, hA2, hcz⟩ := intAt (k := t) hB2 HA.out HC.out hlt
        subst hA1
        have hGr := (hB2.block _ hs3).trans HGB.out
        have q0 := cellOf hGr 0
        have q1 := cellOf hGr 1
        have q2 := cellOf hGr 2
        have q3 := cellOf hGr 3
        have q4 := cellOf hGr 4
        have HGR := hide hGr
        clear hGr
        have hz2 : ampAt cs t = z := (ampAt_lt hlt).trans hz.out
        have hzr := ampAt_range HOK.out t
        rw [hz2] at hzr
        obtain ⟨hz3, hz4⟩ := hzr
        have HZ2 := hide hz2
        clear hz2
        have hidx : (t : Int) < (secsN cs : Int) := by omega
        have hidx0 : (0 : Int) ≤ (t : Int) := by omega
        go_wp2
        go_still_tail 6, (by kernel_rfl)
        change wpList _ _ _ _ _ wr.drew
        have g1 := HG.out
        go_wp2_with fail
        refine (rwarm_any g x z _ g1.heat0 g1.heat1 g1.cool0 g1.cool1 hx0 (by omega) hz3 hz4).mono ?_
        rintro e w4 ⟨rfl, hB4⟩
        have hB4' : Below wr.heap.size wr w4 := ⟨hB4.os, hB4.tape, hB4.output, hB4.size, hB4.block⟩
        have hB5 : Below w3.heap.size w3 w4 := Below.to hB2 hB4' (Nat.le_refl _)
        have hrg := warmI_range g x z g1.heat0 g1.heat1 g1.cool0 g1.cool1 hx0 hz3 hz4
        obtain ⟨x2, hx2⟩ : ∃ x2, warmI g x z = x2 := ⟨_, rfl⟩
        rw [hx2] at hrg ⊢
        have hst : stU (warmI g) cs r (t + 1) = x2 := by rw [stU_succ, hx.out, HZ2.out, hx2]
        have hmx : max M (mxU (warmI g) cs r (t + 1)) = max y x2 := by rw [mxU_succ, hst, ← hy.out]; omega
        have HST := hide hst
        have HMX := hide hmx
        have hGr := box_to HGR.out hB4'
        clear hst hmx q0 q1 q2 q3 q4 hB4 hcz hx2
        have q4 := cellOf hGr 4
        clear hGr
        obtain ⟨hr0, hr1⟩ := hrg
        have HB4 := hide hB4'
        have HB5 := hide hB5
        clear hB4' hB5
        by_cases hmax : y ≤ x2
        · have hy2 : max y x2 = x2 := by omega
          by_cases hov : g.limit < x2
          · go_wp2_with fail
            go_ret
            refine ⟨ret_int (hp.out.over ?_).symm, hW3.trans (HB5.out.mono hW3.size)⟩
            have h1 := HMX.out
            have h2 := mxU_le (warmI g) cs r (s := t + 1) (t := secsN cs) (by omega)
            unfold cyMx
            omega
          · go_wp2_with fail
            go_roundw
            case rel => exact ⟨t + 1, x2, x2, by omega, by go_num, rfl, congrArg (Value.int IntKind.i64) (by split <;> omega), HST.out, (by show _ = _; rw [HMX.out]; omega), by omega, by omega, by omega, HB5.out⟩
            case measure => simp [intOf]; omega
        · have hy2 : max y x2 = y := by omega
          go_wp2_with fail
          go_roundw
          case rel => exact ⟨t + 1, x2, y, by omega, by go_num, rfl, rfl, HST.out, (by show _ = _; rw [HMX.out]; omega), by omega, by omega, by omega, HB5.out⟩
          case measure => simp [intOf]; omega
      · have ht2 : t = secsN cs := by omega
        have hx3 : cySt (warmI g) cs r = x := by unfold cySt; rw [← ht2]; exact hx.out
        have hy3 : cyMx (warmI g) cs r = y := by
          have h1 := hy.out
          have h2 := hMc.out
          rw [ht2] at h1
          unfold cyMx at h2 ⊢
          omega
        have HX3 := hide hx3
        have HY3 := hide hy3
        clear ht2 hx3 hy3
        by_cases hst : x = r
        · have hst1 : (x == r) = true := by simp [hst]
          have HST := hide hst
          clear hst
          go_wp2_with fail
          go_ret
          exact ⟨ret_int (by rw [hp.out.stay (by rw [HY3.out]; omega) (HX3.out.trans HST.out), HY3.out]), hW3.trans (hB2.mono hW3.size)⟩
        · have hst1 : (x == r) = false := by simp [hst]
          go_wp2_with fail
          have hnx := hp.out.next (warmI_mono g HG.out.cool0 HG.out.cool1) (by rw [HY3.out]; omega) (by rw [HX3.out]; exact hst)
          have hmono := mxU_mono (cs := cs) (warmI_mono g HG.out.cool0 HG.out.cool1) (a := r) (b := x) (by have := hnx.2; rw [HX3.out] at this; omega) (secsN cs)
          rw [HX3.out] at hnx
          go_roundg ((g.limit - x + 1).toNat)
          case rel => exact ⟨x, y, rfl, hnx.1, rfl, rfl, hxy, hyl, (by show y ≤ _; rw [← HY3.out]; exact hmono), hB2⟩
          case measure =>
            rw [hm.out]
            have := hnx.1.hi
            omega

def peakErr (g : Ga) (cs : List Cu) : Int := if g.ok then if cycOk cs then 0 else 71 else 70
def peakVal (g : Ga) (cs : List Cu) : Int := if g.ok && cycOk cs then peakI g cs g.limit else 0

theorem rPeak_any (g : Ga) (v : Value) (cs : List Cu) (w : World) (hn : cs.length ≤ 20) (h : Cyc w w.heap.size v cs) :
    Calls Try.prog 29 #[.agg #[.int .i64 g.area, .int .i64 g.ohm, .int .i64 g.heat, .int .i64 g.cool, .int .i64 g.limit], v] w fun e w' => e = .returned (.tuple #[.int .i64 (peakVal g cs), .int .i64 (peakErr g cs)]) ∧ Below w.heap.size w w' := by
  have H := hide h
  obtain ⟨A0, cap0, rfl⟩ := h.form
  clear h
  by_cases hg : g.ok = true
  · by_cases hok : cycOk cs = true
    · have HG := hide (Ga.ok_iff.1 hg)
      have HOK := hide hok
      go_enter Try.func29, Try.ntmps29
      go_wp2_with (first
          | (go_at_call 51; refine (gauge_any g _).mono ?_; rw [hg]; rintro e w1 ⟨rfl, hB1⟩
             have hW1 : Below w.heap.size w w1 := (by repeat (first | exact Below.refl _ _ | assumption | refine Below.drew ?_ | refine Below.drewN ?_ _ | refine Below.allocT ?_ (Nat.le_refl _) _ | refine Below.setCell ?_ (by simp <;> omega) _ | refine Below.to ?_ (by assumption) (Nat.le_refl _)))
             have H1 : Cyc w1 w1.heap.size (.slice A0 cs.length cap0) cs := (H.out.below hW1).more hW1.size
             have H1 := hide H1
             have hb1 := box_at hB1
             have q10 := cellOf hb1 0; have q11 := cellOf hb1 1; have q12 := cellOf hb1 2; have q13 := cellOf hb1 3; have q14 := cellOf hb1 4; have q1l := box_lt hb1; have q1h := hide hb1; clear hb1)
          | (go_at_call 61; refine (cycled_any _ cs _ hn H1.out).mono ?_; rw [hok]; rintro e w2 ⟨rfl, hB2⟩
             have hW2 : Below w.heap.size w w2 := (by repeat (first | exact Below.refl _ _ | assumption | refine Below.drew ?_ | refine Below.drewN ?_ _ | refine Below.allocT ?_ (Nat.le_refl _) _ | refine Below.setCell ?_ (by simp <;> omega) _ | refine Below.to ?_ (by assumption) (Nat.le_refl _)))
             have H2 : Cyc w2 w2.heap.size (.slice A0 cs.length cap0) cs := (H.out.below hW2).more hW2.size
             have H2 := hide H2
             have hb2 := box_to q1h.out hB2
             have q20 := cellOf hb2 0; have q21 := cellOf hb2 1; have q22 := cellOf hb2 2; have q23 := cellOf hb2 3; have q24 := cellOf hb2 4; have q2l := box_lt hb2; have q2h := hide hb2; clear hb2)
          | (go_at_call 69; refine (rpeak_any g _ cs _ HG.out HOK.out H2.out).mono ?_; rintro e w3 ⟨rfl, hB3⟩
             have hW3 : Below w.heap.size w w3 := (by repeat (first | exact Below.refl _ _ | assumption | refine Below.drew ?_ | refine Below.drewN ?_ _ | refine Below.allocT ?_ (Nat.le_refl _) _ | refine Below.setCell ?_ (by simp <;> omega) _ | refine Below.to ?_ (by assumption) (Nat.le_refl _)))))
      go_ret2
      exact ⟨by simp [peakVal, peakErr, hg, hok], hW3⟩
    · have hok' : cycOk cs = false := by simpa using hok
      go_enter Try.func29, Try.ntmps29
      go_wp2_with (first
          | (go_at_call 51; refine (gauge_any g _).mono ?_; rw [hg]; rintro e w1 ⟨rfl, hB1⟩
             have hW1 : Below w.heap.size w w1 := (by repeat (first | exact Below.refl _ _ | assumption | refine Below.drew ?_ | refine Below.drewN ?_ _ | refine Below.allocT ?_ (Nat.le_refl _) _ | refine Below.setCell ?_ (by simp <;> omega) _ | refine Below.to ?_ (by assumption) (Nat.le_refl _)))
             have H1 : Cyc w1 w1.heap.size (.slice A0 cs.length cap0) cs := (H.out.below hW1).more hW1.size
             have H1 := hide H1)
          | (go_at_call 61; refine (cycled_any _ cs _ hn H1.out).mono ?_; rw [hok']; rintro e w2 ⟨rfl, hB2⟩
             have hW2 : Below w.heap.size w w2 := (by repeat (first | exact Below.refl _ _ | assumption | refine Below.drew ?_ | refine Below.drewN ?_ _ | refine Below.allocT ?_ (Nat.le_refl _) _ | refine Below.setCell ?_ (by simp <;> omega) _ | refine Below.to ?_ (by assumption) (Nat.le_refl _)))))
      go_ret2
      exact ⟨by simp [peakVal, peakErr, hg, hok], hW2⟩
  · have hg' : g.ok = false := by simpa using hg
    go_enter Try.func29, Try.ntmps29
    go_wp2_with (go_at_call 51; refine (gauge_any g _).mono ?_; rw [hg']; rintro e w1 ⟨rfl, hB1⟩
                 have hW1 : Below w.heap.size w w1 := (by repeat (first | exact Below.refl _ _ | assumption | refine Below.drew ?_ | refine Below.drewN ?_ _ | refine Below.allocT ?_ (Nat.le_refl _) _ | refine Below.setCell ?_ (by simp <;> omega) _ | refine Below.to ?_ (by assumption) (Nat.le_refl _))))
    go_ret2
    exact ⟨by simp [peakVal, peakErr, hg], hW1⟩

theorem Peak_any (g : Ga) (v : Value) (cs : List Cu) (w : World) (hn : cs.length ≤ 20) (h : Cyc w w.heap.size v cs) :
    Calls Try.prog 28 #[.agg #[.int .i64 g.area, .int .i64 g.ohm, .int .i64 g.heat, .int .i64 g.cool, .int .i64 g.limit], v] w fun e w' => e = .returned (.tuple #[.int .i64 (peakVal g cs), .int .i64 (peakErr g cs)]) ∧ Below w.heap.size w w' := by
  have H := hide h
  obtain ⟨A0, cap0, rfl⟩ := h.form
  clear h
  by_cases hg : g.ok = true
  · have hgi := gaugeI g hg
    by_cases hok : cycOk cs = true
    · have hci := cycI hok
      have g1 := Ga.ok_iff.1 hg
      have HG := hide g1; clear g1
      have HOK := hide hok
      go_enter Try.func28, Try.ntmps28
      go_wp2_with (first
          | (go_at_call 48; refine (checkGauge_any g _).mono ?_; rw [hgi]; rintro e w1 ⟨rfl, hB1⟩
             have hW1 : Below w.heap.size w w1 := (by repeat (first | exact Below.refl _ _ | assumption | refine Below.drew ?_ | refine Below.drewN ?_ _ | refine Below.allocT ?_ (Nat.le_refl _) _ | refine Below.setCell ?_ (by simp <;> omega) _ | refine Below.to ?_ (by assumption) (Nat.le_refl _)))
             have H1 : Cyc w1 w1.heap.size (.slice A0 cs.length cap0) cs := (H.out.below hW1).more hW1.size
             have H1 := hide H1
             have hb1 := box_at hB1
             have q10 := cellOf hb1 0; have q11 := cellOf hb1 1; have q12 := cellOf hb1 2; have q13 := cellOf hb1 3; have q14 := cellOf hb1 4; have q1l := box_lt hb1; have q1h := hide hb1; clear hb1)
          | (go_at_call 59; refine (checkCycle_any _ cs _ hn H1.out).mono ?_; rw [hci]; rintro e w2 ⟨rfl, hB2⟩
             have hW2 : Below w.heap.size w w2 := (by repeat (first | exact Below.refl _ _ | assumption | refine Below.drew ?_ | refine Below.drewN ?_ _ | refine Below.allocT ?_ (Nat.le_refl _) _ | refine Below.setCell ?_ (by simp <;> omega) _ | refine Below.to ?_ (by assumption) (Nat.le_refl _)))
             have H2 : Cyc w2 w2.heap.size (.slice A0 cs.length cap0) cs := (H.out.below hW2).more hW2.size
             have H2 := hide H2
             have hb2 := box_to q1h.out hB2
             have q20 := cellOf hb2 0; have q21 := cellOf hb2 1; have q22 := cellOf hb2 2; have q23 := cellOf hb2 3; have q24 := cellOf hb2 4; have q2l := box_lt hb2; have q2h := hide hb2; clear hb2)
          | (go_at_call 58; refine (errors2v _ 0 0 0 _ (by simp) (by simp) (by simp)).mono ?_; rintro e w3 ⟨rfl, rfl⟩))
      refine (peak_any (w2.heap.size + 1) g g.limit _ cs _ (heap_new _ _ _ (by simp)) HOK.out (((H2.out.below (Below.allocT (Below.allocT (Below.refl _ _) (Nat.le_refl _) _) (Nat.le_refl _) _)).more (by omega))) HG.out HG.out.limit0 HG.out.limit1).mono ?_
      rintro e w5 ⟨rfl, hgr⟩
      have HGR := hide hgr
      clear hgr
      go_wp2
      go_ret2
      refine ⟨by simp [peakVal, peakErr, hg, hok], ?_⟩
      exact below_only (Below.allocT (Below.allocT hW2 (Nat.le_refl _) _) (Nat.le_refl _) _) HGR.out (by have := hW2.size; omega)
    · have hci := cycI' hok
      go_enter Try.func28, Try.ntmps28
      go_wp2_with (first
          | (go_at_call 48; refine (checkGauge_any g _).mono ?_; rw [hgi]; rintro e w1 ⟨rfl, hB1⟩
             have hW1 : Below w.heap.size w w1 := (by repeat (first | exact Below.refl _ _ | assumption | refine Below.drew ?_ | refine Below.drewN ?_ _ | refine Below.allocT ?_ (Nat.le_refl _) _ | refine Below.setCell ?_ (by simp <;> omega) _ | refine Below.to ?_ (by assumption) (Nat.le_refl _)))
             have H1 : Cyc w1 w1.heap.size (.slice A0 cs.length cap0) cs := (H.out.below hW1).more hW1.size
             have H1 := hide H1)
          | (go_at_call 59; refine (checkCycle_any _ cs _ hn H1.out).mono ?_; rw [hci]; rintro e w2 ⟨rfl, hB2⟩
             have hW2 : Below w.heap.size w w2 := (by repeat (first | exact Below.refl _ _ | assumption | refine Below.drew ?_ | refine Below.drewN ?_ _ | refine Below.allocT ?_ (Nat.le_refl _) _ | refine Below.setCell ?_ (by simp <;> omega) _ | refine Below.to ?_ (by assumption) (Nat.le_refl _))))
          | (go_at_call 58; refine (errors2v _ 0 71 71 _ (by simp) (by simp) (by simp)).mono ?_; rintro e w3 ⟨rfl, rfl⟩))
      go_ret2
      exact ⟨by simp [peakVal, peakErr, hg, hok], (by repeat (first | exact Below.refl _ _ | assumption | refine Below.drew ?_ | refine Below.drewN ?_ _ | refine Below.allocT ?_ (Nat.le_refl _) _ | refine Below.setCell ?_ (by simp <;> omega) _ | refine Below.to ?_ (by assumption) (Nat.le_refl _)))⟩
  · have hgi : (if g.ok = true then (0 : Int) else 70) = 70 := if_neg hg
    obtain ⟨ce, hce⟩ : ∃ ce, cycErr cs = ce := ⟨_, rfl⟩
    go_enter Try.func28, Try.ntmps28
    go_wp2_with (first
          | (go_at_call 48; refine (checkGauge_any g _).mono ?_; rw [hgi]; rintro e w1 ⟨rfl, hB1⟩
             have hW1 : Below w.heap.size w w1 := (by repeat (first | exact Below.refl _ _ | assumption | refine Below.drew ?_ | refine Below.drewN ?_ _ | refine Below.allocT ?_ (Nat.le_refl _) _ | refine Below.setCell ?_ (by simp <;> omega) _ | refine Below.to ?_ (by assumption) (Nat.le_refl _)))
             have H1 : Cyc w1 w1.heap.size (.slice A0 cs.length cap0) cs := (H.out.below hW1).more hW1.size
             have H1 := hide H1)
          | (go_at_call 59; refine (checkCycle_any _ cs _ hn H1.out).mono ?_; rw [hce]; rintro e w2 ⟨rfl, hB2⟩
             have hW2 : Below w.heap.size w w2 := (by repeat (first | exact Below.refl _ _ | assumption | refine Below.drew ?_ | refine Below.drewN ?_ _ | refine Below.allocT ?_ (Nat.le_refl _) _ | refine Below.setCell ?_ (by simp <;> omega) _ | refine Below.to ?_ (by assumption) (Nat.le_refl _))))
          | (go_at_call 58; refine (errors2v _ 70 ce 70 _ (by simp) (by simp) (by simp)).mono ?_; rintro e w3 ⟨rfl, rfl⟩))
    go_ret2
    exact ⟨by simp [peakVal, peakErr, hg], (by repeat (first | exact Below.refl _ _ | assumption | refine Below.drew ?_ | refine Below.drewN ?_ _ | refine Below.allocT ?_ (Nat.le_refl _) _ | refine Below.setCell ?_ (by simp <;> omega) _ | refine Below.to ?_ (by assumption) (Nat.le_refl _)))⟩
end Go.Proofs.Ytejjjijaojkohaa
/- The least current for which something is so; selective fuses: walks and the plain law. -/
namespace Go.Proofs.Ytejjjijaojkohaa
open Go.RowKit
set_option linter.unusedVariables false

/-- The least current from 0 to 500 for which p says yes, and -1 if there is none. -/
def leastI (p : Int → Bool) : Int := idxI (fun k : Nat => p k) (List.range 501)
theorem range_getD {j : Nat} (hj : j < 501) : (List.range 501).getD j 0 = j := by
  rw [List.getD_eq_getElem?_getD, List.getElem?_range hj]; rfl
theorem leastI_at (p : Int → Bool) (k : Nat) (h : ∀ j : Nat, j < k → p j = false) (hk : k < 501) (hp : p k = true) : leastI p = k := by
  refine idxI_at _ 0 _ k (fun j hj => ?_) (by simpa using hk) ?_
  · rw [range_getD (by omega)]; exact h j hj
  · rw [range_getD hk]; exact hp
theorem leastI_none (p : Int → Bool) (h : ∀ j : Nat, j < 501 → p j = false) : leastI p = -1 := by
  refine idxI_none _ 0 _ (fun j hj => ?_)
  have hj' : j < 501 := by simpa using hj
  rw [range_getD hj']; exact h j hj'
theorem leastI_cases (p : Int → Bool) : (leastI p = -1 ∧ ∀ j : Nat, j < 501 → p j = false) ∨ ∃ k : Nat, k < 501 ∧ leastI p = k ∧ p k = true ∧ ∀ j : Nat, j < k → p j = false := by
  classical
  by_cases h : ∃ k : Nat, k < 501 ∧ p k = true
  · right
    have hex : ∃ k : Nat, (k < 501 ∧ p k = true) ∧ ∀ j : Nat, j < k → ¬ (j < 501 ∧ p j = true) := by
      obtain ⟨k, hk⟩ := h
      induction k using Nat.strongRecOn with
      | ind k ih =>
        by_cases h2 : ∃ j : Nat, j < k ∧ (j < 501 ∧ p j = true)
        · obtain ⟨j, hj, hj2⟩ := h2
          exact ih j hj hj2
        · exact ⟨k, hk, fun j hj hj2 => h2 ⟨j, hj, hj2⟩⟩
    obtain ⟨k, ⟨hk, hp⟩, hmin⟩ := hex
    have h0 : ∀ j : Nat, j < k → p j = false := fun j hj => by
      have := hmin j hj
      cases hpj : p j with
      | false => rfl
      | true => exact absurd ⟨by omega, hpj⟩ this
    exact ⟨k, hk, leastI_at p k h0 hk hp, hp, h0⟩
  · left
    have h0 : ∀ j : Nat, j < 501 → p j = false := fun j hj => by
      cases hpj : p j with
      | false => rfl
      | true => exact absurd ⟨j, hj, hpj⟩ h
    exact ⟨leastI_none p h0, h0⟩
theorem leastI_neg {p : Int → Bool} (h : leastI p < 0) {a : Int} (h0 : 0 ≤ a) (h1 : a ≤ 500) : p a = false := by
  obtain ⟨k, rfl⟩ := Int.eq_ofNat_of_zero_le h0
  rcases leastI_cases p with ⟨_, h2⟩ | ⟨j, _, h3, _⟩
  · exact h2 k (by omega)
  · omega
theorem leastI_of {p q : Int → Bool} (h : ∀ a, 0 ≤ a → a ≤ 500 → p a = q a) : leastI p = leastI q := by
  rcases leastI_cases p with ⟨h1, h2⟩ | ⟨k, h1, h2, h3, h4⟩
  · rw [h1, leastI_none q (fun j hj => by rw [← h j (by omega) (by omega)]; exact h2 j hj)]
  · rw [h2, leastI_at q k (fun j hj => by rw [← h j (by omega) (by omega)]; exact h4 j hj) h1 (by rw [← h k (by omega) (by omega)]; exact h3)]

theorem blow_range {f : Fu} (hf : f.Ok) {a : Int} (h0 : 0 ≤ a) (h1 : a ≤ 500) : 0 ≤ blowNum f a ∧ blowNum f a ≤ 1000000 ∧ 0 ≤ blowDen f a ∧ blowDen f a ≤ 250000 ∧ (f.rating < a → 1 ≤ blowDen f a ∧ 1 ≤ blowNum f a) ∧ (a ≤ f.rating → blowDen f a = 0 ∧ blowNum f a = 0) := by
  unfold blowNum blowDen
  by_cases hc : a ≤ f.rating
  · simp [hc]
  · have hs := sq_lt hf.rating0 (show f.rating < a by omega)
    obtain ⟨p1, p2⟩ := mul_range h0 h1 h0 h1
    obtain ⟨p3, p4⟩ := mul_range hf.rating0 hf.rating1 hf.rating0 hf.rating1
    have hg := gcd_pos_le (a * a - f.rating * f.rating) hf.melt0
    have hd1 : ((Nat.gcd f.melt.toNat (a * a - f.rating * f.rating).toNat : Nat) : Int) ≤ a * a - f.rating * f.rating := by
      have := Nat.le_of_dvd (show 0 < (a * a - f.rating * f.rating).toNat by omega) (Nat.gcd_dvd_right f.melt.toNat (a * a - f.rating * f.rating).toNat)
      omega
    obtain ⟨d, hd⟩ : ∃ d : Int, ((Nat.gcd f.melt.toNat (a * a - f.rating * f.rating).toNat : Nat) : Int) = d := ⟨_, rfl⟩
    rw [hd] at hg hd1 ⊢
    have m0 := hf.melt0
    have m1 := hf.melt1
    rw [if_neg hc, if_neg hc]
    have e1 : 1 ≤ f.melt / d := by rw [Int.le_ediv_iff_mul_le (by omega)]; omega
    have e2 : f.melt / d ≤ f.melt := Int.ediv_le_self _ (by omega)
    have e3 : 1 ≤ (a * a - f.rating * f.rating) / d := by rw [Int.le_ediv_iff_mul_le (by omega)]; omega
    have e4 : (a * a - f.rating * f.rating) / d ≤ (a * a - f.rating * f.rating) := Int.ediv_le_self _ (by omega)
    refine ⟨by omega, by omega, by omega, by omega, fun _ => ⟨e3, e1⟩, fun h => absurd h (by omega)⟩

/-- Under this current upper opens, and lower not before. -/
def selB (lo up : Fu) (a : Int) : Bool := decide (0 < blowDen up a) && (decide (blowDen lo a = 0) || decide (blowNum up a * blowDen lo a ≤ blowNum lo a * blowDen up a))
def selErr (lo up : Fu) : Int := if lo.ok && up.ok then 0 else 72
def selVal (lo up : Fu) : Int := if lo.ok && up.ok then leastI (selB lo up) else 0

theorem sel_trans (lo mi up : Fu) (h1 : lo.Ok) (h2 : mi.Ok) (h3 : up.Ok) (ha : leastI (selB lo mi) < 0) (hb : leastI (selB mi up) < 0) : leastI (selB lo up) = -1 := by
  refine leastI_none _ fun j hj => ?_
  have p1 := leastI_neg ha (a := j) (by omega) (by omega)
  have p2 := leastI_neg hb (a := j) (by omega) (by omega)
  have r1 := blow_range h1 (a := j) (by omega) (by omega)
  have r2 := blow_range h2 (a := j) (by omega) (by omega)
  have r3 := blow_range h3 (a := j) (by omega) (by omega)
  unfold selB at p1 p2 ⊢
  obtain ⟨a, ha'⟩ : ∃ a, blowNum lo j = a := ⟨_, rfl⟩
  obtain ⟨b, hb'⟩ : ∃ b, blowDen lo j = b := ⟨_, rfl⟩
  obtain ⟨c, hc'⟩ : ∃ c, blowNum mi j = c := ⟨_, rfl⟩
  obtain ⟨d, hd'⟩ : ∃ d, blowDen mi j = d := ⟨_, rfl⟩
  obtain ⟨e, he'⟩ : ∃ e, blowNum up j = e := ⟨_, rfl⟩
  obtain ⟨f, hf'⟩ : ∃ f, blowDen up j = f := ⟨_, rfl⟩
  rw [ha', hb', hc', hd'] at p1
  rw [hc', hd', he', hf'] at p2
  rw [ha', hb', he', hf']
  rw [ha', hb'] at r1
  rw [hc', hd'] at r2
  rw [he', hf'] at r3
  simp only [Bool.and_eq_false_iff, Bool.or_eq_false_iff, decide_eq_false_iff_not] at p1 p2 ⊢
  by_cases hf0 : 0 < f
  · right
    rcases p2 with p2 | ⟨q1, q2⟩
    · omega
    · rcases p1 with p1 | ⟨q3, q4⟩
      · omega
      · refine ⟨q3, ?_⟩
        have hb0 : 0 < b := by omega
        have hd0 : 0 < d := by omega
        have s1 : a * d < c * b := by omega
        have s2 : c * f < e * d := by omega
        intro h4
        have t1 : a * d * f < c * b * f := Int.mul_lt_mul_of_pos_right s1 hf0
        have t2 : c * f * b < e * d * b := Int.mul_lt_mul_of_pos_right s2 hb0
        have t3 : e * b * d ≤ a * f * d := Int.mul_le_mul_of_nonneg_right h4 (by omega)
        have u1 : c * b * f = c * f * b := by rw [Int.mul_assoc, Int.mul_comm b f, ← Int.mul_assoc]
        have u2 : e * d * b = e * b * d := by rw [Int.mul_assoc, Int.mul_comm d b, ← Int.mul_assoc]
        have u3 : a * d * f = a * f * d := by rw [Int.mul_assoc, Int.mul_comm d f, ← Int.mul_assoc]
        omega
  · left
    exact hf0

set_option maxRecDepth 100000 in
theorem least_sel (p : Int → Bool) (c0 c1 : Value) (w : World) (hf : ∀ (a : Int) (W : World), 0 ≤ a → a ≤ 500 → Below w.heap.size w W → Calls Try.prog 96 #[.int .i64 a, c0, c1] W fun e w' => e = .returned (.bool (p a)) ∧ Below W.heap.size W w') :
    Calls Try.prog 95 #[.func (.func 96) #[] #[c0, c1]] w fun e w' => e = .returned (.int .i64 (leastI p)) ∧ Below w.heap.size w w' := by
  have HF := hide hf; clear hf
  go_enter Try.func95, Try.ntmps95
  go_wp2
  go_loopw [3, 4] (fun _ i wr => ∃ k : Nat, k ≤ 501 ∧ i = .int .i64 k ∧ Hid (∀ j : Nat, j < k → p j = false) ∧ Below w.heap.size w wr) (fun _ i _ => 501 - (intOf i).toNat)
  case atStart => exact ⟨0, by omega, rfl, fun j hj => by omega, Below.refl _ _⟩
  case round =>
    obtain ⟨k, hk, rfl, hz, hB⟩ := hrel
    by_cases hlt : k < 501
    · by_cases hp : p k = true
      · have HP := hide hp
        go_wp2_with (go_at_call 96; refine (HF.out (k : Int) _ (by omega) (by omega) hB).mono ?_; rw [hp]; rintro e w1 ⟨rfl, hB1⟩)
        go_ret
        exact ⟨ret_int (leastI_at p k hz.out hlt HP.out).symm, (by repeat (first | exact Below.refl _ _ | assumption | refine Below.drew ?_ | refine Below.drewN ?_ _ | refine Below.allocT ?_ (Nat.le_refl _) _ | refine Below.setCell ?_ (by simp <;> omega) _ | refine Below.to ?_ (by assumption) (Nat.le_refl _)))⟩
      · have hp' : p k = false := by simpa using hp
        clear hp
        have HP := hide hp'
        go_wp2_with (go_at_call 96; refine (HF.out (k : Int) _ (by omega) (by omega) hB).mono ?_; rw [hp']; rintro e w1 ⟨rfl, hB1⟩)
        go_roundw
        case rel => exact ⟨k + 1, by omega, by go_num, fun j hj => by
            rcases Nat.lt_or_ge j k with h | h
            · exact hz.out j h
            · rw [show j = k from by omega]; exact HP.out, (by repeat (first | exact Below.refl _ _ | assumption | refine Below.drew ?_ | refine Below.drewN ?_ _ | refine Below.allocT ?_ (Nat.le_refl _) _ | refine Below.setCell ?_ (by simp <;> omega) _ | refine Below.to ?_ (by assumption) (Nat.le_refl _)))⟩
        case measure => simp [intOf]; omega
    · go_wp2
      go_ret
      exact ⟨ret_int (leastI_none p (fun j hj => hz.out j (by omega))).symm, (by repeat (first | exact Below.refl _ _ | assumption | refine Below.drew ?_ | refine Below.drewN ?_ _ | refine Below.allocT ?_ (Nat.le_refl _) _ | refine Below.setCell ?_ (by simp <;> omega) _ | refine Below.to ?_ (by assumption) (Nat.le_refl _)))⟩

end Go.Proofs.Ytejjjijaojkohaa
/- Plain laws: a peak that is not above the limit is the greatest of all seconds; a fuse opens earlier under a greater current. -/
namespace Go.Proofs.Ytejjjijaojkohaa
open Go.RowKit
set_option linter.unusedVariables false

theorem ampAt_add (cs : List Cu) (q t : Nat) : ampAt cs (q * secsN cs + t) = ampAt cs t := by
  unfold ampAt; rw [Nat.mul_comm, Nat.mul_add_mod]
theorem stU_add (f : Int → Int → Int) (cs : List Cu) (r : Int) (q : Nat) : ∀ t, stU f cs r (q * secsN cs + t) = stU f cs (stU f cs r (q * secsN cs)) t
  | 0 => rfl
  | t + 1 => by rw [← Nat.add_assoc, stU_succ, stU_succ, stU_add f cs r q t, ampAt_add]
theorem pk_fix {f : Int → Int → Int} {cs : List Cu} (hf : ∀ a b x, a ≤ b → f a x ≤ f b x) {limit : Int} : ∀ (n : Nat) (r : Int), r ≤ cySt f cs r → pk f cs limit n r ≤ limit → ∃ q, r ≤ q ∧ cySt f cs q = q ∧ pk f cs limit n r = cyMx f cs q
  | 0, r, _, h => by simp only [pk] at h; omega
  | n + 1, r, hr, h => by
    simp only [pk] at h ⊢
    by_cases h1 : limit < cyMx f cs r
    · rw [if_pos h1] at h; omega
    · rw [if_neg h1] at h ⊢
      by_cases h2 : cySt f cs r = r
      · rw [if_pos h2]; exact ⟨r, Int.le_refl _, h2, rfl⟩
      · rw [if_neg h2] at h ⊢
        obtain ⟨q, h3, h4, h5⟩ := pk_fix hf n (cySt f cs r) (stU_mono hf hr _) h
        exact ⟨q, by omega, h4, h5⟩
theorem pk_hi (f : Int → Int → Int) (cs : List Cu) (limit : Int) : ∀ (n : Nat) (r : Int), pk f cs limit n r ≤ limit + 1
  | 0, r => Int.le_refl _
  | n + 1, r => by
    simp only [pk]
    split
    · omega
    · split
      · omega
      · exact pk_hi f cs limit n _
theorem pk_lo (f : Int → Int → Int) (cs : List Cu) (limit : Int) (h0 : 0 ≤ limit) : ∀ (n : Nat) (r : Int), 0 ≤ r → r ≤ cySt f cs r → (∀ a, 0 ≤ a → a ≤ cySt f cs a → cySt f cs a ≤ cySt f cs (cySt f cs a)) → 0 ≤ pk f cs limit n r
  | 0, r, _, _, _ => by simp only [pk]; omega
  | n + 1, r, hr, hu, hm => by
    simp only [pk]
    have := le_cyMx f cs r
    split
    · omega
    · split
      · omega
      · exact pk_lo f cs limit h0 n _ (by omega) (hm r hr hu) hm
theorem peak_all {g : Ga} (hg : g.Ok) {cs : List Cu} (hok : cycOk cs = true) {limit : Int} (h : peakI g cs limit ≤ limit) (n : Nat) : runSt (warmI g) 0 (ups cs n) ≤ peakI g cs limit := by
  have hf := warmI_mono g hg.cool0 hg.cool1
  have hN := secsN_pos hok
  obtain ⟨q, h1, h2, h3⟩ := pk_fix hf _ 0 (cySt_nonneg hg hok (Int.le_refl _)) h
  have hit : ∀ k, stU (warmI g) cs 0 (k * secsN cs) ≤ q := by
    intro k
    induction k with
    | zero => rw [Nat.zero_mul]; exact h1
    | succ k ih =>
      rw [Nat.succ_mul, stU_add]
      have := stU_mono hf (cs := cs) ih (secsN cs)
      unfold cySt at h2
      omega
  unfold peakI
  rw [h3]
  have hn : n = n / secsN cs * secsN cs + n % secsN cs := by rw [Nat.mul_comm]; exact (Nat.div_add_mod n _).symm
  have h4 : runSt (warmI g) 0 (ups cs n) = stU (warmI g) cs (stU (warmI g) cs 0 (n / secsN cs * secsN cs)) (n % secsN cs) := by
    rw [← stU_add, ← hn]; rfl
  rw [h4]
  have h5 := stU_mono hf (cs := cs) (hit (n / secsN cs)) (n % secsN cs)
  have h6 := st_le_mxU' (warmI g) cs q (s := n % secsN cs) (t := secsN cs) (Nat.le_of_lt (Nat.mod_lt _ hN))
  unfold cyMx
  omega
theorem peak_range {g : Ga} (hg : g.Ok) {cs : List Cu} (hok : cycOk cs = true) {limit : Int} (h0 : 0 ≤ limit) : 0 ≤ peakI g cs limit ∧ peakI g cs limit ≤ limit + 1 :=
  ⟨pk_lo _ _ _ h0 _ _ (Int.le_refl _) (cySt_nonneg hg hok (Int.le_refl _)) (fun a _ h2 => stU_mono (warmI_mono g hg.cool0 hg.cool1) h2 _), pk_hi _ _ _ _ _⟩

theorem blow_cross {f : Fu} (hf : f.Ok) {a : Int} (h0 : 0 ≤ a) (h : f.rating < a) : blowNum f a * (a * a - f.rating * f.rating) = f.melt * blowDen f a := by
  have hs := sq_lt hf.rating0 h
  unfold blowNum blowDen
  rw [if_neg (by omega), if_neg (by omega)]
  have m0 := hf.melt0
  have d1 : ((Nat.gcd f.melt.toNat (a * a - f.rating * f.rating).toNat : Nat) : Int) ∣ f.melt := by
    have := Int.natCast_dvd_natCast.2 (Nat.gcd_dvd_left f.melt.toNat (a * a - f.rating * f.rating).toNat)
    rwa [Int.toNat_of_nonneg (by omega)] at this
  have d2 : ((Nat.gcd f.melt.toNat (a * a - f.rating * f.rating).toNat : Nat) : Int) ∣ (a * a - f.rating * f.rating) := by
    have := Int.natCast_dvd_natCast.2 (Nat.gcd_dvd_right f.melt.toNat (a * a - f.rating * f.rating).toNat)
    rwa [Int.toNat_of_nonneg (by omega)] at this
  obtain ⟨d, hd⟩ : ∃ d : Int, ((Nat.gcd f.melt.toNat (a * a - f.rating * f.rating).toNat : Nat) : Int) = d := ⟨_, rfl⟩
  rw [hd] at d1 d2 ⊢
  obtain ⟨D, hD⟩ : ∃ D : Int, a * a - f.rating * f.rating = D := ⟨_, rfl⟩
  rw [hD] at d2 ⊢
  have e1 := Int.ediv_mul_cancel d1
  have e2 := Int.ediv_mul_cancel d2
  calc f.melt / d * D = f.melt / d * (D / d * d) := by rw [e2]
    _ = f.melt / d * d * (D / d) := by rw [Int.mul_comm (D / d) d, Int.mul_assoc]
    _ = f.melt * (D / d) := by rw [e1]
/-- A greater current opens a fuse earlier. -/
theorem blow_earlier {f : Fu} (hf : f.Ok) {a b : Int} (h0 : 0 ≤ a) (h : f.rating < a) (hab : a < b) (hb : b ≤ 500) : blowNum f b * blowDen f a < blowNum f a * blowDen f b := by
  have ca := blow_cross hf h0 h
  have cb := blow_cross hf (a := b) (by omega) (by omega)
  have ra := blow_range hf h0 (by omega)
  have rb := blow_range hf (a := b) (by omega) hb
  have sa := sq_lt hf.rating0 h
  have hD : a * a - f.rating * f.rating < b * b - f.rating * f.rating := by
    have h1 : a * a ≤ a * b := Int.mul_le_mul_of_nonneg_left (by omega) h0
    have h2 : a * b < b * b := Int.mul_lt_mul_of_pos_right hab (by omega)
    omega
  have m0 := hf.melt0
  have ga := ra.2.2.2.2.1 h
  have gb := rb.2.2.2.2.1 (by omega)
  obtain ⟨D, hDD⟩ : ∃ D : Int, a * a - f.rating * f.rating = D := ⟨_, rfl⟩
  obtain ⟨E, hEE⟩ : ∃ E : Int, b * b - f.rating * f.rating = E := ⟨_, rfl⟩
  rw [hDD] at ca sa hD
  rw [hEE] at cb hD
  obtain ⟨na, hna⟩ : ∃ x, blowNum f a = x := ⟨_, rfl⟩
  obtain ⟨da, hda⟩ : ∃ x, blowDen f a = x := ⟨_, rfl⟩
  obtain ⟨nb, hnb⟩ : ∃ x, blowNum f b = x := ⟨_, rfl⟩
  obtain ⟨db, hdb⟩ : ∃ x, blowDen f b = x := ⟨_, rfl⟩
  rw [hna, hda] at ca ga
  rw [hnb, hdb] at cb gb
  rw [hna, hda, hnb, hdb]
  have hE0 : 0 < E := by omega
  have k1 : nb * da * (D * E) = f.melt * db * da * D := by
    calc nb * da * (D * E) = nb * E * da * D := by
          rw [Int.mul_comm D E, ← Int.mul_assoc, Int.mul_assoc nb da E, Int.mul_comm da E, ← Int.mul_assoc]
      _ = f.melt * db * da * D := by rw [cb]
  have k2 : na * db * (D * E) = f.melt * da * db * E := by
    calc na * db * (D * E) = na * D * db * E := by
          rw [← Int.mul_assoc, Int.mul_assoc na db D, Int.mul_comm db D, ← Int.mul_assoc]
      _ = f.melt * da * db * E := by rw [ca]
  have k3 : f.melt * db * da = f.melt * da * db := by rw [Int.mul_assoc, Int.mul_comm db da, ← Int.mul_assoc]
  have hp : 0 < f.melt * da * db := Int.mul_pos (Int.mul_pos (by omega) (by omega)) (by omega)
  have k4 : f.melt * da * db * D < f.melt * da * db * E := Int.mul_lt_mul_of_pos_left hD hp
  have k5 : nb * da * (D * E) < na * db * (D * E) := by rw [k1, k2, k3]; exact k4
  exact Int.lt_of_mul_lt_mul_right k5 (Int.le_of_lt (Int.mul_pos sa hE0))
end Go.Proofs.Ytejjjijaojkohaa

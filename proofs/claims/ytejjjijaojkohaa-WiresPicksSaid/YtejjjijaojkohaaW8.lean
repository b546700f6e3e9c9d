/- The rise of a wire: what the reference and the program compute: walks. -/
import Derived.Test.YtejjjijaojkohaaRows
import Derived.Test.YtejjjijaojkohaaW7
namespace Go.Proofs.Ytejjjijaojkohaa
open Go.RowKit
set_option linter.unusedVariables false

/-- The slice value v holds n integers, the first n of L, below block B. -/
def Ints (w : World) (B : Nat) (v : Value) (n : Nat) (L : List Int) : Prop := Sl w B 1 v n (fun i _ => .int .i64 (L.getD i 0))
theorem Ints.of_owns {w : World} {base n : Nat} {v : Value} {L : List Int} (h : w.ownsRow base 3 1 v n (L.map (Value.int .i64))) : Ints w w.heap.size v n L := by
  have hn : n = L.length := by have := h.1; simpa using this.symm
  subst hn
  refine Sl.of_owns h fun i j hi hj => ?_
  obtain rfl : j = 0 := by omega
  simp [hi]
theorem intAt {w wr : World} {B b off n : Nat} {A : Option Addr} {L : List Int} {k : Nat} (hB : Below B w wr) (hA : A = some ⟨b, off, none⟩ ∧ b < B ∨ n = 0)
    (hc : ∀ i j, i < n → j < 1 → w.cell? ⟨b, off + (i * 1 + j), none⟩ = some ((fun i _ => .int .i64 (L.getD i 0) : Nat → Nat → Value) i j)) (hlt : k < n) :
    ∃ z, Hid (L.getD k 0 = z) ∧ A = some ⟨b, off, none⟩ ∧ b < B ∧ wr.cell? ⟨b, off + k, none⟩ = some (.int .i64 z) := by
  rcases hA with ⟨hA1, hA2⟩ | hA1
  · refine ⟨_, rfl, hA1, hA2, (hB.cell (p := ⟨b, off + k, none⟩) hA2).trans ?_⟩
    have := hc k 0 hlt (by omega)
    rwa [Nat.mul_one, Nat.add_zero] at this
  · omega

theorem rwarm_any (g : Ga) (r i : Int) (w : World) (hh0 : 0 ≤ g.heat) (hh1 : g.heat ≤ 1000) (hc0 : 0 ≤ g.cool) (hc1 : g.cool ≤ 1024) (hr0 : 0 ≤ r) (hr1 : r ≤ 1000000000) (hi0 : 0 ≤ i) (hi1 : i ≤ 500) :
    Calls Try.prog 67 #[.agg #[.int .i64 g.area, .int .i64 g.ohm, .int .i64 g.heat, .int .i64 g.cool, .int .i64 g.limit], .int .i64 r, .int .i64 i] w fun e w' => e = .returned (.int .i64 (warmI g r i)) ∧ Below w.heap.size w w' := by
  obtain ⟨p1, p2⟩ := mul_range hi0 hi1 hi0 hi1
  obtain ⟨p3, p4⟩ := mul_range p1 p2 hh0 hh1
  obtain ⟨p5, p6⟩ := mul_range hr0 hr1 hc0 hc1
  go_enter Try.func67, Try.ntmps67
  go_wp2
  go_ret
  exact ⟨ret_int (by unfold warmI; omega), (by repeat (first | exact Below.refl _ _ | assumption | refine Below.drew ?_ | refine Below.drewN ?_ _ | refine Below.allocT ?_ (Nat.le_refl _) _ | refine Below.setCell ?_ (by simp <;> omega) _ | refine Below.to ?_ (by assumption) (Nat.le_refl _)))⟩

def riseErr (g : Ga) (cs : List Cu) (n : Int) : Int := if g.ok then if cycOk cs then if fromB n 0 10000 then 0 else 1 else 71 else 70
def riseVal (g : Ga) (cs : List Cu) (n : Int) : Int := if g.ok && cycOk cs && fromB n 0 10000 then runSt (warmI g) 0 (ups cs n.toNat) else 0

theorem ampAt_range {cs : List Cu} (hok : cycOk cs = true) (j : Nat) : 0 ≤ ampAt cs j ∧ ampAt cs j ≤ 500 := by
  have hp := secsN_pos hok
  have hm := Nat.mod_lt j hp
  unfold ampAt
  rw [← secsL_length] at hm
  have h : (secsL cs).getD (j % secsN cs) 0 ∈ secsL cs := by
    rw [← secsL_length]
    have h : (secsL cs).getD (j % (secsL cs).length) 0 = (secsL cs)[j % (secsL cs).length]'(by rw [secsL_length] at hm ⊢; exact hm) := by
      rw [List.getD_eq_getElem?_getD, List.getElem?_eq_getElem (by rw [secsL_length] at hm ⊢; exact hm)]
      rfl
    rw [h]; exact List.getElem_mem _
  unfold secsL at h
  rw [List.mem_flatMap] at h
  obtain ⟨c, hc, hx⟩ := h
  have := cycOk_cu hok hc
  rw [List.mem_replicate] at hx
  unfold secsL
  omega
theorem st_range {g : Ga} (hg : g.Ok) {cs : List Cu} (hok : cycOk cs = true) {r : Int} (hr : 0 ≤ r) (s : Nat) : 0 ≤ runSt (warmI g) r (ups cs s) ∧ runSt (warmI g) r (ups cs s) ≤ r + 61036 * s := by
  induction s with
  | zero => simp [ups, runSt]; omega
  | succ s ih =>
    rw [ups_succ, runSt_snoc]
    have ha := ampAt_range hok s
    have := warmI_range g (runSt (warmI g) r (ups cs s)) (ampAt cs s) hg.heat0 hg.heat1 hg.cool0 hg.cool1 ih.1 ha.1 ha.2
    omega

set_option maxRecDepth 100000 in
theorem rRise_any (g : Ga) (v : Value) (cs : List Cu) (n : Int) (w : World) (hn : cs.length ≤ 20) (h : Cyc w w.heap.size v cs) :
    Calls Try.prog 27 #[.agg #[.int .i64 g.area, .int .i64 g.ohm, .int .i64 g.heat, .int .i64 g.cool, .int .i64 g.limit], v, .int .i64 n] w fun e w' => e = .returned (.tuple #[.int .i64 (riseVal g cs n), .int .i64 (riseErr g cs n)]) ∧ Below w.heap.size w w' := by
  have H := hide h
  obtain ⟨A0, cap0, rfl⟩ := h.form
  clear h
  by_cases hg : g.ok = true
  · by_cases hok : cycOk cs = true
    · by_cases h1 : fromB n 0 10000 = true
      · have g1 := Ga.ok_iff.1 hg
        obtain ⟨n0, n1⟩ := fromB_iff.1 h1
        have HG := hide g1; clear g1
        have HOK := hide hok
        go_enter Try.func27, Try.ntmps27
        go_wp2_with (first
          | (go_at_call 51; refine (gauge_any g _).mono ?_; rw [hg]; rintro e w1 ⟨rfl, hB1⟩
             have hW1 : Below w.heap.size w w1 := (by repeat (first | exact Below.refl _ _ | assumption | refine Below.drew ?_ | refine Below.drewN ?_ _ | refine Below.allocT ?_ (Nat.le_refl _) _ | refine Below.setCell ?_ (by simp <;> omega) _ | refine Below.to ?_ (by assumption) (Nat.le_refl _)))
             have H1 : Cyc w1 w1.heap.size (.slice A0 cs.length cap0) cs := (H.out.below hW1).more hW1.size
             have H1 := hide H1)
          | (go_at_call 61; refine (cycled_any _ cs _ hn H1.out).mono ?_; rw [hok]; rintro e w2 ⟨rfl, hB2⟩
             have hW2 : Below w.heap.size w w2 := (by repeat (first | exact Below.refl _ _ | assumption | refine Below.drew ?_ | refine Below.drewN ?_ _ | refine Below.allocT ?_ (Nat.le_refl _) _ | refine Below.setCell ?_ (by simp <;> omega) _ | refine Below.to ?_ (by assumption) (Nat.le_refl _)))
             have H2 : Cyc w2 w2.heap.size (.slice A0 cs.length cap0) cs := (H.out.below hW2).more hW2.size
             have H2 := hide H2)
          | (go_at_call 52; refine (from_any _ _ _ _).mono ?_; rw [h1]; rintro e w' ⟨rfl, rfl⟩)
          | (go_at_call 66; refine (seconds_any _ cs _ HOK.out H2.out).mono ?_; rintro e w3 ⟨v3, rfl, hown, hB3⟩
             have hW3 : Below w.heap.size w w3 := (by repeat (first | exact Below.refl _ _ | assumption | refine Below.drew ?_ | refine Below.drewN ?_ _ | refine Below.allocT ?_ (Nat.le_refl _) _ | refine Below.setCell ?_ (by simp <;> omega) _ | refine Below.to ?_ (by assumption) (Nat.le_refl _)))
             have HO := hide hown
             clear hown))
        have hlenN := secsL_length cs
        have hposN := secsN_pos HOK.out
        have hleN := secsN_le HOK.out
        obtain ⟨m, rfl⟩ := Int.eq_ofNat_of_zero_le n0
        have hGb : w3.heap[w.heap.size]? = some (.cells #[.int .i64 g.area, .int .i64 g.ohm, .int .i64 g.heat, .int .i64 g.cool, .int .i64 g.limit] 23 (0, 0)) := by
          rw [hB3.block _ (by have := hB1.size; have := hB2.size; simp at *; omega), hB2.block _ (by have := hB1.size; simp at *; omega), hB1.block _ (by simp), heap_new _ _ _ rfl]
        have hs3 : w.heap.size < w3.heap.size := (Array.getElem?_eq_some_iff.1 hGb).1
        have hI := Ints.of_owns HO.out
        obtain ⟨A, b, off, cap, hv3, hcp, hA, hc⟩ := hI
        have HC := hide hc; clear hc
        have HA := hide hA; clear hA
        have HGB := hide hGb; clear hGb
        rw [hv3]
        clear hB1 hB2 hB3 H1 H2 hv3 hlenN hcp
        clear H1 H2
        go_loopw [9, 10] (fun r s wr => ∃ (k : Nat) (x : Int), k ≤ m ∧ 0 ≤ x ∧ x ≤ 61036 * k ∧ s = .int .i64 k ∧ r = .int .i64 x ∧ Hid (runSt (warmI g) 0 (ups cs k) = x) ∧ Below w3.heap.size w3 wr) (fun _ s _ => m - (intOf s).toNat)
        case atStart => exact ⟨0, 0, Nat.zero_le _, by omega, by omega, rfl, rfl, rfl, Below.refl _ _⟩
        case round =>
          obtain ⟨k, x, hk, hx0, hx1, rfl, rfl, hx, hB⟩ := hrel
          by_cases hlt : k < m
          · obtain ⟨p, hp, hpl, htm, hN0⟩ : ∃ p, Hid (k % secsN cs = p) ∧ p < secsN cs ∧ Int.tmod (k : Int) (secsN cs : Int) = (p : Int) ∧ ¬ secsN cs = 0 :=
              ⟨_, rfl, Nat.mod_lt _ hposN, by rw [Int.tmod_eq_emod_of_nonneg (by omega)]; rfl, by omega⟩
            obtain ⟨z, hz, hA1, hA2, hcz⟩ := intAt (k := p) hB HA.out HC.out hpl
            subst hA1
            have hG := (hB.block _ hs3).trans HGB.out
            have q0 := cellOf hG 0
            have q1 := cellOf hG 1
            have q2 := cellOf hG 2
            have q3 := cellOf hG 3
            have q4 := cellOf hG 4
            clear hG
            go_wp2
            go_still_tail 9, (by kernel_rfl)
            change wpList _ _ _ _ _ wr.drew
            have hz2 : ampAt cs k = z := by unfold ampAt; rw [hp.out]; exact hz.out
            have hzr := ampAt_range HOK.out k
            rw [hz2] at hzr
            obtain ⟨hz3, hz4⟩ := hzr
            have HZ2 := hide hz2
            clear hz2
            have g1 := HG.out
            go_wp2_with (go_at_call 67; refine (rwarm_any g x z _ g1.heat0 g1.heat1 g1.cool0 g1.cool1 hx0 (by omega) hz3 hz4).mono ?_; rintro e w' ⟨rfl, hB4⟩)
            have hrg := warmI_range g x z g1.heat0 g1.heat1 g1.cool0 g1.cool1 hx0 hz3 hz4
            go_roundw
            case rel => exact ⟨k + 1, warmI g x z, by omega, hrg.1, by omega, by go_num, rfl, by show _ = _; rw [ups_succ, runSt_snoc, hx.out, HZ2.out], Below.to hB (show Below wr.heap.size wr w' from ⟨hB4.os, hB4.tape, hB4.output, hB4.size, hB4.block⟩) (Nat.le_refl _)⟩
            case measure => simp [intOf]; omega
          · go_wp2
            go_ret2
            have hkm : k = m := by omega
            subst hkm
            exact ⟨by simp [riseVal, riseErr, hg, hok, h1]; exact hx.out.symm, hW3.trans (hB.mono hW3.size)⟩
      · go_enter Try.func27, Try.ntmps27
        go_wp2_with (first
          | (go_at_call 51; refine (gauge_any g _).mono ?_; rw [hg]; rintro e w1 ⟨rfl, hB1⟩
             have hW1 : Below w.heap.size w w1 := (by repeat (first | exact Below.refl _ _ | assumption | refine Below.drew ?_ | refine Below.drewN ?_ _ | refine Below.allocT ?_ (Nat.le_refl _) _ | refine Below.setCell ?_ (by simp <;> omega) _ | refine Below.to ?_ (by assumption) (Nat.le_refl _)))
             have H1 : Cyc w1 w1.heap.size (.slice A0 cs.length cap0) cs := (H.out.below hW1).more hW1.size
             have H1 := hide H1)
          | (go_at_call 61; refine (cycled_any _ cs _ hn H1.out).mono ?_; rw [hok]; rintro e w2 ⟨rfl, hB2⟩
             have hW2 : Below w.heap.size w w2 := (by repeat (first | exact Below.refl _ _ | assumption | refine Below.drew ?_ | refine Below.drewN ?_ _ | refine Below.allocT ?_ (Nat.le_refl _) _ | refine Below.setCell ?_ (by simp <;> omega) _ | refine Below.to ?_ (by assumption) (Nat.le_refl _))))
          | (go_at_call 52; refine (from_any _ _ _ _).mono ?_; rintro e w' ⟨rfl, rfl⟩))
        go_ret2
        exact ⟨by simp [riseVal, riseErr, hg, hok, h1], hW2⟩
    · have hok' : cycOk cs = false := by simpa using hok
      go_enter Try.func27, Try.ntmps27
      go_wp2_with (first
          | (go_at_call 51; refine (gauge_any g _).mono ?_; rw [hg]; rintro e w1 ⟨rfl, hB1⟩
             have hW1 : Below w.heap.size w w1 := (by repeat (first | exact Below.refl _ _ | assumption | refine Below.drew ?_ | refine Below.drewN ?_ _ | refine Below.allocT ?_ (Nat.le_refl _) _ | refine Below.setCell ?_ (by simp <;> omega) _ | refine Below.to ?_ (by assumption) (Nat.le_refl _)))
             have H1 : Cyc w1 w1.heap.size (.slice A0 cs.length cap0) cs := (H.out.below hW1).more hW1.size
             have H1 := hide H1)
          | (go_at_call 61; refine (cycled_any _ cs _ hn H1.out).mono ?_; rw [hok']; rintro e w2 ⟨rfl, hB2⟩
             have hW2 : Below w.heap.size w w2 := (by repeat (first | exact Below.refl _ _ | assumption | refine Below.drew ?_ | refine Below.drewN ?_ _ | refine Below.allocT ?_ (Nat.le_refl _) _ | refine Below.setCell ?_ (by simp <;> omega) _ | refine Below.to ?_ (by assumption) (Nat.le_refl _)))))
      go_ret2
      exact ⟨by simp [riseVal, riseErr, hg, hok], hW2⟩
  · have hg' : g.ok = false := by simpa using hg
    go_enter Try.func27, Try.ntmps27
    go_wp2_with (go_at_call 51; refine (gauge_any g _).mono ?_; rw [hg']; rintro e w1 ⟨rfl, hB1⟩
                 have hW1 : Below w.heap.size w w1 := (by repeat (first | exact Below.refl _ _ | assumption | refine Below.drew ?_ | refine Below.drewN ?_ _ | refine Below.allocT ?_ (Nat.le_refl _) _ | refine Below.setCell ?_ (by simp <;> omega) _ | refine Below.to ?_ (by assumption) (Nat.le_refl _))))
    go_ret2
    exact ⟨by simp [riseVal, riseErr, hg], hW1⟩

theorem errors2v (b : Nat) (x y z : Int) (w : World) (h0 : w.cell? ⟨b, 0, none⟩ = some (.int .i64 x)) (h1 : w.cell? ⟨b, 1, none⟩ = some (.int .i64 y)) (hz : (if x = 0 then y else x) = z) :
    Calls Try.prog 58 #[.slice (some ⟨b, 0, none⟩) 2 2] w fun e w' => e = .returned (.int .i64 z) ∧ w = w' := hz ▸ errors2_any b x y w h0 h1
theorem errors3v (b : Nat) (x y z r : Int) (w : World) (h0 : w.cell? ⟨b, 0, none⟩ = some (.int .i64 x)) (h1 : w.cell? ⟨b, 1, none⟩ = some (.int .i64 y)) (h2 : w.cell? ⟨b, 2, none⟩ = some (.int .i64 z)) (hr : (if x = 0 then if y = 0 then z else y else x) = r) :
    Calls Try.prog 58 #[.slice (some ⟨b, 0, none⟩) 3 3] w fun e w' => e = .returned (.int .i64 r) ∧ w = w' := hr ▸ errors3_any b x y z w h0 h1 h2
theorem errors4v (b : Nat) (x y z u r : Int) (w : World) (h0 : w.cell? ⟨b, 0, none⟩ = some (.int .i64 x)) (h1 : w.cell? ⟨b, 1, none⟩ = some (.int .i64 y)) (h2 : w.cell? ⟨b, 2, none⟩ = some (.int .i64 z)) (h3 : w.cell? ⟨b, 3, none⟩ = some (.int .i64 u)) (hr : (if x = 0 then if y = 0 then if z = 0 then u else z else y else x) = r) :
    Calls Try.prog 58 #[.slice (some ⟨b, 0, none⟩) 4 4] w fun e w' => e = .returned (.int .i64 r) ∧ w = w' := hr ▸ errors4_any b x y z u w h0 h1 h2 h3

theorem gaugeI (g : Ga) (h : g.ok = true) : (if g.ok = true then (0 : Int) else 70) = 0 := if_pos h
theorem cycI {cs : List Cu} (h : cycOk cs = true) : cycErr cs = 0 := if_pos h
theorem cycI' {cs : List Cu} (h : ¬ cycOk cs = true) : cycErr cs = 71 := if_neg h

set_option maxRecDepth 100000 in
theorem Rise_any (g : Ga) (v : Value) (cs : List Cu) (n : Int) (w : World) (hn : cs.length ≤ 20) (h : Cyc w w.heap.size v cs) :
    Calls Try.prog 26 #[.agg #[.int .i64 g.area, .int .i64 g.ohm, .int .i64 g.heat, .int .i64 g.cool, .int .i64 g.limit], v, .int .i64 n] w fun e w' => e = .returned (.tuple #[.int .i64 (riseVal g cs n), .int .i64 (riseErr g cs n)]) ∧ Below w.heap.size w w' := by
  have H := hide h
  obtain ⟨A0, cap0, rfl⟩ := h.form
  clear h
  by_cases hg : g.ok = true
  · have hgi := gaugeI g hg
    by_cases hok : cycOk cs = true
    · have hci := cycI hok
      by_cases h1 : fromB n 0 10000 = true
      · have g1 := Ga.ok_iff.1 hg
        obtain ⟨n0, n1⟩ := fromB_iff.1 h1
        have HG := hide g1; clear g1
        have HOK := hide hok
        go_enter Try.func26, Try.ntmps26
        go_wp2_with (first
          | (go_at_call 48; refine (checkGauge_any g _).mono ?_; rw [hgi]; rintro e w1 ⟨rfl, hB1⟩
             have hW1 : Below w.heap.size w w1 := (by repeat (first | exact Below.refl _ _ | assumption | refine Below.drew ?_ | refine Below.drewN ?_ _ | refine Below.allocT ?_ (Nat.le_refl _) _ | refine Below.setCell ?_ (by simp <;> omega) _ | refine Below.to ?_ (by assumption) (Nat.le_refl _)))
             have H1 : Cyc w1 w1.heap.size (.slice A0 cs.length cap0) cs := (H.out.below hW1).more hW1.size
             have H1 := hide H1
             have hb1 := box_at hB1
             have q10 := cellOf hb1 0; have q11 := cellOf hb1 1; have q12 := cellOf hb1 2; have q13 := cellOf hb1 3; have q14 := cellOf hb1 4; have q1l := box_lt hb1; have q1h := hide hb1; clear hb1)
          | (go_at_call 59; refine (checkCycle_any _ cs _ hn H1.out).mono ?_; rw [hci]; rintro e w2 ⟨rfl, hB2⟩
             have hW2 : Below w.heap.size w w2 := (by repeat (first | exact Below.refl _ _ | assumption | refine Below.drew ?_ | refine Below.drewN ?_ _ | refine Below.allocT ?_ (Nat.le_refl _) _ | refine Below.setCell ?_ (by simp <;> omega) _ | refine Below.to ?_ (by assumption) (Nat.le_refl _)))
             have H2 : Cyc w2 w2.heap.size (.slice A0 cs.length cap0) cs := (H.out.below hW2).more hW2.size
             have H2 := hide H2
             have hb2 := box_to q1h.out hB2
             have q20 := cellOf hb2 0; have q21 := cellOf hb2 1; have q22 := cellOf hb2 2; have q23 := cellOf hb2 3; have q24 := cellOf hb2 4; have q2l := box_lt hb2; have q2h := hide hb2; clear hb2)
          | (go_at_call 58; refine (errors2v _ 0 0 0 _ (by simp) (by simp) (by simp)).mono ?_; rintro e w3 ⟨rfl, rfl⟩)
          | (go_at_call 49; refine (within_any _ _ _ _).mono ?_; rw [h1]; rintro e w' ⟨rfl, rfl⟩))
        refine (runWire_any (w2.heap.size + 1) g 0 n _ cs _ (heap_new _ _ _ (by simp)) (by simp) HOK.out (((H2.out.below (Below.allocT (Below.allocT (Below.refl _ _) (Nat.le_refl _) _) (Nat.le_refl _) _)).more (by omega))) n0 n1 HG.out.heat0 HG.out.heat1 HG.out.cool0 HG.out.cool1 (by omega) (by omega)).mono ?_
        rintro e w5 ⟨rfl, hwa, hgr⟩
        have c5 : w5.cell? ⟨w2.heap.size + 1, 5, none⟩ = some (.int .i64 (runSt (warmI g) 0 (ups cs n.toNat))) := cellOf hwa 5
        clear hwa
        have HGR := hide hgr
        clear hgr
        go_wp2
        go_ret2
        refine ⟨by simp [riseVal, riseErr, hg, hok, h1], ?_⟩
        exact below_only (Below.allocT (Below.allocT hW2 (Nat.le_refl _) _) (Nat.le_refl _) _) HGR.out (by have := hW2.size; omega)
      · go_enter Try.func26, Try.ntmps26
        go_wp2_with (first
          | (go_at_call 48; refine (checkGauge_any g _).mono ?_; rw [hgi]; rintro e w1 ⟨rfl, hB1⟩
             have hW1 : Below w.heap.size w w1 := (by repeat (first | exact Below.refl _ _ | assumption | refine Below.drew ?_ | refine Below.drewN ?_ _ | refine Below.allocT ?_ (Nat.le_refl _) _ | refine Below.setCell ?_ (by simp <;> omega) _ | refine Below.to ?_ (by assumption) (Nat.le_refl _)))
             have H1 : Cyc w1 w1.heap.size (.slice A0 cs.length cap0) cs := (H.out.below hW1).more hW1.size
             have H1 := hide H1)
          | (go_at_call 59; refine (checkCycle_any _ cs _ hn H1.out).mono ?_; rw [hci]; rintro e w2 ⟨rfl, hB2⟩
             have hW2 : Below w.heap.size w w2 := (by repeat (first | exact Below.refl _ _ | assumption | refine Below.drew ?_ | refine Below.drewN ?_ _ | refine Below.allocT ?_ (Nat.le_refl _) _ | refine Below.setCell ?_ (by simp <;> omega) _ | refine Below.to ?_ (by assumption) (Nat.le_refl _))))
          | (go_at_call 58; refine (errors2v _ 0 0 0 _ (by simp) (by simp) (by simp)).mono ?_; rintro e w3 ⟨rfl, rfl⟩)
          | (go_at_call 49; refine (within_any _ _ _ _).mono ?_; rintro e w' ⟨rfl, rfl⟩))
        go_ret2
        exact ⟨by simp [riseVal, riseErr, hg, hok, h1], (by repeat (first | exact Below.refl _ _ | assumption | refine Below.drew ?_ | refine Below.drewN ?_ _ | refine Below.allocT ?_ (Nat.le_refl _) _ | refine Below.setCell ?_ (by simp <;> omega) _ | refine Below.to ?_ (by assumption) (Nat.le_refl _)))⟩
    · have hci := cycI' hok
      go_enter Try.func26, Try.ntmps26
      go_wp2_with (first
          | (go_at_call 48; refine (checkGauge_any g _).mono ?_; rw [hgi]; rintro e w1 ⟨rfl, hB1⟩
             have hW1 : Below w.heap.size w w1 := (by repeat (first | exact Below.refl _ _ | assumption | refine Below.drew ?_ | refine Below.drewN ?_ _ | refine Below.allocT ?_ (Nat.le_refl _) _ | refine Below.setCell ?_ (by simp <;> omega) _ | refine Below.to ?_ (by assumption) (Nat.le_refl _)))
             have H1 : Cyc w1 w1.heap.size (.slice A0 cs.length cap0) cs := (H.out.below hW1).more hW1.size
             have H1 := hide H1)
          | (go_at_call 59; refine (checkCycle_any _ cs _ hn H1.out).mono ?_; rw [hci]; rintro e w2 ⟨rfl, hB2⟩
             have hW2 : Below w.heap.size w w2 := (by repeat (first | exact Below.refl _ _ | assumption | refine Below.drew ?_ | refine Below.drewN ?_ _ | refine Below.allocT ?_ (Nat.le_refl _) _ | refine Below.setCell ?_ (by simp <;> omega) _ | refine Below.to ?_ (by assumption) (Nat.le_refl _))))
          | (go_at_call 58; refine (errors2v _ 0 71 71 _ (by simp) (by simp) (by simp)).mono ?_; rintro e w3 ⟨rfl, rfl⟩))
      go_ret2
      exact ⟨by simp [riseVal, riseErr, hg, hok], (by repeat (first | exact Below.refl _ _ | assumption | refine Below.drew ?_ | refine Below.drewN ?_ _ | refine Below.allocT ?_ (Nat.le_refl _) _ | refine Below.setCell ?_ (by simp <;> omega) _ | refine Below.to ?_ (by assumption) (Nat.le_refl _)))⟩
  · have hgi : (if g.ok = true then (0 : Int) else 70) = 70 := if_neg hg
    obtain ⟨ce, hce⟩ : ∃ ce, cycErr cs = ce := ⟨_, rfl⟩
    go_enter Try.func26, Try.ntmps26
    go_wp2_with (first
          | (go_at_call 48; refine (checkGauge_any g _).mono ?_; rw [hgi]; rintro e w1 ⟨rfl, hB1⟩
             have hW1 : Below w.heap.size w w1 := (by repeat (first | exact Below.refl _ _ | assumption | refine Below.drew ?_ | refine Below.drewN ?_ _ | refine Below.allocT ?_ (Nat.le_refl _) _ | refine Below.setCell ?_ (by simp <;> omega) _ | refine Below.to ?_ (by assumption) (Nat.le_refl _)))
             have H1 : Cyc w1 w1.heap.size (.slice A0 cs.length cap0) cs := (H.out.below hW1).more hW1.size
             have H1 := hide H1)
          | (go_at_call 59; refine (checkCycle_any _ cs _ hn H1.out).mono ?_; rw [hce]; rintro e w2 ⟨rfl, hB2⟩
             have hW2 : Below w.heap.size w w2 := (by repeat (first | exact Below.refl _ _ | assumption | refine Below.drew ?_ | refine Below.drewN ?_ _ | refine Below.allocT ?_ (Nat.le_refl _) _ | refine Below.setCell ?_ (by simp <;> omega) _ | refine Below.to ?_ (by assumption) (Nat.le_refl _))))
          | (go_at_call 58; refine (errors2v _ 70 ce 70 _ (by simp) (by simp) (by simp)).mono ?_; rintro e w3 ⟨rfl, rfl⟩))
    go_ret2
    exact ⟨by simp [riseVal, riseErr, hg], (by repeat (first | exact Below.refl _ _ | assumption | refine Below.drew ?_ | refine Below.drewN ?_ _ | refine Below.allocT ?_ (Nat.le_refl _) _ | refine Below.setCell ?_ (by simp <;> omega) _ | refine Below.to ?_ (by assumption) (Nat.le_refl _)))⟩
end Go.Proofs.Ytejjjijaojkohaa

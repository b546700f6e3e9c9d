/- The fewest reels: for every list of pieces, length and other list; no condition. -/
import Derived.Test.YtehadoecnmfeoaaRows
import Derived.Test.YtehadoecnmfeoaaGBF32
import Derived.Deep.DeepMust
import Derived.Deep.RegionHeld3
import Derived.Deep.DrawnRows
import Derived.Test.YtehadoecnmfeoaaGBF3
namespace Go.Proofs.Ytehadoecnmfeoaa
open Go.Joins Go.ChangeShapes Go.WideShapes Go.ChangeAt Go.RowKit Go.Deep
set_option linter.unusedVariables false
set_option linter.unusedSimpArgs false
theorem Ints.nods7 {w : World} {B : Nat} {v : Value} {l : List Nat} (h : Ints w B v (l.map fun (n : Nat) => (n : Int))) : Nods w B v l := by
  obtain ⟨A, b, off, cap, h1, h2, h3, h4⟩ := h
  have hl : (l.map fun (n : Nat) => (n : Int)).length = l.length := by simp
  rw [hl] at h1 h2 h3
  refine ⟨A, b, off, cap, h1, h2, h3, fun i j hi hj => ?_⟩
  have := h4 i j (by rw [hl]; exact hi) hj
  rw [this]
  simp [hi]
theorem Nods.at12 {w : World} {B : Nat} {A : Option Addr} {m q : Nat} {S : List Nat} (h : Nods w B (.slice A m q) S) {k : Nat} (hk : k < S.length) : ∃ b off x, Hid (S.getD k 0 = x) ∧ A = some ⟨b, off, none⟩ ∧ b < B ∧ S.length ≤ q ∧ w.cell? ⟨b, off + k, none⟩ = some (.int .i64 (x : Nat)) := by
  obtain ⟨h1, h2, b, off, h3, h4, h5⟩ := sl_at h hk
  have h6 := h5 0 (by omega)
  rw [Nat.mul_one, Nat.add_zero] at h6
  exact ⟨b, off, _, rfl, h3, h4, by omega, h6⟩
theorem drop_nat {ps : List Nat} {i : Nat} (hi : i < ps.length) : ps.drop i = ps.getD i 0 :: ps.drop (i + 1) := by
  rw [List.drop_eq_getElem_cons hi, List.getD_eq_getElem?_getD, List.getElem?_eq_getElem hi]
  rfl
theorem vldR_bd : ∀ (ps : List Int) {L : Nat → Int} {o n : Nat} {l : List Nat}, vldR ps L o l = some n → n ≤ o + ps.length
  | [], _, _, _, [], h => by injection h with h; subst h; simp
  | [], _, _, _, _ :: _, h => by cases h
  | _ :: _, _, _, _, [], h => by cases h
  | p :: ps, L, o, n, r :: l, h => by
    unfold vldR at h
    by_cases hc : r ≤ o ∧ p ≤ L r
    · rw [if_pos hc] at h
      have := vldR_bd ps h
      simp only [List.length_cons]
      omega
    · rw [if_neg hc] at h; cases h
set_option maxRecDepth 100000 in
set_option maxHeartbeats 4000000 in
theorem buildFewest_walk (ps os : List Int) (A C : Option Addr) (q c : Nat) (len : Int) (w : World) (hm : ps.length ≤ maxLen) (hmo : os.length ≤ maxLen) (h : Ints w w.heap.size (.slice A ps.length q) ps) (h2 : Ints w w.heap.size (.slice C os.length c) os) :
    Calls Try.prog 4 #[.slice A ps.length q, .int .i64 len, .slice C os.length c] w fun e w' => e = .returned (.bool true) ∧ Below w.heap.size w w' := by
  have H := hide h
  have H2 := hide h2
  have HM := hide hm
  have HMO := hide hmo
  clear h h2
  unfold maxLen at hm hmo
  by_cases h9 : 9 < ps.length
  case pos =>
    have g1 : (9 : Int) < (ps.length : Int) := by omega
    clear h9
    go_enter Try.func4, Try.ntmps4
    go_wp2_with (go_at_call 7; refine (works_build _).mono ?_; rintro e w3 ⟨rfl, hB3⟩)
    go_ret
    exact ⟨rfl, hB3⟩
  case neg =>
  have g1 : ¬ (9 : Int) < (ps.length : Int) := by omega
  by_cases hb : relB ps len = true
  case neg =>
    have her : relE ps len = 121 := by unfold relE; rw [if_neg hb]
    have HER := hide her
    have n1 : ((121 : Int) != 0) = true := by decide
    clear her hb h9
    go_enter Try.func4, Try.ntmps4
    go_wp2_with (first
      | (go_at_call 8; refine (Reels_any ps len A q _ HM.out H.out).mono ?_; rw [HER.out]; rintro e w1 ⟨v1, rfl, hv1, hB1⟩; have HB1 := hide hB1; clear hv1 hB1)
      | (go_at_call 7; refine (works_build _).mono ?_; rintro e w3 ⟨rfl, hB3⟩))
    go_ret
    exact ⟨rfl, Below.to HB1.out hB3 (Nat.le_refl _)⟩
  case pos =>
  have her : relE ps len = 0 := by unfold relE; rw [if_pos hb]
  have hL0 : relR ps len = relL ps len := by unfold relR; rw [if_pos hb]
  obtain ⟨n, hn, hsum, hbest⟩ := fewest hb
  have hLl := relL_len hb
  obtain ⟨L, hL⟩ : ∃ z, relL ps len = z := ⟨_, rfl⟩
  rw [hL] at hn hbest hLl hL0
  have hbits := hb
  unfold relB at hbits
  simp only [Bool.and_eq_true] at hbits
  obtain ⟨⟨hb1, hb2⟩, hb3⟩ := hbits
  rw [btw_iff] at hb1
  have hpp : ∀ p ∈ ps, 1 ≤ p ∧ p ≤ len := fun p hp => by
    have := List.all_eq_true.1 hb3 p hp
    rwa [btw_iff] at this
  have hlef : lefU len [] = fun _ => len := by
    funext i
    unfold lefU
    simp
  have hr1 : roomU len ps [] (L.map fun (n : Nat) => (n : Int)) = some n := by
    rw [roomU_vld, hlef]
    exact hn
  have hn9 : n ≤ 9 := by
    have := vldR_bd ps hn
    omega
  obtain ⟨res, hres⟩ : ∃ z, roomU len ps [] os = z := ⟨_, rfl⟩
  have hps9 : ps.length ≤ 9 := by omega
  obtain ⟨Z, hZ⟩ : ∃ z, (L.map fun (n : Nat) => (n : Int)) = z := ⟨_, rfl⟩
  have hZl : Z.length = L.length := by rw [← hZ, List.length_map]
  have hroom : ∀ (W : World) (A1 : Option Addr) (q1 : Nat), Ints W W.heap.size (.slice A ps.length q) ps → Nods W W.heap.size (.slice A1 L.length q1) L → Calls Try.prog 11 #[.slice A ps.length q, .int .i64 len, .slice A1 L.length q1] W (RoomP (some n) W) := by
    intro W A1 q1 h1 h2
    have h3 := Nods.ints7 h2
    rw [hZ] at h3
    have h4 := room_any ps Z len A A1 q q1 W (by omega) hpp (by omega) (by unfold maxLen; omega) h1 (by rw [hZl]; exact h3)
    rw [hZl, ← hZ, hr1] at h4
    exact h4
  have HROOM := hide hroom
  have HER := hide her
  have HL0 := hide hL0
  have HPP := hide hpp
  have HR1 := hide hr1
  have HRES := hide hres
  have HSUM := hide hsum
  have HBST := hide hbest
  have HLL := hide hLl
  have HLEF := hide hlef
  have n1 : ((0 : Int) != 0) = false := by decide
  have hlen0 : 0 ≤ len ∧ len ≤ 1000000 := by omega
  clear her hb hL0 hpp hr1 hroom hZ hZl hres hsum hbest hLl hn hlef hb1 hb2 hb3 hL h9
  go_enter Try.func4, Try.ntmps4
  go_upto_region 4 with (go_at_call 8; refine (Reels_any ps len A q _ HM.out H.out).mono ?_; rw [HER.out, HL0.out]; rintro e w1 ⟨v1, rfl, hv1, hB1⟩; obtain ⟨A1, q1, e1⟩ := Sl.form hv1; subst e1; have HV1 := hide hv1; have HB1 := hide hB1; clear hv1 hB1)
  go_upto_region 9 with (go_at_call 11; refine (HROOM.out _ A1 q1 (Ints.up H.out HB1.out) HV1.out).mono ?_; rintro e w2 ⟨he2, hB2⟩; have he3 : e = .returned (.tuple #[.int .i64 (n : Nat), .bool true]) := he2; subst he3; have HV2 := hide (Sl.up HV1.out hB2); have HB2 := hide (Below.to HB1.out hB2 (Nat.le_refl _)); clear he2 hB2)
  obtain ⟨W2, hW2⟩ : ∃ wo : World, wo = w2 := ⟨_, rfl⟩
  subst hW2
  go_wp2_with fail
  go_loopw [11, 12] (fun u i wr => ∃ (k : Nat) (s : Int), u = .int .i64 s ∧ i = .int .i64 k ∧ k ≤ ps.length ∧ 0 ≤ s ∧ s ≤ k * 1000000 ∧ Hid (s + sumI (ps.drop k) = sumI ps) ∧ Hid (Below W2.heap.size W2 wr)) (fun _ i _ => ps.length - (intOf i).toNat)
  case atStart => exact ⟨0, 0, rfl, rfl, Nat.zero_le _, Int.le_refl _, Int.le_refl _, by show (0 : Int) + sumI ps = sumI ps; omega, Below.refl _ _⟩
  case round =>
    obtain ⟨k, s, rfl, rfl, hk, hs0, hs1, HS, HW⟩ := hrel
    have HBW := hide (Below.to HB2.out HW.out (Nat.le_refl _))
    by_cases hkl : k < ps.length
    case pos =>
      have hkl1 : (k : Int) < (ps.length : Int) := by omega
      have ik0 : (0 : Int) ≤ (k : Int) := by omega
      obtain ⟨bp, offp, p, HPX, hA, hbp, hqp, ep0⟩ := H.out.at7 hkl
      have ep : wr.cell? ⟨bp, offp + k, none⟩ = some (.int .i64 p) := (HBW.out.cell (p := ⟨bp, offp + k, none⟩) hbp).trans ep0
      have hbr : bp < wr.heap.size := Nat.lt_of_lt_of_le hbp HBW.out.size
      have iqp : (ps.length : Int) ≤ (q : Int) := by omega
      have hpp := HPP.out p (by rw [← HPX.out]; exact getD_mem7 hkl)
      have hd : sumI (ps.drop k) = p + sumI (ps.drop (k + 1)) := by rw [drop_cons6 hkl, HPX.out]; rfl
      have HSS : Hid ((s + p) + sumI (ps.drop (k + 1)) = sumI ps) := by
        have := HS.out
        rw [hd] at this
        show _ = _
        omega
      have wr1 : IntKind.i64.wrap (s + p) = s + p := IntWalk.i64_in _ (by omega)
      subst hA
      clear hd HPX ep0 hqp
      go_wp2_with fail
      go_roundw
      case rel => exact ⟨k + 1, s + p, by go_num, by go_num, by omega, by omega, by omega, HSS, HW⟩
      case measure => simp [intOf]; omega
    case neg =>
      have hkl1 : ¬ (k : Int) < (ps.length : Int) := by omega
      have hle : s ≤ (n : Int) * len := by
        have h1 := HS.out
        rw [List.drop_eq_nil_of_le (by omega)] at h1
        have h2 := HSUM.out
        have h3 : sumI ([] : List Int) = 0 := rfl
        omega
      have hb0 : 0 ≤ (n : Int) * len := Int.mul_nonneg (by omega) hlen0.1
      have hb1 : (n : Int) * len ≤ 9 * 1000000 := Int.mul_le_mul (by omega) hlen0.2 hlen0.1 (by omega)
      have hw1 : IntKind.i64.wrap ((n : Int) * len) = (n : Int) * len := IntWalk.i64_in _ (by omega)
      have hlt : ¬ (n : Int) * len < s := by omega
      clear hle hb0 hb1 HS hkl
      cases res with
      | none =>
        go_wp2_with (first
          | (go_at_call 11; refine (room_any ps os len A C q c _ (by omega) HPP.out hlen0 HMO.out (Ints.up H.out HBW.out) (Ints.up H2.out HBW.out)).mono ?_; rw [HRES.out]; rintro e w4 ⟨he4, hB4⟩; have he5 : e = .returned (.tuple #[.int .i64 ((0 : Nat) : Int), .bool false]) := he4; subst he5; have HB4 := hide (Below.to HBW.out hB4 (Nat.le_refl _)); clear he4 hB4)
          | (go_at_call 7; refine (works_build _).mono ?_; rintro e w5 ⟨rfl, hB5⟩))
        go_ret
        exact ⟨rfl, Below.to HB4.out hB5 (Nat.le_refl _)⟩
      | some m =>
        obtain ⟨l', hl'⟩ := roomU_nat ps [] os HRES.out
        have hol := roomU_len ps [] os HRES.out
        have hv : vldR ps (fun _ => len) 0 l' = some m := by
          have := HRES.out
          rw [hl', roomU_vld, HLEF.out] at this
          exact this
        have hll := vldR_len ps hv
        obtain ⟨hle, hbest⟩ := HBST.out l' m hv
        have hm9 := vldR_bd ps hv
        have HLE := hide hle
        have HBEST := hide hbest
        have HOS := hide hl'
        have HOL := hide hol
        have HLP := hide hll
        clear hl' hol hv hll hle hbest
        go_upto_region 20 with (go_at_call 11; refine (room_any ps os len A C q c _ (by omega) HPP.out hlen0 HMO.out (Ints.up H.out HBW.out) (Ints.up H2.out HBW.out)).mono ?_; rw [HRES.out]; rintro e w4 ⟨he4, hB4⟩; have he5 : e = .returned (.tuple #[.int .i64 (m : Nat), .bool true]) := he4; subst he5; have HV4 := hide (Sl.up (Sl.up HV2.out HW.out) hB4); have HB4 := hide (Below.to HBW.out hB4 (Nat.le_refl _)); clear he4 hB4)
        obtain ⟨W4, hW4⟩ : ∃ wo : World, wo = w4 := ⟨_, rfl⟩
        subst hW4
        go_wp2_with fail
        go_loopw [14, 15] (fun u i wr => ∃ (k : Nat) (b : Bool), u = .bool b ∧ i = .int .i64 k ∧ k ≤ L.length ∧ Hid (b = true → sooner l' L = true) ∧ Hid (b = false → sooner l' L = sooner (l'.drop k) (L.drop k)) ∧ Hid (Below W4.heap.size W4 wr)) (fun _ i _ => L.length - (intOf i).toNat)
        case atStart => exact ⟨0, false, rfl, rfl, Nat.zero_le _, fun h => (by cases h), fun _ => rfl, Below.refl _ _⟩
        case round =>
          obtain ⟨k, b, rfl, rfl, hk, HT, HF, HW4⟩ := hrel
          have HBX := hide (Below.to HB4.out HW4.out (Nat.le_refl _))
          by_cases hkl : k < L.length
          case neg =>
            have hkl1 : ¬ (k : Int) < (L.length : Int) := by omega
            have hkl2 : decide ((k : Int) < (L.length : Int)) = false := by simp; omega
            have hd : sooner (l'.drop k) (L.drop k) = false := by
              rw [show L.drop k = [] from List.drop_eq_nil_of_le (by omega)]
              cases l'.drop k <;> rfl
            cases b with
            | true =>
              have hfl := HT.out rfl
              clear hd
              have hmn : m ≠ n := fun h => absurd (hfl.symm.trans (HBEST.out h)) (by decide)
              have hg1 : decide ((n : Int) ≤ (m : Int)) = true := by have := HLE.out; simp; omega
              have hg2 : ((m : Int) == (n : Int)) = false := by simp; omega
              have hg3 : (n : Int) ≤ (m : Int) := by have := HLE.out; omega
              clear hfl hmn
              go_wp2_with (go_at_call 7; refine (works_build _).mono ?_; rintro e w9 ⟨rfl, hB9⟩)
              go_ret
              exact ⟨rfl, Below.to HBX.out hB9 (Nat.le_refl _)⟩
            | false =>
              have hfl := (HF.out rfl).trans hd
              clear hd
              by_cases hmn : m = n
              · have hg1 : decide ((n : Int) ≤ (m : Int)) = true := by have := HLE.out; simp; omega
                have hg2 : ((m : Int) == (n : Int)) = true := by simp; omega
                have hg3 : (n : Int) ≤ (m : Int) := by have := HLE.out; omega
                clear hfl hmn
                go_wp2_with (go_at_call 7; refine (works_build _).mono ?_; rintro e w9 ⟨rfl, hB9⟩)
                go_ret
                exact ⟨rfl, Below.to HBX.out hB9 (Nat.le_refl _)⟩
              · have hg1 : decide ((n : Int) ≤ (m : Int)) = true := by have := HLE.out; simp; omega
                have hg2 : ((m : Int) == (n : Int)) = false := by simp; omega
                have hg3 : (n : Int) ≤ (m : Int) := by have := HLE.out; omega
                clear hfl hmn
                go_wp2_with (go_at_call 7; refine (works_build _).mono ?_; rintro e w9 ⟨rfl, hB9⟩)
                go_ret
                exact ⟨rfl, Below.to HBX.out hB9 (Nat.le_refl _)⟩
          case pos =>
            have hkl1 : (k : Int) < (L.length : Int) := by omega
            have hkl2 : decide ((k : Int) < (L.length : Int)) = true := by simp; omega
            cases b with
            | true =>
              have hfl := HT.out rfl
              have hmn : m ≠ n := fun h => absurd (hfl.symm.trans (HBEST.out h)) (by decide)
              have hg1 : decide ((n : Int) ≤ (m : Int)) = true := by have := HLE.out; simp; omega
              have hg2 : ((m : Int) == (n : Int)) = false := by simp; omega
              have hg3 : (n : Int) ≤ (m : Int) := by have := HLE.out; omega
              clear hfl hmn
              go_wp2_with (go_at_call 7; refine (works_build _).mono ?_; rintro e w9 ⟨rfl, hB9⟩)
              go_ret
              exact ⟨rfl, Below.to HBX.out hB9 (Nat.le_refl _)⟩
            | false =>
              have ik0 : (0 : Int) ≤ (k : Int) := by omega
              have hko : k < os.length := by have h1 := HOL.out; have h2 := HLL.out; omega
              have hkl3 : k < l'.length := by have h1 := HLP.out; have h2 := HLL.out; omega
              have hko1 : (k : Int) < (os.length : Int) := by omega
              obtain ⟨b1, o1, x0, HX0, hC, hb1, hq1, ex0⟩ := H2.out.at7 hko
              obtain ⟨b2, o2, y, HY, hA, hb2, hq2, ey0⟩ := Nods.at12 (Sl.below HV4.out HW4.out) hkl
              obtain ⟨x, hx⟩ : ∃ x, l'.getD k 0 = x := ⟨_, rfl⟩
              have hxx : x0 = (x : Int) := by
                rw [← HX0.out, ← hx, HOS.out, List.getD_eq_getElem?_getD, List.getElem?_map, List.getD_eq_getElem?_getD, List.getElem?_eq_getElem hkl3]
                rfl
              subst hxx
              have ex : wr.cell? ⟨b1, o1 + k, none⟩ = some (.int .i64 (x : Nat)) := (HBX.out.cell (p := ⟨b1, o1 + k, none⟩) hb1).trans ex0
              have hb1r : b1 < wr.heap.size := Nat.lt_of_lt_of_le hb1 HBX.out.size
              have hb2r : b2 < wr.heap.size := Nat.lt_of_lt_of_le hb2 HW4.out.size
              have iq1 : (os.length : Int) ≤ (c : Int) := by omega
              have iq2 : (L.length : Int) ≤ (q1 : Int) := by omega
              have hd : sooner (l'.drop k) (L.drop k) = (decide (x < y) || (decide (x = y) && sooner (l'.drop (k + 1)) (L.drop (k + 1)))) := by
                rw [drop_nat hkl3, drop_nat hkl, hx, HY.out]
                rfl
              have hfs := (HF.out rfl).trans hd
              have HFS := hide hfs
              subst hC hA
              clear ex0 HX0 HY hx hd hfs hq1 hq2 HT HF
              by_cases hgt : y < x
              · have hgt1 : (y : Int) < (x : Int) := by omega
                have hfl : sooner l' L = false := by rw [HFS.out, decide_eq_false (by omega), decide_eq_false (by omega)]; rfl
                clear hgt
                go_upto_region 23 with (fail)
                refine wp_region_held_drew (S := (fun w' => Below wr.heap.size wr w')) (by kernel_rfl) ?_ (fun hHeld => ?_)
                · try dsimp only
                  exact (by repeat (first | exact Below.refl _ _ | assumption | refine Below.drew ?_ | refine Below.drewN ?_ _ | refine Below.allocT ?_ (Nat.le_refl _) _ | refine Below.setCell ?_ (by simp <;> omega) _ | refine Below.to ?_ (by assumption) (Nat.le_refl _)))
                refine zT 0 rfl ?_
                try simp only [zX]
                refine zT 1 rfl ?_
                try simp only [zX]
                refine zT 2 rfl ?_
                try simp only [zX]
                refine zT 3 rfl ?_
                try simp only [zX]
                refine zT 4 rfl ?_
                try simp only [zX]
                refine zT 5 rfl ?_
                try simp only [zX]
                refine zT 6 rfl ?_
                try simp only [zX]
                refine zT 7 rfl ?_
                try simp only [zX]
                refine zT 8 rfl ?_
                try simp only [zX]
                refine wpAnyH_done (by kernel_rfl) ?_ _
                have HB9 := hide (Below.to HBX.out hHeld (Nat.le_refl _))
                have HBX := HB9
                by_cases hmn : m = n
                · have hg1 : decide ((n : Int) ≤ (m : Int)) = true := by have := HLE.out; simp; omega
                  have hg2 : ((m : Int) == (n : Int)) = true := by simp; omega
                  have hg3 : (n : Int) ≤ (m : Int) := by have := HLE.out; omega
                  clear hfl hmn
                  go_wp2_with (go_at_call 7; refine (works_build _).mono ?_; rintro e w9 ⟨rfl, hB9⟩)
                  go_ret
                  exact ⟨rfl, Below.to HBX.out hB9 (Nat.le_refl _)⟩
                · have hg1 : decide ((n : Int) ≤ (m : Int)) = true := by have := HLE.out; simp; omega
                  have hg2 : ((m : Int) == (n : Int)) = false := by simp; omega
                  have hg3 : (n : Int) ≤ (m : Int) := by have := HLE.out; omega
                  clear hfl hmn
                  go_wp2_with (go_at_call 7; refine (works_build _).mono ?_; rintro e w9 ⟨rfl, hB9⟩)
                  go_ret
                  exact ⟨rfl, Below.to HBX.out hB9 (Nat.le_refl _)⟩
              · have hgt1 : ¬ (y : Int) < (x : Int) := by omega
                go_upto_region 23 with (fail)
                refine wp_region_held_drew (S := (fun w' => Below wr.heap.size wr w')) (by kernel_rfl) ?_ (fun hHeld => ?_)
                · try dsimp only
                  exact (by repeat (first | exact Below.refl _ _ | assumption | refine Below.drew ?_ | refine Below.drewN ?_ _ | refine Below.allocT ?_ (Nat.le_refl _) _ | refine Below.setCell ?_ (by simp <;> omega) _ | refine Below.to ?_ (by assumption) (Nat.le_refl _)))
                refine zT 0 rfl ?_
                try simp only [zX]
                refine zT 1 rfl ?_
                try simp only [zX]
                refine zT 2 rfl ?_
                try simp only [zX]
                refine zT 3 rfl ?_
                try simp only [zX]
                refine zT 4 rfl ?_
                try simp only [zX]
                refine zT 5 rfl ?_
                try simp only [zX]
                refine zT 6 rfl ?_
                try simp only [zX]
                refine zT 7 rfl ?_
                try simp only [zX]
                refine zT 8 rfl ?_
                try simp only [zX]
                refine wpAnyH_done (by kernel_rfl) ?_ _
                go_upto_region 24 with (fail)
                generalize hwd : World.drew _ = wd at hHeld ⊢
                have exd := (hHeld.cell (p := ⟨b1, o1 + k, none⟩) hb1r).trans ex
                have eyd := (hHeld.cell (p := ⟨b2, o2 + k, none⟩) hb2r).trans ey0
                have hb1d : b1 < wd.heap.size := Nat.lt_of_lt_of_le hb1r hHeld.size
                have hb2d : b2 < wd.heap.size := Nat.lt_of_lt_of_le hb2r hHeld.size
                have HWd := hide (Below.to HW4.out hHeld (Nat.le_refl _))
                clear hwd hHeld ex ey0 hb1r hb2r
                by_cases hlt : x < y
                · have hlt1 : decide ((x : Int) < (y : Int)) = true := by simp; omega
                  have hfl : sooner l' L = true := by rw [HFS.out, decide_eq_true hlt]; rfl
                  have HT2 : Hid (true = true → sooner l' L = true) := fun _ => hfl
                  have HF2 : Hid (true = false → sooner l' L = sooner (l'.drop (k + 1)) (L.drop (k + 1))) := fun h => (by cases h)
                  have HLT := hide hlt
                  clear hlt hfl
                  refine wp_region_held_drew (S := (fun w' => Below wd.heap.size wd w')) (by kernel_rfl) ?_ (fun hHeld => ?_)
                  · try dsimp only
                    exact (by repeat (first | exact Below.refl _ _ | assumption | refine Below.drew ?_ | refine Below.drewN ?_ _ | refine Below.allocT ?_ (Nat.le_refl _) _ | refine Below.setCell ?_ (by simp <;> omega) _ | refine Below.to ?_ (by assumption) (Nat.le_refl _)))
                  refine zT 0 rfl ?_
                  try simp only [zX]
                  refine zT 1 rfl ?_
                  try simp only [zX]
                  refine zT 2 rfl ?_
                  try simp only [zX]
                  refine zT 3 rfl ?_
                  try simp only [zX]
                  refine zT 4 rfl ?_
                  try simp only [zX]
                  refine zT 5 rfl ?_
                  try simp only [zX]
                  refine zT 6 rfl ?_
                  try simp only [zX]
                  refine zT 7 rfl ?_
                  try simp only [zX]
                  refine zT 8 rfl ?_
                  try simp only [zX]
                  refine zT 9 rfl ?_
                  try simp only [zX]
                  refine wpAnyH_done (by kernel_rfl) ?_ _
                  have HWd2 := hide (Below.to HWd.out hHeld (Nat.le_refl _))
                  go_wp2_with fail
                  go_roundw
                  case rel => exact ⟨k + 1, true, by rw [decide_eq_true HLT.out], by go_num, by omega, HT2, HF2, HWd2⟩
                  case measure => simp [intOf]; omega
                · have hlt1 : decide ((x : Int) < (y : Int)) = false := by simp; omega
                  have hfl : sooner l' L = sooner (l'.drop (k + 1)) (L.drop (k + 1)) := by rw [HFS.out, decide_eq_false hlt, decide_eq_true (show x = y by omega)]; simp
                  have HT2 : Hid (false = true → sooner l' L = true) := fun h => (by cases h)
                  have HF2 : Hid (false = false → sooner l' L = sooner (l'.drop (k + 1)) (L.drop (k + 1))) := fun _ => hfl
                  have HLT := hide hlt
                  clear hlt hfl
                  refine wp_region_held_drew (S := (fun w' => Below wd.heap.size wd w')) (by kernel_rfl) ?_ (fun hHeld => ?_)
                  · try dsimp only
                    exact (by repeat (first | exact Below.refl _ _ | assumption | refine Below.drew ?_ | refine Below.drewN ?_ _ | refine Below.allocT ?_ (Nat.le_refl _) _ | refine Below.setCell ?_ (by simp <;> omega) _ | refine Below.to ?_ (by assumption) (Nat.le_refl _)))
                  refine zT 0 rfl ?_
                  try simp only [zX]
                  refine zT 1 rfl ?_
                  try simp only [zX]
                  refine zT 2 rfl ?_
                  try simp only [zX]
                  refine zT 3 rfl ?_
                  try simp only [zX]
                  refine zT 4 rfl ?_
                  try simp only [zX]
                  refine zT 5 rfl ?_
                  try simp only [zX]
                  refine zT 6 rfl ?_
                  try simp only [zX]
                  refine zT 7 rfl ?_
                  try simp only [zX]
                  refine zT 8 rfl ?_
                  try simp only [zX]
                  refine zT 9 rfl ?_
                  try simp only [zX]
                  refine wpAnyH_done (by kernel_rfl) ?_ _
                  have HWd2 := hide (Below.to HWd.out hHeld (Nat.le_refl _))
                  go_wp2_with fail
                  go_roundw
                  case rel => exact ⟨k + 1, false, by rw [decide_eq_false HLT.out], by go_num, by omega, HT2, HF2, HWd2⟩
                  case measure => simp [intOf]; omega
theorem own_BuildFewest : ownKnob Try.prog.godebug = none := by kernel_rfl
theorem laid_BuildFewest : laidOutB Try.prog = true := by kernel_rfl
theorem par_BuildFewest : ∀ t ∈ Try.f4.params.toList, Try.prog.readableRec t = true ∧ t < Try.prog.types.size := by
  rw [Try.params4]
  intro t ht
  simp only [List.mem_cons, List.not_mem_nil, or_false] at ht
  rcases ht with rfl | rfl | rfl <;> exact ⟨by kernel_rfl, of_decide_eq_true (by kernel_rfl)⟩
set_option maxRecDepth 100000 in
theorem buildFewest_lifted (os : Os) (started : os.Started) (H : Type) (enc : TypeId × Value → H) :
    ReturnsInHanded {} Try.checked os 4 .any (Rows.buildFewestSpec.pre6 enc Try.prog Try.f4 Rows.buildFewestRow.domain false) (Rows.buildFewestSpec.post enc Try.prog Try.f4 false true false false) := by
  refine returnsInHanded_of_change (C := Try.checked) own_BuildFewest started (by kernel_rfl) Try.func4
    (ChangeSpec.witness6 (enc := enc) (C := Try.checked) false ⟨#[], #[.slice none 0 0, .int .i64 0, .slice none 0 0], []⟩ 8 (by kernel_rfl) (by kernel_rfl) (by kernel_rfl) (by kernel_rfl)) ?_
  intro W base args ds gs before hval0 hW hcnd _
  have hval : ∀ (j : Nat) t v, Try.f4.params[j]? = some t → args[j]? = some v → Value.okWide Try.prog W .any base t v := hval0
  have hW' := hW
  obtain ⟨p, q, hA0, hV, rfl, hfz, hnd⟩ := hW
  have hA : DataW.TrodAll enc Try.prog W 0 (fun _ => true) true Try.f4.params.toList args.toList ds p := hA0
  have hAll := hA
  have hltp : ∀ x ∈ p, x.block < W.heap.size := fun x hx => hW'.lt x (List.mem_append_left _ hx)
  rw [Try.params4] at hA hval
  obtain ⟨v0, v1, v2, d0, d1, d2, p0, p1, p2, rfl, rfl, rfl, h0, h1, h2⟩ := trodAll_three hA
  obtain ⟨rfl, rfl⟩ := trodVars_none hV
  obtain ⟨ps, hps, hpl⟩ := open_formula Try.underlying22 (hval 0 22 v0 rfl rfl) h0
  obtain ⟨As, qs, rfl⟩ := Sl.form hps
  obtain ⟨n, rfl, _⟩ := open_int (hval 1 3 v1 rfl rfl) h1
  obtain ⟨os, hos, hol⟩ := open_formula Try.underlying22 (hval 2 22 v2 rfl rfl) h2
  obtain ⟨Bs, rs, rfl⟩ := Sl.form hos
  refine (buildFewest_walk ps os As Bs qs rs n W hpl.1 hol.1 hps hos).mono fun e W2 ⟨he, hb⟩ => ?_
  subst he
  exact ⟨_, rfl, post_of_below (pv := []) hW' (fun _ _ _ => trodAll_mk1 (shut_bool Try.underlying4 _)) (fun sp hsp => trodAll_stays laid_BuildFewest hb sp _ _ _ _ par_BuildFewest hAll hltp (fun x hx => hsp x (List.mem_append_left _ hx))) (fun _ _ => rfl) rfl hb
    (ok_one (by kernel_rfl) rfl (okWide_bool_mk Try.underlying4 _))⟩
theorem buildFewest_holds : Rows.BuildFewestSaid :=
  OpenClaim.holds_of_wide 4 Try.f4 rfl rfl rfl rfl rfl rfl rfl ⟨rfl, rfl, rfl, rfl, rfl⟩ rfl rfl rfl rfl rfl (by kernel_rfl) Try.func4 (by kernel_rfl)
    (of_decide_eq_true (by kernel_rfl)) (by unfold Func.isWrapper; first | (rw [if_pos (by decide +kernel)]; kernel_rfl) | (rw [if_neg (by decide +kernel)]; exact ⟨rfl, rfl⟩))
    (fun os started H enc _ => buildFewest_lifted os started H enc)
#print axioms buildFewest_holds

end Go.Proofs.Ytehadoecnmfeoaa

/- Part 37 of this claim's texts: walks and plain laws. -/
import Derived.Test.YtehadoecnmfeoaaRows
import Derived.Test.YtehadoecnmfeoaaGBB31
import Derived.Test.YtehadoecnmfeoaaGBB20
import Derived.Test.YtehadoecnmfeoaaGBB33
import Derived.Deep.DeepMust
import Derived.Deep.RegionHeld3
import Derived.Deep.DrawnRows
import Derived.Laws.EntriesVeiled
/- The greatest loads of the boards (the program): walk. -/
namespace Go.Proofs.Ytehadoecnmfeoaa
open Go.RowKit
set_option linter.unusedVariables false
set_option linter.unusedSimpArgs false
set_option maxRecDepth 100000 in
theorem board_any (x : Int) (w : World) :
    Calls Try.prog 47 #[.int .i64 x] w fun e w' => e = .returned (.bool (!btw x 0 3)) ∧ Below w.heap.size w w' := by
  obtain ⟨z, hz⟩ : ∃ z, btw x 0 3 = z := ⟨_, rfl⟩
  rw [hz]
  have HZ := hide hz
  clear hz
  go_enter Try.func47, Try.ntmps47
  go_wp2_with (go_at_call 23; refine (bwithin_any _ _ _ _ _ HZ.out).mono ?_; rintro e w1 ⟨rfl, rfl⟩)
  go_ret
  exact ⟨rfl, Below.refl _ _⟩
set_option maxRecDepth 100000 in
theorem index_board (p : Int → Bool)  (v : Value) (gs : List Int) (w : World) (hm : gs.length ≤ maxLen) (h : Ints w w.heap.size v gs)
    (hf : ∀ (i : Nat) (x : Int)  (W : World), i < gs.length → gs.getD i 0 = x → Below w.heap.size w W → Calls Try.prog 47 #[.int .i64 x] W fun e w' => e = .returned (.bool (p x)) ∧ Below W.heap.size W w') :
    Calls Try.prog 58 #[v, .func (.func 47) #[] #[]] w fun e w' => e = .returned (.int .i64 (idxI p gs)) ∧ Below w.heap.size w w' := by
  unfold maxLen at hm
  obtain ⟨A, cap, rfl⟩ := Ints.form7 h
  have H := hide h; clear h
  have HF := hide hf; clear hf
  go_enter Try.func58, Try.ntmps58
  go_wp2
  go_loopw [5, 8] (fun _ i wr => ∃ k : Nat, k ≤ gs.length ∧ i = .int .i64 k ∧ Hid (∀ j, j < k → p (gs.getD j 0) = false) ∧ Below w.heap.size w wr) (fun _ i _ => gs.length - (intOf i).toNat)
  case atStart => exact ⟨0, Nat.zero_le _, rfl, fun j hj => by omega, Below.refl _ _⟩
  case round =>
    obtain ⟨k, hk, rfl, hz, hB⟩ := hrel
    by_cases hlt : k < gs.length
    · obtain ⟨b, off, x, HX, rfl, hbb, hq, e0⟩ := Ints.at7 (H.out.below hB) hlt
      have hf := fun W (hW : Below w.heap.size w W) => HF.out k x  W hlt HX.out hW
      have HF2 := hide hf
      have HB := hide hB
      clear hf
      by_cases hp : p x = true
      · have HP := hide hp
        clear hp
        go_wp2_with (go_at_call 47; refine (HF2.out _ hB).mono ?_; rw [HP.out]; rintro e w1 ⟨rfl, hB1⟩)
        go_ret
        exact ⟨ret_int (idxI_at p 0 gs k hz.out hlt (by rw [HX.out]; exact HP.out)).symm, Below.to HB.out hB1 (Nat.le_refl _)⟩
      · have hp' : p x = false := by simpa using hp
        have HP := hide hp'
        clear hp hp'
        go_wp2_with (go_at_call 47; refine (HF2.out _ hB).mono ?_; rw [HP.out]; rintro e w1 ⟨rfl, hB1⟩)
        go_roundw
        case rel => exact ⟨k + 1, by omega, by go_num, fun j hj => by
            rcases Nat.lt_or_ge j k with h | h
            · exact hz.out j h
            · rw [show j = k from by omega, HX.out]; exact HP.out, Below.to HB.out hB1 (Nat.le_refl _)⟩
        case measure => simp [intOf]; omega
    · go_wp2
      go_ret
      exact ⟨ret_int (idxI_none p 0 gs (fun j hj => hz.out j (by omega))).symm, hB⟩
set_option maxRecDepth 100000 in
theorem contains_board (p : Int → Bool)  (v : Value) (gs : List Int) (w : World) (hm : gs.length ≤ maxLen) (h : Ints w w.heap.size v gs)
    (hf : ∀ (i : Nat) (x : Int)  (W : World), i < gs.length → gs.getD i 0 = x → Below w.heap.size w W → Calls Try.prog 47 #[.int .i64 x] W fun e w' => e = .returned (.bool (p x)) ∧ Below W.heap.size W w') :
    Calls Try.prog 24 #[v, .func (.func 47) #[] #[]] w fun e w' => e = .returned (.bool (gs.any p)) ∧ Below w.heap.size w w' := by
  have hc := index_board p  v gs w hm h hf
  have he := idxI_any p gs
  have hlo := idxI_lo p gs
  have hhi := idxI_hi p gs
  obtain ⟨z, hz⟩ : ∃ z, idxI p gs = z := ⟨_, rfl⟩
  rw [hz] at hc he hlo hhi
  obtain ⟨A, cap, rfl⟩ := Ints.form7 h
  have HC := hide hc
  have HE := hide he
  unfold maxLen at hm
  have hz2 : z ≤ 9223372036854775807 := by omega
  clear hc he hz h hf
  go_enter Try.func24, Try.ntmps24
  go_wp2_with (go_at_call 58; refine HC.out.mono ?_; rintro e w1 ⟨rfl, hB1⟩)
  go_ret
  exact ⟨ret_bool HE.out, hB1⟩

theorem brd_any (bs : List Int) : bs.any (fun b => !btw b 0 3) = !brdOk bs := by
  unfold brdOk
  induction bs with
  | nil => rfl
  | cons a t ih => rw [List.any_cons, List.all_cons, ih]; cases btw a 0 3 <;> rfl
theorem lodE_err {l : Lo} {ms : List Md} {bs : List Int} (h : bldE l ms ≠ 0) : lodE l ms bs = bldE l ms ∧ lodL l ms bs = [] := by
  have h1 : lodE l ms bs = bldE l ms := by unfold lodE; rw [if_pos h]
  refine ⟨h1, ?_⟩
  unfold lodL
  rw [h1, if_neg h]
theorem lodE_brd {l : Lo} {ms : List Md} {bs : List Int} (h : bldE l ms = 0) (h2 : bs.length ≠ ms.length ∨ brdOk bs = false) : lodE l ms bs = 122 ∧ lodL l ms bs = [] := by
  have h1 : lodE l ms bs = 122 := by unfold lodE; rw [if_neg (by simp [h]), if_pos h2]
  refine ⟨h1, ?_⟩
  unfold lodL
  rw [h1, if_neg (by decide)]
theorem lodE_none {l : Lo} {ms : List Md} {bs : List Int} (h : bldE l ms = 0) (h2 : bs.length = ms.length) (h3 : brdOk bs = true) (h4 : allM l.m = []) : lodE l ms bs = 12 ∧ lodL l ms bs = [] := by
  have h1 : lodE l ms bs = 12 := by unfold lodE; rw [if_neg (by simp [h]), if_neg (by simp [h2, h3]), if_pos h4]
  refine ⟨h1, ?_⟩
  unfold lodL
  rw [h1, if_neg (by decide)]
theorem lodE_ok {l : Lo} {ms : List Md} {bs : List Int} (h : bldE l ms = 0) (h2 : bs.length = ms.length) (h3 : brdOk bs = true) (h4 : allM l.m ≠ []) : lodE l ms bs = 0 ∧ lodL l ms bs = (List.range (nbK bs)).map (lodN l.m ms bs) := by
  have h1 : lodE l ms bs = 0 := by unfold lodE; rw [if_neg (by simp [h]), if_neg (by simp [h2, h3]), if_neg h4]
  refine ⟨h1, ?_⟩
  unfold lodL
  rw [if_pos h1]
theorem brd_at {bs : List Int} (h : brdOk bs = true) {y : Int} (hy : y ∈ bs) : 0 ≤ y ∧ y ≤ 3 := by
  unfold brdOk at h
  have := List.all_eq_true.1 h y hy
  rwa [btw_iff] at this
set_option maxRecDepth 100000 in
set_option maxHeartbeats 8000000 in
theorem Loads_any (bs : List Int) (Ab : Option Addr) (qb : Nat) (ms : List Md) (Am : Option Addr) (qm : Nat) (A0 A1 A2 A3 A4 A5 : Option Addr) (q0 q1 q2 q3 q4 q5 : Nat) (l : Lo) (w : World) (hs : SizedL l) (hd : SizedD ms) (hbl : bs.length ≤ maxLen) (h : LoA w w.heap.size A0 A1 A2 A3 A4 A5 q0 q1 q2 q3 q4 q5 l) (hm : Mods w w.heap.size (.slice Am ms.length qm) ms) (hb : Ints w w.heap.size (.slice Ab bs.length qb) bs) (hN : l.m.err = 0 → l.m.opts.length ≤ 12) :
    Calls Try.prog 17 #[.agg #[.slice A0 l.m.opts.length q0, .slice A1 l.m.rules.length q1, .slice A2 l.ss.length q2, .slice A3 l.us.length q3, .slice A4 l.ps.length q4, .slice A5 l.ws.length q5], .slice Am ms.length qm, .slice Ab bs.length qb] w (PicP (lodL l ms bs) (lodE l ms bs) w) := by
  obtain ⟨i0, hi0, iz0, iz1, iz2⟩ := info_parts infoInt
  have H := hide h
  have HS := hide hs
  have HM := hide hm
  have HD := hide hd
  have HBS := hide hb
  have HBL := hide hbl
  have HNN := hide hN
  have hbl2 := hbl
  unfold maxLen at hbl2
  obtain ⟨er, her⟩ : ∃ z, bldE l ms = z := ⟨_, rfl⟩
  have HER := hide her
  clear h hs hm hd hb hbl hN
  by_cases h0 : er = 0
  case neg =>
    have hp := lodE_err (l := l) (ms := ms) (bs := bs) (by rw [her]; exact h0)
    rw [hp.1, hp.2, her]
    have hz1 : (er != 0) = true := by simpa using h0
    clear her h0 hp
    go_enter Try.func17, Try.ntmps17
    go_upto_region 1 with (fail)
    generalize hw0 : World.alloc _ _ = w0
    obtain ⟨hb0, hb1, hB0, hs0⟩ := alloc2 hw0
    have HB0 := hide hB0
    have c0 := cellOf hb0 0; have c1 := cellOf hb0 1; have c2 := cellOf hb0 2; have c3 := cellOf hb0 3; have c4 := cellOf hb0 4; have c5 := cellOf hb0 5
    have hlb := box_lt hb0
    clear hw0 hb0 hb1 hB0 hs0
    go_wp2_with (go_at_call 36; refine (bCheck_any ms Am qm A0 A1 A2 A3 A4 A5 q0 q1 q2 q3 q4 q5 l _ HS.out HD.out (H.out.up HB0.out) (HM.out.up HB0.out)).mono ?_; rw [HER.out]; rintro e w1 ⟨rfl, hB1⟩; have HB1 := hide (Below.to HB0.out hB1 (Nat.le_refl _)); clear hB1 c0 c1 c2 c3 c4 c5 hlb)
    go_ret2
    exact ⟨_, rfl, Sl.nil _ _ _ _, HB1.out⟩
  case pos =>
  subst h0
  have okm := bldE_ok her
  have hms60 := okm.n
  have HMO := hide okm.lo.m
  have hN := HNN.out okm.lo.m
  have n0 : ((0 : Int) != 0) = false := by decide
  clear okm
  by_cases hlen : bs.length = ms.length
  case neg =>
    have hp := lodE_brd (l := l) (ms := ms) (bs := bs) her (.inl hlen)
    rw [hp.1, hp.2]
    have n1 : ((bs.length : Int) != (ms.length : Int)) = true := by simp; omega
    clear her hlen hp
    go_enter Try.func17, Try.ntmps17
    go_upto_region 1 with (fail)
    generalize hw0 : World.alloc _ _ = w0
    obtain ⟨hb0, hb1, hB0, hs0⟩ := alloc2 hw0
    have HB0 := hide hB0
    have HX0 := hide hb1
    have c0 := cellOf hb0 0; have c1 := cellOf hb0 1; have c2 := cellOf hb0 2; have c3 := cellOf hb0 3; have c4 := cellOf hb0 4; have c5 := cellOf hb0 5
    have hlb := box_lt hb0
    clear hw0 hb0 hb1 hB0 hs0
    go_wp2_with (go_at_call 36; refine (bCheck_any ms Am qm A0 A1 A2 A3 A4 A5 q0 q1 q2 q3 q4 q5 l _ HS.out HD.out (H.out.up HB0.out) (HM.out.up HB0.out)).mono ?_; rw [HER.out]; rintro e w1 ⟨rfl, hB1⟩; have HX1 := hide (box_to HX0.out hB1); have HB1 := hide (Below.to HB0.out hB1 (Nat.le_refl _)); clear hB1 c0 c1 c2 c3 c4 c5 hlb; have x0 := cellOf HX1.out 0; have lx := box_lt HX1.out)
    go_ret2
    exact ⟨_, rfl, Sl.nil _ _ _ _, HB1.out⟩
  case pos =>
  have n1 : ((bs.length : Int) != (ms.length : Int)) = false := by simp; omega
  have hany := brd_any bs
  obtain ⟨ok, hok⟩ : ∃ z, brdOk bs = z := ⟨_, rfl⟩
  rw [hok] at hany
  have HANY := hide hany
  cases ok with
  | false =>
    have hp := lodE_brd (l := l) (ms := ms) (bs := bs) her (.inr hok)
    rw [hp.1, hp.2]
    clear her hlen hp hany hok
    go_enter Try.func17, Try.ntmps17
    go_upto_region 1 with (fail)
    generalize hw0 : World.alloc _ _ = w0
    obtain ⟨hb0, hb1, hB0, hs0⟩ := alloc2 hw0
    have HB0 := hide hB0
    have HX0 := hide hb1
    have c0 := cellOf hb0 0; have c1 := cellOf hb0 1; have c2 := cellOf hb0 2; have c3 := cellOf hb0 3; have c4 := cellOf hb0 4; have c5 := cellOf hb0 5
    have hlb := box_lt hb0
    clear hw0 hb0 hb1 hB0 hs0
    go_wp2_with (first
      | (go_at_call 36; refine (bCheck_any ms Am qm A0 A1 A2 A3 A4 A5 q0 q1 q2 q3 q4 q5 l _ HS.out HD.out (H.out.up HB0.out) (HM.out.up HB0.out)).mono ?_; rw [HER.out]; rintro e w1 ⟨rfl, hB1⟩; have HX1 := hide (box_to HX0.out hB1); have HB1 := hide (Below.to HB0.out hB1 (Nat.le_refl _)); clear hB1 c0 c1 c2 c3 c4 c5 hlb; have x0 := cellOf HX1.out 0; have lx := box_lt HX1.out)
      | (go_at_call 24; refine (contains_board (fun p => !btw p 0 3) _ bs w1 HBL.out (Ints.up HBS.out HB1.out) (fun i x W _ _ hW => board_any x W)).mono ?_; rw [HANY.out]; rintro e w2 ⟨rfl, hB2⟩; have HB2 := hide (Below.to HB1.out hB2 (Nat.le_refl _)); clear hB2 x0 lx))
    go_ret2
    exact ⟨_, rfl, Sl.nil _ _ _ _, HB2.out⟩
  | true =>
  have HOK := hide hok
  have HLEN := hide hlen
  have hme : ∀ (W : World), MoAt W W.heap.size (.slice A0 l.m.opts.length q0) (.slice A1 l.m.rules.length q1) l.m → _ := fun W hW => Meets_n l.m [] _ _ (.slice none 0 0) W HS.out.m ⟨by unfold maxLen; simp, fun g hg => by simp at hg⟩ hW (forms_none7 _ _) (errF_all HMO.out (fun f hf => by simp at hf)) hN (by simp)
  have hml : meeL l.m [] = allM l.m := by
    unfold meeL
    rw [show (fun v : Nat → Bool => allF v []) = fun _ => true from rfl, satM_true]
  rw [hml] at hme
  by_cases hne : allM l.m = []
  case pos =>
    have hp := lodE_none (l := l) (ms := ms) (bs := bs) her hlen hok hne
    rw [hp.1, hp.2]
    rw [show (!(allM l.m).isEmpty) = false from by rw [hne]; rfl] at hme
    have HME := hide hme
    clear her hlen hp hany hok hme hml hne
    go_enter Try.func17, Try.ntmps17
    go_upto_region 1 with (fail)
    generalize hw0 : World.alloc _ _ = w0
    obtain ⟨hb0, hb1, hB0, hs0⟩ := alloc2 hw0
    have HB0 := hide hB0
    have HL0 : Hid (LoBox w0 w.heap.size A0 A1 A2 A3 A4 A5 q0 q1 q2 q3 q4 q5 l) := hb0
    have HX0 := hide hb1
    have c0 := cellOf hb0 0; have c1 := cellOf hb0 1; have c2 := cellOf hb0 2; have c3 := cellOf hb0 3; have c4 := cellOf hb0 4; have c5 := cellOf hb0 5
    have hlb := box_lt hb0
    clear hw0 hb0 hb1 hB0 hs0
    go_upto_region 6 with (first
      | (go_at_call 36; refine (bCheck_any ms Am qm A0 A1 A2 A3 A4 A5 q0 q1 q2 q3 q4 q5 l _ HS.out HD.out (H.out.up HB0.out) (HM.out.up HB0.out)).mono ?_; rw [HER.out]; rintro e w1 ⟨rfl, hB1⟩; have HX1 := hide (box_to HX0.out hB1); have HL1 := hide (HL0.out.to hB1); have HB1 := hide (Below.to HB0.out hB1 (Nat.le_refl _)); clear hB1 c0 c1 c2 c3 c4 c5 hlb; have x0 := cellOf HX1.out 0; have lx := box_lt HX1.out)
      | (go_at_call 24; refine (contains_board (fun p => !btw p 0 3) _ bs w1 HBL.out (Ints.up HBS.out HB1.out) (fun i x W _ _ hW => board_any x W)).mono ?_; rw [HANY.out]; rintro e w2 ⟨rfl, hB2⟩; have HL2 := hide (HL1.out.to hB2); have HB2 := hide (Below.to HB1.out hB2 (Nat.le_refl _)); clear hB2 x0 lx; have d0 := cellOf HL2.out 0; have d1 := cellOf HL2.out 1; have d2 := cellOf HL2.out 2; have d3 := cellOf HL2.out 3; have d4 := cellOf HL2.out 4; have d5 := cellOf HL2.out 5; have hld := box_lt HL2.out))
    go_wp2_with (go_at_call 31; refine (HME.out w2 (H.out.up HB2.out).m).mono ?_; rintro e w3 ⟨v3, rfl, hop, hB3⟩; have HB3 := hide (Below.to HB2.out hB3 (Nat.le_refl _)); clear hop hB3 d0 d1 d2 d3 d4 d5 hld)
    go_ret2
    exact ⟨_, rfl, Sl.nil _ _ _ _, HB3.out⟩
  case neg =>
  have hp := lodE_ok (l := l) (ms := ms) (bs := bs) her hlen hok hne
  obtain ⟨RS, hRS⟩ : ∃ z, (List.range (nbK bs)).map (lodN l.m ms bs) = z := ⟨_, rfl⟩
  rw [hp.1, hp.2, hRS]
  have HRS := hide hRS
  have hie : (allM l.m).isEmpty = false := by
    cases hc : (allM l.m).isEmpty with
    | false => rfl
    | true => exact absurd (List.isEmpty_iff.1 hc) hne
  rw [hie] at hme
  have HME := hide hme
  have HNE := hide hne
  obtain ⟨nb, hnb⟩ : ∃ z, nbK bs = z := ⟨_, rfl⟩
  have hnb4 : nb ≤ 4 := by
    rw [← hnb]
    refine nbK_le fun y hy => ?_
    have := brd_at hok hy
    omega
  have HNB := hide hnb
  clear her hlen hp hany hok hme hml hne hRS hie hnb
  go_enter Try.func17, Try.ntmps17
  go_upto_region 1 with (fail)
  generalize hw0 : World.alloc _ _ = w0
  obtain ⟨hb0, hb1, hB0, hs0⟩ := alloc2 hw0
  have HB0 := hide hB0
  have HL0 : Hid (LoBox w0 w.heap.size A0 A1 A2 A3 A4 A5 q0 q1 q2 q3 q4 q5 l) := hb0
  have HX0 := hide hb1
  have c0 := cellOf hb0 0; have c1 := cellOf hb0 1; have c2 := cellOf hb0 2; have c3 := cellOf hb0 3; have c4 := cellOf hb0 4; have c5 := cellOf hb0 5
  have hlb := box_lt hb0
  clear hw0 hb0 hb1 hB0 hs0
  go_upto_region 6 with (first
    | (go_at_call 36; refine (bCheck_any ms Am qm A0 A1 A2 A3 A4 A5 q0 q1 q2 q3 q4 q5 l _ HS.out HD.out (H.out.up HB0.out) (HM.out.up HB0.out)).mono ?_; rw [HER.out]; rintro e w1 ⟨rfl, hB1⟩; have HX1 := hide (box_to HX0.out hB1); have HL1 := hide (HL0.out.to hB1); have HB1 := hide (Below.to HB0.out hB1 (Nat.le_refl _)); clear hB1 c0 c1 c2 c3 c4 c5 hlb; have x0 := cellOf HX1.out 0; have lx := box_lt HX1.out)
    | (go_at_call 24; refine (contains_board (fun p => !btw p 0 3) _ bs w1 HBL.out (Ints.up HBS.out HB1.out) (fun i x W _ _ hW => board_any x W)).mono ?_; rw [HANY.out]; rintro e w2 ⟨rfl, hB2⟩; have HX2 := hide (box_to HX1.out hB2); have HL2 := hide (HL1.out.to hB2); have HB2 := hide (Below.to HB1.out hB2 (Nat.le_refl _)); clear hB2 x0 lx; have d0 := cellOf HL2.out 0; have d1 := cellOf HL2.out 1; have d2 := cellOf HL2.out 2; have d3 := cellOf HL2.out 3; have d4 := cellOf HL2.out 4; have d5 := cellOf HL2.out 5; have hld := box_lt HL2.out))
  go_upto_region 9 with (go_at_call 31; refine (HME.out w2 (H.out.up HB2.out).m).mono ?_; rintro e w3 ⟨v3, rfl, hop, hB3⟩; have HX3 := hide (box_to HX2.out hB3); have HL3 := hide (HL2.out.to hB3); have HB3 := hide (Below.to HB2.out hB3 (Nat.le_refl _)); clear hop hB3 d0 d1 d2 d3 d4 d5 hld)
  obtain ⟨W3, hW3⟩ : ∃ wo : World, wo = w3 := ⟨_, rfl⟩
  subst hW3
  have x0 := cellOf HX3.out 0
  have lx := box_lt HX3.out
  go_wp2_with fail
  clear x0 lx
  go_loopw [12, 14, 44] (fun mv _ i wr => ∃ (k : Nat) (mx : Int), mv = .int .i64 mx ∧ i = .int .i64 k ∧ k ≤ bs.length ∧ -1 ≤ mx ∧ mx ≤ 3 ∧ Hid (mx + 1 = (nbK (bs.take k) : Nat)) ∧ Hid (Below W3.heap.size W3 wr)) (fun _ _ i _ => bs.length - (intOf i).toNat)
  case atStart => exact ⟨0, -1, rfl, rfl, Nat.zero_le _, Int.le_refl _, by omega, rfl, Below.refl _ _⟩
  case round =>
    obtain ⟨k, mx, rfl, rfl, hk, hmx0, hmx3, HMX, HW⟩ := hrel
    have HBr := hide (Below.to HB3.out HW.out (Nat.le_refl _))
    by_cases hkl : k < bs.length
    case pos =>
      have hkl1 : (k : Int) < (bs.length : Int) := by omega
      have ik0 : (0 : Int) ≤ (k : Int) := by omega
      obtain ⟨b1, o1, y, HY, hA, hb1, hq1, ey0⟩ := HBS.out.at7 hkl
      subst hA
      have ey := (HBr.out.cell (p := ⟨b1, o1 + k, none⟩) hb1).trans ey0
      have lb1 : b1 < wr.heap.size := Nat.lt_of_lt_of_le hb1 HBr.out.size
      have iq : (bs.length : Int) ≤ (qb : Int) := by omega
      have hy3 := brd_at HOK.out (y := y) (by rw [← HY.out]; exact getD_mem7 hkl)
      have hst := nbK_step hkl
      rw [HY.out] at hst
      have hm1 := HMX.out
      clear ey0 hq1 HMX
      by_cases hc : mx < y
      · have HMX2 : Hid (y + 1 = (nbK (bs.take (k + 1)) : Nat)) := by
          show _ = _
          rw [hst]
          omega
        clear hst hm1
        go_wp2_with fail
        go_roundw
        case rel => exact ⟨k + 1, y, (by congr 1 <;> omega), by go_num, by omega, by omega, by omega, HMX2, HW⟩
        case measure => simp [intOf]; omega
      · have HMX2 : Hid (mx + 1 = (nbK (bs.take (k + 1)) : Nat)) := by
          show _ = _
          rw [hst]
          omega
        clear hst hm1
        go_wp2_with fail
        go_roundw
        case rel => exact ⟨k + 1, mx, (by congr 1 <;> omega), by go_num, by omega, by omega, by omega, HMX2, HW⟩
        case measure => simp [intOf]; omega
    case neg =>
      have hkl1 : ¬ (k : Int) < (bs.length : Int) := by omega
      have hmn : mx + 1 = (nb : Int) := by
        have h1 := HMX.out
        rw [List.take_of_length_le (by omega), HNB.out] at h1
        exact h1
      have HXr := hide (box_to HX3.out HW.out)
      have HLr := hide (HL3.out.to HW.out)
      clear hkl HMX
      obtain ⟨W4, hW4⟩ : ∃ wo : World, wo = wr := ⟨_, rfl⟩
      subst hW4
      go_wp2_with fail
      go_loopw [6, 15, 16, 17, 54] (fun sv _ _ _ i wr => ∃ (j : Nat) (L : List Nat), i = .int .i64 j ∧ j ≤ nb ∧ L.length = j ∧ Hid ((List.range j).map (lodN l.m ms bs) = L) ∧ Hid (wr.ownsRow W4.heap.size 3 1 sv L.length (L.map fun (n : Nat) => Value.int .i64 n)) ∧ Hid (Below W4.heap.size W4 wr)) (fun _ _ _ _ i _ => nb - (intOf i).toNat)
      case atStart => exact ⟨0, [], rfl, Nat.zero_le _, rfl, rfl, World.ownsRow_nil _ _ _ _, Below.refl _ _⟩
      case round =>
        obtain ⟨j, L, rfl, hj, hLj, HL, HO, HB⟩ := hrel
        obtain ⟨A9, q9, hv9⟩ := owns_form HO.out
        subst hv9
        have HBs := hide (Below.to HBr.out HB.out (Nat.le_refl _))
        have HLJ := hide hLj
        have hL5 : L.length ≤ 10 := by omega
        clear hLj
        by_cases hjl : j < nb
        case neg =>
          have hjl1 : ¬ (j : Int) < (nb : Int) := by omega
          have hRL : RS = L := by rw [← HRS.out, ← HL.out, HNB.out, show nb = j by omega]
          subst hRL
          clear hjl
          go_wp2_with fail
          go_ret2
          exact ⟨_, rfl, Nods.of_own HO.out, HBs.out⟩
        case pos =>
        have hjl1 : (j : Int) < (nb : Int) := by omega
        have hsn : (List.range (j + 1)).map (lodN l.m ms bs) = L ++ [lodN l.m ms bs j] := by rw [List.range_succ, List.map_append, HL.out]; rfl
        obtain ⟨R0, hR0⟩ : ∃ z, lodN l.m ms bs j = z := ⟨_, rfl⟩
        rw [hR0] at hsn
        have HSN := hide hsn
        have HR0 := hide hR0
        clear hsn hR0
        go_upto_region 18 with (fail)
        generalize hw5 : World.alloc _ _ = w5
        obtain ⟨hb5, hB5, hs5⟩ := alloc1 hw5
        obtain ⟨bb, hbb⟩ : ∃ z, wr.heap.size = z := ⟨_, rfl⟩
        rw [hbb] at hb5 ⊢
        have HO5 := hide (owns_below HO.out hB5)
        have HB5 := hide (Below.to HB.out hB5 (Nat.le_refl _))
        have HBs5 := hide (Below.to HBs.out hB5 (Nat.le_refl _))
        have HL5 := hide (HLr.out.to HB5.out)
        have HX5 := hide (box_to HXr.out HB5.out)
        have HY5 := hide hb5
        have d0 := cellOf HL5.out 0; have d1 := cellOf HL5.out 1; have d2 := cellOf HL5.out 2; have d3 := cellOf HL5.out 3; have d4 := cellOf HL5.out 4; have d5 := cellOf HL5.out 5
        have hld := box_lt HL5.out
        have hload := load_any j bs ms Am qm (.pointer (some ⟨w.heap.size + 1, 0, none⟩)) (.pointer (some ⟨bb, 0, none⟩)) A0 A1 A2 A3 A4 A5 q0 q1 q2 q3 q4 q5 l w5 HS.out HD.out (H.out.up HBs5.out) (HM.out.up HBs5.out) HER.out hN HNE.out (fun i W hi hW => loads2_any bs Ab qb j i _ _ W (box_to HX5.out hW) (box_to HY5.out hW) (Ints.up (Ints.up HBS.out HBs5.out) hW) (by have := HLEN.out; omega) HBL.out)
        rw [HR0.out] at hload
        have HLOAD := hide hload
        clear hw5 hb5 hB5 hs5 hbb hload
        go_wp2_with (first
          | (go_at_call 48; refine HLOAD.out.mono ?_; rintro e w6 ⟨rfl, hB6⟩; have HO6 := hide (owns_below HO5.out hB6); have HB6 := hide (Below.to HB5.out hB6 (Nat.le_refl _)); clear hB6 d0 d1 d2 d3 d4 d5 hld)
          | (at_builtin; go_must (refine wpList_append_own_at _ rfl (.tmp 67) (.tmp 69) _ rfl (W4.heap.size) 3 i0 _ 1 8 Try.underlying22 hi0 iz0 iz1 iz2 rfl (by omega) _ _ _ rfl ((HO6.out).alloc _) ⟨w6.heap.size, 0, none⟩ 1 1 [.int .i64 (R0 : Nat)] rfl rfl (World.news_of_block (heap_alloc_new w6 _)) (by simp [Value.oneCell']) (by have h1 := hL5; unfold maxLen; omega) (by have h1 := hL5; omega) (by have h1 := HB6.out.size; simp; omega) ?_); intro v1 w3 hown1 hg1 _ hat1; have HO7 := hide hown1; have HB7 := hide (Below.grown (Below.allocT HB6.out (Nat.le_refl _) _) hg1 (by have := HB6.out.size; simp; omega) (fun j hj => (HO6.out.lt j hj).1)); clear hown1 hg1 hat1))
        go_roundw
        case rel => exact ⟨j + 1, L ++ [R0], by go_num, by omega, by rw [List.length_append, List.length_singleton, HLJ.out], HSN, by
            have := HO7.out
            rw [List.map_append, List.length_append, List.length_singleton]
            exact this, HB7⟩
        case measure => simp [intOf]; omega
end Go.Proofs.Ytehadoecnmfeoaa

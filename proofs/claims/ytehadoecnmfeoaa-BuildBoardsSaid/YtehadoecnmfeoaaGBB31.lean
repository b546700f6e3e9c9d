/- Part 31 of this claim's texts: walks and plain laws. -/
import Derived.Test.YtehadoecnmfeoaaRows
import Derived.Test.YtehadoecnmfeoaaGBB13
import Derived.Test.YtehadoecnmfeoaaGBB30
import Derived.Test.YtehadoecnmfeoaaGBB17
import Derived.Deep.DeepMust
import Derived.Deep.RegionHeld3
import Derived.Deep.DrawnRows
import Derived.Test.YtehadoecnmfeoaaGBB3
import Derived.Test.YtehadoecnmfeoaaGBB29
/- The greatest load of one board (the program): walk. -/
namespace Go.Proofs.Ytehadoecnmfeoaa
open Go.RowKit
set_option linter.unusedVariables false
set_option linter.unusedSimpArgs false
theorem WorS.to9 {w0 wr w' : World} {B lb : Nat} {A0 A1 A2 A3 A4 A5 : Option Addr} {q0 q1 q2 q3 q4 q5 : Nat} {l : Lo} {fv sv : Value} {Fs : List (List Int)} {Ss : List Int} {vs : List Value} (h : WorS w0 wr B lb A0 A1 A2 A3 A4 A5 q0 q1 q2 q3 q4 q5 l fv sv Fs Ss vs) (hb : Below wr.heap.size wr w') : WorS w0 w' B lb A0 A1 A2 A3 A4 A5 q0 q1 q2 q3 q4 q5 l fv sv Fs Ss vs :=
  ⟨Below.to h.below hb (Nat.le_refl _), box_to h.box hb, ⟨h.f.len, owns_below h.f.own hb, h.f.row⟩, owns_below h.s hb, h.lt.1, Nat.le_trans h.lt.2 hb.size⟩
set_option maxRecDepth 100000 in
set_option maxHeartbeats 1000000 in
theorem loads2_any (bs : List Int) (Ab : Option Addr) (qb b i pb bb : Nat) (w : World) (hp : w.heap[pb]? = some (.cells #[.slice Ab bs.length qb] 22 (0, 0))) (hbb : w.heap[bb]? = some (.cells #[.int .i64 (b : Nat)] 3 (0, 0))) (h : Ints w w.heap.size (.slice Ab bs.length qb) bs) (hi : i < bs.length) (hm : bs.length ≤ maxLen) :
    Calls Try.prog 49 #[.int .i64 (i : Nat), .pointer (some ⟨pb, 0, none⟩), .pointer (some ⟨bb, 0, none⟩)] w fun e w' => e = .returned (.bool (onB bs b i)) ∧ Below w.heap.size w w' := by
  obtain ⟨b1, o1, x, HX, hA, hb1, hq1, e1⟩ := h.at7 hi
  subst hA
  have hr : onB bs b i = (x == (b : Int)) := by unfold onB; rw [HX.out]
  rw [hr]
  have p0 := cellOf hp 0
  have b0 := cellOf hbb 0
  have lp := box_lt hp
  have lb := box_lt hbb
  have ii0 : (0 : Int) ≤ (i : Int) := by omega
  have ii1 : (i : Int) < (bs.length : Int) := by omega
  have iq : (bs.length : Int) ≤ (qb : Int) := by omega
  unfold maxLen at hm
  clear hp hbb h HX hr hq1 hi
  cases hc : (x == (b : Int)) with
  | true =>
    go_enter Try.func49, Try.ntmps49
    go_upto_region 1 with (fail)
    refine wp_region_held_drew (S := (fun w' => Below w.heap.size w w')) (by kernel_rfl) ?_ (fun hHeld => ?_)
    · try dsimp only
      exact (by repeat (first | exact Below.refl _ _ | assumption | refine Below.drew ?_ | refine Below.drewN ?_ _ | refine Below.allocT ?_ (Nat.le_refl _) _ | refine Below.setCell ?_ (by simp <;> omega) _ | refine Below.to ?_ (by assumption) (Nat.le_refl _)))
    refine zT 0 rfl ?_
    try simp only [zX]
    refine zT 1 rfl ?_
    try simp only [zX]
    refine zT 2 rfl ?_
    try simp only [zX]
    refine zT 3 rfl ?_
    try simp only [zX]
    refine zT 4 rfl ?_
    try simp only [zX]
    refine zT 5 rfl ?_
    try simp only [zX]
    refine zT 6 rfl ?_
    try simp only [zX]
    refine wpAnyH_done (by kernel_rfl) ?_ _
    go_wp2_with fail
    go_ret
    exact ⟨rfl, hHeld⟩
  | false =>
    go_enter Try.func49, Try.ntmps49
    go_upto_region 1 with (fail)
    refine wp_region_held_drew (S := (fun w' => Below w.heap.size w w')) (by kernel_rfl) ?_ (fun hHeld => ?_)
    · try dsimp only
      exact (by repeat (first | exact Below.refl _ _ | assumption | refine Below.drew ?_ | refine Below.drewN ?_ _ | refine Below.allocT ?_ (Nat.le_refl _) _ | refine Below.setCell ?_ (by simp <;> omega) _ | refine Below.to ?_ (by assumption) (Nat.le_refl _)))
    refine zT 0 rfl ?_
    try simp only [zX]
    refine zT 1 rfl ?_
    try simp only [zX]
    refine zT 2 rfl ?_
    try simp only [zX]
    refine zT 3 rfl ?_
    try simp only [zX]
    refine zT 4 rfl ?_
    try simp only [zX]
    refine zT 5 rfl ?_
    try simp only [zX]
    refine zT 6 rfl ?_
    try simp only [zX]
    refine wpAnyH_done (by kernel_rfl) ?_ _
    go_wp2_with fail
    go_ret
    exact ⟨rfl, hHeld⟩
set_option maxRecDepth 100000 in
set_option maxHeartbeats 4000000 in
theorem load_any (b : Nat) (bs : List Int) (ms : List Md) (Am : Option Addr) (qm : Nat) (p1 p2 : Value) (A0 A1 A2 A3 A4 A5 : Option Addr) (q0 q1 q2 q3 q4 q5 : Nat) (l : Lo) (w : World) (hs : SizedL l) (hd : SizedD ms) (h : LoA w w.heap.size A0 A1 A2 A3 A4 A5 q0 q1 q2 q3 q4 q5 l) (hm : Mods w w.heap.size (.slice Am ms.length qm) ms) (hb : bldE l ms = 0) (hN : l.m.opts.length ≤ 12) (hne : allM l.m ≠ [])
    (hf : ∀ (i : Nat) (W : World), i < ms.length → Below w.heap.size w W → Calls Try.prog 49 #[.int .i64 (i : Nat), p1, p2] W fun e w' => e = .returned (.bool (onB bs b i)) ∧ Below W.heap.size W w') :
    Calls Try.prog 48 #[.agg #[.slice A0 l.m.opts.length q0, .slice A1 l.m.rules.length q1, .slice A2 l.ss.length q2, .slice A3 l.us.length q3, .slice A4 l.ps.length q4, .slice A5 l.ws.length q5], .slice Am ms.length qm, .func (.func 49) #[] #[p1, p2]] w fun e w' => e = .returned (.tuple #[.int .i64 (lodN l.m ms bs b : Nat), .int .i64 0]) ∧ Below w.heap.size w w' := by
  obtain ⟨i0, hi0, iz0, iz1, iz2⟩ := info_parts infoInt
  obtain ⟨i1, hi1, jz0, jz1, jz2⟩ := info_parts infoForm
  have okm := bldE_ok hb
  have hms60 := okm.n
  have hws60 := okm.lo.w60
  have hsz : ∀ i, sz9 ms i ≤ 60 := fun i => by
    unfold sz9
    rcases Nat.lt_or_ge i ms.length with h1 | h1
    · have := wires_len (ms_wires hb _ (getD_mem7 (z := Md.o) h1))
      omega
    · rw [List.getD_eq_getElem?_getD, List.getElem?_eq_none h1]
      exact Nat.zero_le _
  have hbest := best_lod (m := l.m) (ms := ms) (bs := bs) (b := b) hne hms60 hsz
  obtain ⟨R0, hR0⟩ : ∃ z, lodN l.m ms bs b = z := ⟨_, rfl⟩
  rw [hR0] at hbest ⊢
  have HBEST := hide hbest
  have HSZ := hide hsz
  have HV := hide (ms_valid hb)
  have HMO := hide okm.lo.m
  have HNE := hide hne
  have H := hide h
  have HS := hide hs
  have HM := hide hm
  have HD := hide hd
  have HF := hide hf
  clear okm hb hsz hbest hR0 hne h hs hm hd hf
  go_enter Try.func48, Try.ntmps48
  go_upto_region 1 with (fail)
  generalize hw0 : World.alloc _ _ = w0
  obtain ⟨hb0, hB0, hs0⟩ := alloc1 hw0
  have HB0 := hide hB0
  have HL0 : Hid (LoBox w0 w.heap.size A0 A1 A2 A3 A4 A5 q0 q1 q2 q3 q4 q5 l) := hb0
  clear hw0 hb0 hB0 hs0
  obtain ⟨W0, hW0⟩ : ∃ wo : World, wo = w0 := ⟨_, rfl⟩
  subst hW0
  go_wp2_with fail
  go_loopw [8, 9, 10, 11, 17] (fun fo so _ _ i wr => ∃ (k : Nat) (A A' : Option Addr) (cap cap' : Nat) (Fs : List (List Int)) (Ss : List Int) (vs : List Value), i = .int .i64 k ∧ fo = .slice A Fs.length cap ∧ so = .slice A' Ss.length cap' ∧ k ≤ ms.length ∧ Hid (fms9 ms (onK bs b k) = Fs) ∧ Hid (szs9 ms (onK bs b k) = Ss) ∧ Hid (WorS w wr W0.heap.size w.heap.size A0 A1 A2 A3 A4 A5 q0 q1 q2 q3 q4 q5 l (.slice A Fs.length cap) (.slice A' Ss.length cap') Fs Ss vs)) (fun _ _ _ _ i _ => ms.length - (intOf i).toNat)
  case atStart => exact ⟨0, _, _, _, _, [], [], [], rfl, rfl, rfl, Nat.zero_le _, rfl, rfl, ⟨HB0.out, HL0.out, OFs.nil _ _ _ _, World.ownsRow_nil _ _ _ _, HB0.out.size, Nat.le_refl _⟩⟩
  case round =>
    obtain ⟨k, A, A', cap, cap', Fs, Ss, vs, rfl, rfl, rfl, hk, HFs, HSs, R⟩ := hrel
    by_cases hkl : k < ms.length
    case pos =>
      have hol := onK_le bs b k
      have hFl : Fs.length ≤ 60 := by rw [← HFs.out]; unfold fms9; simp; omega
      have hSl : Ss.length ≤ 60 := by rw [← HSs.out]; unfold szs9; simp; omega
      have hkl1 : (k : Int) < (ms.length : Int) := by omega
      have ik0 : (0 : Int) ≤ (k : Int) := by omega
      obtain ⟨bm, off, d, Af, qf, Aw, qw, HDD, hA, hbm, hq, HFO, HWS, e0, e1⟩ := HM.out.at hkl
      subst hA
      have z0 := (R.out.below.cell (p := ⟨bm, off + k * 2, none⟩) hbm).trans e0
      have z1 := (R.out.below.cell (p := ⟨bm, off + k * 2 + 1, none⟩) hbm).trans e1
      have lb : bm < wr.heap.size := Nat.lt_of_lt_of_le hbm R.out.below.size
      have iq : (ms.length : Int) ≤ (qm : Int) := by omega
      have hst := onK_succ bs b k
      have hszk := HSZ.out k
      unfold sz9 at hszk
      rw [HDD.out] at hszk
      clear e0 e1 hq hol
      go_upto_region 6 with (fail)
      generalize hw2 : World.alloc _ _ = w2
      obtain ⟨hb2, hB2, hs2⟩ := alloc1 hw2
      have R2 := hide (R.out.to9 hB2)
      have HM2 := hide hb2
      obtain ⟨xb, hxb⟩ : ∃ z, wr.heap.size = z := ⟨_, rfl⟩
      rw [hxb] at HM2
      rw [hxb]
      clear hw2 hb2 hB2 hs2 z0 z1 lb hxb
      cases hc : onB bs b k with
      | true =>
        rw [hc, if_pos rfl] at hst
        have hnf : fms9 ms (onK bs b (k + 1)) = Fs ++ [d.f] := by rw [hst, ← HFs.out, ← HDD.out]; simp [fms9]
        have hns : szs9 ms (onK bs b (k + 1)) = Ss ++ [(d.ws.length : Int)] := by rw [hst, ← HSs.out, ← HDD.out]; simp [szs9, sz9]
        have HNF := hide hnf
        have HNS := hide hns
        have HC := hide hc
        clear hst hnf hns hc
        go_upto_region 8 with (first
          | (go_at_call 49; refine (HF.out k _ hkl R2.out.below).mono ?_; rw [HC.out]; rintro e w3 ⟨rfl, hB3⟩; have R3 := hide (R2.out.to9 hB3); have HM3 := hide (box_to HM2.out hB3); have m0 := cellOf HM3.out 0; have m1 := cellOf HM3.out 1; have lm := box_lt HM3.out; clear hB3)
          | (at_builtin; refine wpList_append_own_at _ rfl (.tmp 25) (.tmp 28) _ rfl W0.heap.size 51 i1 _ 1 24 Try.underlying33 hi1 jz0 jz1 jz2 rfl (by omega) _ _ _ rfl (R3.out.f.own.alloc _) ⟨w3.heap.size, 0, none⟩ 1 1 [.slice Af d.f.length qf] rfl rfl (World.news_of_block (heap_alloc_new w3 _)) (by simp [Value.oneCell']) (by unfold maxLen; omega) (by omega) (by have := R3.out.lt.2; simp; omega) ?_; intro v1 w4 hown1 hg1 _ hat1; obtain ⟨A2', cap2, hv2⟩ := owns_form hown1; subst hv2; have R4 := hide (R3.out.pushF HFO.out hown1 hg1); have HM4 := hide (own_box R3.out.f.own hg1 HM3.out (by decide)); clear hown1 hg1 hat1 m0 m1 lm; have m0 := cellOf HM4.out 0; have m1 := cellOf HM4.out 1; have lm := box_lt HM4.out))
        obtain ⟨wm, hwm⟩ : ∃ wm : World, wm = w4 := ⟨_, rfl⟩
        subst hwm
        go_wp2_with (at_builtin; go_must (refine wpList_append_own_at _ rfl (.tmp 30) (.tmp 34) _ rfl (W0.heap.size) 3 i0 _ 1 8 Try.underlying22 hi0 iz0 iz1 iz2 rfl (by omega) _ _ _ rfl ((R4.out.s).alloc _) ⟨wm.heap.size, 0, none⟩ 1 1 [.int .i64 (d.ws.length : Nat)] rfl rfl (World.news_of_block (heap_alloc_new wm _)) (by simp [Value.oneCell']) (by have h1 := hSl; unfold maxLen; omega) (by have h1 := hSl; omega) (by have h1 := R4.out.lt.2; simp; omega) ?_); intro v1 w3 hown1 hg1 _ hat1; obtain ⟨A3', cap3, hv3⟩ := owns_form hown1; subst hv3; have R5 := hide (R4.out.pushS hown1 hg1); clear hown1 hg1 hat1)
        go_roundw
        case rel => exact ⟨k + 1, A2', A3', cap2, cap3, Fs ++ [d.f], Ss ++ [(d.ws.length : Int)], _, by go_num, by rw [List.length_append, List.length_singleton], by rw [List.length_append, List.length_singleton], by omega, HNF, HNS, by rw [List.length_append, List.length_singleton, List.length_append, List.length_singleton]; exact R5.out⟩
        case measure => simp [intOf]; omega
      | false =>
        rw [hc, if_neg (by simp)] at hst
        have HNF : Hid (fms9 ms (onK bs b (k + 1)) = Fs) := by show _ = _; rw [hst]; exact HFs.out
        have HNS : Hid (szs9 ms (onK bs b (k + 1)) = Ss) := by show _ = _; rw [hst]; exact HSs.out
        have HC := hide hc
        clear hst hc
        go_wp2_with (go_at_call 49; refine (HF.out k _ hkl R2.out.below).mono ?_; rw [HC.out]; rintro e w3 ⟨rfl, hB3⟩; have R3 := hide (R2.out.to9 hB3); clear hB3)
        go_roundw
        case rel => exact ⟨k + 1, A, A', cap, cap', Fs, Ss, vs, by go_num, rfl, rfl, by omega, HNF, HNS, R3⟩
        case measure => simp [intOf]; omega
    case neg =>
      have hke : k = ms.length := by omega
      subst hke
      have hkl1 : ¬ (ms.length : Int) < (ms.length : Int) := by omega
      have hFs := HFs.out
      have hSs := HSs.out
      have hol := onK_le bs b ms.length
      have hFl : Fs.length ≤ 60 := by rw [← hFs]; unfold fms9; simp; omega
      have hlen : Ss.length = Fs.length := by rw [← hFs, ← hSs]; unfold fms9 szs9; simp
      have hfv : ∀ f ∈ Fs, validF l.m.opts.length f = true := fun f hf => by
        rw [← hFs] at hf
        unfold fms9 at hf
        obtain ⟨i, hi, rfl⟩ := List.mem_map.1 hf
        exact HV.out _ (getD_mem7 (onK_lt hi))
      have hfz : Sized Fs := ⟨by unfold maxLen; omega, fun f hf => by
        rw [← hFs] at hf
        unfold fms9 at hf
        obtain ⟨i, hi, rfl⟩ := List.mem_map.1 hf
        exact (HD.out.f _ (getD_mem7 (onK_lt hi))).1⟩
      have hsv : ∀ y ∈ Ss, -1000000 ≤ y ∧ y ≤ 1000000 := fun y hy => by
        rw [← hSs] at hy
        unfold szs9 at hy
        obtain ⟨i, _, rfl⟩ := List.mem_map.1 hy
        have := HSZ.out i
        omega
      have hbe : bestF l.m Fs Ss = (R0 : Int) := by rw [← hFs, ← hSs]; exact HBEST.out
      have hmo := Most_n l.m Fs Ss _ _ (.slice A Fs.length cap) (.slice A' Ss.length cap') wr HS.out.m hfz (H.out.up R.out.below).m (R.out.f.forms R.out.below) (Ints.of_own R.out.s) (errF_all HMO.out hfv) hN (by omega) hlen hsv (by rw [satM_true]; exact HNE.out)
      unfold MostN at hmo
      rw [hbe] at hmo
      have HMO2 := hide hmo
      have d0 := cellOf R.out.box 0; have d1 := cellOf R.out.box 1; have d2 := cellOf R.out.box 2; have d3 := cellOf R.out.box 3; have d4 := cellOf R.out.box 4; have d5 := cellOf R.out.box 5
      have l1 := box_lt R.out.box
      clear hFs hSs hol hFl hlen hfv hfz hsv hbe hmo
      go_wp2_with (go_at_call 86; refine HMO2.out.mono ?_; rintro e w2 ⟨v2, x2, rfl, _, _, hv2, hB2⟩; have HB2 := hide (Below.to R.out.below hB2 (Nat.le_refl _)); clear hv2 hB2 d0 d1 d2 d3 d4 d5 l1)
      go_ret2
      exact ⟨rfl, HB2.out⟩
end Go.Proofs.Ytehadoecnmfeoaa
/- The first variant that has a wire though it should not: walk. -/
namespace Go.Proofs.Ytehadoecnmfeoaa
open Go.RowKit
set_option linter.unusedVariables false
set_option linter.unusedSimpArgs false
theorem imp_head (m : Mo) (f g : List Int) : (impL m f g).head? = (allM m).find? fun x => evF1 (vf x) f && !evF1 (vf x) g := by
  unfold impL
  rw [satM_all, head_find]
theorem mee_head (m : Mo) (L : List (List Int)) : (meeL m L).head? = (allM m).find? fun x => allF (vf x) L := by
  unfold meeL
  rw [satM_all, head_find]
theorem allM_len6 {m : Mo} {x : List Bool} (h : x ∈ allM m) : x.length = m.opts.length := by
  have h1 := (List.mem_filter.1 h).1
  have h2 := exts_len _ _ _ h1
  simpa using h2
theorem find_len {m : Mo} {p : List Bool → Bool} {x : List Bool} (h : (allM m).find? p = some x) : x.length = m.opts.length := allM_len6 (List.mem_of_find?_eq_some h)
theorem empty_head {α : Type} (l : List α) : l.isEmpty = l.head?.isNone := by cases l <;> rfl
/-- One formula of a list. -/
theorem Forms.at7 {w : World} {B n q : Nat} {A : Option Addr} {L : List (List Int)} (h : Forms w B (.slice A n q) L) {k : Nat} (hk : k < L.length) : ∃ b off f Af qf, Hid (L.getD k [] = f) ∧ A = some ⟨b, off, none⟩ ∧ b < B ∧ L.length ≤ q ∧ Hid (Ints w B (.slice Af f.length qf) f) ∧ w.cell? ⟨b, off + k, none⟩ = some (.slice Af f.length qf) := by
  obtain ⟨fv, hs, hf⟩ := h
  obtain ⟨h1, h2, b, off, h3, h4, h5⟩ := sl_at hs hk
  have hx := hf k hk
  obtain ⟨Af, qf, e⟩ := Sl.form hx
  have c0 := h5 0 (by omega)
  rw [Nat.mul_one, Nat.add_zero, e] at c0
  rw [e] at hx
  exact ⟨b, off, _, Af, qf, rfl, h3, h4, by omega, hx, c0⟩
theorem LoBox.grown {w w' : World} {lb b t : Nat} {A0 A1 A2 A3 A4 A5 : Option Addr} {q0 q1 q2 q3 q4 q5 : Nat} {l : Lo} {cv : Value} (h : LoBox w lb A0 A1 A2 A3 A4 A5 q0 q1 q2 q3 q4 q5 l) (hb : w.heap[b]? = some (.cells #[cv] t (0, 0))) (ht : t ≠ 41) (hg : w.grownBy w' (some b)) : LoBox w' lb A0 A1 A2 A3 A4 A5 q0 q1 q2 q3 q4 q5 l := by
  refine (hg.block lb (box_lt h) (fun e => ?_)).trans h
  injection e with e
  subst e
  have h1 : w.heap[lb]? = _ := h
  rw [hb] at h1
  injection h1 with h1
  injection h1 with _ h1
  exact ht h1
set_option maxRecDepth 100000 in
set_option maxHeartbeats 4000000 in
theorem extra_any (k0 : Nat) (fs : List (List Int)) (Aw : Option Addr) (qw : Nat) (A0 A1 A2 A3 A4 A5 : Option Addr) (q0 q1 q2 q3 q4 q5 : Nat) (l : Lo) (w : World) (hs : SizedL l) (h : LoA w w.heap.size A0 A1 A2 A3 A4 A5 q0 q1 q2 q3 q4 q5 l) (ok : LoOk l) (hk : k0 < l.ws.length) (hf : Forms w w.heap.size (.slice Aw fs.length qw) fs) (h60 : fs.length ≤ 60) (hv : ∀ f ∈ fs, validF l.m.opts.length f = true) (hN : l.m.opts.length ≤ 12) :
    Calls Try.prog 39 #[.agg #[.slice A0 l.m.opts.length q0, .slice A1 l.m.rules.length q1, .slice A2 l.ss.length q2, .slice A3 l.us.length q3, .slice A4 l.ps.length q4, .slice A5 l.ws.length q5], .int .i64 k0, .slice Aw fs.length qw] w (LokP (frstV l.m (l.ws.getD k0 Wi.o).form fs 2) w) := by
  obtain ⟨bw, offw, x, Af, qf, HX, hA, hbw, hq5, HFO, e0, e1, e2, e3, e4, e5, e6⟩ := h.wi hk
  subst hA
  rw [HX.out]
  have hxv : validF l.m.opts.length x.form = true := by
    have h1 := (LoOk.wi ok hk).2
    rw [HX.out] at h1
    exact h1
  have hxl : x.form.length ≤ maxLen := (hs.wn x (by rw [← HX.out]; exact getD_mem7 hk)).2
  obtain ⟨res, hres⟩ : ∃ r, frstV l.m x.form fs 2 = r := ⟨_, rfl⟩
  rw [hres]
  have HRES := hide hres
  have H := hide h
  have HS := hide hs
  have HF := hide hf
  have HV := hide hv
  have HXV := hide hxv
  have OK := hide ok
  have E6 := hide e6
  have ii : (k0 : Int) < (l.ws.length : Int) := by omega
  have ik0 : (0 : Int) ≤ (k0 : Int) := by omega
  have iq : (l.ws.length : Int) ≤ (q5 : Int) := by omega
  clear h hs hf hv hxv ok hres e0 e1 e2 e3 e4 e5 e6 hq5
  go_enter Try.func39, Try.ntmps39
  go_upto_region 2 with (fail)
  generalize hw0 : World.alloc _ _ = w0
  obtain ⟨hb0, hb1, hB0, hs0⟩ := alloc2 hw0
  have HL0 : Hid (LoBox w0 w.heap.size A0 A1 A2 A3 A4 (some ⟨bw, offw, none⟩) q0 q1 q2 q3 q4 q5 l) := hb0
  have HE0 : Hid (EarAt w0 (w.heap.size + 1) l.m.opts.length (xtrV l.m x.form fs 0)) := by
    rw [xtrV_zero]
    exact ⟨_, hb1, rfl, fun x hx => by cases hx⟩
  have HB0 := hide hB0
  clear hw0 hb0 hb1 hB0 hs0
  go_wp2_with fail
  go_loopw [9, 10, 11, 12, 15] (fun _ _ _ _ i wr => ∃ k : Nat, i = .int .i64 k ∧ k ≤ fs.length ∧ Hid (Below w.heap.size w wr) ∧ Hid (LoBox wr w.heap.size A0 A1 A2 A3 A4 (some ⟨bw, offw, none⟩) q0 q1 q2 q3 q4 q5 l) ∧ Hid (EarAt wr (w.heap.size + 1) l.m.opts.length (xtrV l.m x.form fs k))) (fun _ _ _ _ i _ => fs.length - (intOf i).toNat)
  case atStart => exact ⟨0, rfl, Nat.zero_le _, HB0.out, HL0.out, HE0.out⟩
  case round =>
    obtain ⟨k, rfl, hk2, HB, HL, HE⟩ := hrel
    by_cases hkl : k < fs.length
    · obtain ⟨bf, off, f, Ag, qg, HFK, hA2, hbf, hqf, HG, ef⟩ := HF.out.at7 hkl
      subst hA2
      have hfv : validF l.m.opts.length f = true := by rw [← HFK.out]; exact HV.out _ (getD_mem7 hkl)
      have hfl : f.length ≤ maxLen := by have := (validF_pos hfv).2; unfold maxLen; omega
      have z0 := (HB.out.cell (p := ⟨bf, off + k, none⟩) hbf).trans ef
      have lbf : bf < wr.heap.size := Nat.lt_of_lt_of_le hbf HB.out.size
      have i0 : (0 : Int) ≤ (k : Int) := by omega
      have i1 : (k : Int) < (fs.length : Int) := by omega
      have iqf : (fs.length : Int) ≤ (qw : Int) := by omega
      have hef : l.m.errF [f, x.form] = 0 := errF_all OK.out.m (fun g hg => by
        rcases List.mem_cons.1 hg with h1 | h1
        · rw [h1]; exact hfv
        · rw [List.mem_singleton] at h1; rw [h1]; exact HXV.out)
      obtain ⟨o, ho⟩ : ∃ o, (impL l.m f x.form).head? = o := ⟨_, rfl⟩
      have hoe : (impL l.m f x.form).isEmpty = o.isNone := by rw [empty_head, ho]
      have hstep : xtrV l.m x.form fs (k + 1) = soon (xtrV l.m x.form fs k) o := by rw [xtrV_step hkl, ← ho, imp_head, HFK.out]
      have hol : ∀ y, o = some y → y.length = l.m.opts.length := fun y hy => by
        rw [imp_head] at ho
        exact find_len (ho.trans hy)
      have HEF := hide hef
      have HO := hide ho
      have HOE := hide hoe
      have HST := hide hstep
      have HOL := hide hol
      clear hfv hqf ef hef ho hoe hstep hol
      go_upto_region 5 with (fail)
      clear z0 lbf hbf
      have g6 := (HB.out.cell (p := ⟨bw, offw + k0 * 7 + 6, none⟩) hbw).trans E6.out
      have lbw : bw < wr.heap.size := Nat.lt_of_lt_of_le hbw HB.out.size
      have c0 := cellOf HL.out 0; have c1 := cellOf HL.out 1; have c2 := cellOf HL.out 2; have c3 := cellOf HL.out 3; have c4 := cellOf HL.out 4; have c5 := cellOf HL.out 5
      have lc := box_lt HL.out
      have HHr := hide (H.out.up HB.out)
      have HGr := hide (HG.out.up HB.out)
      have HXr := hide (HFO.out.up HB.out)
      refine wp_region_held_drew (S := (fun w' => Below wr.heap.size wr w')) (by kernel_rfl) ?_ (fun hHeld => ?_)
      · try dsimp only
        exact (by repeat (first | exact Below.refl _ _ | assumption | refine Below.drew ?_ | refine Below.drewN ?_ _ | refine Below.allocT ?_ (Nat.le_refl _) _ | refine Below.setCell ?_ (by simp <;> omega) _ | refine Below.to ?_ (by assumption) (Nat.le_refl _)))
      refine zT 0 rfl ?_
      try simp only [zX]
      refine zT 1 rfl ?_
      try simp only [zX]
      refine zT 2 rfl ?_
      try simp only [zX]
      refine zT 3 rfl ?_
      try simp only [zX]
      refine zT 4 rfl ?_
      try simp only [zX]
      refine zT 5 rfl ?_
      try simp only [zX]
      refine zT 6 rfl ?_
      try simp only [zX]
      refine zT 7 rfl ?_
      try simp only [zX]
      refine zT 8 rfl ?_
      try simp only [zX]
      refine wpAnyH_ready (rs := [9]) (by kernel_rfl) (by simp) ?_
      refine AllReadyH.cons rfl (fun K hK => ?_) AllReadyH.nil
      go_simp
      ((go_at_call 15; refine (Implies_n l.m f x.form _ _ _ _ _ HS.out.m hfl hxl (HHr.out.up hHeld).m (HGr.out.up hHeld) (HXr.out.up hHeld) HEF.out hN).mono ?_; rw [HO.out, HOE.out]; rintro e w2 ⟨v2, rfl, hop, hB2⟩))
      (try dsimp only)
      refine hK.out _ _ ?_ (fun hNext => ?_)
      · try dsimp only
        exact (by repeat (first | exact Below.refl _ _ | assumption | refine Below.drew ?_ | refine Below.drewN ?_ _ | refine Below.allocT ?_ (Nat.le_refl _) _ | refine Below.setCell ?_ (by simp <;> omega) _ | refine Below.to ?_ (by assumption) (Nat.le_refl _)))
      clear hK K hHeld
      have hHeld := hNext
      clear hNext
      (try dsimp only at hHeld)
      try simp only [zX]
      refine zT 10 rfl ?_
      try simp only [zX]
      refine zT 11 rfl ?_
      try simp only [zX]
      refine zT 12 rfl ?_
      try simp only [zX]
      refine zT 13 rfl ?_
      try simp only [zX]
      refine zT 14 rfl ?_
      try simp only [zX]
      refine zT 15 rfl ?_
      try simp only [zX]
      refine zT 16 rfl ?_
      try simp only [zX]
      refine wpAnyH_done (by kernel_rfl) ?_ _
      obtain ⟨Av, nv, qv, hv2, _⟩ := hop.form
      subst hv2
      have HOP := hide hop
      have HB2 := hide hHeld
      have HL2 := hide (HL.out.to hHeld)
      have HE2 := hide (HE.out.up hHeld)
      clear hHeld hop c0 c1 c2 c3 c4 c5 lc g6 lbw
      cases o with
      | none =>
        have hxe : xtrV l.m x.form fs (k + 1) = xtrV l.m x.form fs k := by
          rw [HST.out]
          cases xtrV l.m x.form fs k <;> rfl
        have HXE := hide hxe
        clear hxe
        go_wp2_with fail
        go_roundw
        case rel => exact ⟨k + 1, by go_num, by omega, Below.to HB.out HB2.out (Nat.le_refl _), HL2.out, by rw [HXE.out]; exact HE2.out⟩
        case measure => simp [intOf]; omega
      | some y =>
        go_wp2_with (go_at_call 87; refine (show_any (w.heap.size + 1) l.m.opts.length (xtrV l.m x.form fs k) (some y) _ w2 (by omega) HE2.out HOP.out HOL.out).mono ?_; rintro e w3 ⟨rfl, hE3, hg3⟩; have HE3 := hide hE3; have HG3 := hide hg3; clear hE3 hg3)
        go_roundw
        case rel => exact ⟨k + 1, by go_num, by omega, Below.grown (Below.to HB.out HB2.out (Nat.le_refl _)) HG3.out (Nat.le_trans HB.out.size HB2.out.size) (fun j hj => by injection hj with hj; omega), by
          obtain ⟨cv, hcv, _⟩ := HE2.out
          exact HL2.out.grown hcv (by decide) HG3.out, by rw [HST.out]; exact HE3.out⟩
        case measure => simp [intOf]; omega
    · have hke : k = fs.length := by omega
      subst hke
      obtain ⟨cv, hcv, hop, _⟩ := HE.out
      rw [xtrV_all, HRES.out] at hop
      have x0 := cellOf hcv 0
      have lx := box_lt hcv
      have HOP := hide hop
      clear hcv hop
      go_wp2_with fail
      go_ret
      exact ⟨_, rfl, HOP.out, HB.out⟩
end Go.Proofs.Ytehadoecnmfeoaa

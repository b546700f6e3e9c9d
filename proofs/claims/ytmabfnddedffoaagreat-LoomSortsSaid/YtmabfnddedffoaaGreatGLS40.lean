/- Part 40 of this claim's texts: walks and plain laws. -/
import Derived.Test.YtmabfnddedffoaaGreatRows
import Derived.Test.YtmabfnddedffoaaGreatGLS39
import Derived.Test.YtmabfnddedffoaaGreatGLS35
import Derived.Deep.RegionHeld3
import Derived.Deep.DrawnRows
import Derived.Test.YtmabfnddedffoaaGreatGLS3
import Derived.Test.YtmabfnddedffoaaGreatGLS28
import Derived.Test.YtmabfnddedffoaaGreatGLS21
/- The elder copper of a variant: walk. -/
namespace Go.Proofs.YtmabfnddedffoaaGreat
open Go.RowKit
set_option linter.unusedVariables false
set_option linter.unusedSimpArgs false
set_option maxRecDepth 100000 in
set_option maxHeartbeats 4000000 in
theorem rCopper_any (v : List Bool) (Av : Option Addr) (qv : Nat) (A0 A1 A2 A3 A4 A5 : Option Addr) (q0 q1 q2 q3 q4 q5 : Nat) (l : Lo) (w : World) (hs : SizedL l) (h : LoA w w.heap.size A0 A1 A2 A3 A4 A5 q0 q1 q2 q3 q4 q5 l) (hv : Bols w w.heap.size (.slice Av v.length qv) v) :
    Calls Tryz.prog 11 #[.agg #[.slice A0 l.m.opts.length q0, .slice A1 l.m.rules.length q1, .slice A2 l.ss.length q2, .slice A3 l.us.length q3, .slice A4 l.ps.length q4, .slice A5 l.ws.length q5], .slice Av v.length qv] w (FilP (copN l v) (copE l v) w) := by
  have H := hide h
  have HS := hide hs
  have HV := hide hv
  obtain ⟨er, her⟩ : ∃ z, l.err = z := ⟨_, rfl⟩
  obtain ⟨z, hz⟩ : ∃ z, copE l v = z := ⟨_, rfl⟩
  obtain ⟨n1, hn1⟩ : ∃ z, copN l v = z := ⟨_, rfl⟩
  rw [hz, hn1]
  have HE := hide her
  clear h hs hv
  by_cases her0 : er = 0
  case neg =>
    have hze : z = er := by rw [← hz]; unfold copE havE; rw [if_pos (by rw [her]; exact her0), her]
    have hn0 : n1 = 0 := by rw [← hn1]; unfold copN; rw [if_neg (by rw [hz, hze]; exact her0)]
    subst hze hn0
    have hz1 : (z != 0) = true := by simpa using her0
    clear her hz hn1 her0
    go_enter Tryz.func11, Tryz.ntmps11
    go_upto_region 1 with (fail)
    generalize hw0 : World.alloc _ _ = w0
    obtain ⟨hb0, hB0, hs0⟩ := alloc1 hw0
    have c0 := cellOf hb0 0; have c1 := cellOf hb0 1; have c2 := cellOf hb0 2; have c3 := cellOf hb0 3; have c4 := cellOf hb0 4; have c5 := cellOf hb0 5
    have hlb := box_lt hb0
    have HB0 := hide hB0
    clear hw0 hb0 hB0 hs0
    go_wp2_with (go_at_call 18; refine (rCheck_any A0 A1 A2 A3 A4 A5 q0 q1 q2 q3 q4 q5 l _ HS.out (H.out.up HB0.out)).mono ?_; rw [HE.out]; rintro e w1 ⟨rfl, hB1⟩; have HB1 := hide (Below.to HB0.out hB1 (Nat.le_refl _)); clear hB1 c0 c1 c2 c3 c4 c5 hlb)
    go_ret2
    exact ⟨rfl, HB1.out⟩
  case pos =>
  subst her0
  by_cases hvl : v.length = l.m.opts.length
  case neg =>
    have hze : z = 1 := by rw [← hz]; unfold copE havE; rw [if_neg (by simp [her]), decide_eq_false hvl]; rfl
    have hn0 : n1 = 0 := by rw [← hn1]; unfold copN; rw [if_neg (by rw [hz, hze]; decide)]
    subst hze hn0
    have g1 : ((v.length : Int) != (l.m.opts.length : Int)) = true := by simp; omega
    clear her hz hn1 hvl
    go_enter Tryz.func11, Tryz.ntmps11
    go_upto_region 1 with (fail)
    generalize hw0 : World.alloc _ _ = w0
    obtain ⟨hb0, hB0, hs0⟩ := alloc1 hw0
    have c0 := cellOf hb0 0; have c1 := cellOf hb0 1; have c2 := cellOf hb0 2; have c3 := cellOf hb0 3; have c4 := cellOf hb0 4; have c5 := cellOf hb0 5
    have hlb := box_lt hb0
    have HB0 := hide hB0
    have HL0 : Hid (LoBox w0 w.heap.size A0 A1 A2 A3 A4 A5 q0 q1 q2 q3 q4 q5 l) := hb0
    clear hw0 hb0 hB0 hs0
    go_wp2_with (go_at_call 18; refine (rCheck_any A0 A1 A2 A3 A4 A5 q0 q1 q2 q3 q4 q5 l _ HS.out (H.out.up HB0.out)).mono ?_; rw [HE.out]; rintro e w1 ⟨rfl, hB1⟩; have d0 := cellOf (HL0.out.to hB1) 0; have d1 := cellOf (HL0.out.to hB1) 1; have d2 := cellOf (HL0.out.to hB1) 2; have d3 := cellOf (HL0.out.to hB1) 3; have d4 := cellOf (HL0.out.to hB1) 4; have d5 := cellOf (HL0.out.to hB1) 5; have ld := box_lt (HL0.out.to hB1); have HB1 := hide (Below.to HB0.out hB1 (Nat.le_refl _)); clear hB1 c0 c1 c2 c3 c4 c5 hlb)
    go_ret2
    exact ⟨rfl, HB1.out⟩
  case pos =>
  have hz0 : z = 0 := by rw [← hz]; unfold copE havE; rw [if_neg (by simp [her]), decide_eq_true hvl]; rfl
  subst hz0
  have ok := Lo.err_ok her
  obtain ⟨f, hf⟩ : ∃ f : Nat → Int, copF l v = f := ⟨_, rfl⟩
  have hn1' : sumN f l.ws.length = n1 := by rw [← hn1, ← hf]; unfold copN; rw [if_pos hz]
  have hfb : ∀ k, k ≤ l.ws.length → 0 ≤ sumN f k ∧ sumN f k ≤ (k : Int) * 400000000000 := fun k hk => by rw [← hf]; exact copS_bd ok v hk
  have hfi : ∀ i, f i = if inB l v i then lenW l i * (l.ws.getD i Wi.o).size else 0 := fun i => by rw [← hf]; rfl
  have g1 : ((v.length : Int) != (l.m.opts.length : Int)) = false := by simp; omega
  have OK := hide ok
  have HN1 := hide hn1'
  have HFB := hide hfb
  have HFI := hide hfi
  have hw60 := ok.w60
  clear her hz hn1 ok hf hn1' hfb hfi hvl
  go_enter Tryz.func11, Tryz.ntmps11
  go_upto_region 1 with (fail)
  generalize hw0 : World.alloc _ _ = w0
  obtain ⟨hb0, hB0, hs0⟩ := alloc1 hw0
  have c0 := cellOf hb0 0; have c1 := cellOf hb0 1; have c2 := cellOf hb0 2; have c3 := cellOf hb0 3; have c4 := cellOf hb0 4; have c5 := cellOf hb0 5
  have hlb := box_lt hb0
  have HB0 := hide hB0
  have HL0 : Hid (LoBox w0 w.heap.size A0 A1 A2 A3 A4 A5 q0 q1 q2 q3 q4 q5 l) := hb0
  clear hw0 hb0 hB0 hs0
  go_wp2_with (go_at_call 18; refine (rCheck_any A0 A1 A2 A3 A4 A5 q0 q1 q2 q3 q4 q5 l _ HS.out (H.out.up HB0.out)).mono ?_; rw [HE.out]; rintro e w1 ⟨rfl, hB1⟩; have d0 := cellOf (HL0.out.to hB1) 0; have d1 := cellOf (HL0.out.to hB1) 1; have d2 := cellOf (HL0.out.to hB1) 2; have d3 := cellOf (HL0.out.to hB1) 3; have d4 := cellOf (HL0.out.to hB1) 4; have d5 := cellOf (HL0.out.to hB1) 5; have ld := box_lt (HL0.out.to hB1); have HL1 := hide (HL0.out.to hB1); have HB1 := hide (Below.to HB0.out hB1 (Nat.le_refl _)); clear hB1 c0 c1 c2 c3 c4 c5 hlb)
  clear d0 d1 d2 d3 d4 d5 ld g1
  go_loopw [7, 8, 9, 10] (fun o i _ _ wr => ∃ (k : Nat) (s : Int), i = .int .i64 k ∧ o = .int .i64 s ∧ k ≤ l.ws.length ∧ Hid (sumN f k = s) ∧ Hid (Below w1.heap.size w1 wr)) (fun _ i _ _ _ => l.ws.length - (intOf i).toNat)
  case atStart => exact ⟨0, 0, rfl, rfl, Nat.zero_le _, rfl, Below.refl _ _⟩
  case round =>
    obtain ⟨k, s, rfl, rfl, hk, HSU, HBr⟩ := hrel
    have HLr := hide (HL1.out.to HBr.out)
    have d0 := cellOf HLr.out 0; have d1 := cellOf HLr.out 1; have d2 := cellOf HLr.out 2; have d3 := cellOf HLr.out 3; have d4 := cellOf HLr.out 4; have d5 := cellOf HLr.out 5
    have ld := box_lt HLr.out
    by_cases hkl : k < l.ws.length
    · have hBw := Below.to HB1.out HBr.out (Nat.le_refl _)
      obtain ⟨bw, offw, x, Af, qf, HX, rfl, hbw, hq5, HFO, e0, e1, e2, e3, e4, e5, e6⟩ := H.out.wi hkl
      have HE5 := hide e5
      have HBW := hide hbw
      have hsz := sz_ok OK.out hkl
      rw [HX.out] at hsz
      have hln := OK.out.dist (x := endF l k) (z := endT l k)
      obtain ⟨hea, heb⟩ := OK.out.ends hkl
      have HEA := hide hea
      have HEB := hide heb
      obtain ⟨a, ha⟩ : ∃ z, lenW l k = z := ⟨_, rfl⟩
      have ha2 : distN l.rs (runLen l) (endF l k) (endT l k) = a := ha
      rw [ha2] at hln
      have HA := hide ha2
      obtain ⟨ea, hea2⟩ : ∃ n, endF l k = n := ⟨_, rfl⟩
      obtain ⟨eb, heb2⟩ : ∃ n, endT l k = n := ⟨_, rfl⟩
      have HEF := hide (And.intro hea2 heb2)
      have hsr := HFB.out k hk
      rw [HSU.out] at hsr
      have hpr := pos_bd (x := a) (y := x.size) (c := 40000000) (d := 10000) hln.1 hln.2 (by omega) hsz.2
      obtain ⟨pr, hpe⟩ : ∃ z, a * x.size = z := ⟨_, rfl⟩
      rw [hpe] at hpr
      have hnew : sumN f (k + 1) = s + f k := by show sumN f k + f k = _; rw [HSU.out]
      have hfk : f k = if inB l v k then pr else 0 := by rw [HFI.out, ha, HX.out, hpe]
      have wr1 : IntKind.i64.wrap (a * x.size) = pr := by rw [hpe]; exact IntWalk.i64_in _ (by omega)
      have wr2 : IntKind.i64.wrap (s + pr) = s + pr := IntWalk.i64_in _ (by omega)
      obtain ⟨b, hb⟩ : ∃ b, inB l v k = b := ⟨_, rfl⟩
      rw [hb] at hfk
      have HBV := hide hb
      have HNEW := hide hnew
      have HFK := hide hfk
      have ik : (k : Int) < (l.ws.length : Int) := by omega
      have iq : (l.ws.length : Int) ≤ (q5 : Int) := by omega
      have WR := hide (And.intro wr1 wr2)
      have HHr := hide (H.out.up hBw)
      have HVr := hide (Sl.up HV.out hBw)
      clear hpe hnew hfk hb ha ha2 hea heb hea2 heb2 hsr hpr hln hbw wr1 wr2 e0 e1 e2 e3 e4 e5 e6 hBw hsz
      cases b with
      | false =>
        have hnew : sumN f (k + 1) = s := by rw [HNEW.out, HFK.out]; simp
        have HN' := hide hnew
        clear hnew
        go_wp2_with (go_at_call 25; refine (has_any k v Av qv _ _ _ _ _ _ _ _ _ _ _ _ l _ HS.out HHr.out HVr.out hkl hw60).mono ?_; rw [HBV.out]; rintro e w3 ⟨rfl, hB3⟩; have HB3 := hide (Below.to HBr.out hB3 (Nat.le_refl _)); clear hB3 d0 d1 d2 d3 d4 d5 ld)
        go_roundw
        case rel => exact ⟨k + 1, s, by go_num, rfl, by omega, HN'.out, HB3.out⟩
        case measure => simp [intOf]; omega
      | true =>
        have hnew : sumN f (k + 1) = s + pr := by rw [HNEW.out, HFK.out]; simp
        have HN' := hide hnew
        clear hnew
        go_upto_region 12 with (first | (go_at_call 25; refine (has_any k v Av qv _ _ _ _ _ _ _ _ _ _ _ _ l _ HS.out HHr.out HVr.out hkl hw60).mono ?_; rw [HBV.out]; rintro e w3 ⟨rfl, hB3⟩; have HB3 := hide (Below.to HBr.out hB3 (Nat.le_refl _)); clear hB3 d0 d1 d2 d3 d4 d5 ld; have HL3 := hide (HL1.out.to HB3.out); have c0 := cellOf HL3.out 0; have c1 := cellOf HL3.out 1; have c2 := cellOf HL3.out 2; have c3 := cellOf HL3.out 3; have c4 := cellOf HL3.out 4; have c5 := cellOf HL3.out 5; have lc := box_lt HL3.out) | (go_at_call 26; refine (rends_any k _ _ _ _ _ _ _ _ _ _ _ _ l _ (H.out.up (Below.to HB1.out HB3.out (Nat.le_refl _))) OK.out hkl).mono ?_; rw [HEF.out.1, HEF.out.2]; rintro e w4 ⟨rfl, hB4⟩; have HB4 := hide (Below.to HB3.out hB4 (Nat.le_refl _)); clear hB4 c0 c1 c2 c3 c4 c5 lc))
        have HL4 := hide (HL1.out.to HB4.out)
        have d0 := cellOf HL4.out 0; have d1 := cellOf HL4.out 1; have d2 := cellOf HL4.out 2; have d3 := cellOf HL4.out 3; have d4 := cellOf HL4.out 4; have d5 := cellOf HL4.out 5
        have ld := box_lt HL4.out
        have hBw := Below.to HB1.out HB4.out (Nat.le_refl _)
        have z5 := (hBw.cell (p := ⟨bw, offw + k * 7 + 5, none⟩) HBW.out).trans HE5.out
        have lbw : bw < w4.heap.size := Nat.lt_of_lt_of_le HBW.out hBw.size
        have HH4 := hide (H.out.up hBw)
        obtain ⟨wr1, wr2⟩ := WR.out
        have hea := HEA.out
        have heb := HEB.out
        have haa := HA.out
        rw [HEF.out.1] at hea haa
        rw [HEF.out.2] at heb haa
        have HEA2 := hide hea
        have HEB2 := hide heb
        have HA2 := hide haa
        clear hea heb haa hBw
        refine wp_region_held_drew (S := (fun w' => Below w4.heap.size w4 w')) (by kernel_rfl) ?_ (fun hHeld => ?_)
        · try dsimp only
          exact (by repeat (first | exact Below.refl _ _ | assumption | refine Below.drew ?_ | refine Below.drewN ?_ _ | refine Below.allocT ?_ (Nat.le_refl _) _ | refine Below.setCell ?_ (by simp <;> omega) _ | refine Below.to ?_ (by assumption) (Nat.le_refl _)))
        refine zT 0 rfl ?_
        try simp only [zX]
        refine zT 1 rfl ?_
        try simp only [zX]
        refine zT 2 rfl ?_
        try simp only [zX]
        refine zT 3 rfl ?_
        try simp only [zX]
        refine zT 5 rfl ?_
        try simp only [zX]
        refine zT 6 rfl ?_
        try simp only [zX]
        refine zT 7 rfl ?_
        try simp only [zX]
        refine zT 8 rfl ?_
        try simp only [zX]
        refine zT 9 rfl ?_
        try simp only [zX]
        refine zT 10 rfl ?_
        try simp only [zX]
        refine wpAnyH_ready (rs := [4]) (by kernel_rfl) (by simp) ?_
        refine AllReadyH.cons rfl (fun K hK => ?_) AllReadyH.nil
        go_simp
        ((go_at_call 27; refine (rdistance_any ea eb _ _ _ _ _ _ _ _ _ _ _ _ l _ (HH4.out.up (by repeat (first | exact Below.refl _ _ | assumption | refine Below.drew ?_ | refine Below.drewN ?_ _ | refine Below.allocT ?_ (Nat.le_refl _) _ | refine Below.setCell ?_ (by simp <;> omega) _ | refine Below.to ?_ (by assumption) (Nat.le_refl _)))) OK.out HEA2.out HEB2.out).mono ?_; rw [HA2.out]; rintro e w5 ⟨rfl, hB5⟩))
        (try dsimp only)
        refine hK.out _ _ ?_ (fun hNext => ?_)
        · try dsimp only
          exact (by repeat (first | exact Below.refl _ _ | assumption | refine Below.drew ?_ | refine Below.drewN ?_ _ | refine Below.allocT ?_ (Nat.le_refl _) _ | refine Below.setCell ?_ (by simp <;> omega) _ | refine Below.to ?_ (by assumption) (Nat.le_refl _)))
        clear hK K hHeld
        have hHeld := hNext
        clear hNext
        (try dsimp only at hHeld)
        try simp only [zX]
        refine zT 11 rfl ?_
        try simp only [zX]
        refine zT 12 rfl ?_
        try simp only [zX]
        refine zT 13 rfl ?_
        try simp only [zX]
        refine wpAnyH_done (by kernel_rfl) ?_ _
        have HB5 := hide (Below.to HB4.out hHeld (Nat.le_refl _))
        clear hHeld d0 d1 d2 d3 d4 d5 ld z5 lbw wr1 wr2
        go_wp2_with fail
        go_roundw
        case rel => exact ⟨k + 1, s + pr, by go_num, by first | rfl | go_num, by omega, HN'.out, HB5.out⟩
        case measure => simp [intOf]; omega
    · have hke : k = l.ws.length := by omega
      subst hke
      have hfin : n1 = s := by rw [← HN1.out, HSU.out]
      subst hfin
      go_wp2_with fail
      go_ret2
      exact ⟨rfl, Below.to HB1.out HBr.out (Nat.le_refl _)⟩
end Go.Proofs.YtmabfnddedffoaaGreat
/- Meets and Implies as the elder program has them: walks. -/
namespace Go.Proofs.YtmabfnddedffoaaGreat
open Go.RowKit
set_option linter.unusedVariables false
set_option linter.unusedSimpArgs false
/-- Those of the buildable variants in which the first k formulas hold. -/
def whereK (m : Mo) (l : List (List Int)) (k : Nat) : List (List Bool) := (l.take k).foldl whereF (allM m)
theorem whereK_succ {m : Mo} {l : List (List Int)} {k : Nat} (hk : k < l.length) : whereK m l (k + 1) = whereF (whereK m l k) (l.getD k []) := by
  unfold whereK
  rw [take_getD (z := []) hk, List.foldl_append]
  rfl
theorem whereK_mem (l : List (List Int)) : ∀ (M : List (List Bool)) (x : List Bool), x ∈ l.foldl whereF M → x ∈ M := by
  induction l with
  | nil => intro M x h; exact h
  | cons f l ih => intro M x h; exact whereF_mem (ih _ _ h)
theorem whereK_len (l : List (List Int)) : ∀ (M : List (List Bool)), (l.foldl whereF M).length ≤ M.length := by
  induction l with
  | nil => intro M; exact Nat.le_refl _
  | cons f l ih => intro M; exact Nat.le_trans (ih _) (whereF_le _ _)
theorem foldl_where (l : List (List Int)) : ∀ (M : List (List Bool)), l.foldl whereF M = M.filter fun x => allF (vf x) l := by
  induction l with
  | nil => intro M; exact (List.filter_eq_self.2 (fun _ _ => rfl)).symm
  | cons f l ih =>
    intro M
    simp only [List.foldl_cons, ih, whereF, List.filter_filter]
    refine List.filter_congr fun x _ => ?_
    simp only [allF, List.all_cons]
    rw [Bool.and_comm]
theorem whereK_all (m : Mo) (l : List (List Int)) : whereK m l l.length = meeL m l := by
  unfold whereK meeL
  rw [List.take_length, foldl_where, satM_all]
set_option maxRecDepth 100000 in
set_option maxHeartbeats 4000000 in
theorem rMeets_any (m : Mo) (l : List (List Int)) (ov rv lv : Value) (w : World) (hs : SizedM m) (hl : Sized l) (h : MoAt w w.heap.size ov rv m) (hf : Forms w w.heap.size lv l) (hN : m.err = 0 → m.opts.length ≤ 12) :
    Calls Tryz.prog 19 #[.agg #[ov, rv], lv] w (MeeP (meeX m l) (meeB m l) (frmE m l) w) := by
  obtain ⟨A, cap, hov⟩ := Sl.form h.o
  obtain ⟨Ar, capr, hrv⟩ := h.r.form
  have HFO := hide hf
  obtain ⟨fvs, ⟨Al, bl, offl, capl, rfl, hncl, hAl, hcl⟩, hfi⟩ := hf
  have H := hide h
  have HS := hide hs
  have HAL := hide hAl
  have HCL := hide hcl
  have HFI := hide hfi
  have HL := hide hl
  have HN := hide hN
  subst hov hrv
  clear h hs hAl hcl hfi hl hN
  go_enter Tryz.func19, Tryz.ntmps19
  go_upto_region 1 with (fail)
  generalize hw0 : World.alloc _ _ = w0
  obtain ⟨hb0, hB0, hs0⟩ := alloc1 hw0
  clear hw0
  have HX0 : Hid (MoBox w0 w.heap.size (.slice A m.opts.length cap) (.slice Ar m.rules.length capr)) := hb0
  have HB0 := hide hB0
  have c0 := cellOf hb0 0
  have c1 := cellOf hb0 1
  have hck := rcheckForms_any m l (.slice A m.opts.length cap) (.slice Ar m.rules.length capr) (.slice Al l.length capl) w0 HS.out HL.out (H.out.up hB0) (HFO.out.up hB0)
  have HCK := hide hck
  clear hb0 hB0 hs0 hck
  by_cases he : frmE m l = 0
  · have HE := hide he
    obtain ⟨heF, hl200⟩ := frm_ok he
    have HEF := hide (Mo.okF heF)
    have hN2 := HN.out (Mo.okF heF).1
    clear he heF
    go_wp2_with (first | (go_at_call 62; refine HCK.out.mono ?_; rw [HE.out]; rintro e w1 ⟨rfl, hB1⟩; have hbx := box_to HX0.out hB1; have d0 := cellOf hbx 0; have d1 := cellOf hbx 1; have HB1 : Hid (Below w.heap.size w w1) := Below.to HB0.out hB1 (Nat.le_refl _); clear hbx hB1 c0 c1) | (go_at_call 63; refine (Variants_any m _ _ _ (H.out.up HB1.out) HEF.out.1 hN2).mono ?_; rintro e w2 ⟨v2, rfl, hv2, hB2⟩; have HV2 := hide hv2.rows; have HB2 : Hid (Below w.heap.size w w2) := Below.to HB1.out hB2 (Nat.le_refl _); clear hv2 hB2 d0 d1))
    go_loopw [8, 9] (fun av i wr => ∃ k : Nat, k ≤ l.length ∧ i = .int .i64 k ∧ Hid (Vars wr wr.heap.size av (whereK m l k)) ∧ Hid (Below w.heap.size w wr)) (fun _ i _ => l.length - (intOf i).toNat)
    case atStart => exact ⟨0, Nat.zero_le _, rfl, HV2.out, HB2.out⟩
    case round =>
      obtain ⟨k, hk, rfl, hV, hB⟩ := hrel
      obtain ⟨A1, cap1, hA1⟩ := hV.out.form
      subst hA1
      have hm4 : (whereK m l k).length ≤ 4096 := Nat.le_trans (whereK_len _ _) (allM_le4 hN2)
      obtain ⟨M, hM⟩ : ∃ M, whereK m l k = M := ⟨_, rfl⟩
      rw [hM] at hV hm4
      have hMl : ∀ x ∈ M, x.length = m.opts.length := fun x hx => by
        rw [← hM] at hx
        exact allM_len (whereK_mem _ _ _ hx)
      rw [hM]
      have HM := hide hM
      have HML := hide hMl
      clear hM hMl
      by_cases hkl : k < l.length
      · obtain ⟨rfl, hbb, Af, capf, p0, p1⟩ := rows_get (enc := Value.int .i64) (z := 0) HAL.out HCL.out HFI.out hkl
        obtain ⟨f, hfe⟩ : ∃ f, l.getD k [] = f := ⟨_, rfl⟩
        rw [hfe] at p0 p1
        have hfv : validF m.opts.length f = true := HEF.out.2 f (by rw [← hfe]; exact getD_mem hkl)
        have c2 : wr.cell? ⟨bl, offl + k, none⟩ = some (.slice Af f.length capf) := (hB.out.cell (p := ⟨bl, offl + k, none⟩) hbb).trans p0
        have hwh := Where_any m.opts.length M f (.slice A1 M.length cap1) (.slice Af f.length capf) wr hV.out (GRow.up (enc := Value.int .i64) (z := 0) p1 hB.out) HML.out hfv (by omega)
        have HWH := hide hwh
        have hws := whereK_succ (m := m) hkl
        rw [HM.out, hfe] at hws
        have HWS := hide hws
        have j0 : (k : Int) < (l.length : Int) := by omega
        clear p0 p1 hfe hfv hwh hws
        go_wp2_with (go_at_call 64; refine HWH.out.mono ?_; rintro e w3 ⟨v3, rfl, hv3, hB3⟩; have HV3 := hide hv3.rows; have HB3 := hide hB3; clear hv3 hB3)
        go_roundw
        case rel => exact ⟨k + 1, by omega, by go_num, by rw [HWS.out]; exact HV3.out, Below.to hB.out HB3.out (Nat.le_refl _)⟩
        case measure => simp [intOf]; omega
      · obtain rfl : k = l.length := by omega
        have hall : meeL m l = M := by rw [← whereK_all]; exact HM.out
        have HALL := hide hall
        by_cases hM0 : M = []
        · subst hM0
          have HBAD := hide (mee_no HE.out hall)
          clear hall
          go_wp2_with fail
          go_ret3
          rw [HE.out]
          exact MeeP.bad HBAD.out hB.out
        · have hpos : 0 < M.length := List.length_pos_iff.2 hM0
          have hMl : ((M.length : Int) == 0) = false := by simp; omega
          obtain ⟨x, hx⟩ : ∃ x, M.getD 0 [] = x := ⟨_, rfl⟩
          have hhead : (meeL m l).head? = some x := by
            rw [hall, ← hx]
            match M, hpos with
            | a :: r, _ => rfl
          have HYES := hide (mee_yes HE.out hhead)
          obtain ⟨rvs, ⟨A9, bm, offm, cap9, hse, hncm, hAm, hcm⟩, hrm⟩ := hV.out
          injection hse with e1 e2 e3
          subst e1
          obtain ⟨rfl, hbm, Ax, capx, q0, q1⟩ := rows_get (enc := Value.bool) (z := false) hAm hcm hrm hpos
          rw [hx] at q0 q1
          rw [Nat.add_zero] at q0
          have j0 : (0 : Int) < (M.length : Int) := by omega
          have HQ1 := hide q1
          clear hall hM0 hhead hx hAm hcm hrm q1 e2 e3 hncm
          go_wp2_with fail
          go_ret3
          rw [HE.out, HYES.out.1, HYES.out.2]
          exact ⟨_, rfl, HQ1.out, hB.out⟩
  · have hbad := mee_bad he
    obtain ⟨z, hz⟩ : ∃ z, frmE m l = z := ⟨_, rfl⟩
    rw [hz] at he
    have hz1 : (z != 0) = true := by simpa using he
    have HZ := hide hz
    have HBAD := hide hbad
    clear he hz hbad
    go_wp2_with (go_at_call 62; refine HCK.out.mono ?_; rw [HZ.out]; rintro e w1 ⟨rfl, hB1⟩)
    go_ret3
    rw [HZ.out]
    exact MeeP.bad HBAD.out (Below.to HB0.out hB1 (Nat.le_refl _))
theorem errF_left {m : Mo} {f g : List Int} (h : m.errF [f] ≠ 0) : m.errF [f, g] = m.errF [f] := by
  by_cases hm : m.err = 0
  · rw [Mo.errF_ok hm] at h ⊢
    rw [Mo.errF_ok hm]
    cases hf : validF m.opts.length f with
    | true => simp [hf] at h
    | false => simp [hf]
  · rw [Mo.errF_err hm, Mo.errF_err hm]
theorem errF_right {m : Mo} {f g : List Int} (h : m.errF [f] = 0) : m.errF [f, g] = m.errF [g] := by
  obtain ⟨hm, hf⟩ := Mo.okF h
  rw [Mo.errF_ok hm, Mo.errF_ok hm, List.all_cons, hf f (by simp), Bool.true_and]
theorem impL_where (m : Mo) (f g : List Int) : impL m f g = (whereF (allM m) f).filter fun x => !evF1 (vf x) g := by
  unfold impL whereF
  rw [satM_all, List.filter_filter]
  exact List.filter_congr fun x _ => by rw [Bool.and_comm]
set_option maxRecDepth 100000 in
set_option maxHeartbeats 4000000 in
theorem rImplies_any (m : Mo) (f g : List Int) (ov rv fv gv : Value) (w : World) (hs : SizedM m) (hl : f.length ≤ maxLen) (hl2 : g.length ≤ maxLen) (h : MoAt w w.heap.size ov rv m) (hf : Ints w w.heap.size fv f) (hg : Ints w w.heap.size gv g) (hN : m.err = 0 → m.opts.length ≤ 12) :
    Calls Tryz.prog 20 #[.agg #[ov, rv], fv, gv] w (MeeP (impX m f g) (impB m f g) (m.errF [f, g]) w) := by
  obtain ⟨A, cap, hov⟩ := Sl.form h.o
  obtain ⟨Ar, capr, hrv⟩ := h.r.form
  obtain ⟨Al, capl, hlv⟩ := Sl.form hf
  obtain ⟨Ag, capg, hgv⟩ := Sl.form hg
  have H := hide h
  have HF := hide hf
  have HG := hide hg
  have HS := hide hs
  have HN := hide hN
  subst hov hrv hlv hgv
  clear h hf hg hs hN
  go_enter Tryz.func20, Tryz.ntmps20
  go_upto_region 1 with (fail)
  generalize hw0 : World.alloc _ _ = w0
  obtain ⟨hb0, hB0, hs0⟩ := alloc1 hw0
  clear hw0
  have HX0 : Hid (MoBox w0 w.heap.size (.slice A m.opts.length cap) (.slice Ar m.rules.length capr)) := hb0
  have HB0 := hide hB0
  have c0 := cellOf hb0 0
  have c1 := cellOf hb0 1
  have hck := rCheckFormula_any m f (.slice A m.opts.length cap) (.slice Ar m.rules.length capr) (.slice Al f.length capl) w0 HS.out hl (H.out.up hB0) (HF.out.up hB0)
  have HCK := hide hck
  clear hb0 hB0 hs0 hck
  by_cases he : m.errF [f] = 0
  · have HE := hide he
    have hfg := errF_right (g := g) he
    have hm := (Mo.okF he).1
    have HFV := hide ((Mo.okF he).2 f (by simp))
    have hN2 := HN.out hm
    have HM := hide hm
    have HFG := hide hfg
    clear he hfg hm
    go_upto_region 4 with (go_at_call 61; refine HCK.out.mono ?_; rw [HE.out]; rintro e w1 ⟨rfl, hB1⟩; have hbx := box_to HX0.out hB1; have d0 := cellOf hbx 0; have d1 := cellOf hbx 1; have HX1 := hide hbx; have HB1 : Hid (Below w.heap.size w w1) := Below.to HB0.out hB1 (Nat.le_refl _); clear hbx hB1 c0 c1)
    have hck := rCheckFormula_any m g (.slice A m.opts.length cap) (.slice Ar m.rules.length capr) (.slice Ag g.length capg) w1 HS.out hl2 (H.out.up HB1.out) (HG.out.up HB1.out)
    rw [← HFG.out] at hck
    have HCK2 := hide hck
    clear hck
    by_cases hg0 : m.errF [f, g] = 0
    · have HG0 := hide hg0
      have HGV := hide ((Mo.okF hg0).2 g (by simp))
      clear hg0
      have hle := Nat.le_trans (whereF_le (allM m) f) (allM_le4 hN2)
      obtain ⟨M, hM⟩ : ∃ M, whereF (allM m) f = M := ⟨_, rfl⟩
      have hMl : ∀ x ∈ M, x.length = m.opts.length := fun x hx => by
        rw [← hM] at hx
        exact allM_len (whereF_mem hx)
      have himp := impL_where m f g
      rw [hM] at himp hle
      have HM2 := hide hM
      have HML := hide hMl
      have HIMP := hide himp
      clear hM hMl himp
      go_upto_region 7 with (go_at_call 61; refine HCK2.out.mono ?_; rw [HG0.out]; rintro e w2 ⟨rfl, hB2⟩; have hbx := box_to HX1.out hB2; have c0 := cellOf hbx 0; have c1 := cellOf hbx 1; have HB2 : Hid (Below w.heap.size w w2) := Below.to HB1.out hB2 (Nat.le_refl _); clear hbx hB2 d0 d1)
      go_wp2_with (first | (go_at_call 63; refine (Variants_any m _ _ _ (H.out.up HB2.out) HM.out hN2).mono ?_; rintro e w3 ⟨v3, rfl, hv3, hB3⟩; obtain ⟨A3, cap3, hA3, _, _⟩ := hv3.form; subst hA3; have HV3 := hide hv3; have HB3 : Hid (Below w.heap.size w w3) := Below.to HB2.out hB3 (Nat.le_refl _); clear hv3 hB3 c0 c1) | (go_at_call 64; refine (Where_any m.opts.length (allM m) f _ _ _ HV3.out.rows (HF.out.up HB3.out) (fun x hx => allM_len hx) HFV.out (by have := allM_le4 hN2; omega)).mono ?_; rw [HM2.out]; rintro e w4 ⟨v4, rfl, hv4, hB4⟩; obtain ⟨A4, cap4, hA4, hc3, hc4⟩ := hv4.form; subst hA4; have HV4 := hide hv4.rows; have HB4 : Hid (Below w.heap.size w w4) := Below.to HB3.out hB4 (Nat.le_refl _); clear hv4 hB4))
      obtain ⟨rvs, ⟨A9, bm, offm, cap9, hse, hncm, hAm, hcm⟩, hrm⟩ := HV4.out
      injection hse with e1 e2 e3
      subst e1 e3
      have HAM := hide hAm
      have HCM := hide hcm
      have HRM := hide hrm
      clear hAm hcm hrm e2
      go_loop [12] (fun i => ∃ k : Nat, k ≤ M.length ∧ i = .int .i64 k ∧ Hid (∀ j, j < k → evF1 (vf (M.getD j [])) g = true)) (fun i => M.length - (intOf i).toNat)
      case atStart => exact ⟨0, Nat.zero_le _, rfl, fun j hj => by omega⟩
      case round =>
        obtain ⟨k, hk, rfl, hall⟩ := hrel
        by_cases hkl : k < M.length
        · obtain ⟨rfl, hbm, Ax, capx, q0, q1⟩ := rows_get (enc := Value.bool) (z := false) HAM.out HCM.out HRM.out hkl
          obtain ⟨x, hx⟩ : ∃ x, M.getD k [] = x := ⟨_, rfl⟩
          rw [hx] at q0 q1
          have hxN : x.length = m.opts.length := HML.out x (by rw [← hx]; exact getD_mem hkl)
          have htr := True_any g m.opts.length x (.slice Ag g.length capg) (.slice Ax x.length capx) w4.heap.size w4 (GRow.up (enc := Value.int .i64) (z := 0) HG.out HB4.out) q1 hxN HGV.out
          have j0 : (k : Int) < (M.length : Int) := by omega
          have HX := hide hx
          have HQ1 := hide q1
          clear hx q1 hxN
          cases hev : evF1 (vf x) g with
          | true =>
            rw [hev] at htr
            have HTR := hide htr
            have HEV := hide hev
            clear hev htr
            go_wp2_with (go_at_call 65; refine HTR.out.mono ?_; rintro e w5 ⟨rfl, rfl⟩)
            go_round
            case rel => exact ⟨k + 1, by omega, by go_num, fun j hj => by
                rcases Nat.lt_or_ge j k with h | h
                · exact hall.out j h
                · rw [show j = k from by omega, HX.out]; exact HEV.out⟩
            case measure => simp [intOf]; omega
          | false =>
            rw [hev] at htr
            have HTR := hide htr
            have hhead : (impL m f g).head? = some x := by
              rw [HIMP.out, List.head?_filter, ← HX.out]
              exact find_first [] _ M k hkl (by rw [HX.out]; simp [hev]) (fun j hj => by rw [hall.out j hj]; rfl)
            have HNO := hide (imp_no HG0.out hhead)
            clear hev htr hhead
            go_wp2_with (go_at_call 65; refine HTR.out.mono ?_; rintro e w5 ⟨rfl, rfl⟩)
            go_ret3
            rw [HG0.out, HNO.out.1, HNO.out.2]
            exact ⟨_, rfl, HQ1.out, HB4.out⟩
        · have hempty : impL m f g = [] := by
            rw [HIMP.out, List.filter_eq_nil_iff]
            intro x hx
            obtain ⟨j, hj, rfl⟩ := List.getElem_of_mem hx
            have := hall.out j (by omega)
            rw [List.getD_eq_getElem?_getD, List.getElem?_eq_getElem hj, Option.getD_some] at this
            simp [this]
          have HYES := hide (imp_yes HG0.out hempty)
          clear hempty
          go_wp2_with fail
          go_ret3
          rw [HG0.out, HYES.out.1, HYES.out.2]
          exact ⟨_, rfl, Sl.nil _ _ _ _, HB4.out⟩
    · have hbad := imp_bad hg0
      obtain ⟨z, hz⟩ : ∃ z, m.errF [f, g] = z := ⟨_, rfl⟩
      rw [hz] at hg0
      have hz1 : (z != 0) = true := by simpa using hg0
      have HZ := hide hz
      have HBAD := hide hbad
      clear hg0 hz hbad
      go_wp2_with (go_at_call 61; refine HCK2.out.mono ?_; rw [HZ.out]; rintro e w2 ⟨rfl, hB2⟩)
      go_ret3
      rw [HZ.out]
      exact MeeP.bad HBAD.out (Below.to HB1.out hB2 (Nat.le_refl _))
  · have hee := errF_left (g := g) he
    have hbad := imp_bad (g := g) (by rw [hee]; exact he)
    obtain ⟨z, hz⟩ : ∃ z, m.errF [f] = z := ⟨_, rfl⟩
    rw [hz] at he hee
    have hz1 : (z != 0) = true := by simpa using he
    have HZ := hide hz
    have HEE := hide hee
    have HBAD := hide hbad
    clear he hz hbad hee
    go_wp2_with (go_at_call 61; refine HCK.out.mono ?_; rw [HZ.out]; rintro e w1 ⟨rfl, hB1⟩)
    go_ret3
    rw [HEE.out]
    exact MeeP.bad HBAD.out (Below.to HB0.out hB1 (Nat.le_refl _))
end Go.Proofs.YtmabfnddedffoaaGreat
/- Wires of all buildable variants and of none: plain laws. -/
namespace Go.Proofs.YtmabfnddedffoaaGreat
set_option linter.unusedVariables false
theorem cnt_not6 {α : Type} (p : α → Bool) : ∀ l : List α, (l.filter p).length + (l.filter fun x => !p x).length = l.length
  | [] => rfl
  | x :: l => by
    have ih := cnt_not6 p l
    cases h : p x <;> simp [h] <;> omega
theorem valid_yes6 (N : Nat) : validF N [-1] = true := by
  have h : vld N 1 [-1] = (decide ((-6 : Int) ≤ -1) && decide ((-1 : Int) < N) && vld N (0 + arO (-1)) []) := rfl
  simp only [validF, Bool.and_eq_true, decide_eq_true_eq]
  refine ⟨?_, by simp⟩
  rw [h]
  simp only [Bool.and_eq_true, decide_eq_true_eq]
  exact ⟨⟨by omega, by omega⟩, rfl⟩
theorem cnt_le6 {m : Mo} {f : List Int} (hN : m.opts.length ≤ 12) : cntE m f ≤ 4096 := by
  by_cases h : m.errF [f] = 0
  · rw [cnt_ok h]
    exact Nat.le_trans (List.length_filter_le _ _) (allM_le4 hN)
  · rw [cnt_err h]; omega
theorem errF_of6 {m : Mo} {f : List Int} (h : m.err = 0) (hv : validF m.opts.length f = true) : m.errF [f] = 0 := by
  unfold Mo.errF
  rw [if_neg (by simp [h])]
  simp [hv]
/-- What Sorts answers. -/
def srtE (l : Lo) : Int := if l.err ≠ 0 then l.err else if cntE l.m [-1] = 0 then 12 else 0
def alwB (l : Lo) (i : Nat) : Bool := decide (cntE l.m (l.ws.getD i Wi.o).form = cntE l.m [-1])
def nevB (l : Lo) (i : Nat) : Bool := decide (cntE l.m (l.ws.getD i Wi.o).form = 0)
def srtA (l : Lo) : List Nat := if srtE l = 0 then (List.range l.ws.length).filter (alwB l) else []
def srtN (l : Lo) : List Nat := if srtE l = 0 then (List.range l.ws.length).filter (nevB l) else []
theorem srt_bad {l : Lo} (h : srtE l ≠ 0) : srtA l = [] ∧ srtN l = [] := by unfold srtA srtN; rw [if_neg h, if_neg h]; exact ⟨rfl, rfl⟩
theorem srt_err {l : Lo} (h : l.err ≠ 0) : srtE l = l.err ∧ srtA l = [] ∧ srtN l = [] := by
  have h1 : srtE l = l.err := by unfold srtE; rw [if_pos h]
  exact ⟨h1, srt_bad (by rw [h1]; exact h)⟩
theorem srt_none {l : Lo} (h : l.err = 0) (h2 : cntE l.m [-1] = 0) : srtE l = 12 ∧ srtA l = [] ∧ srtN l = [] := by
  have h1 : srtE l = 12 := by unfold srtE; rw [if_neg (by simp [h]), if_pos h2]
  exact ⟨h1, srt_bad (by rw [h1]; decide)⟩
theorem srt_some {l : Lo} (h : l.err = 0) (h2 : ¬ cntE l.m [-1] = 0) : srtE l = 0 ∧ srtA l = (List.range l.ws.length).filter (alwB l) ∧ srtN l = (List.range l.ws.length).filter (nevB l) := by
  have h1 : srtE l = 0 := by unfold srtE; rw [if_neg (by simp [h]), if_neg h2]
  refine ⟨h1, ?_, ?_⟩
  · unfold srtA; rw [if_pos h1]
  · unfold srtN; rw [if_pos h1]
variable {l : Lo} (h : LoOk l)
include h
theorem LoOk.yes_err : l.m.errF [[-1]] = 0 := errF_of6 h.m (valid_yes6 l.m.opts.length)
theorem LoOk.form_err {i : Nat} (hi : i < l.ws.length) : l.m.errF [(l.ws.getD i Wi.o).form] = 0 := errF_of6 h.m (LoOk.wi h hi).2
omit h in
theorem where_yes (m : Mo) : whereF (allM m) [-1] = allM m := List.filter_eq_self.2 fun x _ => rfl
/-- The elder asks whether the formula is implied, and whether it is met. -/
theorem LoOk.implied {i : Nat} (hi : i < l.ws.length) : impB l.m [-1] (l.ws.getD i Wi.o).form = alwB l i := by
  have h1 := h.yes_err
  have h2 := h.form_err hi
  unfold alwB impB
  rw [errF_right h1, if_pos h2, cnt_ok h1, cnt_ok h2, impL_where, where_yes]
  have h3 := cnt_not6 (fun x => evF1 (vf x) (l.ws.getD i Wi.o).form) (allM l.m)
  rw [Bool.eq_iff_iff, List.isEmpty_iff, decide_eq_true_eq]
  unfold whereF
  constructor
  · intro h4
    rw [h4] at h3
    exact h3
  · intro h4
    refine List.eq_nil_of_length_eq_zero ?_
    omega
theorem LoOk.met {i : Nat} (hi : i < l.ws.length) : meeB l.m [(l.ws.getD i Wi.o).form] = !nevB l i := by
  have h2 := h.form_err hi
  unfold nevB meeB
  rw [frm_rest h.m (by simp), if_pos h2, cnt_ok h2]
  have h3 : meeL l.m [(l.ws.getD i Wi.o).form] = whereF (allM l.m) (l.ws.getD i Wi.o).form := by
    unfold meeL
    rw [whereF_sat]
    congr 1
    funext v
    simp [allF]
  rw [h3]
  congr 1
  rw [Bool.eq_iff_iff, List.isEmpty_iff, decide_eq_true_eq, List.length_eq_zero_iff]
theorem LoOk.any : meeB l.m [] = decide (cntE l.m [-1] ≠ 0) := by
  have h1 := h.yes_err
  have h0 : l.m.errF [] = 0 := by
    unfold Mo.errF
    rw [if_neg (by simp [h.m])]
    simp
  unfold meeB
  rw [frm_rest h.m (by simp), if_pos h0, cnt_ok h1, where_yes]
  have h3 : meeL l.m [] = allM l.m := by
    unfold meeL
    rw [show (fun v : Nat → Bool => allF v []) = fun _ => true from rfl, satM_true]
  rw [h3, Bool.eq_iff_iff]
  simp
omit h in
/-- A wire of no variant is not one of all, if there is one. -/
theorem alw_nev {l : Lo} {i : Nat} (h : ¬ cntE l.m [-1] = 0) (h2 : alwB l i = true) : nevB l i = false := by
  unfold alwB at h2
  unfold nevB
  have := of_decide_eq_true h2
  exact decide_eq_false (by omega)
omit h in
theorem filter_len6 {n : Nat} (p : Nat → Bool) (k : Nat) (hk : k ≤ n) : ((List.range k).filter p).length ≤ n := by
  have := List.length_filter_le p (List.range k)
  rw [List.length_range] at this
  omega
end Go.Proofs.YtmabfnddedffoaaGreat

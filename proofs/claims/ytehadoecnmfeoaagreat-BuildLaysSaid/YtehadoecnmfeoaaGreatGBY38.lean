/- Part 38 of this claim's texts: walks and plain laws. -/
import Derived.Test.YtehadoecnmfeoaaGreatRows
import Derived.Test.YtehadoecnmfeoaaGreatGBY37
import Derived.Deep.DeepMust
import Derived.Deep.RegionHeld3
import Derived.Deep.DrawnRows
import Derived.Test.YtehadoecnmfeoaaGreatGBY35
import Derived.Test.YtehadoecnmfeoaaGreatGBY16
import Derived.Test.YtehadoecnmfeoaaGreatGBY19
import Derived.Test.YtehadoecnmfeoaaGreatGBY36
import Derived.Test.YtehadoecnmfeoaaGreatGBY18
import Derived.Sort.OwnSortedInts
import Derived.Test.YtehadoecnmfeoaaGreatGBY14
import Derived.Test.YtehadoecnmfeoaaGreatGBY30
/- Audit (the program): walk. -/
namespace Go.Proofs.YtehadoecnmfeoaaGreat
open Go.RowKit
set_option linter.unusedVariables false
set_option linter.unusedSimpArgs false
/-- What Audit returns. -/
def AudP (res : Option (Nat × Nat × List Bool)) (er : Int) (w : World) (e : Ending) (w' : World) : Prop :=
  match res with
  | some r => ∃ v, e = .returned (.tuple #[.agg #[.int .i64 (r.1 : Nat), .int .i64 (r.2.1 : Nat), v], .bool true, .int .i64 0]) ∧ OptV w' w'.heap.size v (some r.2.2) ∧ Below w.heap.size w w'
  | none => e = .returned (.tuple #[.agg #[.int .i64 0, .int .i64 0, .slice none 0 0], .bool false, .int .i64 er]) ∧ Below w.heap.size w w'
theorem results_ctt {P : Program} {fn : Func} {p u v : Tmp} {ty : TypeId} (h : fn.results = #[.cell p ty, .tmp u, .tmp v]) (tmps : Array Value) (w : World) :
    (results fn tmps).run P w = ((asAddr (tmps.getD p undef)).run P w).andThen fun a w₁ => ((loadVar ty a).run P w₁).andThen fun x w₂ => .ok (.tuple #[x, tmps.getD u undef, tmps.getD v undef]) w₂ := by
  simp only [results, h]
  simp [Sem.run_bind, Result.andThen]
  try (congr; done)
theorem set3 {w wz : World} {p t : Nat} {a0 a1 a2 b0 b1 b2 : Value} (h : w.heap[p]? = some (.cells #[a0, a1, a2] t (0, 0)))
    (hz : ((w.setCell ⟨p, 0, none⟩ b0).setCell ⟨p, 1, none⟩ b1).setCell ⟨p, 2, none⟩ b2 = wz) : wz.heap[p]? = some (.cells #[b0, b1, b2] t (0, 0)) ∧ w.grownBy wz (some p) := by
  subst hz
  refine ⟨setCellOf (setCellOf (setCellOf h _) _) _, ?_⟩
  refine only_setCell (only_setCell (only_setCell (only_refl _ _) ?_ _) ?_ _) ?_ _
  all_goals exact .inl rfl
theorem forms_none7 (w : World) (B : Nat) : Forms w B (.slice none 0 0) [] := ⟨fun _ => undef, Sl.nil _ _ _ _, fun i hi => absurd hi (by simp)⟩
theorem OptV.other {w w' : World} {v : Value} {o : Option (List Bool)} {b t : Nat} {a0 a1 a2 : Value} (h : OptV w w.heap.size v o) (hb : w.heap[b]? = some (.cells #[a0, a1, a2] t (0, 0))) (h0 : ∀ z, a0 ≠ .bool z) (h1 : ∀ z, a1 ≠ .bool z) (h2 : ∀ z, a2 ≠ .bool z) (hg : w.grownBy w' (some b)) : OptV w' w'.heap.size v o := by
  cases o with
  | none => exact h
  | some x =>
    obtain ⟨hf, A, b1, off, cap, e1, e2, e3, e4⟩ := h
    refine ⟨hf, A, b1, off, cap, e1, e2, e3.imp (fun q => ⟨q.1, Nat.lt_of_lt_of_le q.2 hg.size⟩) id, fun i j hi hj => ?_⟩
    have h5 := e4 i j hi hj
    have hb1 : b1 < w.heap.size := by
      rcases e3 with h3 | h3
      · exact h3.2
      · omega
    refine (World.cell?_of_block (hg.block b1 hb1 (fun e => ?_))).trans h5
    injection e with e
    subst e
    rw [cellOf hb] at h5
    rcases (by omega : off + (i * 1 + j) = 0 ∨ off + (i * 1 + j) = 1 ∨ off + (i * 1 + j) = 2 ∨ 3 ≤ off + (i * 1 + j)) with h6 | h6 | h6 | h6
    · rw [h6] at h5; injection h5 with h5; exact h0 _ h5
    · rw [h6] at h5; injection h5 with h5; exact h1 _ h5
    · rw [h6] at h5; injection h5 with h5; exact h2 _ h5
    · rw [Array.getElem?_eq_none (by simp; omega)] at h5; cases h5
theorem with_mem {ms : List Md} {w : Nat} {f : List Int} (h : f ∈ withL ms w) : ∃ d ∈ ms, d.f = f := by
  unfold withL at h
  obtain ⟨d, hd, e⟩ := List.mem_map.1 h
  exact ⟨d, (List.mem_filter.1 hd).1, e⟩
/-- The box of the defect. -/
def DefZ (w : World) (b : Nat) : Prop := w.heap[b]? = some (.cells #[.int .i64 0, .int .i64 0, .slice none 0 0] 37 (0, 0))
theorem DefZ.to {w w' : World} {b : Nat} (h : DefZ w b) (hb : Below w.heap.size w w') : DefZ w' b := box_to h hb
set_option maxRecDepth 100000 in
set_option maxHeartbeats 8000000 in
theorem Audit_any (ms : List Md) (Am : Option Addr) (qm : Nat) (A0 A1 A2 A3 A4 A5 : Option Addr) (q0 q1 q2 q3 q4 q5 : Nat) (l : Lo) (w : World) (hs : SizedL l) (hd : SizedD ms) (h : LoA w w.heap.size A0 A1 A2 A3 A4 A5 q0 q1 q2 q3 q4 q5 l) (hm : Mods w w.heap.size (.slice Am ms.length qm) ms) (hN : l.m.err = 0 → l.m.opts.length ≤ 12) :
    Calls Tryz.prog 16 #[.agg #[.slice A0 l.m.opts.length q0, .slice A1 l.m.rules.length q1, .slice A2 l.ss.length q2, .slice A3 l.us.length q3, .slice A4 l.ps.length q4, .slice A5 l.ws.length q5], .slice Am ms.length qm] w (AudP (audA l ms) (bldE l ms) w) := by
  have q1n : ∀ (W : World) (a : Option Addr) (n c : Nat), (binOp .neq 35 (.slice a n c) (.slice none 0 0)).run Tryz.prog W = .ok (.bool (!a.isNone)) W := fun W a n c => run_neq_slice_nil W _ _ a n c Tryz.underlying35
  have H := hide h
  have HS := hide hs
  have HD := hide hd
  have HM := hide hm
  obtain ⟨res, hres⟩ : ∃ r, audA l ms = r := ⟨_, rfl⟩
  obtain ⟨er, her⟩ : ∃ r, bldE l ms = r := ⟨_, rfl⟩
  rw [hres, her]
  have HRES := hide hres
  have HER := hide her
  have HNN := hide hN
  clear h hs hd hm hN hres
  go_enter Tryz.func16, Tryz.ntmps16
  go_upto_region 1 with (fail)
  generalize hw0 : World.alloc _ _ = w0
  obtain ⟨hb0, hb1, hB0, hs0⟩ := alloc2 hw0
  have HL0 : Hid (LoBox w0 w.heap.size A0 A1 A2 A3 A4 A5 q0 q1 q2 q3 q4 q5 l) := hb0
  have HZ0 : Hid (DefZ w0 (w.heap.size + 1)) := hb1
  have HB0 := hide hB0
  have c0 := cellOf hb0 0; have c1 := cellOf hb0 1; have c2 := cellOf hb0 2; have c3 := cellOf hb0 3; have c4 := cellOf hb0 4; have c5 := cellOf hb0 5
  have hlb := box_lt hb0
  clear hw0 hb0 hb1 hB0 hs0
  by_cases her0 : er = 0
  case neg =>
    have hr0 : res = none := by rw [← HRES.out]; unfold audA; rw [if_neg (by rw [her]; exact her0)]
    subst hr0
    have hz1 : (er != 0) = true := by simpa using her0
    clear her her0
    go_wp2_with (go_at_call 26; refine (bCheck_any ms Am qm A0 A1 A2 A3 A4 A5 q0 q1 q2 q3 q4 q5 l _ HS.out HD.out (H.out.up HB0.out) (HM.out.up HB0.out)).mono ?_; rw [HER.out]; rintro e w1 ⟨rfl, hB1⟩; have hz := HZ0.out.to hB1; have y0 := cellOf hz 0; have v0 := unfrozenOf hz 0; have y1 := cellOf hz 1; have v1 := unfrozenOf hz 1; have y2 := cellOf hz 2; have v2 := unfrozenOf hz 2; have lr := box_lt hz; have HZ1 := hide hz; have HB1 := hide (Below.to HB0.out hB1 (Nat.le_refl _)); clear hB1 hz c0 c1 c2 c3 c4 c5 hlb)
    generalize hwv : World.setCell _ _ _ = wv
    obtain ⟨hv, hgv⟩ := set3 (HZ1.out) hwv
    have hBv : Below w.heap.size w wv := Below.grown (HB1.out) hgv (Below.size (HB1.out)) (fun j hj => by injection hj with hj; omega)
    have HBV := hide hBv
    have t0 := cellOf hv 0
    have t1 := cellOf hv 1
    have t2 := cellOf hv 2
    have lv := box_lt hv
    clear hwv hv hBv y0 y1 y2 v0 v1 v2 lr
    refine bodyPost_ret (v := .tuple #[.agg #[.int .i64 0, .int .i64 0, .slice none 0 0], .bool false, .int .i64 er]) ?_ rfl ⟨rfl, HBV.out⟩
    clear hgv
    rw [results_ctt rfl]
    go_simp
  case pos =>
  subst her0
  have okm := bldE_ok her
  have OKM := hide okm
  have hmo := okm.lo.m
  have hN := HNN.out hmo
  clear her okm hmo
  go_upto_region 4 with (go_at_call 26; refine (bCheck_any ms Am qm A0 A1 A2 A3 A4 A5 q0 q1 q2 q3 q4 q5 l _ HS.out HD.out (H.out.up HB0.out) (HM.out.up HB0.out)).mono ?_; rw [HER.out]; rintro e w1 ⟨rfl, hB1⟩; have HZ1 := hide (HZ0.out.to hB1); have HL1 := hide (HL0.out.to hB1); have d0 := cellOf (HL0.out.to hB1) 0; have d1 := cellOf (HL0.out.to hB1) 1; have d2 := cellOf (HL0.out.to hB1) 2; have d3 := cellOf (HL0.out.to hB1) 3; have d4 := cellOf (HL0.out.to hB1) 4; have d5 := cellOf (HL0.out.to hB1) 5; have ld := box_lt (HL0.out.to hB1); have HB1 := hide (Below.to HB0.out hB1 (Nat.le_refl _)); clear hB1 c0 c1 c2 c3 c4 c5 hlb)
  have hme := Meets_n l.m [] _ _ (.slice none 0 0) w1 HS.out.m ⟨by unfold maxLen; simp, fun g hg => by simp at hg⟩ (H.out.up HB1.out).m (forms_none7 _ _) (errF_all OKM.out.lo.m (fun f hf => by simp at hf)) hN (by simp)
  have hml : meeL l.m [] = allM l.m := by
    unfold meeL
    rw [show (fun v : Nat → Bool => allF v []) = fun _ => true from rfl, satM_true]
  rw [hml] at hme
  by_cases hne : allM l.m = []
  case pos =>
    have hr0 : res = none := by rw [← HRES.out]; unfold audA; rw [if_pos HER.out, audN_none hne]
    subst hr0
    rw [show (!(allM l.m).isEmpty) = false from by rw [hne]; rfl] at hme
    have HME := hide hme
    clear hme hml hne
    go_wp2_with (go_at_call 54; refine HME.out.mono ?_; rintro e w2 ⟨v2, rfl, hop, hB2⟩; have hz := HZ1.out.to hB2; have y0 := cellOf hz 0; have v0 := unfrozenOf hz 0; have y1 := cellOf hz 1; have v1 := unfrozenOf hz 1; have y2 := cellOf hz 2; have v2 := unfrozenOf hz 2; have lr := box_lt hz; have HZ2 := hide hz; have HB2 := hide (Below.to HB1.out hB2 (Nat.le_refl _)); clear hop hB2 hz d0 d1 d2 d3 d4 d5 ld)
    generalize hwv : World.setCell _ _ _ = wv
    obtain ⟨hv, hgv⟩ := set3 (HZ2.out) hwv
    have hBv : Below w.heap.size w wv := Below.grown (HB2.out) hgv (Below.size (HB2.out)) (fun j hj => by injection hj with hj; omega)
    have HBV := hide hBv
    have t0 := cellOf hv 0
    have t1 := cellOf hv 1
    have t2 := cellOf hv 2
    have lv := box_lt hv
    clear hwv hv hBv y0 y1 y2 v0 v1 v2 lr
    refine bodyPost_ret (v := .tuple #[.agg #[.int .i64 0, .int .i64 0, .slice none 0 0], .bool false, .int .i64 0]) ?_ rfl ⟨rfl, HBV.out⟩
    clear hgv
    rw [results_ctt rfl]
    go_simp
  case neg =>
  rw [show (!(allM l.m).isEmpty) = true from by cases hq : allM l.m with | nil => exact absurd hq hne | cons a t => rfl] at hme
  have HME := hide hme
  have HNE := hide hne
  have w60 := OKM.out.lo.w60
  clear hme hml hne
  go_wp2_with (go_at_call 54; refine HME.out.mono ?_; rintro e w2 ⟨v2, rfl, hop, hB2⟩; have HZ2 := hide (HZ1.out.to hB2); have HL2 := hide (HL1.out.to hB2); have e0 := cellOf (HL1.out.to hB2) 0; have e1 := cellOf (HL1.out.to hB2) 1; have e2 := cellOf (HL1.out.to hB2) 2; have e3 := cellOf (HL1.out.to hB2) 3; have e4 := cellOf (HL1.out.to hB2) 4; have e5 := cellOf (HL1.out.to hB2) 5; have le := box_lt (HL1.out.to hB2); have HB2 := hide (Below.to HB1.out hB2 (Nat.le_refl _)); clear hop hB2 d0 d1 d2 d3 d4 d5 ld)
  clear e0 e1 e2 e3 e4 e5 le
  go_loopw [11, 12, 13, 14, 15, 36] (fun _ _ _ _ _ i wr => ∃ k : Nat, i = .int .i64 k ∧ k ≤ l.ws.length ∧ Hid (audN l ms k = none) ∧ Hid (Below w.heap.size w wr) ∧ Hid (LoBox wr w.heap.size A0 A1 A2 A3 A4 A5 q0 q1 q2 q3 q4 q5 l) ∧ Hid (DefZ wr (w.heap.size + 1))) (fun _ _ _ _ _ i _ => l.ws.length - (intOf i).toNat)
  case atStart => exact ⟨0, rfl, Nat.zero_le _, rfl, HB2.out, HL2.out, HZ2.out⟩
  case round =>
    obtain ⟨k, rfl, hk, HAN, HB, HL, HZ⟩ := hrel
    by_cases hkl : k < l.ws.length
    · have i1 : (k : Int) < (l.ws.length : Int) := by omega
      obtain ⟨fs, hfs⟩ : ∃ fs, withL ms k = fs := ⟨_, rfl⟩
      have hfl : fs.length ≤ 60 := by rw [← hfs]; exact Nat.le_trans (with_len ms k) OKM.out.n
      have hfv : ∀ f ∈ fs, validF l.m.opts.length f = true := fun f hf => by
        rw [← hfs] at hf
        obtain ⟨d, hd, e⟩ := with_mem hf
        have h1 := OKM.out.ok d hd
        unfold rightB at h1
        rw [Bool.and_eq_true] at h1
        rw [← e]; exact h1.2
      have HFS := hide hfs
      have HFV := hide hfv
      have hwi := with_any ms k Am qm wr HD.out OKM.out.n (HM.out.up HB.out)
      rw [hfs] at hwi
      have HWI := hide hwi
      clear hfs hfv hwi
      go_upto_region 11 with (go_at_call 55; refine HWI.out.mono ?_; rintro e w3 ⟨v3, vs, rfl, hw3⟩; obtain ⟨A9, c9, hv3⟩ := owns_form hw3.own; subst hv3; have HF3 := hide hw3.forms; have HB3 := hide hw3.below; clear hw3)
      go_upto_region 12 with (fail)
      go_wp2_with fail
      generalize hw4 : World.alloc _ _ = w4
      obtain ⟨hb4, hB4, hs4⟩ := alloc1 hw4
      obtain ⟨fb, hfb⟩ : ∃ n, w3.heap.size = n := ⟨_, rfl⟩
      rw [hfb] at hb4
      rw [hfb]
      have HFB := hide hb4
      have HF4 := hide (HF3.out.up hB4)
      have hB34 := Below.to HB3.out hB4 (Nat.le_refl _)
      have HL4 := hide (HL.out.to hB34)
      have HZ4 := hide (HZ.out.to hB34)
      have HB4 := hide (Below.to HB.out hB34 (Nat.le_refl _))
      clear hw4 hb4 hB4 hs4 hfb hB34
      go_loopw [13, 14, 15, 44] (fun _ _ _ i wr => ∃ c : Nat, i = .int .i64 c ∧ c ≤ 3 ∧ Hid (audK l.m (l.ws.getD k Wi.o).form fs c = none) ∧ Hid (Below w.heap.size w wr) ∧ Hid (LoBox wr w.heap.size A0 A1 A2 A3 A4 A5 q0 q1 q2 q3 q4 q5 l) ∧ Hid (DefZ wr (w.heap.size + 1)) ∧ Hid (Forms wr wr.heap.size (.slice A9 fs.length c9) fs) ∧ Hid (wr.heap[fb]? = some (.cells #[.func (.func 56) #[] #[], .func (.func 57) #[] #[], .func (.func 58) #[] #[]] 99 (0, 0)))) (fun _ _ _ i _ => 3 - (intOf i).toNat)
      case atStart => exact ⟨0, rfl, by omega, rfl, HB4.out, HL4.out, HZ4.out, HF4.out, HFB.out⟩
      case round =>
        clear HB HL HZ
        obtain ⟨c, rfl, hc3, HAK, HB, HL, HZ, HF, HFN⟩ := hrel
        have x0 := cellOf HFN.out c
        have lx := box_lt HFN.out
        by_cases hc : c < 3
        · have j1 : (c : Int) < 3 := by omega
          have j0 : (0 : Int) ≤ (c : Int) := by omega
          obtain ⟨o, ho⟩ : ∃ o, frstV l.m (l.ws.getD k Wi.o).form fs (c + 1) = o := ⟨_, rfl⟩
          have hak := audK_next HAK.out
          rw [ho] at hak
          have HKN := hide hak
          have HO := hide ho
          have c0 := cellOf HL.out 0; have c1 := cellOf HL.out 1; have c2 := cellOf HL.out 2; have c3 := cellOf HL.out 3; have c4 := cellOf HL.out 4; have c5 := cellOf HL.out 5
          have hlb := box_lt HL.out
          clear hak ho
          rcases (by omega : c = 0 ∨ c = 1 ∨ c = 2) with hc0 | hc0 | hc0
          · have hlk := lacks_any k fs A9 c9 A0 A1 A2 A3 A4 A5 q0 q1 q2 q3 q4 q5 l wr HS.out (H.out.up HB.out) OKM.out.lo hkl HF.out hfl HFV.out hN HNE.out
            have ho := HO.out
            rw [hc0] at ho
            rw [show frstV l.m (l.ws.getD k Wi.o).form fs 1 = o from ho] at hlk
            rw [hc0] at x0
            have hx0 : wr.cell? ⟨fb, c, none⟩ = some (.func (.func 56) #[] #[]) := by rw [hc0]; exact x0
            have HLK := hide hlk
            clear hlk ho x0 hc0
            cases o with
            | none =>
              go_wp2_with (go_at_call 56; refine HLK.out.mono ?_; rintro e w5 ⟨v5, rfl, hop, hB5⟩; have hvn : v5 = .slice none 0 0 := hop; subst hvn; have HB5 := hide hB5; clear hop hB5 hx0 lx c0 c1 c2 c3 c4 c5 hlb)
              go_roundw
              case rel => exact ⟨c + 1, by go_num, by omega, by have h1 := HKN.out; exact h1, Below.to HB.out HB5.out (Nat.le_refl _), HL.out.to HB5.out, HZ.out.to HB5.out, HF.out.up HB5.out, box_to HFN.out HB5.out⟩
              case measure => simp [intOf]; omega
            | some y =>
              have hr0 : res = some (k, c + 1, y) := by
                rw [← HRES.out]
                unfold audA
                rw [if_pos HER.out]
                refine audN_stays (k := k + 1) ?_ (by omega)
                rw [audN_next HAN.out, HFS.out, audK_stays HKN.out (show c + 1 ≤ 3 by omega)]
                rfl
              subst hr0
              go_wp2_with (go_at_call 56; refine HLK.out.mono ?_; rintro e w5 ⟨v5, rfl, hop, hB5⟩; obtain ⟨A8, n8, q8, hv5, hsm⟩ := hop.form; subst hv5; have hz := HZ.out.to hB5; have y0 := cellOf hz 0; have v0 := unfrozenOf hz 0; have y1 := cellOf hz 1; have v1 := unfrozenOf hz 1; have y2 := cellOf hz 2; have v2 := unfrozenOf hz 2; have lr := box_lt hz; have HZ5 := hide hz; have HOP := hide hop; have HB5 := hide (Below.to HB.out hB5 (Nat.le_refl _)); clear hop hB5 hz hx0 lx c0 c1 c2 c3 c4 c5 hlb)
              generalize hwv : World.setCell _ _ _ = wv
              obtain ⟨hv, hgv⟩ := set3 (HZ5.out) hwv
              have hBv : Below w.heap.size w wv := Below.grown (HB5.out) hgv (Below.size (HB5.out)) (fun j hj => by injection hj with hj; omega)
              have HBV := hide hBv
              have t0 := cellOf hv 0
              have t1 := cellOf hv 1
              have t2 := cellOf hv 2
              have lv := box_lt hv
              clear hwv hv hBv y0 y1 y2 v0 v1 v2 lr
              refine bodyPost_ret (v := .tuple #[.agg #[.int .i64 k, .int .i64 (1 + (c : Int)), .slice A8 n8 q8], .bool true, .int .i64 0]) ?_ rfl ⟨_, by rw [show (1 + (c : Int)) = ((c + 1 : Nat) : Int) by omega], HOP.out.other HZ5.out (fun z e => by cases e) (fun z e => by cases e) (fun z e => by cases e) hgv, HBV.out⟩
              clear hgv
              rw [results_ctt rfl]
              go_simp
          · have hlk := extra_any k fs A9 c9 A0 A1 A2 A3 A4 A5 q0 q1 q2 q3 q4 q5 l wr HS.out (H.out.up HB.out) OKM.out.lo hkl HF.out hfl HFV.out hN
            have ho := HO.out
            rw [hc0] at ho
            rw [show frstV l.m (l.ws.getD k Wi.o).form fs 2 = o from ho] at hlk
            rw [hc0] at x0
            have hx0 : wr.cell? ⟨fb, c, none⟩ = some (.func (.func 57) #[] #[]) := by rw [hc0]; exact x0
            have HLK := hide hlk
            clear hlk ho x0 hc0
            cases o with
            | none =>
              go_wp2_with (go_at_call 57; refine HLK.out.mono ?_; rintro e w5 ⟨v5, rfl, hop, hB5⟩; have hvn : v5 = .slice none 0 0 := hop; subst hvn; have HB5 := hide hB5; clear hop hB5 hx0 lx c0 c1 c2 c3 c4 c5 hlb)
              go_roundw
              case rel => exact ⟨c + 1, by go_num, by omega, by have h1 := HKN.out; exact h1, Below.to HB.out HB5.out (Nat.le_refl _), HL.out.to HB5.out, HZ.out.to HB5.out, HF.out.up HB5.out, box_to HFN.out HB5.out⟩
              case measure => simp [intOf]; omega
            | some y =>
              have hr0 : res = some (k, c + 1, y) := by
                rw [← HRES.out]
                unfold audA
                rw [if_pos HER.out]
                refine audN_stays (k := k + 1) ?_ (by omega)
                rw [audN_next HAN.out, HFS.out, audK_stays HKN.out (show c + 1 ≤ 3 by omega)]
                rfl
              subst hr0
              go_wp2_with (go_at_call 57; refine HLK.out.mono ?_; rintro e w5 ⟨v5, rfl, hop, hB5⟩; obtain ⟨A8, n8, q8, hv5, hsm⟩ := hop.form; subst hv5; have hz := HZ.out.to hB5; have y0 := cellOf hz 0; have v0 := unfrozenOf hz 0; have y1 := cellOf hz 1; have v1 := unfrozenOf hz 1; have y2 := cellOf hz 2; have v2 := unfrozenOf hz 2; have lr := box_lt hz; have HZ5 := hide hz; have HOP := hide hop; have HB5 := hide (Below.to HB.out hB5 (Nat.le_refl _)); clear hop hB5 hz hx0 lx c0 c1 c2 c3 c4 c5 hlb)
              generalize hwv : World.setCell _ _ _ = wv
              obtain ⟨hv, hgv⟩ := set3 (HZ5.out) hwv
              have hBv : Below w.heap.size w wv := Below.grown (HB5.out) hgv (Below.size (HB5.out)) (fun j hj => by injection hj with hj; omega)
              have HBV := hide hBv
              have t0 := cellOf hv 0
              have t1 := cellOf hv 1
              have t2 := cellOf hv 2
              have lv := box_lt hv
              clear hwv hv hBv y0 y1 y2 v0 v1 v2 lr
              refine bodyPost_ret (v := .tuple #[.agg #[.int .i64 k, .int .i64 (1 + (c : Int)), .slice A8 n8 q8], .bool true, .int .i64 0]) ?_ rfl ⟨_, by rw [show (1 + (c : Int)) = ((c + 1 : Nat) : Int) by omega], HOP.out.other HZ5.out (fun z e => by cases e) (fun z e => by cases e) (fun z e => by cases e) hgv, HBV.out⟩
              clear hgv
              rw [results_ctt rfl]
              go_simp
          · have hlk := double_any k fs A9 c9 A0 A1 A2 A3 A4 A5 q0 q1 q2 q3 q4 q5 l wr HS.out (H.out.up HB.out) OKM.out.lo hkl HF.out hfl HFV.out hN
            have ho := HO.out
            rw [hc0] at ho
            rw [show frstV l.m (l.ws.getD k Wi.o).form fs 3 = o from ho] at hlk
            rw [hc0] at x0
            have hx0 : wr.cell? ⟨fb, c, none⟩ = some (.func (.func 58) #[] #[]) := by rw [hc0]; exact x0
            have HLK := hide hlk
            clear hlk ho x0 hc0
            cases o with
            | none =>
              go_wp2_with (go_at_call 58; refine HLK.out.mono ?_; rintro e w5 ⟨v5, rfl, hop, hB5⟩; have hvn : v5 = .slice none 0 0 := hop; subst hvn; have HB5 := hide hB5; clear hop hB5 hx0 lx c0 c1 c2 c3 c4 c5 hlb)
              go_roundw
              case rel => exact ⟨c + 1, by go_num, by omega, by have h1 := HKN.out; exact h1, Below.to HB.out HB5.out (Nat.le_refl _), HL.out.to HB5.out, HZ.out.to HB5.out, HF.out.up HB5.out, box_to HFN.out HB5.out⟩
              case measure => simp [intOf]; omega
            | some y =>
              have hr0 : res = some (k, c + 1, y) := by
                rw [← HRES.out]
                unfold audA
                rw [if_pos HER.out]
                refine audN_stays (k := k + 1) ?_ (by omega)
                rw [audN_next HAN.out, HFS.out, audK_stays HKN.out (show c + 1 ≤ 3 by omega)]
                rfl
              subst hr0
              go_wp2_with (go_at_call 58; refine HLK.out.mono ?_; rintro e w5 ⟨v5, rfl, hop, hB5⟩; obtain ⟨A8, n8, q8, hv5, hsm⟩ := hop.form; subst hv5; have hz := HZ.out.to hB5; have y0 := cellOf hz 0; have v0 := unfrozenOf hz 0; have y1 := cellOf hz 1; have v1 := unfrozenOf hz 1; have y2 := cellOf hz 2; have v2 := unfrozenOf hz 2; have lr := box_lt hz; have HZ5 := hide hz; have HOP := hide hop; have HB5 := hide (Below.to HB.out hB5 (Nat.le_refl _)); clear hop hB5 hz hx0 lx c0 c1 c2 c3 c4 c5 hlb)
              generalize hwv : World.setCell _ _ _ = wv
              obtain ⟨hv, hgv⟩ := set3 (HZ5.out) hwv
              have hBv : Below w.heap.size w wv := Below.grown (HB5.out) hgv (Below.size (HB5.out)) (fun j hj => by injection hj with hj; omega)
              have HBV := hide hBv
              have t0 := cellOf hv 0
              have t1 := cellOf hv 1
              have t2 := cellOf hv 2
              have lv := box_lt hv
              clear hwv hv hBv y0 y1 y2 v0 v1 v2 lr
              refine bodyPost_ret (v := .tuple #[.agg #[.int .i64 k, .int .i64 (1 + (c : Int)), .slice A8 n8 q8], .bool true, .int .i64 0]) ?_ rfl ⟨_, by rw [show (1 + (c : Int)) = ((c + 1 : Nat) : Int) by omega], HOP.out.other HZ5.out (fun z e => by cases e) (fun z e => by cases e) (fun z e => by cases e) hgv, HBV.out⟩
              clear hgv
              rw [results_ctt rfl]
              go_simp
        · have hce : c = 3 := by omega
          have j1 : ¬ (c : Int) < 3 := by omega
          have hak := HAK.out
          rw [hce] at hak
          have han : audN l ms (k + 1) = none := by rw [audN_next HAN.out, HFS.out, hak]; rfl
          have HANN := hide han
          clear hak han hce x0 lx
          go_wp2_with fail
          go_roundw
          case rel => exact ⟨k + 1, by go_num, by omega, HANN.out, HB.out, HL.out, HZ.out⟩
          case measure => simp [intOf]; omega
    · have hke : k = l.ws.length := by omega
      subst hke
      have hr0 : res = none := by rw [← HRES.out]; unfold audA; rw [if_pos HER.out]; exact HAN.out
      subst hr0
      have hz := HZ.out
      have y0 := cellOf hz 0; have v0 := unfrozenOf hz 0; have y1 := cellOf hz 1; have v1 := unfrozenOf hz 1; have y2 := cellOf hz 2; have v2 := unfrozenOf hz 2; have lr := box_lt hz
      have HZ5 := hide hz
      clear hz
      go_wp2_with fail
      generalize hwv : World.setCell _ _ _ = wv
      obtain ⟨hv, hgv⟩ := set3 (HZ5.out) hwv
      have hBv : Below w.heap.size w wv := Below.grown (HB.out) hgv (Below.size (HB.out)) (fun j hj => by injection hj with hj; omega)
      have HBV := hide hBv
      have t0 := cellOf hv 0
      have t1 := cellOf hv 1
      have t2 := cellOf hv 2
      have lv := box_lt hv
      clear hwv hv hBv y0 y1 y2 v0 v1 v2 lr
      refine bodyPost_ret (v := .tuple #[.agg #[.int .i64 0, .int .i64 0, .slice none 0 0], .bool false, .int .i64 0]) ?_ rfl ⟨rfl, HBV.out⟩
      clear hgv
      rw [results_ctt rfl]
      go_simp
end Go.Proofs.YtehadoecnmfeoaaGreat
/- Audit (the elder): walk. -/
namespace Go.Proofs.YtehadoecnmfeoaaGreat
open Go.RowKit
set_option linter.unusedVariables false
set_option linter.unusedSimpArgs false
theorem Vars.at8 {w : World} {B : Nat} {A : Option Addr} {n q : Nat} {L : List (List Bool)} (h : Vars w B (.slice A n q) L) {k : Nat} (hk : k < L.length) : ∃ b off x Ax qx, Hid (L.getD k [] = x) ∧ A = some ⟨b, off, none⟩ ∧ b < B ∧ L.length ≤ q ∧ Hid (Bols w B (.slice Ax x.length qx) x) ∧ w.cell? ⟨b, off + k, none⟩ = some (.slice Ax x.length qx) := by
  obtain ⟨fv, h1, h2⟩ := h
  obtain ⟨h3, h4, b, off, h5, h6, h7⟩ := sl_at h1 hk
  have h8 := h7 0 (by omega)
  rw [Nat.mul_one, Nat.add_zero] at h8
  have h9 := h2 k hk
  obtain ⟨Ax, qx, e⟩ := Sl.form h9
  rw [e] at h8 h9
  exact ⟨b, off, _, Ax, qx, rfl, h5, h6, by omega, h9, h8⟩
/-- What the elder's Audit returns. -/
def RAuP (res : Option (Nat × Nat × List Bool)) (er : Int) (w : World) (e : Ending) (w' : World) : Prop :=
  match res with
  | some r => ∃ v, e = .returned (.tuple #[.agg #[.int .i64 (r.1 : Nat), .int .i64 (r.2.1 : Nat), v], .bool true, .int .i64 0]) ∧ Bols w' w'.heap.size v r.2.2 ∧ Below w.heap.size w w'
  | none => e = .returned (.tuple #[.agg #[.int .i64 0, .int .i64 0, .slice none 0 0], .bool false, .int .i64 er]) ∧ Below w.heap.size w w'
/-- What the elder looks at: variant j is no defect. -/
def badJ (l : Lo) (ms : List Md) (w k j : Nat) : Bool := defB k (evF1 (vf ((allM l.m).getD j [])) (l.ws.getD w Wi.o).form) (manyN ms ((allM l.m).getD j []) w)
end Go.Proofs.YtehadoecnmfeoaaGreat
/- What is picked, with the errors, on both sides: walks. -/
namespace Go.Proofs.YtehadoecnmfeoaaGreat
open Go.RowKit
set_option linter.unusedVariables false
set_option linter.unusedSimpArgs false
def pikE (l : Lo) (ms : List Md) (x : List Bool) : Int := if bldE l ms = 0 then (if x.length = l.m.opts.length then 0 else 1) else bldE l ms
def pikL (l : Lo) (ms : List Md) (x : List Bool) : List Nat := if pikE l ms x = 0 then pckL ms x else []
def PicP (L : List Nat) (er : Int) (w : World) (e : Ending) (w' : World) : Prop := ∃ v, e = .returned (.tuple #[v, .int .i64 er]) ∧ Nods w' w'.heap.size v L ∧ Below w.heap.size w w'
theorem right_val {l : Lo} {d : Md} (h : rightB l d = true) : wiresB l.ws.length d.ws = true ∧ validF l.m.opts.length d.f = true := by
  unfold rightB at h
  exact Bool.and_eq_true_iff.1 h
theorem ms_valid {l : Lo} {ms : List Md} (h : bldE l ms = 0) : ∀ d ∈ ms, validF l.m.opts.length d.f = true := fun d hd => (right_val ((bldE_ok h).ok d hd)).2
theorem ms_wires {l : Lo} {ms : List Md} (h : bldE l ms = 0) : ∀ d ∈ ms, wiresB l.ws.length d.ws = true := fun d hd => (right_val ((bldE_ok h).ok d hd)).1
end Go.Proofs.YtehadoecnmfeoaaGreat
/- The wires of a module: how many. Plain. -/
namespace Go.Proofs.YtehadoecnmfeoaaGreat
set_option linter.unusedVariables false
set_option linter.unusedSimpArgs false
theorem wires_up {n : Nat} {ws : List Int} (h : wiresB n ws = true) : ∀ k, k < ws.length → (k : Int) ≤ ws.getD k 0
  | 0, hk => (wires_at h hk).1
  | k + 1, hk => by
    have h1 := wires_up h k (by omega)
    have h2 := (wires_at h hk).2.2 (by omega)
    rw [Nat.add_sub_cancel] at h2
    omega
theorem wires_len {n : Nat} {ws : List Int} (h : wiresB n ws = true) : ws.length ≤ n := by
  rcases Nat.eq_zero_or_pos ws.length with h0 | h0
  · omega
  · have h1 := wires_up h (ws.length - 1) (by omega)
    have h2 := (wires_at h (show ws.length - 1 < ws.length by omega)).2.1
    omega
end Go.Proofs.YtehadoecnmfeoaaGreat
/- Loads of boards: plain laws. -/
namespace Go.Proofs.YtehadoecnmfeoaaGreat
set_option linter.unusedVariables false
set_option linter.unusedSimpArgs false
def onB (bs : List Int) (b i : Nat) : Bool := bs.getD i 0 == (b : Int)
def sz9 (ms : List Md) (i : Nat) : Nat := (ms.getD i Md.o).ws.length
/-- The load of a board by some modules. -/
def ldK (ms : List Md) (bs : List Int) (b : Nat) (L : List Nat) : Nat := ((L.filter (onB bs b)).map (sz9 ms)).sum
def ldN (ms : List Md) (bs : List Int) (x : List Bool) (b : Nat) : Nat := ldK ms bs b (pckL ms x)
def maxF (f : List Bool → Nat) (L : List (List Bool)) : Nat := L.foldl (fun a x => max a (f x)) 0
theorem maxF_from (f : List Bool → Nat) : ∀ (L : List (List Bool)) (a : Nat), L.foldl (fun a x => max a (f x)) a = max a (maxF f L)
  | [], a => by simp [maxF]
  | y :: L, a => by
    unfold maxF
    rw [List.foldl_cons, List.foldl_cons, maxF_from f L, maxF_from f L]
    omega
theorem maxF_cons (f : List Bool → Nat) (y : List Bool) (L : List (List Bool)) : maxF f (y :: L) = max (f y) (maxF f L) := by
  show L.foldl _ (max 0 (f y)) = _
  rw [maxF_from]
  omega
theorem maxF_step {f : List Bool → Nat} {L : List (List Bool)} {k : Nat} (h : k < L.length) : maxF f (L.take (k + 1)) = max (maxF f (L.take k)) (f (L.getD k [])) := by
  have h1 : L.getD k [] = L[k] := by
    rw [List.getD_eq_getElem?_getD, List.getElem?_eq_getElem h]
    rfl
  rw [List.take_add_one, List.getElem?_eq_getElem h, h1]
  unfold maxF
  rw [List.foldl_append]
  rfl
theorem maxF_ge {f : List Bool → Nat} : ∀ {L : List (List Bool)} {y : List Bool}, y ∈ L → f y ≤ maxF f L
  | a :: L, y, h => by
    rw [maxF_cons]
    rcases List.mem_cons.1 h with rfl | h
    · omega
    · have := maxF_ge (f := f) h
      omega
theorem maxF_le {f : List Bool → Nat} {n : Nat} : ∀ {L : List (List Bool)}, (∀ y ∈ L, f y ≤ n) → maxF f L ≤ n
  | [], _ => Nat.zero_le _
  | a :: L, h => by
    rw [maxF_cons]
    have h1 := h a (by simp)
    have h2 := maxF_le (f := f) (n := n) (L := L) fun y hy => h y (by simp [hy])
    omega
/-- The greatest load of a board. -/
def lodN (m : Mo) (ms : List Md) (bs : List Int) (b : Nat) : Nat := maxF (fun x => ldN ms bs x b) (allM m)
/-- How many boards there are. -/
def nbK (bs : List Int) : Nat := bs.foldl (fun n b => max n (b.toNat + 1)) 0
def brdOk (bs : List Int) : Bool := bs.all fun b => btw b 0 3
/-- What Loads answers. -/
def lodE (l : Lo) (ms : List Md) (bs : List Int) : Int := if bldE l ms ≠ 0 then bldE l ms else if bs.length ≠ ms.length ∨ brdOk bs = false then 122 else if allM l.m = [] then 12 else 0
def lodL (l : Lo) (ms : List Md) (bs : List Int) : List Nat := if lodE l ms bs = 0 then (List.range (nbK bs)).map (lodN l.m ms bs) else []
/-- The modules of a board, the first k looked at. -/
def onK (bs : List Int) (b k : Nat) : List Nat := (List.range k).filter (onB bs b)
theorem onK_succ (bs : List Int) (b k : Nat) : onK bs b (k + 1) = if onB bs b k then onK bs b k ++ [k] else onK bs b k := by
  unfold onK
  rw [List.range_succ, List.filter_append, List.filter_cons]
  cases h : onB bs b k with
  | true => rfl
  | false => rw [if_neg (by simp), if_neg (by simp)]; exact List.append_nil _
theorem onK_le (bs : List Int) (b k : Nat) : (onK bs b k).length ≤ k := by
  unfold onK
  have := List.length_filter_le (onB bs b) (List.range k)
  rwa [List.length_range] at this
theorem onK_lt {bs : List Int} {b k i : Nat} (h : i ∈ onK bs b k) : i < k := by
  unfold onK at h
  have := (List.mem_filter.1 h).1
  simpa using this
def fms9 (ms : List Md) (T : List Nat) : List (List Int) := T.map fun i => (ms.getD i Md.o).f
def szs9 (ms : List Md) (T : List Nat) : List Int := T.map fun i => ((sz9 ms i : Nat) : Int)
theorem fsum_on (ms : List Md) (x : List Bool) : ∀ (T : List Nat), fsum (vf x) (fms9 ms T) (szs9 ms T) = ((((T.filter fun i => pckB x (ms.getD i Md.o)).map (sz9 ms)).sum : Nat) : Int)
  | [] => rfl
  | i :: T => by
    have ih := fsum_on ms x T
    unfold fms9 szs9 at ih ⊢
    rw [List.map_cons, List.map_cons, List.filter_cons]
    unfold fsum
    rw [ih]
    unfold pckB
    cases h : evF1 (vf x) (ms.getD i Md.o).f with
    | true =>
      simp only [if_true, List.map_cons, List.sum_cons]
      omega
    | false =>
      simp only [Bool.false_eq_true, if_false]
      omega
theorem fsum_ld (ms : List Md) (bs : List Int) (b : Nat) (x : List Bool) : fsum (vf x) (fms9 ms (onK bs b ms.length)) (szs9 ms (onK bs b ms.length)) = ((ldN ms bs x b : Nat) : Int) := by
  rw [fsum_on]
  unfold ldN ldK pckL pckK onK
  rw [List.filter_filter, List.filter_filter]
  congr 4
  funext i
  exact Bool.and_comm _ _
/-- The greatest worth is the greatest load. -/
theorem best_lod {m : Mo} {ms : List Md} {bs : List Int} {b : Nat} (h0 : allM m ≠ []) (h60 : ms.length ≤ 60) (hs : ∀ i, sz9 ms i ≤ 60) : bestF m (fms9 ms (onK bs b ms.length)) (szs9 ms (onK bs b ms.length)) = ((lodN m ms bs b : Nat) : Int) := by
  obtain ⟨T, hT⟩ : ∃ T, onK bs b ms.length = T := ⟨_, rfl⟩
  have hld := fun x => fsum_ld ms bs b x
  rw [hT] at hld ⊢
  have hTl : T.length ≤ 60 := by rw [← hT]; exact Nat.le_trans (onK_le bs b _) h60
  have hbig := bestF_big (m := m) (l := fms9 ms T) (ws := szs9 ms T) (fun y hy => by
    unfold szs9 at hy
    obtain ⟨i, _, rfl⟩ := List.mem_map.1 hy
    have := hs i
    omega) (by unfold fms9; simp; omega) (by rw [satM_true]; exact h0)
  have hval : ∀ y, y ∈ allM m → valF m (fms9 ms T) (szs9 ms T) y = ((ldN ms bs y b : Nat) : Int) := fun y hy => by
    unfold allM at hy
    unfold valF
    rw [if_pos (List.mem_filter.1 hy).2, hld]
  have hge : ∀ y, y ∈ allM m → ((ldN ms bs y b : Nat) : Int) ≤ bestF m (fms9 ms T) (szs9 ms T) := fun y hy => by
    rw [← hval y hy]
    unfold bestF
    refine maxL_mem _ _ (List.mem_map.2 ⟨y, ?_, rfl⟩)
    unfold allM at hy
    exact (List.mem_filter.1 hy).1
  have hat := maxL_attained ((exts m.opts.length []).map (valF m (fms9 ms T) (szs9 ms T))) hbig
  obtain ⟨y, hy, he⟩ := List.mem_map.1 hat
  have hym : y ∈ allM m := by
    unfold allM
    rw [List.mem_filter]
    refine ⟨hy, ?_⟩
    cases hc : allF (vf y) m.rules with
    | true => rfl
    | false =>
      have hv : valF m (fms9 ms T) (szs9 ms T) y = leastI := by unfold valF; rw [hc, if_neg (by simp)]
      rw [hv] at he
      unfold bestF at hbig
      omega
  have h1 : bestF m (fms9 ms T) (szs9 ms T) = ((ldN ms bs y b : Nat) : Int) := by rw [← hval y hym, he]; rfl
  have h2 : ldN ms bs y b ≤ lodN m ms bs b := maxF_ge (f := fun x => ldN ms bs x b) hym
  have h3 : lodN m ms bs b ≤ ldN ms bs y b := by
    refine maxF_le fun z hz => ?_
    have := hge z hz
    omega
  omega
end Go.Proofs.YtehadoecnmfeoaaGreat

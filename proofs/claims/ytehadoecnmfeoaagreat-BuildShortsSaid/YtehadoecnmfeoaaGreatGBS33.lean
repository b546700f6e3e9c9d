/- Part 33 of this claim's texts: walks and plain laws. -/
import Derived.Test.YtehadoecnmfeoaaGreatRows
import Derived.Test.YtehadoecnmfeoaaGreatGBS32
import Derived.Deep.DeepMust
import Derived.Deep.RegionHeld3
import Derived.Deep.DrawnRows
import Derived.Test.YtehadoecnmfeoaaGreatGBS3
import Derived.Test.YtehadoecnmfeoaaGreatGBS31
set_option linter.unusedVariables false
set_option linter.unusedSimpArgs false
set_option linter.unusedSectionVars false
namespace Go.Proofs.YtehadoecnmfeoaaGreat
open Go.RowKit
def AudP (res : Option (Nat × Nat × List Bool)) (er : Int) (w : World) (e : Ending) (w' : World) : Prop :=
 match res with
 | some r => ∃ v, e = .returned (.tuple #[.agg #[.int .i64 (r.1 : Nat), .int .i64 (r.2.1 : Nat), v], .bool true, .int .i64 0]) ∧ OptV w' w'.heap.size v (some r.2.2) ∧ Below w.heap.size w w'
 | none => e = .returned (.tuple #[.agg #[.int .i64 0, .int .i64 0, .slice none 0 0], .bool false, .int .i64 er]) ∧ Below w.heap.size w w'
theorem results_ctt {P : Program} {fn : Func} {p u v : Tmp} {ty : TypeId} (h : fn.results = #[.cell p ty, .tmp u, .tmp v]) (tmps : Array Value) (w : World) :
  (results fn tmps).run P w = ((asAddr (tmps.getD p undef)).run P w).andThen fun a w₁ => ((loadVar ty a).run P w₁).andThen fun x w₂ => .ok (.tuple #[x, tmps.getD u undef, tmps.getD v undef]) w₂ := by
 simp only [results, h]
 simp [Sem.run_bind, Result.andThen]
 try (congr; done)
theorem set3 {w wz : World} {p t : Nat} {a0 a1 a2 b0 b1 b2 : Value} (h : w.heap[p]? = some (.cells #[a0, a1, a2] t (0, 0)))
  (hz : ((w.setCell ⟨p, 0, none⟩ b0).setCell ⟨p, 1, none⟩ b1).setCell ⟨p, 2, none⟩ b2 = wz) : wz.heap[p]? = some (.cells #[b0, b1, b2] t (0, 0)) ∧ w.grownBy wz (some p) := by
 subst hz
 refine ⟨setCellOf (setCellOf (setCellOf h _) _) _, ?_⟩
 refine only_setCell (only_setCell (only_setCell (only_refl _ _) ?_ _) ?_ _) ?_ _
 all_goals exact .inl rfl
theorem forms_none7 (w : World) (B : Nat) : Forms w B (.slice none 0 0) [] := ⟨fun _ => undef, Sl.nil _ _ _ _, fun i hi => absurd hi (by simp)⟩
theorem OptV.other {w w' : World} {v : Value} {o : Option (List Bool)} {b t : Nat} {a0 a1 a2 : Value} (h : OptV w w.heap.size v o) (hb : w.heap[b]? = some (.cells #[a0, a1, a2] t (0, 0))) (h0 : ∀ z, a0 ≠ .bool z) (h1 : ∀ z, a1 ≠ .bool z) (h2 : ∀ z, a2 ≠ .bool z) (hg : w.grownBy w' (some b)) : OptV w' w'.heap.size v o := by
 cases o with
 | none => exact h
 | some x =>
  obtain ⟨hf, A, b1, off, cap, e1, e2, e3, e4⟩ := h
  refine ⟨hf, A, b1, off, cap, e1, e2, e3.imp (fun q => ⟨q.1, Nat.lt_of_lt_of_le q.2 hg.size⟩) id, fun i j hi hj => ?_⟩
  have h5 := e4 i j hi hj
  have hb1 : b1 < w.heap.size := by
   rcases e3 with h3 | h3
   ·
    exact h3.2
   ·
    omega
  refine (World.cell?_of_block (hg.block b1 hb1 (fun e => ?_))).trans h5
  injection e with e
  subst e
  rw [cellOf hb] at h5
  rcases (by omega : off + (i * 1 + j) = 0 ∨ off + (i * 1 + j) = 1 ∨ off + (i * 1 + j) = 2 ∨ 3 ≤ off + (i * 1 + j)) with h6 | h6 | h6 | h6
  ·
   rw [h6] at h5; injection h5 with h5; exact h0 _ h5
  ·
   rw [h6] at h5; injection h5 with h5; exact h1 _ h5
  ·
   rw [h6] at h5; injection h5 with h5; exact h2 _ h5
  ·
   rw [Array.getElem?_eq_none (by simp; omega)] at h5; cases h5
theorem with_mem {ms : List Md} {w : Nat} {f : List Int} (h : f ∈ withL ms w) : ∃ d ∈ ms, d.f = f := by
 unfold withL at h
 obtain ⟨d, hd, e⟩ := List.mem_map.1 h
 exact ⟨d, (List.mem_filter.1 hd).1, e⟩
def DefZ (w : World) (b : Nat) : Prop := w.heap[b]? = some (.cells #[.int .i64 0, .int .i64 0, .slice none 0 0] 37 (0, 0))
theorem DefZ.to {w w' : World} {b : Nat} (h : DefZ w b) (hb : Below w.heap.size w w') : DefZ w' b := box_to h hb
set_option maxRecDepth 100000 in
set_option maxHeartbeats 8000000 in
theorem Audit_any (ms : List Md) (Am : Option Addr) (qm : Nat) (A0 A1 A2 A3 A4 A5 : Option Addr) (q0 q1 q2 q3 q4 q5 : Nat) (l : Lo) (w : World) (hs : SizedL l) (hd : SizedD ms) (h : LoA w w.heap.size A0 A1 A2 A3 A4 A5 q0 q1 q2 q3 q4 q5 l) (hm : Mods w w.heap.size (.slice Am ms.length qm) ms) (hN : l.m.err = 0 → l.m.opts.length ≤ 12) :
  Calls Tryz.prog 16 #[.agg #[.slice A0 l.m.opts.length q0, .slice A1 l.m.rules.length q1, .slice A2 l.ss.length q2, .slice A3 l.us.length q3, .slice A4 l.ps.length q4, .slice A5 l.ws.length q5], .slice Am ms.length qm] w (AudP (audA l ms) (bldE l ms) w) := by
 have q1n : ∀ (W : World) (a : Option Addr) (n c : Nat), (binOp .neq 35 (.slice a n c) (.slice none 0 0)).run Tryz.prog W = .ok (.bool (!a.isNone)) W := fun W a n c => run_neq_slice_nil W _ _ a n c Tryz.underlying35
 have H := hide h
 have HS := hide hs
 have HD := hide hd
 have HM := hide hm
 obtain ⟨res, hres⟩ : ∃ r, audA l ms = r := ⟨_, rfl⟩
 obtain ⟨er, her⟩ : ∃ r, bldE l ms = r := ⟨_, rfl⟩
 rw [hres, her]
 have HRES := hide hres
 have HER := hide her
 have HNN := hide hN
 clear h hs hd hm hN hres
 go_enter Tryz.func16, Tryz.ntmps16
 go_upto_region 1 with (fail)
 generalize hw0 : World.alloc _ _ = w0
 obtain ⟨hb0, hb1, hB0, hs0⟩ := alloc2 hw0
 have HL0 : Hid (LoBox w0 w.heap.size A0 A1 A2 A3 A4 A5 q0 q1 q2 q3 q4 q5 l) := hb0
 have HZ0 : Hid (DefZ w0 (w.heap.size + 1)) := hb1
 have HB0 := hide hB0
 obtain ⟨c0, c1, c2, c3, c4, c5⟩ := zL hb0
 have hlb := box_lt hb0
 clear hw0 hb0 hb1 hB0 hs0
 by_cases her0 : er = 0
 case neg =>
  have hr0 : res = none := by rw [← HRES.out]; unfold audA; rw [if_neg (by rw [her]; exact her0)]
  subst hr0
  have hz1 : (er != 0) = true := by simpa using her0
  clear her her0
  go_wp2_with (go_at_call 26; refine (bCheck_any ms Am qm A0 A1 A2 A3 A4 A5 q0 q1 q2 q3 q4 q5 l _ HS.out HD.out (H.out.up HB0.out) (HM.out.up HB0.out)).mono ?_; rw [HER.out]; rintro e w1 ⟨rfl, hB1⟩; have hz := HZ0.out.to hB1; have y0 := cellOf hz 0; have v0 := unfrozenOf hz 0; have y1 := cellOf hz 1; have v1 := unfrozenOf hz 1; have y2 := cellOf hz 2; have v2 := unfrozenOf hz 2; have lr := box_lt hz; have HZ1 := hide hz; have HB1 := hide (Below.to HB0.out hB1 (Nat.le_refl _)); clear hB1 hz c0 c1 c2 c3 c4 c5 hlb)
  generalize hwv : World.setCell _ _ _ = wv
  obtain ⟨hv, hgv⟩ := set3 (HZ1.out) hwv
  have hBv : Below w.heap.size w wv := Below.grown (HB1.out) hgv (Below.size (HB1.out)) (fun j hj => by injection hj with hj; omega)
  have HBV := hide hBv
  have t0 := cellOf hv 0
  have t1 := cellOf hv 1
  have t2 := cellOf hv 2
  have lv := box_lt hv
  clear hwv hv hBv y0 y1 y2 v0 v1 v2 lr
  refine bodyPost_ret (v := .tuple #[.agg #[.int .i64 0, .int .i64 0, .slice none 0 0], .bool false, .int .i64 er]) ?_ rfl ⟨rfl, HBV.out⟩
  clear hgv
  rw [results_ctt rfl]
  go_simp
 case pos =>
 subst her0
 have okm := bldE_ok her
 have OKM := hide okm
 have hmo := okm.lo.m
 have hN := HNN.out hmo
 clear her okm hmo
 go_upto_region 4 with (go_at_call 26; refine (bCheck_any ms Am qm A0 A1 A2 A3 A4 A5 q0 q1 q2 q3 q4 q5 l _ HS.out HD.out (H.out.up HB0.out) (HM.out.up HB0.out)).mono ?_; rw [HER.out]; rintro e w1 ⟨rfl, hB1⟩; have HZ1 := hide (HZ0.out.to hB1); have HL1 := hide (HL0.out.to hB1); obtain ⟨d0, d1, d2, d3, d4, d5⟩ := zL (HL0.out.to hB1); have ld := box_lt (HL0.out.to hB1); have HB1 := hide (Below.to HB0.out hB1 (Nat.le_refl _)); clear hB1 c0 c1 c2 c3 c4 c5 hlb)
 have hme := Meets_n l.m [] _ _ (.slice none 0 0) w1 HS.out.m ⟨by unfold maxLen; simp, fun g hg => by simp at hg⟩ (H.out.up HB1.out).m (forms_none7 _ _) (errF_all OKM.out.lo.m (fun f hf => by simp at hf)) hN (by simp)
 have hml : meeL l.m [] = allM l.m := by
  unfold meeL
  rw [show (fun v : Nat → Bool => allF v []) = fun _ => true from rfl, satM_true]
 rw [hml] at hme
 by_cases hne : allM l.m = []
 case pos =>
  have hr0 : res = none := by rw [← HRES.out]; unfold audA; rw [if_pos HER.out, audN_none hne]
  subst hr0
  rw [show (!(allM l.m).isEmpty) = false from by rw [hne]; rfl] at hme
  have HME := hide hme
  clear hme hml hne
  go_wp2_with (go_at_call 54; refine HME.out.mono ?_; rintro e w2 ⟨v2, rfl, hop, hB2⟩; have hz := HZ1.out.to hB2; have y0 := cellOf hz 0; have v0 := unfrozenOf hz 0; have y1 := cellOf hz 1; have v1 := unfrozenOf hz 1; have y2 := cellOf hz 2; have v2 := unfrozenOf hz 2; have lr := box_lt hz; have HZ2 := hide hz; have HB2 := hide (Below.to HB1.out hB2 (Nat.le_refl _)); clear hop hB2 hz d0 d1 d2 d3 d4 d5 ld)
  generalize hwv : World.setCell _ _ _ = wv
  obtain ⟨hv, hgv⟩ := set3 (HZ2.out) hwv
  have hBv : Below w.heap.size w wv := Below.grown (HB2.out) hgv (Below.size (HB2.out)) (fun j hj => by injection hj with hj; omega)
  have HBV := hide hBv
  have t0 := cellOf hv 0
  have t1 := cellOf hv 1
  have t2 := cellOf hv 2
  have lv := box_lt hv
  clear hwv hv hBv y0 y1 y2 v0 v1 v2 lr
  refine bodyPost_ret (v := .tuple #[.agg #[.int .i64 0, .int .i64 0, .slice none 0 0], .bool false, .int .i64 0]) ?_ rfl ⟨rfl, HBV.out⟩
  clear hgv
  rw [results_ctt rfl]
  go_simp
 case neg =>
 rw [show (!(allM l.m).isEmpty) = true from by cases hq : allM l.m with | nil => exact absurd hq hne | cons a t => rfl] at hme
 have HME := hide hme
 have HNE := hide hne
 have w60 := OKM.out.lo.w60
 clear hme hml hne
 go_wp2_with (go_at_call 54; refine HME.out.mono ?_; rintro e w2 ⟨v2, rfl, hop, hB2⟩; have HZ2 := hide (HZ1.out.to hB2); have HL2 := hide (HL1.out.to hB2); obtain ⟨e0, e1, e2, e3, e4, e5⟩ := zL (HL1.out.to hB2); have le := box_lt (HL1.out.to hB2); have HB2 := hide (Below.to HB1.out hB2 (Nat.le_refl _)); clear hop hB2 d0 d1 d2 d3 d4 d5 ld)
 clear e0 e1 e2 e3 e4 e5 le
 go_loopw [11, 12, 13, 14, 15, 36] (fun _ _ _ _ _ i wr => ∃ k : Nat, i = .int .i64 k ∧ k ≤ l.ws.length ∧ Hid (audN l ms k = none) ∧ Hid (Below w.heap.size w wr) ∧ Hid (LoBox wr w.heap.size A0 A1 A2 A3 A4 A5 q0 q1 q2 q3 q4 q5 l) ∧ Hid (DefZ wr (w.heap.size + 1))) (fun _ _ _ _ _ i _ => l.ws.length - (intOf i).toNat)
 case atStart => exact ⟨0, rfl, Nat.zero_le _, rfl, HB2.out, HL2.out, HZ2.out⟩
 case round =>
  obtain ⟨k, rfl, hk, HAN, HB, HL, HZ⟩ := hrel
  by_cases hkl : k < l.ws.length
  ·
   have i1 : (k : Int) < (l.ws.length : Int) := by omega
   obtain ⟨fs, hfs⟩ : ∃ fs, withL ms k = fs := ⟨_, rfl⟩
   have hfl : fs.length ≤ 60 := by rw [← hfs]; exact Nat.le_trans (with_len ms k) OKM.out.n
   have hfv : ∀ f ∈ fs, validF l.m.opts.length f = true := fun f hf => by
    rw [← hfs] at hf
    obtain ⟨d, hd, e⟩ := with_mem hf
    have h1 := OKM.out.ok d hd
    unfold rightB at h1
    rw [Bool.and_eq_true] at h1
    rw [← e]; exact h1.2
   have HFS := hide hfs
   have HFV := hide hfv
   have hwi := with_any ms k Am qm wr HD.out OKM.out.n (HM.out.up HB.out)
   rw [hfs] at hwi
   have HWI := hide hwi
   clear hfs hfv hwi
   go_upto_region 11 with (go_at_call 55; refine HWI.out.mono ?_; rintro e w3 ⟨v3, vs, rfl, hw3⟩; obtain ⟨A9, c9, hv3⟩ := owns_form hw3.own; subst hv3; have HF3 := hide hw3.forms; have HB3 := hide hw3.below; clear hw3)
   go_upto_region 12 with (fail)
   go_wp2_with fail
   generalize hw4 : World.alloc _ _ = w4
   obtain ⟨hb4, hB4, hs4⟩ := alloc1 hw4
   obtain ⟨fb, hfb⟩ : ∃ n, w3.heap.size = n := ⟨_, rfl⟩
   rw [hfb] at hb4
   rw [hfb]
   have HFB := hide hb4
   have HF4 := hide (HF3.out.up hB4)
   have hB34 := Below.to HB3.out hB4 (Nat.le_refl _)
   have HL4 := hide (HL.out.to hB34)
   have HZ4 := hide (HZ.out.to hB34)
   have HB4 := hide (Below.to HB.out hB34 (Nat.le_refl _))
   clear hw4 hb4 hB4 hs4 hfb hB34
   go_loopw [13, 14, 15, 44] (fun _ _ _ i wr => ∃ c : Nat, i = .int .i64 c ∧ c ≤ 3 ∧ Hid (audK l.m (l.ws.getD k Wi.o).form fs c = none) ∧ Hid (Below w.heap.size w wr) ∧ Hid (LoBox wr w.heap.size A0 A1 A2 A3 A4 A5 q0 q1 q2 q3 q4 q5 l) ∧ Hid (DefZ wr (w.heap.size + 1)) ∧ Hid (Forms wr wr.heap.size (.slice A9 fs.length c9) fs) ∧ Hid (wr.heap[fb]? = some (.cells #[.func (.func 56) #[] #[], .func (.func 57) #[] #[], .func (.func 58) #[] #[]] 99 (0, 0)))) (fun _ _ _ i _ => 3 - (intOf i).toNat)
   case atStart => exact ⟨0, rfl, by omega, rfl, HB4.out, HL4.out, HZ4.out, HF4.out, HFB.out⟩
   case round =>
    clear HB HL HZ
    obtain ⟨c, rfl, hc3, HAK, HB, HL, HZ, HF, HFN⟩ := hrel
    have x0 := cellOf HFN.out c
    have lx := box_lt HFN.out
    by_cases hc : c < 3
    ·
     have j1 : (c : Int) < 3 := by omega
     have j0 : (0 : Int) ≤ (c : Int) := by omega
     obtain ⟨o, ho⟩ : ∃ o, frstV l.m (l.ws.getD k Wi.o).form fs (c + 1) = o := ⟨_, rfl⟩
     have hak := audK_next HAK.out
     rw [ho] at hak
     have HKN := hide hak
     have HO := hide ho
     obtain ⟨c0, c1, c2, c3, c4, c5⟩ := zL HL.out
     have hlb := box_lt HL.out
     clear hak ho
     rcases (by omega : c = 0 ∨ c = 1 ∨ c = 2) with hc0 | hc0 | hc0
     ·
      have hlk := lacks_any k fs A9 c9 A0 A1 A2 A3 A4 A5 q0 q1 q2 q3 q4 q5 l wr HS.out (H.out.up HB.out) OKM.out.lo hkl HF.out hfl HFV.out hN HNE.out
      have ho := HO.out
      rw [hc0] at ho
      rw [show frstV l.m (l.ws.getD k Wi.o).form fs 1 = o from ho] at hlk
      rw [hc0] at x0
      have hx0 : wr.cell? ⟨fb, c, none⟩ = some (.func (.func 56) #[] #[]) := by rw [hc0]; exact x0
      have HLK := hide hlk
      clear hlk ho x0 hc0
      cases o with
      | none =>
       go_wp2_with (go_at_call 56; refine HLK.out.mono ?_; rintro e w5 ⟨v5, rfl, hop, hB5⟩; have hvn : v5 = .slice none 0 0 := hop; subst hvn; have HB5 := hide hB5; clear hop hB5 hx0 lx c0 c1 c2 c3 c4 c5 hlb)
       go_roundw
       case rel => exact ⟨c + 1, by go_num, by omega, by have h1 := HKN.out; exact h1, Below.to HB.out HB5.out (Nat.le_refl _), HL.out.to HB5.out, HZ.out.to HB5.out, HF.out.up HB5.out, box_to HFN.out HB5.out⟩
       case measure => simp [intOf]; omega
      | some y =>
       have hr0 : res = some (k, c + 1, y) := by
        rw [← HRES.out]
        unfold audA
        rw [if_pos HER.out]
        refine audN_stays (k := k + 1) ?_ (by omega)
        rw [audN_next HAN.out, HFS.out, audK_stays HKN.out (show c + 1 ≤ 3 by omega)]
        rfl
       subst hr0
       go_wp2_with (go_at_call 56; refine HLK.out.mono ?_; rintro e w5 ⟨v5, rfl, hop, hB5⟩; obtain ⟨A8, n8, q8, hv5, hsm⟩ := hop.form; subst hv5; have hz := HZ.out.to hB5; have y0 := cellOf hz 0; have v0 := unfrozenOf hz 0; have y1 := cellOf hz 1; have v1 := unfrozenOf hz 1; have y2 := cellOf hz 2; have v2 := unfrozenOf hz 2; have lr := box_lt hz; have HZ5 := hide hz; have HOP := hide hop; have HB5 := hide (Below.to HB.out hB5 (Nat.le_refl _)); clear hop hB5 hz hx0 lx c0 c1 c2 c3 c4 c5 hlb)
       generalize hwv : World.setCell _ _ _ = wv
       obtain ⟨hv, hgv⟩ := set3 (HZ5.out) hwv
       have hBv : Below w.heap.size w wv := Below.grown (HB5.out) hgv (Below.size (HB5.out)) (fun j hj => by injection hj with hj; omega)
       have HBV := hide hBv
       have t0 := cellOf hv 0
       have t1 := cellOf hv 1
       have t2 := cellOf hv 2
       have lv := box_lt hv
       clear hwv hv hBv y0 y1 y2 v0 v1 v2 lr
       refine bodyPost_ret (v := .tuple #[.agg #[.int .i64 k, .int .i64 (1 + (c : Int)), .slice A8 n8 q8], .bool true, .int .i64 0]) ?_ rfl ⟨_, by rw [show (1 + (c : Int)) = ((c + 1 : Nat) : Int) by omega], HOP.out.other HZ5.out (fun z e => by cases e) (fun z e => by cases e) (fun z e => by cases e) hgv, HBV.out⟩
       clear hgv
       rw [results_ctt rfl]
       go_simp
     ·
      have hlk := extra_any k fs A9 c9 A0 A1 A2 A3 A4 A5 q0 q1 q2 q3 q4 q5 l wr HS.out (H.out.up HB.out) OKM.out.lo hkl HF.out hfl HFV.out hN
      have ho := HO.out
      rw [hc0] at ho
      rw [show frstV l.m (l.ws.getD k Wi.o).form fs 2 = o from ho] at hlk
      rw [hc0] at x0
      have hx0 : wr.cell? ⟨fb, c, none⟩ = some (.func (.func 57) #[] #[]) := by rw [hc0]; exact x0
      have HLK := hide hlk
      clear hlk ho x0 hc0
      cases o with
      | none =>
       go_wp2_with (go_at_call 57; refine HLK.out.mono ?_; rintro e w5 ⟨v5, rfl, hop, hB5⟩; have hvn : v5 = .slice none 0 0 := hop; subst hvn; have HB5 := hide hB5; clear hop hB5 hx0 lx c0 c1 c2 c3 c4 c5 hlb)
       go_roundw
       case rel => exact ⟨c + 1, by go_num, by omega, by have h1 := HKN.out; exact h1, Below.to HB.out HB5.out (Nat.le_refl _), HL.out.to HB5.out, HZ.out.to HB5.out, HF.out.up HB5.out, box_to HFN.out HB5.out⟩
       case measure => simp [intOf]; omega
      | some y =>
       have hr0 : res = some (k, c + 1, y) := by
        rw [← HRES.out]
        unfold audA
        rw [if_pos HER.out]
        refine audN_stays (k := k + 1) ?_ (by omega)
        rw [audN_next HAN.out, HFS.out, audK_stays HKN.out (show c + 1 ≤ 3 by omega)]
        rfl
       subst hr0
       go_wp2_with (go_at_call 57; refine HLK.out.mono ?_; rintro e w5 ⟨v5, rfl, hop, hB5⟩; obtain ⟨A8, n8, q8, hv5, hsm⟩ := hop.form; subst hv5; have hz := HZ.out.to hB5; have y0 := cellOf hz 0; have v0 := unfrozenOf hz 0; have y1 := cellOf hz 1; have v1 := unfrozenOf hz 1; have y2 := cellOf hz 2; have v2 := unfrozenOf hz 2; have lr := box_lt hz; have HZ5 := hide hz; have HOP := hide hop; have HB5 := hide (Below.to HB.out hB5 (Nat.le_refl _)); clear hop hB5 hz hx0 lx c0 c1 c2 c3 c4 c5 hlb)
       generalize hwv : World.setCell _ _ _ = wv
       obtain ⟨hv, hgv⟩ := set3 (HZ5.out) hwv
       have hBv : Below w.heap.size w wv := Below.grown (HB5.out) hgv (Below.size (HB5.out)) (fun j hj => by injection hj with hj; omega)
       have HBV := hide hBv
       have t0 := cellOf hv 0
       have t1 := cellOf hv 1
       have t2 := cellOf hv 2
       have lv := box_lt hv
       clear hwv hv hBv y0 y1 y2 v0 v1 v2 lr
       refine bodyPost_ret (v := .tuple #[.agg #[.int .i64 k, .int .i64 (1 + (c : Int)), .slice A8 n8 q8], .bool true, .int .i64 0]) ?_ rfl ⟨_, by rw [show (1 + (c : Int)) = ((c + 1 : Nat) : Int) by omega], HOP.out.other HZ5.out (fun z e => by cases e) (fun z e => by cases e) (fun z e => by cases e) hgv, HBV.out⟩
       clear hgv
       rw [results_ctt rfl]
       go_simp
     ·
      have hlk := double_any k fs A9 c9 A0 A1 A2 A3 A4 A5 q0 q1 q2 q3 q4 q5 l wr HS.out (H.out.up HB.out) OKM.out.lo hkl HF.out hfl HFV.out hN
      have ho := HO.out
      rw [hc0] at ho
      rw [show frstV l.m (l.ws.getD k Wi.o).form fs 3 = o from ho] at hlk
      rw [hc0] at x0
      have hx0 : wr.cell? ⟨fb, c, none⟩ = some (.func (.func 58) #[] #[]) := by rw [hc0]; exact x0
      have HLK := hide hlk
      clear hlk ho x0 hc0
      cases o with
      | none =>
       go_wp2_with (go_at_call 58; refine HLK.out.mono ?_; rintro e w5 ⟨v5, rfl, hop, hB5⟩; have hvn : v5 = .slice none 0 0 := hop; subst hvn; have HB5 := hide hB5; clear hop hB5 hx0 lx c0 c1 c2 c3 c4 c5 hlb)
       go_roundw
       case rel => exact ⟨c + 1, by go_num, by omega, by have h1 := HKN.out; exact h1, Below.to HB.out HB5.out (Nat.le_refl _), HL.out.to HB5.out, HZ.out.to HB5.out, HF.out.up HB5.out, box_to HFN.out HB5.out⟩
       case measure => simp [intOf]; omega
      | some y =>
       have hr0 : res = some (k, c + 1, y) := by
        rw [← HRES.out]
        unfold audA
        rw [if_pos HER.out]
        refine audN_stays (k := k + 1) ?_ (by omega)
        rw [audN_next HAN.out, HFS.out, audK_stays HKN.out (show c + 1 ≤ 3 by omega)]
        rfl
       subst hr0
       go_wp2_with (go_at_call 58; refine HLK.out.mono ?_; rintro e w5 ⟨v5, rfl, hop, hB5⟩; obtain ⟨A8, n8, q8, hv5, hsm⟩ := hop.form; subst hv5; have hz := HZ.out.to hB5; have y0 := cellOf hz 0; have v0 := unfrozenOf hz 0; have y1 := cellOf hz 1; have v1 := unfrozenOf hz 1; have y2 := cellOf hz 2; have v2 := unfrozenOf hz 2; have lr := box_lt hz; have HZ5 := hide hz; have HOP := hide hop; have HB5 := hide (Below.to HB.out hB5 (Nat.le_refl _)); clear hop hB5 hz hx0 lx c0 c1 c2 c3 c4 c5 hlb)
       generalize hwv : World.setCell _ _ _ = wv
       obtain ⟨hv, hgv⟩ := set3 (HZ5.out) hwv
       have hBv : Below w.heap.size w wv := Below.grown (HB5.out) hgv (Below.size (HB5.out)) (fun j hj => by injection hj with hj; omega)
       have HBV := hide hBv
       have t0 := cellOf hv 0
       have t1 := cellOf hv 1
       have t2 := cellOf hv 2
       have lv := box_lt hv
       clear hwv hv hBv y0 y1 y2 v0 v1 v2 lr
       refine bodyPost_ret (v := .tuple #[.agg #[.int .i64 k, .int .i64 (1 + (c : Int)), .slice A8 n8 q8], .bool true, .int .i64 0]) ?_ rfl ⟨_, by rw [show (1 + (c : Int)) = ((c + 1 : Nat) : Int) by omega], HOP.out.other HZ5.out (fun z e => by cases e) (fun z e => by cases e) (fun z e => by cases e) hgv, HBV.out⟩
       clear hgv
       rw [results_ctt rfl]
       go_simp
    ·
     have hce : c = 3 := by omega
     have j1 : ¬ (c : Int) < 3 := by omega
     have hak := HAK.out
     rw [hce] at hak
     have han : audN l ms (k + 1) = none := by rw [audN_next HAN.out, HFS.out, hak]; rfl
     have HANN := hide han
     clear hak han hce x0 lx
     go_wp2_with fail
     go_roundw
     case rel => exact ⟨k + 1, by go_num, by omega, HANN.out, HB.out, HL.out, HZ.out⟩
     case measure => simp [intOf]; omega
  ·
   have hke : k = l.ws.length := by omega
   subst hke
   have hr0 : res = none := by rw [← HRES.out]; unfold audA; rw [if_pos HER.out]; exact HAN.out
   subst hr0
   have hz := HZ.out
   have y0 := cellOf hz 0; have v0 := unfrozenOf hz 0; have y1 := cellOf hz 1; have v1 := unfrozenOf hz 1; have y2 := cellOf hz 2; have v2 := unfrozenOf hz 2; have lr := box_lt hz
   have HZ5 := hide hz
   clear hz
   go_wp2_with fail
   generalize hwv : World.setCell _ _ _ = wv
   obtain ⟨hv, hgv⟩ := set3 (HZ5.out) hwv
   have hBv : Below w.heap.size w wv := Below.grown (HB.out) hgv (Below.size (HB.out)) (fun j hj => by injection hj with hj; omega)
   have HBV := hide hBv
   have t0 := cellOf hv 0
   have t1 := cellOf hv 1
   have t2 := cellOf hv 2
   have lv := box_lt hv
   clear hwv hv hBv y0 y1 y2 v0 v1 v2 lr
   refine bodyPost_ret (v := .tuple #[.agg #[.int .i64 0, .int .i64 0, .slice none 0 0], .bool false, .int .i64 0]) ?_ rfl ⟨rfl, HBV.out⟩
   clear hgv
   rw [results_ctt rfl]
   go_simp
theorem rowV_app {α : Type} {enc : α → List Value} (L M : List α) : rowV enc (L ++ M) = rowV enc L ++ rowV enc M := by simp [rowV]
theorem rowP_one (L : List Pn) : ∀ v ∈ rowV pnE L, v.oneCell' = true := fun v hv => by
 unfold rowV at hv
 rw [List.mem_flatMap] at hv
 obtain ⟨a, _, h⟩ := hv
 exact pnE_one a v h
theorem Pns.reads {w : World} {B q : Nat} {A : Option Addr} {L : List Pn} (h : Pns w B (.slice A L.length q) L) : Reads w B 2 A L.length (rowV pnE L) := by
 have h1 := Sl.reads h (by omega)
 have h2 : flat L.length 2 (fun i j => pnF (L.getD i (0, 0)) j) = rowV pnE L := by
  apply List.ext_getElem?
  intro m
  rcases Nat.lt_or_ge m (L.length * 2) with hm | hm
  ·
   have hi : m / 2 < L.length := by omega
   have hj : m % 2 < 2 := Nat.mod_lt _ (by omega)
   have e1 := flat_get (f := fun i j => pnF (L.getD i (0, 0)) j) hi hj
   have e2 := rowV_get pnE_len (0, 0) hi hj
   rw [pnE_get _ hj] at e2
   have e3 : m / 2 * 2 + m % 2 = m := by omega
   rw [e3] at e1 e2
   rw [e1, e2]
  ·
   rw [List.getElem?_eq_none (by rw [flat_length]; exact hm), List.getElem?_eq_none (by rw [rowV_len pnE_len]; exact hm)]
 rw [h2] at h1
 exact h1
theorem infoPin : (Tryz.prog.info? 74).map (fun i => (i.zero, i.size, i.bytes)) = some (some (.agg #[.int .i64 0, .int .i64 0]), 2, 16) := by kernel_rfl
def JonP (B jb wb : Nat) (J : List Pn) (w w' : World) : Prop := ∃ jv, w'.heap[jb]? = some (.cells #[jv] 86 (0, 0)) ∧ w'.ownsRow B 74 2 jv J.length (rowV pnE J) ∧ Below B w w' ∧ w'.heap[wb]? = w.heap[wb]?
theorem jon_keep {w w' : World} {B jb wb : Nat} {jv : Value} {J : List Pn} {C : Array Value} (hj : w.heap[jb]? = some (.cells #[jv] 86 (0, 0))) (ho : w.ownsRow B 74 2 jv J.length (rowV pnE J)) (hw : w.heap[wb]? = some (.cells C 76 (0, 0))) (hB : B ≤ w.heap.size) (hb : Below w.heap.size w w') : JonP B jb wb J w w' :=
 ⟨jv, box_to hj hb, owns_below ho hb, hb.mono hB, (box_to hw hb).trans hw.symm⟩
theorem jon_push {w w1 w2 w3 : World} {B jb wb : Nat} {jv v1 : Value} {J net : List Pn} {C : Array Value} (hj : w.heap[jb]? = some (.cells #[jv] 86 (0, 0))) (ho : w.ownsRow B 74 2 jv J.length (rowV pnE J)) (hw : w.heap[wb]? = some (.cells C 76 (0, 0))) (hB : B ≤ w.heap.size) (hBj : B ≤ jb) (hb : Below w.heap.size w w1)
  (hg : w1.grownBy w2 jv.ownBlock) (hown : w2.ownsRow B 74 2 v1 (J.length + net.length) (rowV pnE J ++ rowV pnE net)) (hs : w2.setCell ⟨jb, 0, none⟩ v1 = w3) : JonP B jb wb (J ++ net) w w3 := by
 have hj1 := box_to hj hb
 have ho1 := owns_below ho hb
 have hw1 := box_to hw hb
 have hj2 := (hg.block jb (box_lt hj1) (fun e => ownsNot ho1 hj1 (by decide) e.symm)).trans hj1
 have hw2 := (hg.block wb (box_lt hw1) (fun e => ownsNot ho1 hw1 (by decide) e.symm)).trans hw1
 have k2 : w2.grownBy w3 (some jb) := by
  rw [← hs]
  exact only_setCell (only_refl _ _) (.inl rfl) _
 have hne : wb ≠ jb := fun e => by
  subst e
  rw [hw] at hj
  injection hj with hj
  injection hj with _ hj _
  exact absurd hj (by decide)
 have hj3 := setCellOf hj2 (i := 0) v1
 rw [hs] at hj3
 rw [List.length_append.symm, ← rowV_app] at hown
 refine ⟨v1, hj3, owns_grown hown k2 hj2 (by decide), ?_, ((k2.block wb (box_lt hw2) (fun e => hne (by injection e))).trans hw2).trans hw.symm⟩
 rw [← hs]
 exact Below.setCell (Below.grown (hb.mono hB) hg (Nat.le_trans hB hb.size) (fun q hq => (ho1.lt q hq).1)) hBj _
set_option maxRecDepth 100000 in
set_option maxHeartbeats 2000000 in
theorem nets1_any (J net : List Pn) (a b : Pn) (An : Option Addr) (qn : Nat) (jv nm sz fm : Value) (wb jb B : Nat) (w : World) (hw : w.heap[wb]? = some (.cells #[nm, .int .i64 a.1, .int .i64 a.2, .int .i64 b.1, .int .i64 b.2, sz, fm] 76 (0, 0))) (hj : w.heap[jb]? = some (.cells #[jv] 86 (0, 0))) (ho : w.ownsRow B 74 2 jv J.length (rowV pnE J)) (hn : Pns w w.heap.size (.slice An net.length qn) net) (hJ : J.length ≤ 100000) (hN : net.length ≤ 100000) (hB : B ≤ w.heap.size) (hBj : B ≤ jb) :
  Calls Tryz.prog 182 #[.slice An net.length qn, .pointer (some ⟨wb, 0, none⟩), .pointer (some ⟨jb, 0, none⟩)] w fun e w' => e = .returned (.bool (touB a b net)) ∧ JonP B jb wb (if touB a b net then J ++ net else J) w w' := by
 obtain ⟨i0, hi0, iz0, iz1, iz2⟩ := info_parts infoPin
 obtain ⟨c1, hc1⟩ : ∃ c, net.contains a = c := ⟨_, rfl⟩
 obtain ⟨c2, hc2⟩ : ∃ c, net.contains b = c := ⟨_, rfl⟩
 have ht : touB a b net = (c1 || c2) := by unfold touB; rw [hc1, hc2]
 rw [ht]
 obtain ⟨Aj, qj, hjv⟩ := owns_form ho
 subst hjv
 have HW := hide hw
 have HJ := hide hj
 have HO := hide ho
 have HN := hide hn
 have HC1 := hide hc1
 have HC2 := hide hc2
 have x0 := cellOf hw 0
 have x1 := cellOf hw 1
 have x2 := cellOf hw 2
 have x3 := cellOf hw 3
 have x4 := cellOf hw 4
 have lw := box_lt hw
 have hm1 : Hid (net.length ≤ maxLen) := by show _ ≤ _; unfold maxLen; omega
 clear hc1 hc2 ht hw hj ho hn
 cases c1 with
 | true =>
  go_enter Tryz.func182, Tryz.ntmps182
  go_upto_region 3 with (go_at_call 174; refine (containsP_any net a _ _ _ hm1.out HN.out HC1.out).mono ?_; rintro e w1 ⟨rfl, hB1⟩; have HW1 := hide (box_to HW.out hB1); have HJ1 := hide (box_to HJ.out hB1); have HO1 := hide (owns_below HO.out hB1); have HN1 := hide (HN.out.up hB1); have HB1 := hide hB1; clear hB1 x0 x1 x2 x3 x4 lw)
  have y0 := cellOf HJ1.out 0
  have ly := box_lt HJ1.out
  go_upto_region 4 with (at_builtin; go_must (refine wpList_append_any _ rfl (.tmp 17) (.tmp 18) _ rfl B 74 i0 _ 2 16 Tryz.underlying86 hi0 iz0 iz1 iz2 rfl (by omega) _ J.length (rowV pnE J) rfl HO1.out w1.heap.size _ net.length qn (rowV pnE net) rfl HN1.out.reads (rowP_one net) (by unfold maxLen; omega) (by omega) (Nat.le_trans hB HB1.out.size) ?_); intro v1 w2 hown1 hg1 hat1; obtain ⟨A2, q2, e2⟩ := owns_form hown1; subst e2; have HJ2 := hide ((hg1.block jb (box_lt HJ1.out) (fun e => ownsNot HO1.out HJ1.out (by decide) e.symm)).trans HJ1.out); have HG1 := hide hg1; have HOW := hide hown1; have z0 := cellOf HJ2.out 0; have uf := unfrozenOf HJ2.out 0; have lz := box_lt HJ2.out; clear hown1 hg1 hat1 y0 ly)
  generalize hw3 : World.setCell _ _ _ = w3
  have HJP := hide (jon_push HJ.out HO.out HW.out hB hBj HB1.out HG1.out HOW.out hw3)
  clear hw3 z0 uf lz
  go_wp2_with fail
  go_ret
  exact ⟨rfl, HJP.out⟩
 | false =>
  cases c2 with
  | true =>
   go_enter Tryz.func182, Tryz.ntmps182
   go_upto_region 3 with (first | (go_at_call 174; refine (containsP_any net a _ _ _ hm1.out HN.out HC1.out).mono ?_; rintro e w0 ⟨rfl, hB0⟩; have HW0 := hide (box_to HW.out hB0); have HN0 := hide (HN.out.up hB0); have HB0 := hide hB0; clear hB0 x0 x1 x2 x3 x4 lw; have x0 := cellOf HW0.out 0; have x1 := cellOf HW0.out 1; have x2 := cellOf HW0.out 2; have x3 := cellOf HW0.out 3; have x4 := cellOf HW0.out 4; have lw := box_lt HW0.out) | (go_at_call 174; refine (containsP_any net b _ _ _ hm1.out HN0.out HC2.out).mono ?_; rintro e w1 ⟨rfl, hB1⟩; have HB1 : Hid (Below w.heap.size w w1) := Below.to HB0.out hB1 (Nat.le_refl _); have HW1 := hide (box_to HW.out HB1.out); have HJ1 := hide (box_to HJ.out HB1.out); have HO1 := hide (owns_below HO.out HB1.out); have HN1 := hide (HN.out.up HB1.out); clear hB1 x0 x1 x2 x3 x4 lw))
   have y0 := cellOf HJ1.out 0
   have ly := box_lt HJ1.out
   go_upto_region 4 with (at_builtin; go_must (refine wpList_append_any _ rfl (.tmp 17) (.tmp 18) _ rfl B 74 i0 _ 2 16 Tryz.underlying86 hi0 iz0 iz1 iz2 rfl (by omega) _ J.length (rowV pnE J) rfl HO1.out w1.heap.size _ net.length qn (rowV pnE net) rfl HN1.out.reads (rowP_one net) (by unfold maxLen; omega) (by omega) (Nat.le_trans hB HB1.out.size) ?_); intro v1 w2 hown1 hg1 hat1; obtain ⟨A2, q2, e2⟩ := owns_form hown1; subst e2; have HJ2 := hide ((hg1.block jb (box_lt HJ1.out) (fun e => ownsNot HO1.out HJ1.out (by decide) e.symm)).trans HJ1.out); have HG1 := hide hg1; have HOW := hide hown1; have z0 := cellOf HJ2.out 0; have uf := unfrozenOf HJ2.out 0; have lz := box_lt HJ2.out; clear hown1 hg1 hat1 y0 ly)
   generalize hw3 : World.setCell _ _ _ = w3
   have HJP := hide (jon_push HJ.out HO.out HW.out hB hBj HB1.out HG1.out HOW.out hw3)
   clear hw3 z0 uf lz
   go_wp2_with fail
   go_ret
   exact ⟨rfl, HJP.out⟩
  | false =>
   go_enter Tryz.func182, Tryz.ntmps182
   go_wp2_with (first | (go_at_call 174; refine (containsP_any net a _ _ _ hm1.out HN.out HC1.out).mono ?_; rintro e w0 ⟨rfl, hB0⟩; have HW0 := hide (box_to HW.out hB0); have HN0 := hide (HN.out.up hB0); have HB0 := hide hB0; clear hB0 x0 x1 x2 x3 x4 lw; have x0 := cellOf HW0.out 0; have x1 := cellOf HW0.out 1; have x2 := cellOf HW0.out 2; have x3 := cellOf HW0.out 3; have x4 := cellOf HW0.out 4; have lw := box_lt HW0.out) | (go_at_call 174; refine (containsP_any net b _ _ _ hm1.out HN0.out HC2.out).mono ?_; rintro e w1 ⟨rfl, hB1⟩; have HB1 : Hid (Below w.heap.size w w1) := Below.to HB0.out hB1 (Nat.le_refl _); have HW1 := hide (box_to HW.out HB1.out); have HJ1 := hide (box_to HJ.out HB1.out); have HO1 := hide (owns_below HO.out HB1.out); have HN1 := hide (HN.out.up HB1.out); clear hB1 x0 x1 x2 x3 x4 lw))
   go_ret
   exact ⟨rfl, jon_keep HJ.out HO.out HW.out hB HB1.out⟩
end Go.Proofs.YtehadoecnmfeoaaGreat

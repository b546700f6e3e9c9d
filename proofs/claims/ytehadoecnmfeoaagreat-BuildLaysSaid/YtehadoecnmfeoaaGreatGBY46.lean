/- Part 46 of this claim's texts: walks and plain laws. -/
import Derived.Test.YtehadoecnmfeoaaGreatRows
import Derived.Test.YtehadoecnmfeoaaGreatGBY45
import Derived.Test.YtehadoecnmfeoaaGreatGBY40
import Derived.Laws.EntriesVeiled
import Derived.Deep.DeepMust
import Derived.Deep.RegionHeld3
import Derived.Deep.DrawnRows
import Derived.Test.YtehadoecnmfeoaaGreatGBY3
/- Boards for modules (the program): walk. -/
namespace Go.Proofs.YtehadoecnmfeoaaGreat
open Go.RowKit
set_option linter.unusedVariables false
set_option linter.unusedSimpArgs false
theorem results_cct {P : Program} {fn : Func} {p u s : Tmp} {ty ty2 : TypeId} (h : fn.results = #[.cell p ty, .cell u ty2, .tmp s]) (tmps : Array Value) (w : World) :
    (results fn tmps).run P w = ((asAddr (tmps.getD p undef)).run P w).andThen fun a w₁ => ((loadVar ty a).run P w₁).andThen fun v w₂ => ((asAddr (tmps.getD u undef)).run P w₂).andThen fun a2 w₃ => ((loadVar ty2 a2).run P w₃).andThen fun v2 w₄ => .ok (.tuple #[v, v2, tmps.getD s undef]) w₄ := by
  simp only [results, h]
  simp [Sem.run_bind, Result.andThen]
  try (congr; done)
/-- What Lay returns. -/
def LayP (s : List Nat × Int) (er : Int) (w : World) (e : Ending) (w' : World) : Prop := ∃ v, e = .returned (.tuple #[v, .int .i64 s.2, .int .i64 er]) ∧ Nods w' w'.heap.size v s.1 ∧ Below w.heap.size w w'
theorem layE_err {l : Lo} {ms : List Md} {n : Int} (h : bldE l ms ≠ 0) : layE l ms n = bldE l ms ∧ layS l ms n = ([], 0) := by
  have h1 : layE l ms n = bldE l ms := by unfold layE; rw [if_pos h]
  refine ⟨h1, ?_⟩
  unfold layS
  rw [h1, if_neg h]
theorem layE_brd {l : Lo} {ms : List Md} {n : Int} (h : bldE l ms = 0) (h2 : btw n 1 4 = false ∨ 8 < ms.length) : layE l ms n = 122 ∧ layS l ms n = ([], 0) := by
  have h1 : layE l ms n = 122 := by unfold layE; rw [if_neg (by simp [h]), if_pos h2]
  refine ⟨h1, ?_⟩
  unfold layS
  rw [h1, if_neg (by decide)]
theorem layE_none {l : Lo} {ms : List Md} {n : Int} (h : bldE l ms = 0) (h2 : btw n 1 4 = true) (h3 : ms.length ≤ 8) (h4 : allM l.m = []) : layE l ms n = 12 ∧ layS l ms n = ([], 0) := by
  have h1 : layE l ms n = 12 := by unfold layE; rw [if_neg (by simp [h]), if_neg (by simp [h2]; omega), if_pos h4]
  refine ⟨h1, ?_⟩
  unfold layS
  rw [h1, if_neg (by decide)]
theorem layE_ok {l : Lo} {ms : List Md} {n : Int} (h : bldE l ms = 0) (h2 : btw n 1 4 = true) (h3 : ms.length ≤ 8) (h4 : allM l.m ≠ []) : layE l ms n = 0 ∧ layS l ms n = layR (lstN l.m ms) n.toNat ms.length [] ([], -1) := by
  have h1 : layE l ms n = 0 := by unfold layE; rw [if_neg (by simp [h]), if_neg (by simp [h2]; omega), if_neg h4]
  refine ⟨h1, ?_⟩
  unfold layS
  rw [h1, if_pos rfl]
theorem alloc5y {w w0 : World} {o p q r s : Obj} (h : ((((w.alloc o).alloc p).alloc q).alloc r).alloc s = w0) : w0.heap[w.heap.size]? = some o ∧ w0.heap[w.heap.size + 1]? = some p ∧ w0.heap[w.heap.size + 1 + 1]? = some q ∧ w0.heap[w.heap.size + 1 + 1 + 1]? = some r ∧ w0.heap[w.heap.size + 1 + 1 + 1 + 1]? = some s ∧ Below w.heap.size w w0 := by
  obtain ⟨a1, a2, a3⟩ := alloc1 (w := w) (o := o) rfl
  obtain ⟨b1, b2, b3⟩ := alloc1 (w := w.alloc o) (o := p) rfl
  obtain ⟨c1, c2, c3⟩ := alloc1 (w := (w.alloc o).alloc p) (o := q) rfl
  obtain ⟨d1, d2, d3⟩ := alloc1 (w := ((w.alloc o).alloc p).alloc q) (o := r) rfl
  obtain ⟨f1, f2, f3⟩ := alloc1 (w := (((w.alloc o).alloc p).alloc q).alloc r) (o := s) rfl
  rw [h] at f1 f2
  rw [d3, c3, b3, a3] at f1
  rw [c3, b3, a3] at d1
  rw [b3, a3] at c1
  rw [a3] at b1
  have get : ∀ {W W' : World} {k : Nat} {x : Obj}, W.heap[k]? = some x → Below W.heap.size W W' → W'.heap[k]? = some x := fun hk hb => (hb.block _ (Array.getElem?_eq_some_iff.1 hk).1).trans hk
  exact ⟨get (get (get (get a1 b2) c2) d2) f2, get (get (get b1 c2) d2) f2, get (get c1 d2) f2, get d1 f2, f1, Below.trans (Below.trans (Below.trans (Below.trans a2 (b2.mono (by omega))) (c2.mono (by omega))) (d2.mono (by omega))) (f2.mono (by omega))⟩
/-- The boxes of Lay: modules, number, and its two results. -/
structure LzB (W : World) (mb nb bb eb : Nat) (mv : Value) (n : Int) (bv : Value) (le : Int) : Prop where
  mc : W.heap[mb]? = some (.cells #[mv] 32 (0, 0))
  nc : W.heap[nb]? = some (.cells #[.int .i64 n] 3 (0, 0))
  bc : W.heap[bb]? = some (.cells #[bv] 45 (0, 0))
  ec : W.heap[eb]? = some (.cells #[.int .i64 le] 3 (0, 0))
  ne : nb ≠ eb ∧ nb ≠ bb ∧ mb ≠ eb ∧ mb ≠ bb ∧ eb ≠ bb
theorem LzB.to {W W' : World} {mb nb bb eb : Nat} {mv bv : Value} {n le : Int} (h : LzB W mb nb bb eb mv n bv le) (hb : Below W.heap.size W W') : LzB W' mb nb bb eb mv n bv le :=
  ⟨box_to h.mc hb, box_to h.nc hb, box_to h.bc hb, box_to h.ec hb, h.ne⟩
theorem LzB.put {W : World} {mb nb bb eb : Nat} {mv bv : Value} {n le : Int} (h : LzB W mb nb bb eb mv n bv le) (bv' : Value) (le' : Int) : LzB ((W.setCell ⟨bb, 0, none⟩ bv').setCell ⟨eb, 0, none⟩ (.int .i64 le')) mb nb bb eb mv n bv' le' := by
  obtain ⟨h1, h2, h3, h4, h5⟩ := h.ne
  have hk : ∀ j, j ≠ eb → j ≠ bb → ((W.setCell ⟨bb, 0, none⟩ bv').setCell ⟨eb, 0, none⟩ (.int .i64 le')).heap[j]? = W.heap[j]? := fun j e1 e2 => (Below.heap_setCell _ _ _ _ e1).trans (Below.heap_setCell _ _ _ _ e2)
  exact ⟨(hk _ h3 h4).trans h.mc, (hk _ h1 h2).trans h.nc, (Below.heap_setCell _ _ _ _ (fun e => h5 e.symm)).trans (setCellOf h.bc _), setCellOf ((Below.heap_setCell _ _ _ _ h5).trans h.ec) _, h.ne⟩
set_option maxRecDepth 100000 in
set_option maxHeartbeats 8000000 in
theorem Lay_any (n : Int) (ms : List Md) (Am : Option Addr) (qm : Nat) (A0 A1 A2 A3 A4 A5 : Option Addr) (q0 q1 q2 q3 q4 q5 : Nat) (l : Lo) (w : World) (hs : SizedL l) (hd : SizedD ms) (h : LoA w w.heap.size A0 A1 A2 A3 A4 A5 q0 q1 q2 q3 q4 q5 l) (hm : Mods w w.heap.size (.slice Am ms.length qm) ms) (hN : l.m.err = 0 → l.m.opts.length ≤ 12) :
    Calls Tryz.prog 24 #[.agg #[.slice A0 l.m.opts.length q0, .slice A1 l.m.rules.length q1, .slice A2 l.ss.length q2, .slice A3 l.us.length q3, .slice A4 l.ps.length q4, .slice A5 l.ws.length q5], .slice Am ms.length qm, .int .i64 n] w (LayP (layS l ms n) (layE l ms n) w) := by
  obtain ⟨i0, hi0, iz0, iz1, iz2⟩ := info_parts infoInt
  have H := hide h
  have HS := hide hs
  have HM := hide hm
  have HD := hide hd
  have HNN := hide hN
  obtain ⟨er, her⟩ : ∃ z, bldE l ms = z := ⟨_, rfl⟩
  have HER := hide her
  obtain ⟨S, hS⟩ : ∃ z, layS l ms n = z := ⟨_, rfl⟩
  obtain ⟨re, hre⟩ : ∃ z, layE l ms n = z := ⟨_, rfl⟩
  rw [hS, hre]
  have HSS := hide hS
  have HRE := hide hre
  clear h hs hm hd hN hS hre
  go_enter Tryz.func24, Tryz.ntmps24
  go_upto_region 1 with (fail)
  generalize hw0 : World.alloc _ _ = w0
  obtain ⟨b0, b1, b2, b3, b4, hB0⟩ := alloc5y hw0
  obtain ⟨eb, heb⟩ : ∃ z, w.heap.size + 1 + 1 + 1 + 1 = z := ⟨_, rfl⟩
  rw [heb] at b4 ⊢
  obtain ⟨bb, hbb⟩ : ∃ z, w.heap.size + 1 + 1 + 1 = z := ⟨_, rfl⟩
  rw [hbb] at b3 ⊢
  obtain ⟨nb, hnb⟩ : ∃ z, w.heap.size + 1 + 1 = z := ⟨_, rfl⟩
  rw [hnb] at b2 ⊢
  obtain ⟨mb, hmb⟩ : ∃ z, w.heap.size + 1 = z := ⟨_, rfl⟩
  rw [hmb] at b1 ⊢
  have HZ0 : Hid (LzB w0 mb nb bb eb (.slice Am ms.length qm) n (.slice none 0 0) 0) := ⟨b1, b2, b3, b4, by omega, by omega, by omega, by omega, by omega⟩
  have HLO : Hid (w.heap.size ≤ bb ∧ w.heap.size ≤ eb) := ⟨by omega, by omega⟩
  have HL0 : Hid (LoBox w0 w.heap.size A0 A1 A2 A3 A4 A5 q0 q1 q2 q3 q4 q5 l) := b0
  have HB0 := hide hB0
  have e1 : ¬ eb = bb := HZ0.out.ne.2.2.2.2
  have e2 : ¬ bb = eb := fun h => e1 h.symm
  have c0 := cellOf b0 0; have c1 := cellOf b0 1; have c2 := cellOf b0 2; have c3 := cellOf b0 3; have c4 := cellOf b0 4; have c5 := cellOf b0 5
  have hlb := box_lt b0
  have m0 := cellOf b1 0
  have lm := box_lt b1
  clear hw0 b0 b1 b2 b3 b4 hB0 heb hbb hnb hmb
  by_cases h0 : er = 0
  case neg =>
    have hp := layE_err (l := l) (ms := ms) (n := n) (by rw [her]; exact h0)
    obtain rfl : S = ([], 0) := HSS.out.symm.trans hp.2
    obtain rfl : re = er := HRE.out.symm.trans (hp.1.trans her)
    have hz1 : (re != 0) = true := by simpa using h0
    clear her h0 hp
    go_wp2_with (go_at_call 26; refine (bCheck_any ms Am qm A0 A1 A2 A3 A4 A5 q0 q1 q2 q3 q4 q5 l _ HS.out HD.out (H.out.up HB0.out) (HM.out.up HB0.out)).mono ?_; rw [HER.out]; rintro e w1 ⟨rfl, hB1⟩; have HZ1 := hide (HZ0.out.to hB1); have HL1 := hide (HL0.out.to hB1); have HB1 := hide (Below.to HB0.out hB1 (Nat.le_refl _)); clear hB1 c0 c1 c2 c3 c4 c5 hlb m0 lm; have y0 := cellOf HZ1.out.bc 0; have y1 := unfrozenOf HZ1.out.bc 0; have ly := box_lt HZ1.out.bc; have x0 := cellOf HZ1.out.ec 0; have x1 := unfrozenOf HZ1.out.ec 0; have lx := box_lt HZ1.out.ec)
    have hBv := Below.setCell (Below.setCell HB1.out HLO.out.1 (p := ⟨bb, 0, none⟩) (.slice none 0 0)) HLO.out.2 (p := ⟨eb, 0, none⟩) (.int .i64 (0))
    have hv := HZ1.out.put (.slice none 0 0) (0)
    generalize hwv : World.setCell _ _ _ = wv at hBv hv ⊢
    have HBV := hide hBv
    have t0 := cellOf hv.bc 0
    have lt0 := box_lt hv.bc
    have t1 := cellOf hv.ec 0
    have lt1 := box_lt hv.ec
    clear hwv hv hBv y0 y1 ly x0 x1 lx
    refine bodyPost_ret (v := .tuple #[.slice none 0 0, .int .i64 (0), .int .i64 (re)]) ?_ rfl ⟨_, rfl, Sl.nil _ _ _ _, HBV.out⟩
    rw [results_cct rfl]
    go_simp
  case pos =>
  subst h0
  have okm := bldE_ok her
  have hms60 := okm.n
  have HMO := hide okm.lo.m
  have hN := HNN.out okm.lo.m
  have n0 : ((0 : Int) != 0) = false := by decide
  have HER0 : Hid (bldE l ms = 0) := her
  clear okm
  obtain ⟨z, hz⟩ : ∃ z, btw n 1 4 = z := ⟨_, rfl⟩
  have HZZ := hide hz
  by_cases hbd : z = false ∨ 8 < ms.length
  case pos =>
    have hp := layE_brd (l := l) (ms := ms) (n := n) her (by rw [hz]; exact hbd)
    obtain rfl : S = ([], 0) := HSS.out.symm.trans hp.2
    obtain rfl : re = 122 := HRE.out.symm.trans hp.1
    clear hz hp her
    cases z with
    | false =>
      clear hbd
      go_wp2_with (first
        | (go_at_call 26; refine (bCheck_any ms Am qm A0 A1 A2 A3 A4 A5 q0 q1 q2 q3 q4 q5 l _ HS.out HD.out (H.out.up HB0.out) (HM.out.up HB0.out)).mono ?_; rw [HER.out]; rintro e w1 ⟨rfl, hB1⟩; have HZ1 := hide (HZ0.out.to hB1); have HL1 := hide (HL0.out.to hB1); have HB1 := hide (Below.to HB0.out hB1 (Nat.le_refl _)); clear hB1 c0 c1 c2 c3 c4 c5 hlb m0 lm; have nc0 := cellOf HZ1.out.nc 0; have lnc := box_lt HZ1.out.nc; have y0 := cellOf HZ1.out.bc 0; have y1 := unfrozenOf HZ1.out.bc 0; have ly := box_lt HZ1.out.bc; have x0 := cellOf HZ1.out.ec 0; have x1 := unfrozenOf HZ1.out.ec 0; have lx := box_lt HZ1.out.ec)
        | (go_at_call 72; refine (bwithin_any _ _ _ _ _ HZZ.out).mono ?_; rintro e w2 ⟨rfl, rfl⟩))
      clear nc0 lnc
      have hBv := Below.setCell (Below.setCell HB1.out HLO.out.1 (p := ⟨bb, 0, none⟩) (.slice none 0 0)) HLO.out.2 (p := ⟨eb, 0, none⟩) (.int .i64 (0))
      have hv := HZ1.out.put (.slice none 0 0) (0)
      generalize hwv : World.setCell _ _ _ = wv at hBv hv ⊢
      have HBV := hide hBv
      have t0 := cellOf hv.bc 0
      have lt0 := box_lt hv.bc
      have t1 := cellOf hv.ec 0
      have lt1 := box_lt hv.ec
      clear hwv hv hBv y0 y1 ly x0 x1 lx
      refine bodyPost_ret (v := .tuple #[.slice none 0 0, .int .i64 (0), .int .i64 (122)]) ?_ rfl ⟨_, rfl, Sl.nil _ _ _ _, HBV.out⟩
      rw [results_cct rfl]
      go_simp
    | true =>
      have h8 : (8 : Int) < (ms.length : Int) := by rcases hbd with h | h; cases h; omega
      clear hbd
      go_wp2_with (first
        | (go_at_call 26; refine (bCheck_any ms Am qm A0 A1 A2 A3 A4 A5 q0 q1 q2 q3 q4 q5 l _ HS.out HD.out (H.out.up HB0.out) (HM.out.up HB0.out)).mono ?_; rw [HER.out]; rintro e w1 ⟨rfl, hB1⟩; have HZ1 := hide (HZ0.out.to hB1); have HL1 := hide (HL0.out.to hB1); have HB1 := hide (Below.to HB0.out hB1 (Nat.le_refl _)); clear hB1 c0 c1 c2 c3 c4 c5 hlb m0 lm; have nc0 := cellOf HZ1.out.nc 0; have lnc := box_lt HZ1.out.nc; have m0 := cellOf HZ1.out.mc 0; have lm := box_lt HZ1.out.mc; have y0 := cellOf HZ1.out.bc 0; have y1 := unfrozenOf HZ1.out.bc 0; have ly := box_lt HZ1.out.bc; have x0 := cellOf HZ1.out.ec 0; have x1 := unfrozenOf HZ1.out.ec 0; have lx := box_lt HZ1.out.ec)
        | (go_at_call 72; refine (bwithin_any _ _ _ _ _ HZZ.out).mono ?_; rintro e w2 ⟨rfl, rfl⟩))
      clear nc0 lnc m0 lm
      have hBv := Below.setCell (Below.setCell HB1.out HLO.out.1 (p := ⟨bb, 0, none⟩) (.slice none 0 0)) HLO.out.2 (p := ⟨eb, 0, none⟩) (.int .i64 (0))
      have hv := HZ1.out.put (.slice none 0 0) (0)
      generalize hwv : World.setCell _ _ _ = wv at hBv hv ⊢
      have HBV := hide hBv
      have t0 := cellOf hv.bc 0
      have lt0 := box_lt hv.bc
      have t1 := cellOf hv.ec 0
      have lt1 := box_lt hv.ec
      clear hwv hv hBv y0 y1 ly x0 x1 lx
      refine bodyPost_ret (v := .tuple #[.slice none 0 0, .int .i64 (0), .int .i64 (122)]) ?_ rfl ⟨_, rfl, Sl.nil _ _ _ _, HBV.out⟩
      rw [results_cct rfl]
      go_simp
  case neg =>
  have hzt : z = true := by cases z; exact absurd (.inl rfl) hbd; rfl
  subst hzt
  have h8 : ms.length ≤ 8 := by omega
  have h8n : ¬ (8 : Int) < (ms.length : Int) := by omega
  have hn14 := btw_iff.1 hz
  obtain ⟨nn, hnn⟩ : ∃ nn : Nat, n = (nn : Int) := ⟨n.toNat, by omega⟩
  subst hnn
  have hn4 : nn ≤ 4 := by omega
  clear hbd hz hn14
  have hp256 : 2 ^ ms.length ≤ 2 ^ 8 := Nat.pow_le_pow_right (by omega) h8
  obtain ⟨T, hT⟩ : ∃ z, 2 ^ ms.length = z := ⟨_, rfl⟩
  have HT := hide hT
  have hT0 : 0 < T := by rw [← hT]; exact Nat.two_pow_pos _
  have hT256 : T ≤ 256 := by rw [← hT]; exact hp256
  have hwr : IntKind.i64.wrap (2 ^ ms.length) = (T : Int) := by
    have h1 : ((2 : Int) ^ ms.length) = ((2 ^ ms.length : Nat) : Int) := by push_cast; rfl
    rw [h1, hT, IntWalk.i64_in _ (by omega)]
  have il0 : (0 : Int) ≤ (ms.length : Int) := by omega
  have il64 : (ms.length : Int) ≤ 64 := by omega
  clear hp256 hT
  go_upto_region 7 with (first
    | (go_at_call 26; refine (bCheck_any ms Am qm A0 A1 A2 A3 A4 A5 q0 q1 q2 q3 q4 q5 l _ HS.out HD.out (H.out.up HB0.out) (HM.out.up HB0.out)).mono ?_; rw [HER.out]; rintro e w1 ⟨rfl, hB1⟩; have HZ1 := hide (HZ0.out.to hB1); have HL1 := hide (HL0.out.to hB1); have HB1 := hide (Below.to HB0.out hB1 (Nat.le_refl _)); clear hB1 c0 c1 c2 c3 c4 c5 hlb m0 lm; have nc0 := cellOf HZ1.out.nc 0; have lnc := box_lt HZ1.out.nc; have m0 := cellOf HZ1.out.mc 0; have lm := box_lt HZ1.out.mc)
    | (go_at_call 72; refine (bwithin_any _ _ _ _ _ HZZ.out).mono ?_; rintro e w2 ⟨rfl, rfl⟩))
  clear nc0 lnc m0 lm
  generalize hw2 : World.alloc _ _ = w2
  obtain ⟨hb2, hB2, hs2⟩ := alloc1 hw2
  obtain ⟨tb, htb⟩ : ∃ z, w1.heap.size = z := ⟨_, rfl⟩
  have HTB := hide htb
  rw [htb] at hb2 ⊢
  have HT2 : Hid (w2.heap[tb]? = some (.cells #[.slice none 0 0] 45 (0, 0))) := hb2
  have HW2 := hide hB2
  have HS2 : Hid (w2.heap.size = tb + 1) := by show _ = _; omega
  have HZ2 := hide (HZ1.out.to hB2)
  have m0 := cellOf HZ2.out.mc 0
  have lm := box_lt HZ2.out.mc
  clear hw2 hb2 hB2 hs2 htb
  go_wp2_with fail
  clear m0 lm hwr
  by_cases hne : allM l.m = []
  case pos =>
    have hp := layE_none (l := l) (ms := ms) (n := nn) HER0.out HZZ.out h8 hne
    obtain rfl : S = ([], 0) := HSS.out.symm.trans hp.2
    obtain rfl : re = 12 := HRE.out.symm.trans hp.1
    have HNE := hide hne
    clear hp hne
    obtain ⟨W2, hW2⟩ : ∃ wo : World, wo = w2 := ⟨_, rfl⟩
    subst hW2
    go_loopw [11, 12, 13, 32] (fun _ _ _ i wr => i = .int .i64 (0 : Nat) ∧ Hid (wr = W2)) (fun _ _ _ _ _ => 0)
    case atStart => exact ⟨rfl, rfl⟩
    case round =>
      obtain ⟨rfl, HWE⟩ := hrel
      have hwe := HWE.out
      subst hwe
      clear HWE
      have hk1 : (0 : Int) < (T : Int) := by omega
      have HL2 := hide (HL1.out.to HW2.out)
      have HB2 := hide (Below.to HB1.out HW2.out (Nat.le_refl _))
      go_upto_region 10 with (fail)
      generalize hw3 : World.alloc _ _ = w3
      obtain ⟨hb3, hB3, hs3⟩ := alloc1 hw3
      obtain ⟨sb, hsb⟩ : ∃ z, wr.heap.size = z := ⟨_, rfl⟩
      rw [hsb] at hb3 ⊢
      have HSB : Hid (w3.heap[sb]? = some (.cells #[.int .i64 ((0 : Nat) : Int)] 3 (0, 0))) := hb3
      have HZ3 := hide (HZ2.out.to hB3)
      have HB3 := hide (Below.to HB2.out hB3 (Nat.le_refl _))
      have d0 := cellOf (HL2.out.to hB3) 0; have d1 := cellOf (HL2.out.to hB3) 1; have d2 := cellOf (HL2.out.to hB3) 2; have d3 := cellOf (HL2.out.to hB3) 3; have d4 := cellOf (HL2.out.to hB3) 4; have d5 := cellOf (HL2.out.to hB3) 5
      have ld := box_lt (HL2.out.to hB3)
      have m0 := cellOf HZ3.out.mc 0
      have lm := box_lt HZ3.out.mc
      have hlo := loadL_none ms Am qm (.pointer (some ⟨sb, 0, none⟩)) A0 A1 A2 A3 A4 A5 q0 q1 q2 q3 q4 q5 l w3 HS.out (H.out.up HB3.out) (HM.out.up HB3.out) HER0.out hN HNE.out (fun i W hi hW => by
        have h1 := lay1_any 0 i sb W (box_to HSB.out hW) (by omega) (by decide)
        rw [bit_none (s := 0) (n := 0) (by decide) (Nat.zero_le _)] at h1
        exact h1)
      have HLOD := hide hlo
      clear hw3 hb3 hB3 hs3 hsb hlo
      go_wp2_with (go_at_call 73; refine HLOD.out.mono ?_; rintro e w4 ⟨rfl, hB4⟩; have HZ4 := hide (HZ3.out.to hB4); have HB4 := hide (Below.to HB3.out hB4 (Nat.le_refl _)); clear hB4 d0 d1 d2 d3 d4 d5 ld m0 lm; have y0 := cellOf HZ4.out.bc 0; have y1 := unfrozenOf HZ4.out.bc 0; have ly := box_lt HZ4.out.bc; have x0 := cellOf HZ4.out.ec 0; have x1 := unfrozenOf HZ4.out.ec 0; have lx := box_lt HZ4.out.ec)
      have hBv := Below.setCell (Below.setCell HB4.out HLO.out.1 (p := ⟨bb, 0, none⟩) (.slice none 0 0)) HLO.out.2 (p := ⟨eb, 0, none⟩) (.int .i64 (0))
      have hv := HZ4.out.put (.slice none 0 0) (0)
      generalize hwv : World.setCell _ _ _ = wv at hBv hv ⊢
      have HBV := hide hBv
      have t0 := cellOf hv.bc 0
      have lt0 := box_lt hv.bc
      have t1 := cellOf hv.ec 0
      have lt1 := box_lt hv.ec
      clear hwv hv hBv y0 y1 ly x0 x1 lx
      refine bodyPost_ret (v := .tuple #[.slice none 0 0, .int .i64 (0), .int .i64 (12)]) ?_ rfl ⟨_, rfl, Sl.nil _ _ _ _, HBV.out⟩
      rw [results_cct rfl]
      go_simp
  case neg =>
  have hp := layE_ok (l := l) (ms := ms) (n := nn) HER0.out HZZ.out h8 hne
  have hSS : layR (lstN l.m ms) nn ms.length [] ([], -1) = S := by rw [← HSS.out, hp.2]; rfl
  obtain rfl : re = 0 := HRE.out.symm.trans hp.1
  have HSR := hide hSS
  have HNE := hide hne
  clear hp hne hSS
  obtain ⟨W2, hW2⟩ : ∃ wo : World, wo = w2 := ⟨_, rfl⟩
  subst hW2
  have HB2 := hide (Below.to HB1.out HW2.out (Nat.le_refl _))
  have HL2 := hide (HL1.out.to HW2.out)
  go_loopw [11, 12, 13, 32] (fun _ _ _ i wr => ∃ (k : Nat) (lv : Value) (Ls : List Nat), i = .int .i64 k ∧ k ≤ T ∧ Ls.length = k ∧ Hid (rngL k (ldS l.m ms) = Ls) ∧ Hid (wr.heap[tb]? = some (.cells #[lv] 45 (0, 0))) ∧ Hid (wr.ownsRow (tb + 1) 3 1 lv Ls.length (nvL Ls)) ∧ Hid (Below tb W2 wr)) (fun _ _ _ i _ => T - (intOf i).toNat)
  case atStart => exact ⟨0, _, [], rfl, Nat.zero_le _, rfl, rfl, HT2.out, World.ownsRow_nil _ _ _ _, Below.refl _ _⟩
  case round =>
    obtain ⟨k, lv, Ls, rfl, hk, hLk, HLS, HTB2, HOW, HWR⟩ := hrel
    have HZr : Hid (LzB wr mb nb bb eb (.slice Am ms.length qm) (nn : Nat) (.slice none 0 0) 0) := HZ1.out.to (by rw [HTB.out]; exact Below.trans (by have h1 := HW2.out; rw [HTB.out] at h1; exact h1) HWR.out)
    have HLr : Hid (LoBox wr w.heap.size A0 A1 A2 A3 A4 A5 q0 q1 q2 q3 q4 q5 l) := HL1.out.to (by rw [HTB.out]; exact Below.trans (by have h1 := HW2.out; rw [HTB.out] at h1; exact h1) HWR.out)
    have HBr : Hid (Below w.heap.size w wr) := Below.to HB1.out (by rw [HTB.out]; exact Below.trans (by have h1 := HW2.out; rw [HTB.out] at h1; exact h1) HWR.out) (Nat.le_refl _)
    obtain ⟨Al, ql, hlv⟩ := owns_form HOW.out
    subst hlv
    have hLn : Ls.length ≤ 300 := by omega
    have HLK := hide hLk
    clear hLk
    by_cases hkT : k < T
    case neg =>
      have hk1 : ¬ (k : Int) < (T : Int) := by omega
      obtain rfl : k = T := by omega
      have hLT : Ls.length = 2 ^ ms.length := HLK.out.trans HT.out.symm
      have hlv : ∀ s, s < 2 ^ ms.length → Ls.getD s 0 = ldS l.m ms s := fun s hs => by
        rw [← HLS.out]
        exact rngL_at (by have := HT.out; omega)
      have HLT := hide hLT
      have HLV := hide hlv
      have x0 := cellOf HZr.out.ec 0
      have x1 := unfrozenOf HZr.out.ec 0
      have lx := box_lt HZr.out.ec
      have hebt : eb < tb := by rw [← HTB.out]; exact box_lt HZ1.out.ec
      have hbbt : bb < tb := by rw [← HTB.out]; exact box_lt HZ1.out.bc
      have hnbt : nb < tb := by rw [← HTB.out]; exact box_lt HZ1.out.nc
      have hmbt : mb < tb := by rw [← HTB.out]; exact box_lt HZ1.out.mc
      have htbw := box_lt HTB2.out
      clear hLT hlv hk hkT
      go_upto_region 16 with (fail)
      have hb4 := Below.setCell HBr.out HLO.out.2 (p := ⟨eb, 0, none⟩) (.int .i64 (-1))
      have hk4 : ∀ j, j ≠ eb → (wr.setCell ⟨eb, 0, none⟩ (.int .i64 (-1))).heap[j]? = wr.heap[j]? := fun j hj => Below.heap_setCell _ _ _ _ hj
      have hc4 := setCellOf HZr.out.ec (.int .i64 (-1)) (i := 0)
      have hs4 : (wr.setCell ⟨eb, 0, none⟩ (.int .i64 (-1))).heap.size = wr.heap.size := by simp [World.setCell]
      generalize hwv : World.setCell _ _ _ = w4 at hb4 hk4 hc4 hs4 ⊢
      have HB4 := hide hb4
      have HK4 := hide hk4
      have HC4 := hide hc4
      have HS4 := hide hs4
      clear hwv hb4 hk4 hc4 hs4 x0 x1 lx
      go_upto_region 17 with (fail)
      generalize hw5 : World.alloc _ _ = w5
      obtain ⟨hb5, hB5, hs5⟩ := alloc1 hw5
      obtain ⟨xb, hxb⟩ : ∃ z, w4.heap.size = z := ⟨_, rfl⟩
      have HXB := hide hxb
      rw [hxb] at hb5 ⊢
      have y0 := cellOf hb5 0
      have y1 := unfrozenOf hb5 0
      have ly := box_lt hb5
      have HX5 := hide hb5
      have HB5 := hide hB5
      clear hw5 hb5 hB5 hs5 hxb
      go_upto_region 18 with (fail)
      have hc6 := setCellOf HX5.out (i := 0) (.func (.func 78) #[] #[.pointer (some ⟨mb, 0, none⟩), .pointer (some ⟨tb, 0, none⟩), .pointer (some ⟨eb, 0, none⟩), .pointer (some ⟨bb, 0, none⟩), .pointer (some ⟨nb, 0, none⟩), .pointer (some ⟨xb, 0, none⟩)])
      have hk6 : ∀ j, j < xb → (w5.setCell ⟨xb, 0, none⟩ (.func (.func 78) #[] #[.pointer (some ⟨mb, 0, none⟩), .pointer (some ⟨tb, 0, none⟩), .pointer (some ⟨eb, 0, none⟩), .pointer (some ⟨bb, 0, none⟩), .pointer (some ⟨nb, 0, none⟩), .pointer (some ⟨xb, 0, none⟩)])).heap[j]? = w4.heap[j]? := fun j hj => (Below.heap_setCell _ _ _ _ (show j ≠ xb by omega)).trans (HB5.out.block j (by have := HXB.out; omega))
      have hb6 := Below.setCell (Below.to HB4.out HB5.out (Nat.le_refl _)) (show w.heap.size ≤ xb by have h1 := HB4.out.size; have h2 := HXB.out; omega) (p := ⟨xb, 0, none⟩) (.func (.func 78) #[] #[.pointer (some ⟨mb, 0, none⟩), .pointer (some ⟨tb, 0, none⟩), .pointer (some ⟨eb, 0, none⟩), .pointer (some ⟨bb, 0, none⟩), .pointer (some ⟨nb, 0, none⟩), .pointer (some ⟨xb, 0, none⟩)])
      generalize hwv : World.setCell _ _ _ = w6 at hc6 hk6 hb6 ⊢
      have hxw6 := box_lt hc6
      have hxwr : xb = wr.heap.size := HXB.out.symm.trans HS4.out
      have hLY : LyAt w w6 w6.heap.size mb tb eb bb nb xb (.slice Am ms.length qm) (.slice Al Ls.length ql) nn Ls (-1) (.slice none 0 0) [] := by
        have kk : ∀ j, j < tb + 1 → j ≠ eb → w6.heap[j]? = wr.heap[j]? := fun j hj hne => (hk6 j (by omega)).trans (HK4.out j hne)
        have hne := HZr.out.ne
        refine ⟨hb6, (kk _ (by omega) hne.2.2.1).trans HZr.out.mc, (kk _ (by omega) (by omega)).trans HTB2.out, (hk6 _ (by omega)).trans HC4.out, (kk _ (by omega) (by omega)).trans HZr.out.bc, (kk _ (by omega) hne.1).trans HZr.out.nc, hc6, ownsRow_same7 (owns_base HOW.out (Nat.zero_le _)) fun j hj => ?_, World.ownsRow_nil _ _ _ _, fun j hj => ?_, ⟨by omega, by omega, by omega, by omega, by omega, by omega⟩, ⟨⟨hne.2.2.1, by omega, hne.1, by omega⟩, ⟨hne.2.2.2.1, by omega, hne.2.1, by omega⟩, hne.2.2.2.2⟩, ⟨HLO.out.2, HLO.out.1⟩, Nat.le_refl _⟩
        · have h1 := HOW.out.lt j hj
          exact (hk6 j (by omega)).trans (HK4.out j (by omega))
        · have h1 := HOW.out.lt j hj
          exact ⟨by omega, by omega, by omega⟩
      have hcall := layN_any l.m ms Am qm nn hn4 h8 Ls HLT.out HLV.out w w6.heap.size mb tb eb bb nb xb Al ql ms.length [] (fun _ => 0) (.slice none 0 0) (-1) (.slice none 0 0) [] w6 hLY (by simp) SetP.nil (World.ownsRow_nil _ _ _ _) (fun g hg => by cases hg)
      rw [HSR.out] at hcall
      obtain ⟨S1, hS1⟩ : ∃ z, S.1 = z := ⟨_, rfl⟩
      obtain ⟨S2, hS2⟩ : ∃ z, S.2 = z := ⟨_, rfl⟩
      have HS1 := hide hS1
      have HS2' := hide hS2
      have HCALL := hide hcall
      have z0 := cellOf hc6 0
      clear hwv hk6 hb6 hc6 y0 y1 ly hLY hcall hS1 hS2 hxwr
      go_upto_region 19 with (go_at_call 78; refine HCALL.out.mono ?_; rintro e w7 ⟨ov', rfl, hL7, _, _, _⟩; rw [HS1.out, HS2'.out] at hL7; obtain ⟨Ao, qo, ho⟩ := owns_form hL7.own; subst ho; have HL7 := hide hL7; clear hL7)
      have y0 := cellOf HL7.out.bc 0
      have y1 := unfrozenOf HL7.out.bc 0
      have ly := box_lt HL7.out.bc
      have x0 := cellOf HL7.out.ec 0
      have x1 := unfrozenOf HL7.out.ec 0
      have lx := box_lt HL7.out.ec
      have hKeep : Hid (Keeps (fun k => k = bb ∨ k = eb) w7 w7.drew) := (Keeps.refl _ _).drew
      refine wp_region_held_drew (S := (fun w' => Keeps (fun k => k = bb ∨ k = eb) w7 w')) (by kernel_rfl) ?_ (fun hHeld => ?_)
      · try dsimp only
        (repeat (first | (with_reducible exact Keeps.refl _ _) | exact hKeep.out | exact hKeepS.out _ | assumption | (with_reducible refine Keeps.drew ?_) | (with_reducible refine Keeps.drewN ?_ _) | (with_reducible refine Keeps.alloc ?_ _) | (with_reducible refine Keeps.setCell ?_ (.inl (by first | exact .inl rfl | exact .inr rfl)) _)))
      refine wpAnyH_ready (rs := [0, 1]) (by kernel_rfl) (by simp) ?_
      refine (AllReadyH.cons rfl (fun K hK => ?o1_1_0) (AllReadyH.cons rfl (fun K hK => ?o1_1_1) AllReadyH.nil))
      case' o1_1_0 =>
        go_simp
        refine hK.out _ _ ?_ (fun hNext => ?_)
        · try dsimp only
          (repeat (first | (with_reducible exact Keeps.refl _ _) | exact hKeep.out | exact hKeepS.out _ | assumption | (with_reducible refine Keeps.drew ?_) | (with_reducible refine Keeps.drewN ?_ _) | (with_reducible refine Keeps.alloc ?_ _) | (with_reducible refine Keeps.setCell ?_ (.inl (by first | exact .inl rfl | exact .inr rfl)) _)))
        clear hK K hHeld
        have hHeld := hNext
        clear hNext
        (try dsimp only at hHeld)
        try simp only [zX]
        refine wpAnyH_ready (rs := [1, 2]) (by kernel_rfl) (by simp) ?_
        refine (AllReadyH.cons rfl (fun K hK => ?o1_2_1) (AllReadyH.cons rfl (fun K hK => ?o1_2_2) AllReadyH.nil))
        case' o1_2_1 =>
          go_simp
          refine hK.out _ _ ?_ (fun hNext => ?_)
          · try dsimp only
            (repeat (first | (with_reducible exact Keeps.refl _ _) | exact hKeep.out | exact hKeepS.out _ | assumption | (with_reducible refine Keeps.drew ?_) | (with_reducible refine Keeps.drewN ?_ _) | (with_reducible refine Keeps.alloc ?_ _) | (with_reducible refine Keeps.setCell ?_ (.inl (by first | exact .inl rfl | exact .inr rfl)) _)))
          clear hK K hHeld
          have hHeld := hNext
          clear hNext
          (try dsimp only at hHeld)
          try simp only [zX]
          refine wpAnyH_ready (rs := [2]) (by kernel_rfl) (by simp) ?_
          refine (AllReadyH.cons rfl (fun K hK => ?_) AllReadyH.nil)
          go_simp
          refine hK.out _ _ ?_ (fun hNext => ?_)
          · try dsimp only
            (repeat (first | (with_reducible exact Keeps.refl _ _) | exact hKeep.out | exact hKeepS.out _ | assumption | (with_reducible refine Keeps.drew ?_) | (with_reducible refine Keeps.drewN ?_ _) | (with_reducible refine Keeps.alloc ?_ _) | (with_reducible refine Keeps.setCell ?_ (.inl (by first | exact .inl rfl | exact .inr rfl)) _)))
          clear hK K hHeld
          have hHeld := hNext
          clear hNext
          (try dsimp only at hHeld)
          try simp only [zX]
          refine wpAnyH_ready (rs := [3]) (by kernel_rfl) (by simp) ?_
          refine (AllReadyH.cons rfl (fun K hK => ?_) AllReadyH.nil)
          go_simp
          refine hK.out _ _ ?_ (fun hNext => ?_)
          · try dsimp only
            (repeat (first | (with_reducible exact Keeps.refl _ _) | exact hKeep.out | exact hKeepS.out _ | assumption | (with_reducible refine Keeps.drew ?_) | (with_reducible refine Keeps.drewN ?_ _) | (with_reducible refine Keeps.alloc ?_ _) | (with_reducible refine Keeps.setCell ?_ (.inl (by first | exact .inl rfl | exact .inr rfl)) _)))
          clear hK K hHeld
          have hHeld := hNext
          clear hNext
          (try dsimp only at hHeld)
          try simp only [zX]
          refine wpAnyH_take (i := 4) (v := ?v1_5) rfl (by kernel_rfl) (by kernel_rfl) (by kernel_rfl) (fun _ _ _ h => h) (Or.inl ⟨by rfl, ?y1_5⟩) (by assumption) ?r1_5
          case' y1_5 => (intro w hSw; (try dsimp only at hSw); (try have hlS := HLK.out _ hSw); have hcS := kcell2 hSw; clear hSw; go_simp; try with_reducible rfl)
          try simp only [zX]
          refine wpAnyH_done (by kernel_rfl) ?_ _
        case' o1_2_2 =>
          go_simp
          refine hK.out _ _ ?_ (fun hNext => ?_)
          · try dsimp only
            (repeat (first | (with_reducible exact Keeps.refl _ _) | exact hKeep.out | exact hKeepS.out _ | assumption | (with_reducible refine Keeps.drew ?_) | (with_reducible refine Keeps.drewN ?_ _) | (with_reducible refine Keeps.alloc ?_ _) | (with_reducible refine Keeps.setCell ?_ (.inl (by first | exact .inl rfl | exact .inr rfl)) _)))
          clear hK K hHeld
          have hHeld := hNext
          clear hNext
          (try dsimp only at hHeld)
          try simp only [zX]
          refine wpAnyH_ready (rs := [1]) (by kernel_rfl) (by simp) ?_
          refine (AllReadyH.cons rfl (fun K hK => ?_) AllReadyH.nil)
          go_simp
          refine hK.out _ _ ?_ (fun hNext => ?_)
          · try dsimp only
            (repeat (first | (with_reducible exact Keeps.refl _ _) | exact hKeep.out | exact hKeepS.out _ | assumption | (with_reducible refine Keeps.drew ?_) | (with_reducible refine Keeps.drewN ?_ _) | (with_reducible refine Keeps.alloc ?_ _) | (with_reducible refine Keeps.setCell ?_ (.inl (by first | exact .inl rfl | exact .inr rfl)) _)))
          clear hK K hHeld
          have hHeld := hNext
          clear hNext
          (try dsimp only at hHeld)
          try simp only [zX]
          refine wpAnyH_ready (rs := [3]) (by kernel_rfl) (by simp) ?_
          refine (AllReadyH.cons rfl (fun K hK => ?_) AllReadyH.nil)
          go_simp
          refine hK.out _ _ ?_ (fun hNext => ?_)
          · try dsimp only
            (repeat (first | (with_reducible exact Keeps.refl _ _) | exact hKeep.out | exact hKeepS.out _ | assumption | (with_reducible refine Keeps.drew ?_) | (with_reducible refine Keeps.drewN ?_ _) | (with_reducible refine Keeps.alloc ?_ _) | (with_reducible refine Keeps.setCell ?_ (.inl (by first | exact .inl rfl | exact .inr rfl)) _)))
          clear hK K hHeld
          have hHeld := hNext
          clear hNext
          (try dsimp only at hHeld)
          try simp only [zX]
          refine wpAnyH_take (i := 4) (v := ?v1_8) rfl (by kernel_rfl) (by kernel_rfl) (by kernel_rfl) (fun _ _ _ h => h) (Or.inl ⟨by rfl, ?y1_8⟩) (by assumption) ?r1_8
          case' y1_8 => (intro w hSw; (try dsimp only at hSw); (try have hlS := HLK.out _ hSw); have hcS := kcell2 hSw; clear hSw; go_simp; try with_reducible rfl)
          try simp only [zX]
          refine wpAnyH_done (by kernel_rfl) ?_ _
      case' o1_1_1 =>
        go_simp
        refine hK.out _ _ ?_ (fun hNext => ?_)
        · try dsimp only
          (repeat (first | (with_reducible exact Keeps.refl _ _) | exact hKeep.out | exact hKeepS.out _ | assumption | (with_reducible refine Keeps.drew ?_) | (with_reducible refine Keeps.drewN ?_ _) | (with_reducible refine Keeps.alloc ?_ _) | (with_reducible refine Keeps.setCell ?_ (.inl (by first | exact .inl rfl | exact .inr rfl)) _)))
        clear hK K hHeld
        have hHeld := hNext
        clear hNext
        (try dsimp only at hHeld)
        try simp only [zX]
        refine wpAnyH_ready (rs := [0]) (by kernel_rfl) (by simp) ?_
        refine (AllReadyH.cons rfl (fun K hK => ?_) AllReadyH.nil)
        go_simp
        refine hK.out _ _ ?_ (fun hNext => ?_)
        · try dsimp only
          (repeat (first | (with_reducible exact Keeps.refl _ _) | exact hKeep.out | exact hKeepS.out _ | assumption | (with_reducible refine Keeps.drew ?_) | (with_reducible refine Keeps.drewN ?_ _) | (with_reducible refine Keeps.alloc ?_ _) | (with_reducible refine Keeps.setCell ?_ (.inl (by first | exact .inl rfl | exact .inr rfl)) _)))
        clear hK K hHeld
        have hHeld := hNext
        clear hNext
        (try dsimp only at hHeld)
        try simp only [zX]
        refine wpAnyH_ready (rs := [2]) (by kernel_rfl) (by simp) ?_
        refine (AllReadyH.cons rfl (fun K hK => ?_) AllReadyH.nil)
        go_simp
        refine hK.out _ _ ?_ (fun hNext => ?_)
        · try dsimp only
          (repeat (first | (with_reducible exact Keeps.refl _ _) | exact hKeep.out | exact hKeepS.out _ | assumption | (with_reducible refine Keeps.drew ?_) | (with_reducible refine Keeps.drewN ?_ _) | (with_reducible refine Keeps.alloc ?_ _) | (with_reducible refine Keeps.setCell ?_ (.inl (by first | exact .inl rfl | exact .inr rfl)) _)))
        clear hK K hHeld
        have hHeld := hNext
        clear hNext
        (try dsimp only at hHeld)
        try simp only [zX]
        refine wpAnyH_ready (rs := [3]) (by kernel_rfl) (by simp) ?_
        refine (AllReadyH.cons rfl (fun K hK => ?_) AllReadyH.nil)
        go_simp
        refine hK.out _ _ ?_ (fun hNext => ?_)
        · try dsimp only
          (repeat (first | (with_reducible exact Keeps.refl _ _) | exact hKeep.out | exact hKeepS.out _ | assumption | (with_reducible refine Keeps.drew ?_) | (with_reducible refine Keeps.drewN ?_ _) | (with_reducible refine Keeps.alloc ?_ _) | (with_reducible refine Keeps.setCell ?_ (.inl (by first | exact .inl rfl | exact .inr rfl)) _)))
        clear hK K hHeld
        have hHeld := hNext
        clear hNext
        (try dsimp only at hHeld)
        try simp only [zX]
        refine wpAnyH_take (i := 4) (v := ?v1_12) rfl (by kernel_rfl) (by kernel_rfl) (by kernel_rfl) (fun _ _ _ h => h) (Or.inl ⟨by rfl, ?y1_12⟩) (by assumption) ?r1_12
        case' y1_12 => (intro w hSw; (try dsimp only at hSw); (try have hlS := HLK.out _ hSw); have hcS := kcell2 hSw; clear hSw; go_simp; try with_reducible rfl)
        try simp only [zX]
        refine wpAnyH_done (by kernel_rfl) ?_ _
      all_goals
        generalize hwv : World.drew _ = wv at hHeld ⊢
        have hb8 : wv.heap[bb]? = some (.cells #[.slice Ao S1.length qo] 45 (0, 0)) := by
          subst hwv
          first
            | exact (Below.heap_setCell _ _ _ _ e2).trans (setCellOf HL7.out.bc _)
            | exact setCellOf ((Below.heap_setCell _ _ _ _ e2).trans HL7.out.bc) _
        have hb9 : wv.heap[eb]? = some (.cells #[.int .i64 S2] 3 (0, 0)) := by
          subst hwv
          first
            | exact (Below.heap_setCell _ _ _ _ e1).trans (setCellOf HL7.out.ec _)
            | exact setCellOf ((Below.heap_setCell _ _ _ _ e1).trans HL7.out.ec) _
        have hhi := HL7.out.hi
        have hno : Nods wv wv.heap.size (.slice Ao S1.length qo) S1 := Nods.of_own (ownsRow_same7 HL7.out.own fun j hj => hHeld.block j (HL7.out.own.lt j hj).2 (by have h1 := (HL7.out.own.lt j hj).1; rintro (h2 | h2) <;> omega))
        have hbw : Below w.heap.size w wv := Below.trans HL7.out.below (hHeld.below HL7.out.below.size (fun j hj => by have h1 := HLO.out; rcases hj with h2 | h2 <;> omega))
        have HNO := hide hno
        have HBW := hide hbw
        have t0 := cellOf hb8 0
        have lt0 := box_lt hb8
        have t1 := cellOf hb9 0
        have lt1 := box_lt hb9
        clear hwv hb8 hb9 hHeld hno hbw y0 y1 ly x0 x1 lx hhi
        go_wp2_with fail
        refine bodyPost_ret (v := .tuple #[.slice Ao S1.length qo, .int .i64 S2, .int .i64 0]) ?_ rfl ⟨.slice Ao S1.length qo, by rw [HS2'.out], by rw [HS1.out]; exact HNO.out, HBW.out⟩
        rw [results_cct rfl]
        go_simp
    case pos =>
    have hk1 : (k : Int) < (T : Int) := by omega
    go_upto_region 10 with (fail)
    generalize hw3 : World.alloc _ _ = w3
    obtain ⟨hb3, hB3, hs3⟩ := alloc1 hw3
    obtain ⟨sb, hsb⟩ : ∃ z, wr.heap.size = z := ⟨_, rfl⟩
    rw [hsb] at hb3 ⊢
    have HSB : Hid (w3.heap[sb]? = some (.cells #[.int .i64 (k : Nat)] 3 (0, 0))) := hb3
    have HZ3 := hide (HZr.out.to hB3)
    have HB3 := hide (Below.to HBr.out hB3 (Nat.le_refl _))
    have HO3 := hide (owns_below HOW.out hB3)
    have HTB3 := hide (box_to HTB2.out hB3)
    have HW3 := hide (Below.trans HWR.out (hB3.mono (Nat.le_of_lt (box_lt HTB2.out))))
    have d0 := cellOf (HLr.out.to hB3) 0; have d1 := cellOf (HLr.out.to hB3) 1; have d2 := cellOf (HLr.out.to hB3) 2; have d3 := cellOf (HLr.out.to hB3) 3; have d4 := cellOf (HLr.out.to hB3) 4; have d5 := cellOf (HLr.out.to hB3) 5
    have ld := box_lt (HLr.out.to hB3)
    have m0 := cellOf HZ3.out.mc 0
    have lm := box_lt HZ3.out.mc
    have hlo := loadL_any 0 (bitsI k ms.length) ms Am qm (.pointer (some ⟨sb, 0, none⟩)) A0 A1 A2 A3 A4 A5 q0 q1 q2 q3 q4 q5 l w3 HS.out HD.out (H.out.up HB3.out) (HM.out.up HB3.out) HER0.out hN HNE.out (fun i W hi hW => by
      rw [bitsI_on hi]
      exact lay1_any k i sb W (box_to HSB.out hW) (by omega) (by omega))
    obtain ⟨x, hx⟩ : ∃ x, lodN l.m ms (bitsI k ms.length) 0 = x := ⟨_, rfl⟩
    rw [hx] at hlo
    have HLOD := hide hlo
    have HLS2 : Hid (rngL (k + 1) (ldS l.m ms) = Ls ++ [x]) := by
      show _ = _
      rw [rngL_snoc, HLS.out, ← hx]
      rfl
    clear hw3 hb3 hB3 hs3 hsb hlo hx
    go_wp2_with (first
      | (go_at_call 73; refine HLOD.out.mono ?_; rintro e w4 ⟨rfl, hB4⟩; have HZ4 := hide (HZ3.out.to hB4); have HO4 := hide (owns_below HO3.out hB4); have HTB4 := hide (box_to HTB3.out hB4); have HW4 := hide (Below.trans HW3.out (hB4.mono (Nat.le_of_lt (box_lt HTB3.out)))); clear hB4 d0 d1 d2 d3 d4 d5 ld m0 lm; have y0 := cellOf HTB4.out 0; have ly := box_lt HTB4.out)
      | (at_builtin; refine wpList_append_own_at _ rfl (.tmp 45) (.tmp 47) _ rfl (tb + 1) 3 i0 _ 1 8 Tryz.underlying45 hi0 iz0 iz1 iz2 rfl (by omega) (.slice Al Ls.length ql) Ls.length (nvL Ls) rfl (HO4.out.alloc _) ⟨w4.heap.size, 0, none⟩ 1 1 [.int .i64 (x : Nat)] rfl rfl (World.news_of_block (heap_alloc_new w4 _)) (by simp [Value.oneCell']) (by unfold maxLen; omega) (by omega) (by have h1 := box_lt HTB4.out; simp; omega) ?_; intro v1 w5 hown1 hg1 _ hat1; clear y0 ly; obtain ⟨A5v, q5v, hv5⟩ := owns_form hown1; subst hv5; have HOW5 := hide hown1; have HW5 : Hid (Below tb W2 w5) := Below.grown (Below.allocT HW4.out (by have := HS2.out; omega) _) hg1 (by have h1 := HS2.out; have h2 := HW4.out.size; simp; omega) (fun j hj => by have := (HO4.out.lt j hj).1; omega); have HTB5 := hide (own_box HO4.out hg1 HTB4.out (by decide)); have y0 := cellOf HTB5.out 0; have y1 := unfrozenOf HTB5.out 0; have ly := box_lt HTB5.out))
    have hbx := HTB5.out
    have hw6 := Below.setCell HW5.out (Nat.le_refl tb) (p := ⟨tb, 0, none⟩) (.slice A5v (Ls.length + 1) q5v)
    have ho6 : (w5.setCell ⟨tb, 0, none⟩ (.slice A5v (Ls.length + 1) q5v)).ownsRow (tb + 1) 3 1 (.slice A5v (Ls.length + 1) q5v) (Ls ++ [x]).length (nvL (Ls ++ [x])) := by
      rw [List.length_append, List.length_singleton, nvL_snoc]
      exact ownsRow_same7 HOW5.out fun j hj => Below.heap_setCell _ _ _ _ (by have := (HOW5.out.lt j hj).1; show j ≠ tb; omega)
    have hb6 := setCellOf hbx (.slice A5v (Ls.length + 1) q5v) (i := 0)
    generalize hwv : World.setCell _ _ _ = w6 at hw6 ho6 hb6 ⊢
    have HW6 := hide hw6
    have HO6 := hide ho6
    have HB6 : Hid (w6.heap[tb]? = some (.cells #[.slice A5v (Ls.length + 1) q5v] 45 (0, 0))) := hb6
    clear hwv hbx hw6 ho6 hb6 y0 y1 ly
    go_roundw
    case rel => exact ⟨k + 1, _, Ls ++ [x], by go_num, by omega, by rw [List.length_append, List.length_singleton, HLK.out], HLS2, HB6, HO6, HW6⟩
    case measure => simp [intOf]; omega
end Go.Proofs.YtehadoecnmfeoaaGreat

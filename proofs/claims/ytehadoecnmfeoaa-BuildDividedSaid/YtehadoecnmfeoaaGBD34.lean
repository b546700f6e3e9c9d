/- Part 34 of this claim's texts: walks and plain laws. -/
import Derived.Test.YtehadoecnmfeoaaRows
import Derived.Test.YtehadoecnmfeoaaGBD32
import Derived.Test.YtehadoecnmfeoaaGBD33
import Derived.Test.YtehadoecnmfeoaaGBD27
import Derived.Deep.DeepMust
import Derived.Deep.RegionHeld3
import Derived.Deep.DrawnRows
import Derived.Test.YtehadoecnmfeoaaGBD3
/- Divide (the program): walk. -/
namespace Go.Proofs.Ytehadoecnmfeoaa
open Go.RowKit
set_option linter.unusedVariables false
set_option linter.unusedSimpArgs false
theorem infoMod : (Try.prog.info? 53).map (fun i => (i.zero, i.size, i.bytes)) = some (some (.agg #[.slice none 0 0, .slice none 0 0]), 2, 48) := by kernel_rfl
theorem rowI_box {w : World} {B g : Nat} {c : Int} (h : w.heap[g]? = some (.cells #[.int .i64 c] 3 (0, 0))) (hB : B ≤ g) : RowI w B (.slice (some ⟨g, 0, none⟩) 1 1) [c] :=
  ⟨rfl, .inr ⟨g, 1, _, rfl, hB, h, Nat.le_refl _, by unfold maxLen; omega, rfl, rfl⟩⟩
theorem one_int48 {f : List Int} : ∀ u ∈ f.map (Value.int .i64), u.oneCell' = true := fun u hu => by
  obtain ⟨x, _, rfl⟩ := List.mem_map.1 hu
  simp [Value.oneCell']
theorem alloc_new_at {w : World} {o : Obj} {n : Nat} (h : w.heap.size = n) : (w.alloc o).heap[n]? = some o := by rw [← h]; exact heap_alloc_new w o
def ownS (v : Value) (k : Nat) : Prop := v.ownBlock = some k
def twoS (v : Value) (g k : Nat) : Prop := k = g ∨ v.ownBlock = some k
def DivP (D : List Md) (er : Int) (w : World) (e : Ending) (w' : World) : Prop := ∃ v, e = .returned (.tuple #[v, .int .i64 er]) ∧ Mods w' w'.heap.size v D ∧ Below w.heap.size w w'
theorem div_stays {l : Lo} {D : List Md} {k : Nat} (h : sometB l.m (fmW l k) = false) : divS l D k = D := by unfold divS; rw [if_neg (by rw [h]; simp)]
theorem div_new {l : Lo} {D : List Md} {k : Nat} (h : sometB l.m (fmW l k) = true) (h2 : ¬ 0 ≤ fndD l D k) : divS l D k = D ++ [⟨fmW l k, [(k : Int)]⟩] := by unfold divS; rw [if_pos h, if_neg h2]
theorem div_put {l : Lo} {D : List Md} {k j : Nat} (h : sometB l.m (fmW l k) = true) (h2 : fndD l D k = (j : Int)) : divS l D k = putD D j k := by unfold divS; rw [if_pos h, if_pos (by omega), h2, Int.toNat_natCast]
set_option maxRecDepth 100000 in
set_option maxHeartbeats 8000000 in
theorem Divide_any (A0 A1 A2 A3 A4 A5 : Option Addr) (q0 q1 q2 q3 q4 q5 : Nat) (l : Lo) (w : World) (hs : SizedL l) (h : LoA w w.heap.size A0 A1 A2 A3 A4 A5 q0 q1 q2 q3 q4 q5 l) (hN : l.m.err = 0 → l.m.opts.length ≤ 12) :
    Calls Try.prog 13 #[.agg #[.slice A0 l.m.opts.length q0, .slice A1 l.m.rules.length q1, .slice A2 l.ss.length q2, .slice A3 l.us.length q3, .slice A4 l.ps.length q4, .slice A5 l.ws.length q5]] w (DivP (divL l) l.err w) := by
  obtain ⟨i0, hi0, iz0, iz1, iz2⟩ := info_parts infoInt
  obtain ⟨i2, hi2, kz0, kz1, kz2⟩ := info_parts infoMod
  have H := hide h
  have HS := hide hs
  have HNN := hide hN
  obtain ⟨er, her⟩ : ∃ z, l.err = z := ⟨_, rfl⟩
  have HER := hide her
  clear h hs hN
  by_cases h0 : er = 0
  case neg =>
    have hp : divL l = [] := by unfold divL; rw [her, if_neg h0]
    rw [hp, her]
    have hz1 : (er != 0) = true := by simpa using h0
    clear her h0 hp
    go_enter Try.func13, Try.ntmps13
    go_upto_region 1 with (fail)
    generalize hw0 : World.alloc _ _ = w0
    obtain ⟨hb0, hB0, hs0⟩ := alloc1 hw0
    have HB0 := hide hB0
    have c0 := cellOf hb0 0; have c1 := cellOf hb0 1; have c2 := cellOf hb0 2; have c3 := cellOf hb0 3; have c4 := cellOf hb0 4; have c5 := cellOf hb0 5
    have hlb := box_lt hb0
    clear hw0 hb0 hB0 hs0
    go_wp2_with (go_at_call 30; refine (Check_any A0 A1 A2 A3 A4 A5 q0 q1 q2 q3 q4 q5 l _ HS.out (H.out.up HB0.out)).mono ?_; rw [HER.out]; rintro e w1 ⟨rfl, hB1⟩; have HB1 := hide (Below.to HB0.out hB1 (Nat.le_refl _)); clear hB1 c0 c1 c2 c3 c4 c5 hlb)
    go_ret2
    exact ⟨_, rfl, Mods.nil _ _, HB1.out⟩
  case pos =>
  subst h0
  have ok := Lo.err_ok her
  have OK := hide ok
  have hN := HNN.out ok.m
  have hws60 := ok.w60
  have n0 : ((0 : Int) != 0) = false := by decide
  obtain ⟨R, hR⟩ : ∃ z, divL l = z := ⟨_, rfl⟩
  have hRR : divN l l.ws.length = R := by rw [← hR]; unfold divL; rw [if_pos her]
  rw [hR, her]
  have HR := hide hRR
  clear her ok hR hRR
  go_enter Try.func13, Try.ntmps13
  go_upto_region 1 with (fail)
  generalize hw0 : World.alloc _ _ = w0
  obtain ⟨hb0, hB0, hs0⟩ := alloc1 hw0
  have HB0 := hide hB0
  have HL0 : Hid (LoBox w0 w.heap.size A0 A1 A2 A3 A4 A5 q0 q1 q2 q3 q4 q5 l) := hb0
  have c0 := cellOf hb0 0; have c1 := cellOf hb0 1; have c2 := cellOf hb0 2; have c3 := cellOf hb0 3; have c4 := cellOf hb0 4; have c5 := cellOf hb0 5
  have hlb := box_lt hb0
  clear hw0 hb0 hB0 hs0
  go_upto_region 4 with (go_at_call 30; refine (Check_any A0 A1 A2 A3 A4 A5 q0 q1 q2 q3 q4 q5 l _ HS.out (H.out.up HB0.out)).mono ?_; rw [HER.out]; rintro e w1 ⟨rfl, hB1⟩; have HL1 := hide (HL0.out.to hB1); have HB1 := hide (Below.to HB0.out hB1 (Nat.le_refl _)); clear hB1 c0 c1 c2 c3 c4 c5 hlb)
  obtain ⟨W1, hW1⟩ : ∃ wo : World, wo = w1 := ⟨_, rfl⟩
  subst hW1
  have c0 := cellOf HL1.out 0; have c1 := cellOf HL1.out 1; have c2 := cellOf HL1.out 2; have c3 := cellOf HL1.out 3; have c4 := cellOf HL1.out 4; have c5 := cellOf HL1.out 5
  have hlb := box_lt HL1.out
  go_wp2_with fail
  clear c0 c1 c2 c3 c4 c5 hlb
  go_loopw [2, 5, 6, 7, 8, 9, 10, 19] (fun sv _ _ _ _ _ _ i wr => ∃ (k : Nat) (D : List Md) (P : List (Value × Value)), i = .int .i64 k ∧ k ≤ l.ws.length ∧ Hid (divN l k = D) ∧ Hid (DvM wr W1.heap.size sv D P) ∧ Hid (Below W1.heap.size W1 wr)) (fun _ _ _ _ _ _ _ i _ => l.ws.length - (intOf i).toNat)
  case atStart => exact ⟨0, [], [], rfl, Nat.zero_le _, rfl, DvM.nil _ _, Below.refl _ _⟩
  case round =>
    obtain ⟨k, D, P, rfl, hk, HD, HM, HB⟩ := hrel
    have HBr := hide (Below.to HB1.out HB.out (Nat.le_refl _))
    obtain ⟨A9, q9, hv9⟩ := owns_form HM.out.own
    subst hv9
    by_cases hkl : k < l.ws.length
    case neg =>
      have hkl1 : ¬ (k : Int) < (l.ws.length : Int) := by omega
      have hRD : R = D := by rw [← HR.out, ← HD.out, show l.ws.length = k by omega]
      subst hRD
      clear hkl
      go_wp2_with fail
      go_ret2
      exact ⟨_, rfl, HM.out.mods, HBr.out⟩
    case pos =>
    have hkl1 : (k : Int) < (l.ws.length : Int) := by omega
    have ik0 : (0 : Int) ≤ (k : Int) := by omega
    have hDI := divN_i l k
    rw [HD.out] at hDI
    have HDI := hide hDI
    have hD60 : D.length ≤ 60 := by have := hDI.len; omega
    obtain ⟨bw, ow, x, Af, qf, HX, hA5, hbw, hq5, HXF, e0, e1, e2, e3, e4, e5, e6⟩ := H.out.wi hkl
    subst hA5
    have g0 := (HBr.out.cell (p := ⟨bw, ow + k * 7, none⟩) hbw).trans e0
    have g1 := (HBr.out.cell (p := ⟨bw, ow + k * 7 + 1, none⟩) hbw).trans e1
    have g2 := (HBr.out.cell (p := ⟨bw, ow + k * 7 + 2, none⟩) hbw).trans e2
    have g3 := (HBr.out.cell (p := ⟨bw, ow + k * 7 + 3, none⟩) hbw).trans e3
    have g4 := (HBr.out.cell (p := ⟨bw, ow + k * 7 + 4, none⟩) hbw).trans e4
    have g5 := (HBr.out.cell (p := ⟨bw, ow + k * 7 + 5, none⟩) hbw).trans e5
    have g6 := (HBr.out.cell (p := ⟨bw, ow + k * 7 + 6, none⟩) hbw).trans e6
    have lbw : bw < wr.heap.size := Nat.lt_of_lt_of_le hbw HBr.out.size
    have iq5 : (l.ws.length : Int) ≤ (q5 : Int) := by omega
    have hfx : fmW l k = x.form := by unfold fmW; rw [HX.out]
    have hxv := (LoOk.wi OK.out hkl).2
    rw [HX.out] at hxv
    have hxl := (HS.out.wn (l.ws.getD k Wi.o) (getD_mem7 hkl)).2
    rw [HX.out] at hxl
    have HXV := hide hxv
    have HXL := hide hxl
    have HFX := hide hfx
    have hef : l.m.errF [x.form] = 0 := errF_all OK.out.m fun g hg => by rw [List.mem_singleton] at hg; rw [hg]; exact hxv
    have HEF := hide hef
    have hx1000 : x.form.length ≤ 1000 := by
      have h1 := hxv
      unfold validF at h1
      simp only [Bool.and_eq_true, decide_eq_true_eq] at h1
      omega
    have hms : (!(meeL l.m [x.form]).isEmpty) = sometB l.m (fmW l k) := by rw [hfx]; exact mee_some _ _
    obtain ⟨sb, hsb⟩ : ∃ z, sometB l.m (fmW l k) = z := ⟨_, rfl⟩
    rw [hsb] at hms
    have HMS := hide hms
    have HSB := hide hsb
    clear e0 e1 e2 e3 e4 e5 e6 hq5 hxv hxl hef hfx hms hsb hDI
    go_upto_region 7 with (fail)
    generalize hw2 : World.alloc _ _ = w2
    obtain ⟨hbI, hbW, hB2, hs2⟩ := alloc2 hw2
    obtain ⟨bi, hbi⟩ : ∃ z, wr.heap.size = z := ⟨_, rfl⟩
    have HLT : Hid (∀ i, i < D.length → ∀ q, (P.getD i (undef, undef)).2.ownBlock = some q → q < bi) := fun i hi q hq => by rw [← hbi]; exact ((HM.out.g i hi).lt9 q hq).2
    rw [hbi] at hbI hbW ⊢
    have HI2 := hide hbI
    have HW2 := hide hbW
    have HM2 := hide (HM.out.to hB2)
    have HB2 := hide (Below.to HB.out hB2 (Nat.le_refl _))
    have HBr2 := hide (Below.to HBr.out hB2 (Nat.le_refl _))
    have HL2 := hide (HL1.out.to HB2.out)
    have c0 := cellOf HL2.out 0; have c1 := cellOf HL2.out 1; have c2 := cellOf HL2.out 2; have c3 := cellOf HL2.out 3; have c4 := cellOf HL2.out 4; have c5 := cellOf HL2.out 5
    have hlb := box_lt HL2.out
    have x6 := cellOf hbW 6
    have lx := box_lt hbW
    clear hw2 hbI hbW hB2 hs2 hbi g0 g1 g2 g3 g4 g5 g6 lbw
    cases sb with
    | false =>
      have HD2 : Hid (divN l (k + 1) = D) := by show divS l (divN l k) k = D; rw [HD.out]; exact div_stays HSB.out
      go_wp2_with (go_at_call 31; refine (Meets_n l.m [x.form] _ _ _ _ HS.out.m (sized_one HXL.out) ((H.out.up HBr2.out).up (Below.allocT (Below.refl _ _) (Nat.le_refl _) _)).m (forms_one (heap_new _ _ _ rfl) (by simp) ((HXF.out.up HBr2.out).up (Below.allocT (Below.refl _ _) (Nat.le_refl _) _))) HEF.out hN (by simp)).mono ?_; rw [HMS.out]; rintro e w3 ⟨v3, rfl, _, hB3⟩; have hB32 := Below.to (Below.allocT (Below.refl w2.heap.size w2) (Nat.le_refl _) _) hB3 (Nat.le_refl _); have HM3 := hide (HM2.out.to hB32); have HB3 := hide (Below.to HB2.out hB32 (Nat.le_refl _)); clear hB3 hB32 c0 c1 c2 c3 c4 c5 hlb x6 lx)
      go_roundw
      case rel => exact ⟨k + 1, D, P, by go_num, by omega, HD2, HM3, HB3⟩
      case measure => simp [intOf]; omega
    | true =>
      go_upto_region 9 with (go_at_call 31; refine (Meets_n l.m [x.form] _ _ _ _ HS.out.m (sized_one HXL.out) ((H.out.up HBr2.out).up (Below.allocT (Below.refl _ _) (Nat.le_refl _) _)).m (forms_one (heap_new _ _ _ rfl) (by simp) ((HXF.out.up HBr2.out).up (Below.allocT (Below.refl _ _) (Nat.le_refl _) _))) HEF.out hN (by simp)).mono ?_; rw [HMS.out]; rintro e w3 ⟨v3, rfl, _, hB3⟩; have hB32 := Below.to (Below.allocT (Below.refl w2.heap.size w2) (Nat.le_refl _) _) hB3 (Nat.le_refl _); have HM3 := hide (HM2.out.to hB32); have HI3 := hide (box_to HI2.out hB32); have HW3 := hide (box_to HW2.out hB32); have HL3 := hide (HL2.out.to hB32); have HB3 := hide (Below.to HB2.out hB32 (Nat.le_refl _)); have HBr3 := hide (Below.to HBr2.out hB32 (Nat.le_refl _)); clear hB3 hB32 c0 c1 c2 c3 c4 c5 hlb x6 lx)
      obtain ⟨fd, hfd⟩ : ∃ z, fndD l D k = z := ⟨_, rfl⟩
      have hix : ∀ (W : World), Below w3.heap.size w3 W → Calls Try.prog 32 #[.slice A9 D.length q9, .func (.func 33) #[] #[.pointer (some ⟨w.heap.size, 0, none⟩), .pointer (some ⟨bi, 0, none⟩)]] W fun e w' => e = .returned (.int .i64 fd) ∧ Below W.heap.size W w' := fun W hW => by
        have h1 := index_divide (fun d => tgB l.m d.f (fmW l k)) (.pointer (some ⟨w.heap.size, 0, none⟩)) (.pointer (some ⟨bi, 0, none⟩)) (.slice A9 D.length q9) D W (by unfold maxLen; omega) (HM3.out.to hW).mods (fun i d Af qf Aw qw W2 hi hd hW2 h2 h3 => by
          obtain ⟨w0, t, h4, h5, h6, h7⟩ := HDI.out.at_ i hi
          rw [hd] at h4 h6
          exact divide1_any d w0 k t Af qf Aw qw w.heap.size bi A0 A1 A2 A3 A4 (some ⟨bw, ow, none⟩) q0 q1 q2 q3 q4 q5 l W2 HS.out (H.out.up (Below.to (Below.to HBr3.out hW (Nat.le_refl _)) hW2 (Nat.le_refl _))) (HL3.out.to (Below.to hW hW2 (Nat.le_refl _))) (box_to HI3.out (Below.to hW hW2 (Nat.le_refl _))) OK.out (by omega) hkl hN h4 h6 (by rw [h4, List.length_cons]; omega) (h3.more hW2.size))
        rw [show idxI (fun d => tgB l.m d.f (fmW l k)) D = fd from hfd] at h1
        exact h1
      have HIX := hide hix
      have HFD := hide hfd
      clear hix hfd
      by_cases hfd0 : fd < 0
      · have hd0 : ¬ 0 ≤ fndD l D k := by rw [HFD.out]; omega
        have HD2 : Hid (divN l (k + 1) = D ++ [⟨x.form, [(k : Int)]⟩]) := by show divS l (divN l k) k = _; rw [HD.out, div_new HSB.out hd0, HFX.out]
        clear hd0
        go_upto_region 11 with (go_at_call 32; refine (HIX.out w3 (Below.refl _ _)).mono ?_; rintro e w4 ⟨rfl, hB4⟩; have HM4 := hide (HM3.out.to hB4); have HI4 := hide (box_to HI3.out hB4); have HW4 := hide (box_to HW3.out hB4); have HB4 := hide (Below.to HB3.out hB4 (Nat.le_refl _)); have HBr4 := hide (Below.to HBr3.out hB4 (Nat.le_refl _)); clear hB4)
        have x6 := cellOf HW4.out 6
        have lx := box_lt HW4.out
        have z0 := cellOf HI4.out 0
        have lz := box_lt HI4.out
        have s1 : ¬ ownS (.slice A9 D.length q9) bi := fun h => owns_not HM4.out.own HI4.out (by decide) h
        have s2 : ¬ ownS (.slice A9 D.length q9) (bi + 1) := fun h => owns_not HM4.out.own HW4.out (by decide) h
        have HSLO : Hid (∀ k, ownS (.slice A9 D.length q9) k → W1.heap.size ≤ k) := fun k hk => (HM4.out.own.lt k hk).1
        have HSZ4 : Hid (W1.heap.size ≤ w4.heap.size) := HB4.out.size
        have HWW : Hid (w.heap.size ≤ W1.heap.size) := HB1.out.size
        refine wp_region_held_drew (S := (fun w' => Keeps (ownS (.slice A9 D.length q9)) w4 w')) (by kernel_rfl) ?_ (fun hHeld => ?_)
        · try dsimp only
          (repeat (first | (with_reducible exact Keeps.refl _ _) | exact hKeep.out | exact hKeepS.out _ | assumption | (with_reducible refine Keeps.drew ?_) | (with_reducible refine Keeps.drewN ?_ _) | (with_reducible refine Keeps.alloc ?_ _) | (with_reducible refine Keeps.setCell ?_ (.inl (by first | exact .inl rfl | exact .inr rfl)) _)))
        refine zU 0 rfl ?_
        try simp only [zX]
        refine zU 1 rfl ?_
        try simp only [zX]
        refine zU 2 rfl ?_
        try simp only [zX]
        refine zU 4 rfl ?_
        try simp only [zX]
        refine wpAnyH_ready (rs := [3, 5]) (by kernel_rfl) (by simp) ?_
        refine (AllReadyH.cons rfl (fun K hK => ?o1_5_3) (AllReadyH.cons rfl (fun K hK => ?o1_5_5) AllReadyH.nil))
        case' o1_5_3 =>
          go_simp
          ((try (generalize hC : World.alloc w4 _ = wC at hHeld ⊢; obtain ⟨hbC0, hBC0, hsC0⟩ := alloc1 hC; have hbC : wC.heap[w4.heap.size]? = some (.cells #[.int .i64 (k : Nat)] 3 (0, 0)) := hbC0; have hsC : wC.heap.size = w4.heap.size + 1 := hsC0; have hBC : Below w4.heap.size w4 wC := hBC0; clear hbC0 hBC0 hsC0 hC)); go_at_call 35; refine (cloneFm_any Af x.form.length qf (x.form.map (Value.int .i64)) _ (Ints.flat7 (HXF.out.up (Below.trans HBr4.out (Keeps.below hHeld (Nat.le_trans HWW.out HSZ4.out) (fun k hk => Nat.le_trans HWW.out (HSLO.out k hk)))))) one_int48 hx1000).mono ?_; rintro e w5 ⟨v5, rfl, hv5, hB5⟩; obtain ⟨A5, q5b, hv5e⟩ := owns_form hv5; subst hv5e; have hKeep : Hid (Keeps (ownS (.slice A9 D.length q9)) w4 w5) := Keeps.trans hHeld (Keeps.of_below hB5) (fun _ _ h => h))
          (try dsimp only)
          refine hK.out _ _ ?_ (fun hNext => ?_)
          · try dsimp only
            (repeat (first | (with_reducible exact Keeps.refl _ _) | exact hKeep.out | exact hKeepS.out _ | assumption | (with_reducible refine Keeps.drew ?_) | (with_reducible refine Keeps.drewN ?_ _) | (with_reducible refine Keeps.alloc ?_ _) | (with_reducible refine Keeps.setCell ?_ (.inl (by first | exact .inl rfl | exact .inr rfl)) _)))
          clear hK K hHeld
          have hHeld := hNext
          clear hNext
          (try dsimp only at hHeld)
          try simp only [zX]
          refine wpAnyH_ready (rs := [5]) (by kernel_rfl) (by simp) ?_
          refine (AllReadyH.cons rfl (fun K hK => ?_) AllReadyH.nil)
          go_simp
          refine hK.out _ _ ?_ (fun hNext => ?_)
          · try dsimp only
            (repeat (first | (with_reducible exact Keeps.refl _ _) | exact hKeep.out | exact hKeepS.out _ | assumption | (with_reducible refine Keeps.drew ?_) | (with_reducible refine Keeps.drewN ?_ _) | (with_reducible refine Keeps.alloc ?_ _) | (with_reducible refine Keeps.setCell ?_ (.inl (by first | exact .inl rfl | exact .inr rfl)) _)))
          clear hK K hHeld
          have hHeld := hNext
          clear hNext
          (try dsimp only at hHeld)
          try simp only [zX]
          refine zU 6 rfl ?_
          try simp only [zX]
          refine wpAnyH_ready (rs := [7]) (by kernel_rfl) (by simp) ?_
          refine (AllReadyH.cons rfl (fun K hK => ?_) AllReadyH.nil)
          go_simp
          refine hK.out _ _ ?_ (fun hNext => ?_)
          · try dsimp only
            (repeat (first | (with_reducible exact Keeps.refl _ _) | exact hKeep.out | exact hKeepS.out _ | assumption | (with_reducible refine Keeps.drew ?_) | (with_reducible refine Keeps.drewN ?_ _) | (with_reducible refine Keeps.alloc ?_ _) | (with_reducible refine Keeps.setCell ?_ (.inl (by first | exact .inl rfl | exact .inr rfl)) _)))
          clear hK K hHeld
          have hHeld := hNext
          clear hNext
          (try dsimp only at hHeld)
          try simp only [zX]
          refine wpAnyH_ready (rs := [8]) (by kernel_rfl) (by simp) ?_
          refine (AllReadyH.cons rfl (fun K hK => ?_) AllReadyH.nil)
          (first | (have hB5 : Below w4.heap.size w4 w5 := Below.to (Below.drew (Below.refl w4.heap.size w4)) hB5 (Nat.le_refl _); generalize hA : World.alloc w5 _ = wA; obtain ⟨hbA0, hBA, hsA⟩ := alloc1 hA; have hbA : wA.heap[w5.heap.size]? = some (.cells #[.int .i64 (k : Nat)] 3 (0, 0)) := hbA0; have hyA : RowI wA W1.heap.size (.slice (some ⟨w5.heap.size, 0, none⟩) 1 1) [(k : Int)] := rowI_box hbA (by have h1 := hB5.size; have h2 := HSZ4.out; omega); have hxA : RowI wA W1.heap.size (.slice A5 x.form.length q5b) x.form := owns_below (owns_base (show w5.ownsRow w4.heap.size 3 1 (.slice A5 x.form.length q5b) x.form.length (x.form.map (Value.int .i64)) from hv5) HSZ4.out) hBA; have hMA : DvM wA W1.heap.size (.slice A9 D.length q9) D P := (HM4.out.to hB5).to hBA; have hKA : Keeps (ownS (.slice A9 D.length q9)) w4 wA := Keeps.trans hKeep.out (Keeps.of_below hBA) (fun _ _ h => h); have hszA : w4.heap.size ≤ wA.heap.size := hKA.size; have hxy : Sep (.slice A5 x.form.length q5b) (.slice (some ⟨w5.heap.size, 0, none⟩) 1 1) := Sep.fresh (n := w5.heap.size) (fun j hj => (World.ownsRow.lt hv5 j hj).2) (fun j hj => by injection hj with hj; exact Nat.le_of_eq hj); have hyn : ∀ j, (Value.slice (some ⟨w5.heap.size, 0, none⟩) 1 1).ownBlock = some j → w4.heap.size ≤ j := (fun j hj => by injection hj with hj; have h1 := hB5.size; have h3 : w5.heap.size = j := hj; omega); have hxn : ∀ j, (Value.slice A5 x.form.length q5b).ownBlock = some j → w4.heap.size ≤ j := (fun j hj => (World.ownsRow.lt hv5 j hj).1); clear hbA0 hA; refine step_append_any _ (by rfl) (.tmp 41) (.tmp 48) _ (by rfl) W1.heap.size 53 i2 _ 2 48 Try.underlying43 hi2 kz0 kz1 kz2 (by rfl) (by omega) (.slice A9 D.length q9) D.length (flat2 P) (by rfl) (hMA.own.alloc _) (wA.heap.size + 1) (some ⟨w5.heap.size + 1, 0, none⟩) 1 1 [.slice A5 x.form.length q5b, .slice (some ⟨w5.heap.size, 0, none⟩) 1 1] (by rfl) ⟨rfl, fun _ => ⟨_, rfl, (by first | (simp; done) | (simp; omega)), World.news_of_block (alloc_new_at hsA)⟩⟩ (by simp [Value.oneCell']) (by unfold maxLen; omega) (by omega) (by have h2 := HSZ4.out; simp; omega) ?_; intro v6 w6 hown6 hg6 hat6; obtain ⟨A6, q6, hv6⟩ := owns_form hown6; subst hv6; have HM6 := hide (DvM.push (n := w4.heap.size) hMA hxA hyA (fun i hi => ⟨fun j hj => ((HM4.out.f i hi).lt9 j hj).2, fun j hj => ((HM4.out.g i hi).lt9 j hj).2⟩) hxn hyn hxy hown6 hg6); have hKeep6 : Keeps (ownS (.slice A9 D.length q9)) w4 w6 := Keeps.trans (Keeps.alloc hKA _) (Keeps.of_grown hg6 (fun j hj => hj)) (fun _ _ h => h); have HK6 := hide hKeep6) | (have hB5 : Below wC.heap.size wC w5 := Below.to (Below.drew (Below.refl wC.heap.size wC)) hB5 (Nat.le_refl _); obtain ⟨wA, hA⟩ : ∃ z : World, z = w5 := ⟨_, rfl⟩; subst hA; have hbA : wA.heap[w4.heap.size]? = some (.cells #[.int .i64 (k : Nat)] 3 (0, 0)) := box_to hbC hB5; have hyA : RowI wA W1.heap.size (.slice (some ⟨w4.heap.size, 0, none⟩) 1 1) [(k : Int)] := rowI_box hbA HSZ4.out; have hxA : RowI wA W1.heap.size (.slice A5 x.form.length q5b) x.form := owns_base (show wA.ownsRow wC.heap.size 3 1 (.slice A5 x.form.length q5b) x.form.length (x.form.map (Value.int .i64)) from hv5) (by have h2 := HSZ4.out; omega); have hMA : DvM wA W1.heap.size (.slice A9 D.length q9) D P := (HM4.out.to hBC).to hB5; have hKA : Keeps (ownS (.slice A9 D.length q9)) w4 wA := hKeep.out; have hszA : w4.heap.size ≤ wA.heap.size := hKA.size; have hxy : Sep (.slice A5 x.form.length q5b) (.slice (some ⟨w4.heap.size, 0, none⟩) 1 1) := (Sep.fresh (n := wC.heap.size) (fun j hj => by injection hj with hj; have h3 : w4.heap.size = j := hj; omega) (fun j hj => (World.ownsRow.lt hv5 j hj).1)).symm; have hyn : ∀ j, (Value.slice (some ⟨w4.heap.size, 0, none⟩) 1 1).ownBlock = some j → w4.heap.size ≤ j := (fun j hj => by injection hj with hj; exact Nat.le_of_eq hj); have hxn : ∀ j, (Value.slice A5 x.form.length q5b).ownBlock = some j → w4.heap.size ≤ j := (fun j hj => by have h1 : wC.heap.size ≤ j := (World.ownsRow.lt hv5 j hj).1; omega); refine step_append_any _ (by rfl) (.tmp 41) (.tmp 48) _ (by rfl) W1.heap.size 53 i2 _ 2 48 Try.underlying43 hi2 kz0 kz1 kz2 (by rfl) (by omega) (.slice A9 D.length q9) D.length (flat2 P) (by rfl) (hMA.own.alloc _) (wA.heap.size + 1) (some ⟨wA.heap.size, 0, none⟩) 1 1 [.slice A5 x.form.length q5b, .slice (some ⟨w4.heap.size, 0, none⟩) 1 1] (by rfl) ⟨rfl, fun _ => ⟨_, rfl, (by first | (simp; done) | (simp; omega)), World.news_of_block (heap_alloc_new wA _)⟩⟩ (by simp [Value.oneCell']) (by unfold maxLen; omega) (by omega) (by have h2 := HSZ4.out; simp; omega) ?_; intro v6 w6 hown6 hg6 hat6; obtain ⟨A6, q6, hv6⟩ := owns_form hown6; subst hv6; have HM6 := hide (DvM.push (n := w4.heap.size) hMA hxA hyA (fun i hi => ⟨fun j hj => ((HM4.out.f i hi).lt9 j hj).2, fun j hj => ((HM4.out.g i hi).lt9 j hj).2⟩) hxn hyn hxy hown6 hg6); have hKeep6 : Keeps (ownS (.slice A9 D.length q9)) w4 w6 := Keeps.trans (Keeps.alloc hKA _) (Keeps.of_grown hg6 (fun j hj => hj)) (fun _ _ h => h); have HK6 := hide hKeep6))
          (try dsimp only)
          refine hK.out _ _ ?_ (fun hNext => ?_)
          · try dsimp only
            (repeat (first | (with_reducible exact Keeps.refl _ _) | exact hKeep.out | exact hKeepS.out _ | assumption | (with_reducible refine Keeps.drew ?_) | (with_reducible refine Keeps.drewN ?_ _) | (with_reducible refine Keeps.alloc ?_ _) | (with_reducible refine Keeps.setCell ?_ (.inl (by first | exact .inl rfl | exact .inr rfl)) _)))
          clear hK K hHeld
          have hHeld := hNext
          clear hNext
          (try dsimp only at hHeld)
          try simp only [zX]
          refine zU 9 rfl ?_
          try simp only [zX]
          refine wpAnyH_done (by kernel_rfl) ?_ _
        case' o1_5_5 =>
          go_simp
          refine hK.out _ _ ?_ (fun hNext => ?_)
          · try dsimp only
            (repeat (first | (with_reducible exact Keeps.refl _ _) | exact hKeep.out | exact hKeepS.out _ | assumption | (with_reducible refine Keeps.drew ?_) | (with_reducible refine Keeps.drewN ?_ _) | (with_reducible refine Keeps.alloc ?_ _) | (with_reducible refine Keeps.setCell ?_ (.inl (by first | exact .inl rfl | exact .inr rfl)) _)))
          clear hK K hHeld
          have hHeld := hNext
          clear hNext
          (try dsimp only at hHeld)
          try simp only [zX]
          refine wpAnyH_ready (rs := [3]) (by kernel_rfl) (by simp) ?_
          refine (AllReadyH.cons rfl (fun K hK => ?_) AllReadyH.nil)
          go_simp
          ((try (generalize hC : World.alloc w4 _ = wC at hHeld ⊢; obtain ⟨hbC0, hBC0, hsC0⟩ := alloc1 hC; have hbC : wC.heap[w4.heap.size]? = some (.cells #[.int .i64 (k : Nat)] 3 (0, 0)) := hbC0; have hsC : wC.heap.size = w4.heap.size + 1 := hsC0; have hBC : Below w4.heap.size w4 wC := hBC0; clear hbC0 hBC0 hsC0 hC)); go_at_call 35; refine (cloneFm_any Af x.form.length qf (x.form.map (Value.int .i64)) _ (Ints.flat7 (HXF.out.up (Below.trans HBr4.out (Keeps.below hHeld (Nat.le_trans HWW.out HSZ4.out) (fun k hk => Nat.le_trans HWW.out (HSLO.out k hk)))))) one_int48 hx1000).mono ?_; rintro e w5 ⟨v5, rfl, hv5, hB5⟩; obtain ⟨A5, q5b, hv5e⟩ := owns_form hv5; subst hv5e; have hKeep : Hid (Keeps (ownS (.slice A9 D.length q9)) w4 w5) := Keeps.trans hHeld (Keeps.of_below hB5) (fun _ _ h => h))
          (try dsimp only)
          refine hK.out _ _ ?_ (fun hNext => ?_)
          · try dsimp only
            (repeat (first | (with_reducible exact Keeps.refl _ _) | exact hKeep.out | exact hKeepS.out _ | assumption | (with_reducible refine Keeps.drew ?_) | (with_reducible refine Keeps.drewN ?_ _) | (with_reducible refine Keeps.alloc ?_ _) | (with_reducible refine Keeps.setCell ?_ (.inl (by first | exact .inl rfl | exact .inr rfl)) _)))
          clear hK K hHeld
          have hHeld := hNext
          clear hNext
          (try dsimp only at hHeld)
          try simp only [zX]
          refine zU 6 rfl ?_
          try simp only [zX]
          refine wpAnyH_ready (rs := [7]) (by kernel_rfl) (by simp) ?_
          refine (AllReadyH.cons rfl (fun K hK => ?_) AllReadyH.nil)
          go_simp
          refine hK.out _ _ ?_ (fun hNext => ?_)
          · try dsimp only
            (repeat (first | (with_reducible exact Keeps.refl _ _) | exact hKeep.out | exact hKeepS.out _ | assumption | (with_reducible refine Keeps.drew ?_) | (with_reducible refine Keeps.drewN ?_ _) | (with_reducible refine Keeps.alloc ?_ _) | (with_reducible refine Keeps.setCell ?_ (.inl (by first | exact .inl rfl | exact .inr rfl)) _)))
          clear hK K hHeld
          have hHeld := hNext
          clear hNext
          (try dsimp only at hHeld)
          try simp only [zX]
          refine wpAnyH_ready (rs := [8]) (by kernel_rfl) (by simp) ?_
          refine (AllReadyH.cons rfl (fun K hK => ?_) AllReadyH.nil)
          (first | (have hB5 : Below w4.heap.size w4 w5 := Below.to (Below.drew (Below.refl w4.heap.size w4)) hB5 (Nat.le_refl _); generalize hA : World.alloc w5 _ = wA; obtain ⟨hbA0, hBA, hsA⟩ := alloc1 hA; have hbA : wA.heap[w5.heap.size]? = some (.cells #[.int .i64 (k : Nat)] 3 (0, 0)) := hbA0; have hyA : RowI wA W1.heap.size (.slice (some ⟨w5.heap.size, 0, none⟩) 1 1) [(k : Int)] := rowI_box hbA (by have h1 := hB5.size; have h2 := HSZ4.out; omega); have hxA : RowI wA W1.heap.size (.slice A5 x.form.length q5b) x.form := owns_below (owns_base (show w5.ownsRow w4.heap.size 3 1 (.slice A5 x.form.length q5b) x.form.length (x.form.map (Value.int .i64)) from hv5) HSZ4.out) hBA; have hMA : DvM wA W1.heap.size (.slice A9 D.length q9) D P := (HM4.out.to hB5).to hBA; have hKA : Keeps (ownS (.slice A9 D.length q9)) w4 wA := Keeps.trans hKeep.out (Keeps.of_below hBA) (fun _ _ h => h); have hszA : w4.heap.size ≤ wA.heap.size := hKA.size; have hxy : Sep (.slice A5 x.form.length q5b) (.slice (some ⟨w5.heap.size, 0, none⟩) 1 1) := Sep.fresh (n := w5.heap.size) (fun j hj => (World.ownsRow.lt hv5 j hj).2) (fun j hj => by injection hj with hj; exact Nat.le_of_eq hj); have hyn : ∀ j, (Value.slice (some ⟨w5.heap.size, 0, none⟩) 1 1).ownBlock = some j → w4.heap.size ≤ j := (fun j hj => by injection hj with hj; have h1 := hB5.size; have h3 : w5.heap.size = j := hj; omega); have hxn : ∀ j, (Value.slice A5 x.form.length q5b).ownBlock = some j → w4.heap.size ≤ j := (fun j hj => (World.ownsRow.lt hv5 j hj).1); clear hbA0 hA; refine step_append_any _ (by rfl) (.tmp 41) (.tmp 48) _ (by rfl) W1.heap.size 53 i2 _ 2 48 Try.underlying43 hi2 kz0 kz1 kz2 (by rfl) (by omega) (.slice A9 D.length q9) D.length (flat2 P) (by rfl) (hMA.own.alloc _) (wA.heap.size + 1) (some ⟨w5.heap.size + 1, 0, none⟩) 1 1 [.slice A5 x.form.length q5b, .slice (some ⟨w5.heap.size, 0, none⟩) 1 1] (by rfl) ⟨rfl, fun _ => ⟨_, rfl, (by first | (simp; done) | (simp; omega)), World.news_of_block (alloc_new_at hsA)⟩⟩ (by simp [Value.oneCell']) (by unfold maxLen; omega) (by omega) (by have h2 := HSZ4.out; simp; omega) ?_; intro v6 w6 hown6 hg6 hat6; obtain ⟨A6, q6, hv6⟩ := owns_form hown6; subst hv6; have HM6 := hide (DvM.push (n := w4.heap.size) hMA hxA hyA (fun i hi => ⟨fun j hj => ((HM4.out.f i hi).lt9 j hj).2, fun j hj => ((HM4.out.g i hi).lt9 j hj).2⟩) hxn hyn hxy hown6 hg6); have hKeep6 : Keeps (ownS (.slice A9 D.length q9)) w4 w6 := Keeps.trans (Keeps.alloc hKA _) (Keeps.of_grown hg6 (fun j hj => hj)) (fun _ _ h => h); have HK6 := hide hKeep6) | (have hB5 : Below wC.heap.size wC w5 := Below.to (Below.drew (Below.refl wC.heap.size wC)) hB5 (Nat.le_refl _); obtain ⟨wA, hA⟩ : ∃ z : World, z = w5 := ⟨_, rfl⟩; subst hA; have hbA : wA.heap[w4.heap.size]? = some (.cells #[.int .i64 (k : Nat)] 3 (0, 0)) := box_to hbC hB5; have hyA : RowI wA W1.heap.size (.slice (some ⟨w4.heap.size, 0, none⟩) 1 1) [(k : Int)] := rowI_box hbA HSZ4.out; have hxA : RowI wA W1.heap.size (.slice A5 x.form.length q5b) x.form := owns_base (show wA.ownsRow wC.heap.size 3 1 (.slice A5 x.form.length q5b) x.form.length (x.form.map (Value.int .i64)) from hv5) (by have h2 := HSZ4.out; omega); have hMA : DvM wA W1.heap.size (.slice A9 D.length q9) D P := (HM4.out.to hBC).to hB5; have hKA : Keeps (ownS (.slice A9 D.length q9)) w4 wA := hKeep.out; have hszA : w4.heap.size ≤ wA.heap.size := hKA.size; have hxy : Sep (.slice A5 x.form.length q5b) (.slice (some ⟨w4.heap.size, 0, none⟩) 1 1) := (Sep.fresh (n := wC.heap.size) (fun j hj => by injection hj with hj; have h3 : w4.heap.size = j := hj; omega) (fun j hj => (World.ownsRow.lt hv5 j hj).1)).symm; have hyn : ∀ j, (Value.slice (some ⟨w4.heap.size, 0, none⟩) 1 1).ownBlock = some j → w4.heap.size ≤ j := (fun j hj => by injection hj with hj; exact Nat.le_of_eq hj); have hxn : ∀ j, (Value.slice A5 x.form.length q5b).ownBlock = some j → w4.heap.size ≤ j := (fun j hj => by have h1 : wC.heap.size ≤ j := (World.ownsRow.lt hv5 j hj).1; omega); refine step_append_any _ (by rfl) (.tmp 41) (.tmp 48) _ (by rfl) W1.heap.size 53 i2 _ 2 48 Try.underlying43 hi2 kz0 kz1 kz2 (by rfl) (by omega) (.slice A9 D.length q9) D.length (flat2 P) (by rfl) (hMA.own.alloc _) (wA.heap.size + 1) (some ⟨wA.heap.size, 0, none⟩) 1 1 [.slice A5 x.form.length q5b, .slice (some ⟨w4.heap.size, 0, none⟩) 1 1] (by rfl) ⟨rfl, fun _ => ⟨_, rfl, (by first | (simp; done) | (simp; omega)), World.news_of_block (heap_alloc_new wA _)⟩⟩ (by simp [Value.oneCell']) (by unfold maxLen; omega) (by omega) (by have h2 := HSZ4.out; simp; omega) ?_; intro v6 w6 hown6 hg6 hat6; obtain ⟨A6, q6, hv6⟩ := owns_form hown6; subst hv6; have HM6 := hide (DvM.push (n := w4.heap.size) hMA hxA hyA (fun i hi => ⟨fun j hj => ((HM4.out.f i hi).lt9 j hj).2, fun j hj => ((HM4.out.g i hi).lt9 j hj).2⟩) hxn hyn hxy hown6 hg6); have hKeep6 : Keeps (ownS (.slice A9 D.length q9)) w4 w6 := Keeps.trans (Keeps.alloc hKA _) (Keeps.of_grown hg6 (fun j hj => hj)) (fun _ _ h => h); have HK6 := hide hKeep6))
          (try dsimp only)
          refine hK.out _ _ ?_ (fun hNext => ?_)
          · try dsimp only
            (repeat (first | (with_reducible exact Keeps.refl _ _) | exact hKeep.out | exact hKeepS.out _ | assumption | (with_reducible refine Keeps.drew ?_) | (with_reducible refine Keeps.drewN ?_ _) | (with_reducible refine Keeps.alloc ?_ _) | (with_reducible refine Keeps.setCell ?_ (.inl (by first | exact .inl rfl | exact .inr rfl)) _)))
          clear hK K hHeld
          have hHeld := hNext
          clear hNext
          (try dsimp only at hHeld)
          try simp only [zX]
          refine zU 9 rfl ?_
          try simp only [zX]
          refine wpAnyH_done (by kernel_rfl) ?_ _
        all_goals
          have hB6 : Below W1.heap.size W1 w6 := Below.trans HB4.out (HK6.out.below HSZ4.out (fun j hj => HSLO.out j hj))
          have HB6 := hide hB6
          clear hHeld hB6 x6 lx z0 lz s1 s2
          go_wp2_with fail
          go_roundw
          case rel => exact ⟨k + 1, _, _, by go_num, by omega, HD2, HM6, HB6⟩
          case measure => simp [intOf]; omega
      · obtain ⟨j, hj⟩ : ∃ j : Nat, fd = (j : Int) := ⟨fd.toNat, by omega⟩
        have hfj : fndD l D k = (j : Int) := HFD.out.trans hj
        have hjD : j < D.length := by have h1 := fndD_lt (l := l) (D := D) (w := k) (by omega); rw [hfj] at h1; simpa using h1
        have HD2 : Hid (divN l (k + 1) = putD D j k) := by show divS l (divN l k) k = _; rw [HD.out, div_put HSB.out hfj]
        subst hj
        clear hfj hfd0
        go_upto_region 12 with (go_at_call 32; refine (HIX.out w3 (Below.refl _ _)).mono ?_; rintro e w4 ⟨rfl, hB4⟩; have HM4 := hide (HM3.out.to hB4); have HI4 := hide (box_to HI3.out hB4); have HW4 := hide (box_to HW3.out hB4); have HB4 := hide (Below.to HB3.out hB4 (Nat.le_refl _)); have HBr4 := hide (Below.to HBr3.out hB4 (Nat.le_refl _)); clear hB4)
        obtain ⟨g, hA9, hgB, hq9, cur, hcur⟩ := own_at7 HM4.out.own (by omega)
        subst hA9
        obtain ⟨gv, hgv⟩ : ∃ z, (P.getD j (undef, undef)).2 = z := ⟨_, rfl⟩
        obtain ⟨d, hd⟩ : ∃ z, D.getD j Md.o = z := ⟨_, rfl⟩
        have hgr := HM4.out.g j hjD
        rw [hgv, hd] at hgr
        obtain ⟨Ag, qg, hgve⟩ := owns_form hgr
        subst hgve
        have hdl : d.ws.length ≤ 60 := by
          obtain ⟨w0, t, h4, h5, h6, h7⟩ := HDI.out.at_ j hjD
          rw [hd] at h4
          rw [h4, List.length_cons]
          omega
        have HGR := hide hgr
        have HGV := hide hgv
        have HDE := hide hd
        have c0 := HM4.out.own.cellAt (j * 2 + 1) (by omega)
        rw [flat2_at1 P (by rw [HM4.out.len]; exact hjD), HGV.out] at c0
        have lg := box_lt hcur
        have z0 := cellOf HI4.out 0
        have lz := box_lt HI4.out
        have ij0 : (0 : Int) ≤ (j : Int) := by omega
        have ij1 : (j : Int) < (D.length : Int) := by omega
        have iq9 : (D.length : Int) ≤ (q9 : Int) := by omega
        have hgbi : ¬ g = bi := fun e => by
          have h1 := HI4.out
          rw [← e, hcur] at h1
          injection h1 with h1
          injection h1 with _ h1
          exact absurd h1 (by decide)
        have HSLO : Hid (∀ i, twoS (.slice Ag d.ws.length qg) g i → W1.heap.size ≤ i) := fun i hi => by
          rcases hi with hi | hi
          · omega
          · exact (HGR.out.lt9 i hi).1
        have s1 : ¬ twoS (.slice Ag d.ws.length qg) g bi := fun h => by
          rcases h with h | h
          · exact hgbi h.symm
          · have h1 := HLT.out j hjD bi (by rw [HGV.out]; exact h)
            omega
        have HSZ4 : Hid (W1.heap.size ≤ w4.heap.size) := HB4.out.size
        have hgw4 : g < w4.heap.size := lg
        clear hgr hgv hd hcur hgbi
        refine wp_region_held_drew (S := (fun w' => Keeps (twoS (.slice Ag d.ws.length qg) g) w4 w')) (by kernel_rfl) ?_ (fun hHeld => ?_)
        · try dsimp only
          (repeat (first | (with_reducible exact Keeps.refl _ _) | exact hKeep.out | exact hKeepS.out _ | assumption | (with_reducible refine Keeps.drew ?_) | (with_reducible refine Keeps.drewN ?_ _) | (with_reducible refine Keeps.alloc ?_ _) | (with_reducible refine Keeps.setCell ?_ (.inl (by first | exact .inl rfl | exact .inr rfl)) _)))
        refine zU 0 rfl ?_
        try simp only [zX]
        refine zU 1 rfl ?_
        try simp only [zX]
        refine zU 2 rfl ?_
        try simp only [zX]
        refine zU 3 rfl ?_
        try simp only [zX]
        refine zU 4 rfl ?_
        try simp only [zX]
        refine zU 5 rfl ?_
        try simp only [zX]
        refine zU 7 rfl ?_
        try simp only [zX]
        refine wpAnyH_ready (rs := [6, 8]) (by kernel_rfl) (by simp) ?_
        refine (AllReadyH.cons rfl (fun K hK => ?o2_8_6) (AllReadyH.cons rfl (fun K hK => ?o2_8_8) AllReadyH.nil))
        case' o2_8_6 =>
          go_simp
          refine hK.out _ _ ?_ (fun hNext => ?_)
          · try dsimp only
            (repeat (first | (with_reducible exact Keeps.refl _ _) | exact hKeep.out | exact hKeepS.out _ | assumption | (with_reducible refine Keeps.drew ?_) | (with_reducible refine Keeps.drewN ?_ _) | (with_reducible refine Keeps.alloc ?_ _) | (with_reducible refine Keeps.setCell ?_ (.inl (by first | exact .inl rfl | exact .inr rfl)) _)))
          clear hK K hHeld
          have hHeld := hNext
          clear hNext
          (try dsimp only at hHeld)
          try simp only [zX]
          refine wpAnyH_ready (rs := [8]) (by kernel_rfl) (by simp) ?_
          refine (AllReadyH.cons rfl (fun K hK => ?_) AllReadyH.nil)
          go_simp
          refine hK.out _ _ ?_ (fun hNext => ?_)
          · try dsimp only
            (repeat (first | (with_reducible exact Keeps.refl _ _) | exact hKeep.out | exact hKeepS.out _ | assumption | (with_reducible refine Keeps.drew ?_) | (with_reducible refine Keeps.drewN ?_ _) | (with_reducible refine Keeps.alloc ?_ _) | (with_reducible refine Keeps.setCell ?_ (.inl (by first | exact .inl rfl | exact .inr rfl)) _)))
          clear hK K hHeld
          have hHeld := hNext
          clear hNext
          (try dsimp only at hHeld)
          try simp only [zX]
          refine wpAnyH_ready (rs := [9]) (by kernel_rfl) (by simp) ?_
          refine (AllReadyH.cons rfl (fun K hK => ?_) AllReadyH.nil)
          (refine step_append_any _ (by rfl) (.tmp 56) (.tmp 58) _ (by rfl) W1.heap.size 3 i0 _ 1 8 Try.underlying22 hi0 iz0 iz1 iz2 (by rfl) (by omega) (.slice Ag d.ws.length qg) d.ws.length (d.ws.map (Value.int .i64)) (by rfl) (World.ownsRow.alloc (w := w4.drew) HGR.out _) (w4.heap.size + 1) (some ⟨w4.heap.size, 0, none⟩) 1 1 [.int .i64 (k : Nat)] (by rfl) ⟨rfl, fun _ => ⟨_, rfl, by simp, World.news_of_block (heap_alloc_new w4.drew _)⟩⟩ (by simp [Value.oneCell']) (by unfold maxLen; omega) (by omega) (by have h2 := HSZ4.out; simp; omega) ?_; intro v6 w6 hown6 hg60 hat60; obtain ⟨A6, q6, hv6⟩ := owns_form hown6; subst hv6; have hg6 : (w4.alloc (.cells #[.int .i64 (k : Nat)] 3)).grownBy w6 (Value.slice Ag d.ws.length qg).ownBlock := ⟨hg60.os, hg60.tape, hg60.output, hg60.size, hg60.block⟩; have hat6 : (Value.slice A6 (d.ws.length + 1) q6).ownBlock = (Value.slice Ag d.ws.length qg).ownBlock ∨ (Value.slice A6 (d.ws.length + 1) q6).ownBlock = some (w4.alloc (.cells #[.int .i64 (k : Nat)] 3)).heap.size := hat60; clear hg60 hat60; have hKeep : Hid (Keeps (twoS (.slice Ag d.ws.length qg) g) w4 w6) := Keeps.trans ((Keeps.refl _ w4).alloc _) (Keeps.of_grown hg6 (fun i hi => Or.inr hi)) (fun _ _ h => h); have hKeepS : Hid (∀ u, Keeps (twoS (.slice Ag d.ws.length qg) g) w4 (w6.setCell ⟨g, j * 2 + 1, none⟩ u)) := (fun u => hKeep.out.setCell (.inl (Or.inl rfl)) u); have ho6 := ownsKeep HM4.out.own HGR.out (by decide) hg6; have j0 := ho6.cellAt (j * 2 + 1) (by omega); rw [flat2_at1 P (by rw [HM4.out.len]; exact hjD), HGV.out] at j0; have j1 := ho6.frozenAt (j * 2 + 1); have jl : g < w6.heap.size := Nat.lt_of_lt_of_le hgw4 hKeep.out.size; have HOWN := hide hown6; have HG6 := hide hg6; have HAT := hide hat6; clear ho6 hown6 hg6 hat6)
          (try dsimp only)
          refine hK.out _ _ ?_ (fun hNext => ?_)
          · try dsimp only
            (repeat (first | (with_reducible exact Keeps.refl _ _) | exact hKeep.out | exact hKeepS.out _ | assumption | (with_reducible refine Keeps.drew ?_) | (with_reducible refine Keeps.drewN ?_ _) | (with_reducible refine Keeps.alloc ?_ _) | (with_reducible refine Keeps.setCell ?_ (.inl (by first | exact .inl rfl | exact .inr rfl)) _)))
          clear hK K hHeld
          have hHeld := hNext
          clear hNext
          (try dsimp only at hHeld)
          try simp only [zX]
          refine zU 10 rfl ?_
          try simp only [zX]
          refine zU 11 rfl ?_
          try simp only [zX]
          refine wpAnyH_ready (rs := [12]) (by kernel_rfl) (by simp) ?_
          refine (AllReadyH.cons rfl (fun K hK => ?_) AllReadyH.nil)
          go_simp
          refine hK.out _ _ ?_ (fun hNext => ?_)
          · try dsimp only
            (repeat (first | (with_reducible exact Keeps.refl _ _) | exact hKeep.out | exact hKeepS.out _ | assumption | (with_reducible refine Keeps.drew ?_) | (with_reducible refine Keeps.drewN ?_ _) | (with_reducible refine Keeps.alloc ?_ _) | (with_reducible refine Keeps.setCell ?_ (.inl (by first | exact .inl rfl | exact .inr rfl)) _)))
          clear hK K hHeld
          have hHeld := hNext
          clear hNext
          (try dsimp only at hHeld)
          try simp only [zX]
          refine wpAnyH_done (by kernel_rfl) ?_ _
        case' o2_8_8 =>
          go_simp
          refine hK.out _ _ ?_ (fun hNext => ?_)
          · try dsimp only
            (repeat (first | (with_reducible exact Keeps.refl _ _) | exact hKeep.out | exact hKeepS.out _ | assumption | (with_reducible refine Keeps.drew ?_) | (with_reducible refine Keeps.drewN ?_ _) | (with_reducible refine Keeps.alloc ?_ _) | (with_reducible refine Keeps.setCell ?_ (.inl (by first | exact .inl rfl | exact .inr rfl)) _)))
          clear hK K hHeld
          have hHeld := hNext
          clear hNext
          (try dsimp only at hHeld)
          try simp only [zX]
          refine wpAnyH_ready (rs := [6]) (by kernel_rfl) (by simp) ?_
          refine (AllReadyH.cons rfl (fun K hK => ?_) AllReadyH.nil)
          go_simp
          refine hK.out _ _ ?_ (fun hNext => ?_)
          · try dsimp only
            (repeat (first | (with_reducible exact Keeps.refl _ _) | exact hKeep.out | exact hKeepS.out _ | assumption | (with_reducible refine Keeps.drew ?_) | (with_reducible refine Keeps.drewN ?_ _) | (with_reducible refine Keeps.alloc ?_ _) | (with_reducible refine Keeps.setCell ?_ (.inl (by first | exact .inl rfl | exact .inr rfl)) _)))
          clear hK K hHeld
          have hHeld := hNext
          clear hNext
          (try dsimp only at hHeld)
          try simp only [zX]
          refine wpAnyH_ready (rs := [9]) (by kernel_rfl) (by simp) ?_
          refine (AllReadyH.cons rfl (fun K hK => ?_) AllReadyH.nil)
          (refine step_append_any _ (by rfl) (.tmp 56) (.tmp 58) _ (by rfl) W1.heap.size 3 i0 _ 1 8 Try.underlying22 hi0 iz0 iz1 iz2 (by rfl) (by omega) (.slice Ag d.ws.length qg) d.ws.length (d.ws.map (Value.int .i64)) (by rfl) (World.ownsRow.alloc (w := w4.drew) HGR.out _) (w4.heap.size + 1) (some ⟨w4.heap.size, 0, none⟩) 1 1 [.int .i64 (k : Nat)] (by rfl) ⟨rfl, fun _ => ⟨_, rfl, by simp, World.news_of_block (heap_alloc_new w4.drew _)⟩⟩ (by simp [Value.oneCell']) (by unfold maxLen; omega) (by omega) (by have h2 := HSZ4.out; simp; omega) ?_; intro v6 w6 hown6 hg60 hat60; obtain ⟨A6, q6, hv6⟩ := owns_form hown6; subst hv6; have hg6 : (w4.alloc (.cells #[.int .i64 (k : Nat)] 3)).grownBy w6 (Value.slice Ag d.ws.length qg).ownBlock := ⟨hg60.os, hg60.tape, hg60.output, hg60.size, hg60.block⟩; have hat6 : (Value.slice A6 (d.ws.length + 1) q6).ownBlock = (Value.slice Ag d.ws.length qg).ownBlock ∨ (Value.slice A6 (d.ws.length + 1) q6).ownBlock = some (w4.alloc (.cells #[.int .i64 (k : Nat)] 3)).heap.size := hat60; clear hg60 hat60; have hKeep : Hid (Keeps (twoS (.slice Ag d.ws.length qg) g) w4 w6) := Keeps.trans ((Keeps.refl _ w4).alloc _) (Keeps.of_grown hg6 (fun i hi => Or.inr hi)) (fun _ _ h => h); have hKeepS : Hid (∀ u, Keeps (twoS (.slice Ag d.ws.length qg) g) w4 (w6.setCell ⟨g, j * 2 + 1, none⟩ u)) := (fun u => hKeep.out.setCell (.inl (Or.inl rfl)) u); have ho6 := ownsKeep HM4.out.own HGR.out (by decide) hg6; have j0 := ho6.cellAt (j * 2 + 1) (by omega); rw [flat2_at1 P (by rw [HM4.out.len]; exact hjD), HGV.out] at j0; have j1 := ho6.frozenAt (j * 2 + 1); have jl : g < w6.heap.size := Nat.lt_of_lt_of_le hgw4 hKeep.out.size; have HOWN := hide hown6; have HG6 := hide hg6; have HAT := hide hat6; clear ho6 hown6 hg6 hat6)
          (try dsimp only)
          refine hK.out _ _ ?_ (fun hNext => ?_)
          · try dsimp only
            (repeat (first | (with_reducible exact Keeps.refl _ _) | exact hKeep.out | exact hKeepS.out _ | assumption | (with_reducible refine Keeps.drew ?_) | (with_reducible refine Keeps.drewN ?_ _) | (with_reducible refine Keeps.alloc ?_ _) | (with_reducible refine Keeps.setCell ?_ (.inl (by first | exact .inl rfl | exact .inr rfl)) _)))
          clear hK K hHeld
          have hHeld := hNext
          clear hNext
          (try dsimp only at hHeld)
          try simp only [zX]
          refine zU 10 rfl ?_
          try simp only [zX]
          refine zU 11 rfl ?_
          try simp only [zX]
          refine wpAnyH_ready (rs := [12]) (by kernel_rfl) (by simp) ?_
          refine (AllReadyH.cons rfl (fun K hK => ?_) AllReadyH.nil)
          go_simp
          refine hK.out _ _ ?_ (fun hNext => ?_)
          · try dsimp only
            (repeat (first | (with_reducible exact Keeps.refl _ _) | exact hKeep.out | exact hKeepS.out _ | assumption | (with_reducible refine Keeps.drew ?_) | (with_reducible refine Keeps.drewN ?_ _) | (with_reducible refine Keeps.alloc ?_ _) | (with_reducible refine Keeps.setCell ?_ (.inl (by first | exact .inl rfl | exact .inr rfl)) _)))
          clear hK K hHeld
          have hHeld := hNext
          clear hNext
          (try dsimp only at hHeld)
          try simp only [zX]
          refine wpAnyH_done (by kernel_rfl) ?_ _
        all_goals
          generalize hw9 : World.setCell _ _ _ = w9
          have hM9 := DvM.add HM4.out rfl hjD (by rw [HDE.out]; exact HOWN.out) (by rw [HGV.out]; exact HG6.out) (by rw [HGV.out]; exact HAT.out) hw9
          have hK9 : Keeps (twoS (.slice Ag d.ws.length qg) g) w4 w9 := by rw [← hw9]; exact hKeepS.out _
          have hB9 : Below W1.heap.size W1 w9 := Below.trans HB4.out (hK9.below HSZ4.out (fun i hi => HSLO.out i hi))
          have HM9 := hide hM9
          have HB9 := hide hB9
          clear hHeld hw9 hM9 hK9 hB9 c0 lg z0 lz s1 j0 j1 jl
          go_wp2_with fail
          go_roundw
          case rel => exact ⟨k + 1, _, _, by go_num, by omega, HD2, HM9, HB9⟩
          case measure => simp [intOf]; omega
end Go.Proofs.Ytehadoecnmfeoaa

/- Part 30 of this claim's texts: walks and plain laws. -/
import Derived.Test.YtehadoecnmfeoaaRows
import Derived.Test.YtehadoecnmfeoaaGBB28
import Derived.Test.YtehadoecnmfeoaaGBB29
import Derived.Test.YtehadoecnmfeoaaGBB14
import Derived.Deep.DeepMust
import Derived.Deep.RegionHeld3
import Derived.Deep.DrawnRows
import Derived.Test.YtehadoecnmfeoaaGBB13
import Derived.Test.YtehadoecnmfeoaaGBB8
import Derived.Test.YtehadoecnmfeoaaGBB16
/- What is picked, with the errors, on both sides: walks. -/
namespace Go.Proofs.Ytehadoecnmfeoaa
open Go.RowKit
set_option linter.unusedVariables false
set_option linter.unusedSimpArgs false
def pikE (l : Lo) (ms : List Md) (x : List Bool) : Int := if bldE l ms = 0 then (if x.length = l.m.opts.length then 0 else 1) else bldE l ms
def pikL (l : Lo) (ms : List Md) (x : List Bool) : List Nat := if pikE l ms x = 0 then pckL ms x else []
theorem pik_err {l : Lo} {ms : List Md} {x : List Bool} (h : bldE l ms ≠ 0) : pikE l ms x = bldE l ms ∧ pikL l ms x = [] := by
  have h1 : pikE l ms x = bldE l ms := by unfold pikE; rw [if_neg h]
  refine ⟨h1, ?_⟩
  unfold pikL
  rw [h1, if_neg h]
theorem pik_arg {l : Lo} {ms : List Md} {x : List Bool} (h : bldE l ms = 0) (h2 : x.length ≠ l.m.opts.length) : pikE l ms x = 1 ∧ pikL l ms x = [] := by
  have h1 : pikE l ms x = 1 := by unfold pikE; rw [if_pos h, if_neg h2]
  refine ⟨h1, ?_⟩
  unfold pikL
  rw [h1, if_neg (by decide)]
theorem pik_ok {l : Lo} {ms : List Md} {x : List Bool} (h : bldE l ms = 0) (h2 : x.length = l.m.opts.length) : pikE l ms x = 0 ∧ pikL l ms x = pckL ms x := by
  have h1 : pikE l ms x = 0 := by unfold pikE; rw [if_pos h, if_pos h2]
  refine ⟨h1, ?_⟩
  unfold pikL
  rw [if_pos h1]
def PicP (L : List Nat) (er : Int) (w : World) (e : Ending) (w' : World) : Prop := ∃ v, e = .returned (.tuple #[v, .int .i64 er]) ∧ Nods w' w'.heap.size v L ∧ Below w.heap.size w w'
theorem right_val {l : Lo} {d : Md} (h : rightB l d = true) : wiresB l.ws.length d.ws = true ∧ validF l.m.opts.length d.f = true := by
  unfold rightB at h
  exact Bool.and_eq_true_iff.1 h
set_option maxRecDepth 100000 in
set_option maxHeartbeats 4000000 in
theorem bholds_any (f : List Int) (x : List Bool) (Af : Option Addr) (qf : Nat) (vv : Value) (A0 A1 A2 A3 A4 A5 : Option Addr) (q0 q1 q2 q3 q4 q5 : Nat) (l : Lo) (w : World) (hs : SizedL l) (hl : f.length ≤ maxLen) (h : LoA w w.heap.size A0 A1 A2 A3 A4 A5 q0 q1 q2 q3 q4 q5 l) (hf : Ints w w.heap.size (.slice Af f.length qf) f) (hx : Bols w w.heap.size vv x) (hm : l.m.err = 0) (hv : validF l.m.opts.length f = true) (hN : x.length = l.m.opts.length) :
    Calls Try.prog 54 #[.agg #[.slice A0 l.m.opts.length q0, .slice A1 l.m.rules.length q1, .slice A2 l.ss.length q2, .slice A3 l.us.length q3, .slice A4 l.ps.length q4, .slice A5 l.ws.length q5], .slice Af f.length qf, vv] w fun e w' => e = .returned (.bool (evF1 (vf x) f)) ∧ Below w.heap.size w w' := by
  have hok := hol_ok (m := l.m) (f := f) (vs := x) (errF_all hm fun g hg => by rw [List.mem_singleton] at hg; rw [hg]; exact hv) hN
  obtain ⟨Ax, qx, hvv⟩ := Sl.form hx
  subst hvv
  have H := hide h
  have HS := hide hs
  have HF := hide hf
  have HX := hide hx
  have HL := hide hl
  obtain ⟨r, hr⟩ : ∃ r, evF1 (vf x) f = r := ⟨_, rfl⟩
  rw [hr] at hok ⊢
  have HOK := hide hok
  clear hok h hs hf hx hl hr hN
  go_enter Try.func54, Try.ntmps54
  go_upto_region 1 with (fail)
  generalize hw0 : World.alloc _ _ = w0
  obtain ⟨hb0, hB0, hs0⟩ := alloc1 hw0
  have HB0 := hide hB0
  have c0 := cellOf hb0 0; have c1 := cellOf hb0 1; have c2 := cellOf hb0 2; have c3 := cellOf hb0 3; have c4 := cellOf hb0 4; have c5 := cellOf hb0 5
  have hlb := box_lt hb0
  clear hw0 hb0 hB0 hs0
  go_wp2_with (go_at_call 97; refine (Holds_any l.m f x _ _ _ _ w0 HS.out.m HL.out (H.out.up HB0.out).m (HF.out.up HB0.out) (Sl.up HX.out HB0.out)).mono ?_; rw [HOK.out.1, HOK.out.2]; rintro e w1 ⟨rfl, hB1⟩; have HB1 := hide (Below.to HB0.out hB1 (Nat.le_refl _)); clear hB1 c0 c1 c2 c3 c4 c5 hlb)
  go_ret
  exact ⟨rfl, HB1.out⟩
theorem ms_valid {l : Lo} {ms : List Md} (h : bldE l ms = 0) : ∀ d ∈ ms, validF l.m.opts.length d.f = true := fun d hd => (right_val ((bldE_ok h).ok d hd)).2
theorem ms_wires {l : Lo} {ms : List Md} (h : bldE l ms = 0) : ∀ d ∈ ms, wiresB l.ws.length d.ws = true := fun d hd => (right_val ((bldE_ok h).ok d hd)).1
set_option maxRecDepth 100000 in
set_option maxHeartbeats 8000000 in
theorem Pick_any (ms : List Md) (x : List Bool) (Am : Option Addr) (qm : Nat) (Ax : Option Addr) (qx : Nat) (A0 A1 A2 A3 A4 A5 : Option Addr) (q0 q1 q2 q3 q4 q5 : Nat) (l : Lo) (w : World) (hs : SizedL l) (hd : SizedD ms) (h : LoA w w.heap.size A0 A1 A2 A3 A4 A5 q0 q1 q2 q3 q4 q5 l) (hm : Mods w w.heap.size (.slice Am ms.length qm) ms) (hx : Bols w w.heap.size (.slice Ax x.length qx) x) :
    Calls Try.prog 19 #[.agg #[.slice A0 l.m.opts.length q0, .slice A1 l.m.rules.length q1, .slice A2 l.ss.length q2, .slice A3 l.us.length q3, .slice A4 l.ps.length q4, .slice A5 l.ws.length q5], .slice Am ms.length qm, .slice Ax x.length qx] w (PicP (pikL l ms x) (pikE l ms x) w) := by
  obtain ⟨i0, hi0, iz0, iz1, iz2⟩ := info_parts infoInt
  have H := hide h
  have HS := hide hs
  have HM := hide hm
  have HD := hide hd
  have HX := hide hx
  obtain ⟨er, her⟩ : ∃ z, bldE l ms = z := ⟨_, rfl⟩
  have HER := hide her
  clear h hs hm hd hx
  by_cases h0 : er = 0
  case neg =>
    have hp := pik_err (l := l) (ms := ms) (x := x) (by rw [her]; exact h0)
    rw [hp.1, hp.2, her]
    have hz1 : (er != 0) = true := by simpa using h0
    clear her h0 hp
    go_enter Try.func19, Try.ntmps19
    go_upto_region 1 with (fail)
    generalize hw0 : World.alloc _ _ = w0
    obtain ⟨hb0, hB0, hs0⟩ := alloc1 hw0
    have HB0 := hide hB0
    have c0 := cellOf hb0 0; have c1 := cellOf hb0 1; have c2 := cellOf hb0 2; have c3 := cellOf hb0 3; have c4 := cellOf hb0 4; have c5 := cellOf hb0 5
    have hlb := box_lt hb0
    clear hw0 hb0 hB0 hs0
    go_wp2_with (go_at_call 36; refine (bCheck_any ms Am qm A0 A1 A2 A3 A4 A5 q0 q1 q2 q3 q4 q5 l _ HS.out HD.out (H.out.up HB0.out) (HM.out.up HB0.out)).mono ?_; rw [HER.out]; rintro e w1 ⟨rfl, hB1⟩; have HB1 := hide (Below.to HB0.out hB1 (Nat.le_refl _)); clear hB1 c0 c1 c2 c3 c4 c5 hlb)
    go_ret2
    exact ⟨_, rfl, Sl.nil _ _ _ _, HB1.out⟩
  case pos =>
  subst h0
  by_cases hxl : x.length = l.m.opts.length
  case neg =>
    have hp := pik_arg her hxl
    rw [hp.1, hp.2]
    have n1 : ((x.length : Int) != (l.m.opts.length : Int)) = true := by simp; omega
    clear her hxl hp
    go_enter Try.func19, Try.ntmps19
    go_upto_region 1 with (fail)
    generalize hw0 : World.alloc _ _ = w0
    obtain ⟨hb0, hB0, hs0⟩ := alloc1 hw0
    have HL0 : Hid (LoBox w0 w.heap.size A0 A1 A2 A3 A4 A5 q0 q1 q2 q3 q4 q5 l) := hb0
    have HB0 := hide hB0
    have c0 := cellOf hb0 0; have c1 := cellOf hb0 1; have c2 := cellOf hb0 2; have c3 := cellOf hb0 3; have c4 := cellOf hb0 4; have c5 := cellOf hb0 5
    have hlb := box_lt hb0
    clear hw0 hb0 hB0 hs0
    go_wp2_with (go_at_call 36; refine (bCheck_any ms Am qm A0 A1 A2 A3 A4 A5 q0 q1 q2 q3 q4 q5 l _ HS.out HD.out (H.out.up HB0.out) (HM.out.up HB0.out)).mono ?_; rw [HER.out]; rintro e w1 ⟨rfl, hB1⟩; have HL1 := hide (HL0.out.to hB1); have HB1 := hide (Below.to HB0.out hB1 (Nat.le_refl _)); clear hB1 c0 c1 c2 c3 c4 c5 hlb; have c0 := cellOf HL1.out 0; have c1 := cellOf HL1.out 1; have c2 := cellOf HL1.out 2; have c3 := cellOf HL1.out 3; have c4 := cellOf HL1.out 4; have c5 := cellOf HL1.out 5; have hlb := box_lt HL1.out)
    go_ret2
    exact ⟨_, rfl, Sl.nil _ _ _ _, HB1.out⟩
  case pos =>
  have hp := pik_ok her hxl
  obtain ⟨LR, hLR⟩ : ∃ z, pckL ms x = z := ⟨_, rfl⟩
  rw [hp.1, hp.2, hLR]
  have HLR := hide hLR
  clear hLR
  have n1 : ((x.length : Int) != (l.m.opts.length : Int)) = false := by simp; omega
  have HXL := hide hxl
  have HV := hide (ms_valid her)
  have h60 := (bldE_ok her).n
  have HMO := hide (bldE_ok her).lo.m
  clear her hxl hp
  go_enter Try.func19, Try.ntmps19
  go_upto_region 1 with (fail)
  generalize hw0 : World.alloc _ _ = w0
  obtain ⟨hb0, hB0, hs0⟩ := alloc1 hw0
  have HL0 : Hid (LoBox w0 w.heap.size A0 A1 A2 A3 A4 A5 q0 q1 q2 q3 q4 q5 l) := hb0
  have HB0 := hide hB0
  have c0 := cellOf hb0 0; have c1 := cellOf hb0 1; have c2 := cellOf hb0 2; have c3 := cellOf hb0 3; have c4 := cellOf hb0 4; have c5 := cellOf hb0 5
  have hlb := box_lt hb0
  clear hw0 hb0 hB0 hs0
  go_upto_region 4 with (go_at_call 36; refine (bCheck_any ms Am qm A0 A1 A2 A3 A4 A5 q0 q1 q2 q3 q4 q5 l _ HS.out HD.out (H.out.up HB0.out) (HM.out.up HB0.out)).mono ?_; rw [HER.out]; rintro e w1 ⟨rfl, hB1⟩; have HL1 := hide (HL0.out.to hB1); have HB1 := hide (Below.to HB0.out hB1 (Nat.le_refl _)); clear hB1 c0 c1 c2 c3 c4 c5 hlb; have c0 := cellOf HL1.out 0; have c1 := cellOf HL1.out 1; have c2 := cellOf HL1.out 2; have c3 := cellOf HL1.out 3; have c4 := cellOf HL1.out 4; have c5 := cellOf HL1.out 5; have hlb := box_lt HL1.out)
  obtain ⟨W1, hW1⟩ : ∃ wo : World, wo = w1 := ⟨_, rfl⟩
  subst hW1
  go_wp2_with fail
  go_loopw [6, 9, 10, 26] (fun sv _ _ i wr => ∃ (k : Nat) (L : List Nat), i = .int .i64 k ∧ k ≤ ms.length ∧ L.length ≤ k ∧ Hid (pckK ms x k = L) ∧ Hid (wr.ownsRow W1.heap.size 3 1 sv L.length (L.map fun (n : Nat) => Value.int .i64 n)) ∧ Hid (Below W1.heap.size W1 wr)) (fun _ _ _ i _ => ms.length - (intOf i).toNat)
  case atStart => exact ⟨0, [], rfl, Nat.zero_le _, Nat.le_refl _, rfl, World.ownsRow_nil _ _ _ _, Below.refl _ _⟩
  case round =>
    obtain ⟨k, L, rfl, hk, hLk, HL, HO, HB⟩ := hrel
    obtain ⟨A9, q9, hv9⟩ := owns_form HO.out
    subst hv9
    by_cases hkl : k < ms.length
    case neg =>
      have hkl1 : ¬ (k : Int) < (ms.length : Int) := by omega
      have hLL : LR = L := by rw [← HL.out, ← HLR.out]; unfold pckL; rw [show ms.length = k by omega]
      subst hLL
      clear hkl c0 c1 c2 c3 c4 c5 hlb
      go_wp2_with fail
      go_ret2
      exact ⟨_, rfl, Nods.of_own HO.out, Below.to HB1.out HB.out (Nat.le_refl _)⟩
    case pos =>
    have hkl1 : (k : Int) < (ms.length : Int) := by omega
    have ik0 : (0 : Int) ≤ (k : Int) := by omega
    have HBr := hide (Below.to HB1.out HB.out (Nat.le_refl _))
    obtain ⟨b, off, d, Af, qf, Aw, qw, HDD, hA, hb, hq, HF, HWS, e0, e1⟩ := HM.out.at hkl
    subst hA
    have z0 := (HBr.out.cell (p := ⟨b, off + k * 2, none⟩) hb).trans e0
    have z1 := (HBr.out.cell (p := ⟨b, off + k * 2 + 1, none⟩) hb).trans e1
    have lb : b < wr.heap.size := Nat.lt_of_lt_of_le hb HBr.out.size
    have iq : (ms.length : Int) ≤ (qm : Int) := by omega
    have hmem : d ∈ ms := by rw [← HDD.out]; exact getD_mem7 hkl
    have HVD := hide (HV.out d hmem)
    have HDL := hide (HD.out.f d hmem).1
    have hps := pckK_succ ms x k
    rw [HL.out, HDD.out] at hps
    unfold pckB at hps
    have hLl : L.length ≤ 60 := by omega
    have HLr := hide (HL1.out.to HB.out)
    clear e0 e1 hq hmem c0 c1 c2 c3 c4 c5 hlb
    go_upto_region 9 with (fail)
    generalize hw3 : World.alloc _ _ = w3
    obtain ⟨hb3, hB3, hs3⟩ := alloc1 hw3
    have m0 := cellOf hb3 0
    have m1 := cellOf hb3 1
    have lm := box_lt hb3
    have HLr3 := hide (HLr.out.to hB3)
    have c0 := cellOf HLr3.out 0; have c1 := cellOf HLr3.out 1; have c2 := cellOf HLr3.out 2; have c3 := cellOf HLr3.out 3; have c4 := cellOf HLr3.out 4; have c5 := cellOf HLr3.out 5
    have hlb := box_lt HLr3.out
    have HO3 := hide (owns_below HO.out hB3)
    have HB3 := hide (Below.to HB.out hB3 (Nat.le_refl _))
    have HBr3 := hide (Below.to HB1.out HB3.out (Nat.le_refl _))
    clear hw3 hb3 hB3 hs3 z0 z1 lb
    cases hc : evF1 (vf x) d.f with
    | true =>
      rw [hc, if_pos rfl] at hps
      have HC := hide hc
      have HPS := hide hps
      clear hps hc
      go_wp2_with (first | (go_at_call 54; refine (bholds_any d.f x Af qf _ A0 A1 A2 A3 A4 A5 q0 q1 q2 q3 q4 q5 l w3 HS.out HDL.out (H.out.up HBr3.out) (HF.out.up HBr3.out) (Sl.up HX.out HBr3.out) HMO.out HVD.out HXL.out).mono ?_; rw [HC.out]; rintro e w4 ⟨rfl, hB4⟩; have HO4 := hide (owns_below HO3.out hB4); have HB4 := hide (Below.to HB3.out hB4 (Nat.le_refl _)); clear hB4 c0 c1 c2 c3 c4 c5 hlb m0 m1 lm) | (at_builtin; go_must (refine wpList_append_own_at _ rfl (.tmp 36) (.tmp 38) _ rfl (W1.heap.size) 3 i0 _ 1 8 Try.underlying22 hi0 iz0 iz1 iz2 rfl (by omega) _ _ _ rfl ((HO4.out).alloc _) ⟨w4.heap.size, 0, none⟩ 1 1 [.int .i64 (k : Nat)] rfl rfl (World.news_of_block (heap_alloc_new w4 _)) (by simp [Value.oneCell']) (by have h1 := hLl; unfold maxLen; omega) (by have h1 := hLl; omega) (by have h1 := HB4.out.size; simp; omega) ?_); intro v1 w3 hown1 hg1 _ hat1; have HO5 := hide hown1; have HB5 := hide (Below.grown (Below.allocT HB4.out (Nat.le_refl _) _) hg1 (by have := HB4.out.size; simp; omega) (fun j hj => (HO4.out.lt j hj).1)); clear hown1 hg1 hat1))
      go_roundw
      case rel => exact ⟨k + 1, L ++ [k], by go_num, by omega, by simp; omega, HPS, by
          have := HO5.out
          rw [List.map_append, List.length_append, List.length_singleton]
          exact this, HB5⟩
      case measure => simp [intOf]; omega
    | false =>
      rw [hc, if_neg (by simp)] at hps
      have HC := hide hc
      have HPS := hide hps
      clear hps hc
      go_wp2_with (go_at_call 54; refine (bholds_any d.f x Af qf _ A0 A1 A2 A3 A4 A5 q0 q1 q2 q3 q4 q5 l w3 HS.out HDL.out (H.out.up HBr3.out) (HF.out.up HBr3.out) (Sl.up HX.out HBr3.out) HMO.out HVD.out HXL.out).mono ?_; rw [HC.out]; rintro e w4 ⟨rfl, hB4⟩; have HO4 := hide (owns_below HO3.out hB4); have HB4 := hide (Below.to HB3.out hB4 (Nat.le_refl _)); clear hB4 c0 c1 c2 c3 c4 c5 hlb m0 m1 lm)
      go_roundw
      case rel => exact ⟨k + 1, L, by go_num, by omega, by omega, HPS, HO4, HB4⟩
      case measure => simp [intOf]; omega
end Go.Proofs.Ytehadoecnmfeoaa
/- The wires of a module: how many. Plain. -/
namespace Go.Proofs.Ytehadoecnmfeoaa
set_option linter.unusedVariables false
set_option linter.unusedSimpArgs false
theorem wires_up {n : Nat} {ws : List Int} (h : wiresB n ws = true) : ∀ k, k < ws.length → (k : Int) ≤ ws.getD k 0
  | 0, hk => (wires_at h hk).1
  | k + 1, hk => by
    have h1 := wires_up h k (by omega)
    have h2 := (wires_at h hk).2.2 (by omega)
    rw [Nat.add_sub_cancel] at h2
    omega
theorem wires_len {n : Nat} {ws : List Int} (h : wiresB n ws = true) : ws.length ≤ n := by
  rcases Nat.eq_zero_or_pos ws.length with h0 | h0
  · omega
  · have h1 := wires_up h (ws.length - 1) (by omega)
    have h2 := (wires_at h (show ws.length - 1 < ws.length by omega)).2.1
    omega
end Go.Proofs.Ytehadoecnmfeoaa
/- The rules because of which no variant meets a formula. Plain laws. -/
namespace Go.Proofs.Ytehadoecnmfeoaa
set_option linter.unusedVariables false
/-- Some rules of a model, by number. -/
def rulesAt (m : Mo) (K : List Nat) : List (List Int) := K.map fun k => m.rules.getD k []
/-- The variants in which a formula, some rules, and those from one on hold. -/
def corS (m : Mo) (f : List Int) (K : List Nat) (j : Nat) : List (List Bool) := (exts m.opts.length []).filter fun x => evF1 (vf x) f && (allF (vf x) (rulesAt m K) && allF (vf x) (m.rules.drop j))
/-- Those of the first i rules that are left. -/
def kept (m : Mo) (f : List Int) : Nat → List Nat
  | 0 => []
  | i + 1 => if (corS m f (kept m f i) (i + 1)).isEmpty then kept m f i else kept m f i ++ [i]
/-- A model with some of the rules. -/
def fewM (m : Mo) (K : List Nat) : Mo := ⟨m.opts, rulesAt m K⟩
/-- What Core returns. -/
def corE (m : Mo) (f : List Int) : Int := if m.errF [f] ≠ 0 then m.errF [f] else if whereF (allM m) f ≠ [] then 1 else 0
def corL (m : Mo) (f : List Int) : List Nat := if corE m f = 0 then kept m f m.rules.length else []
end Go.Proofs.Ytehadoecnmfeoaa
/- The rules because of which no variant meets a formula: walk. -/
namespace Go.Proofs.Ytehadoecnmfeoaa
open Go.RowKit
set_option linter.unusedVariables false
set_option linter.unusedSimpArgs false
/-- A list of rules and an error. -/
def CorP (l : List Nat) (er : Int) (w : World) (e : Ending) (w' : World) : Prop := ∃ v, e = .returned (.tuple #[v, .int .i64 er]) ∧ Nods w' w'.heap.size v l ∧ Below w.heap.size w w'
theorem CorP.none (er : Int) {w w' : World} (h : Below w.heap.size w w') : CorP [] er w (.returned (.tuple #[.slice none 0 0, .int .i64 er])) w' := ⟨_, rfl, Sl.nil _ _ _ _, h⟩
/-- What a slice from k on gives. -/
def slcV (A : Option Addr) (n cap k : Nat) : Value := sliced A k n cap 1
theorem Forms.drop {w : World} {B n cap : Nat} {A : Option Addr} {l : List (List Int)} {k : Nat} (h : Forms w B (.slice A n cap) l) (hk : k ≤ l.length) : Forms w B (slcV A n cap k) (l.drop k) := by
  obtain ⟨fv, ⟨A1, b1, off1, cap1, hv, hn, hA, hc⟩, h2⟩ := h
  injection hv with e1 e2 e3
  subst e1 e2 e3
  unfold slcV sliced
  split
  · rename_i hck
    have h0 : l.drop k = [] := List.drop_eq_nil_of_le (by omega)
    rw [h0, show l.length - k = 0 by omega, show cap - k = 0 by omega]
    exact ⟨fun _ => undef, ⟨A, b1, off1, 0, rfl, Nat.le_refl _, .inr rfl, fun i j hi hj => by simp at hi⟩, fun i hi => by simp at hi⟩
  · refine ⟨fun i => fv (k + i), ⟨A.map (·.add (k * 1)), b1, off1 + k, cap - k, by rw [List.length_drop], by rw [List.length_drop]; omega, ?_, fun i j hi hj => ?_⟩, fun i hi => ?_⟩
    · rcases hA with ⟨hA, hb⟩ | hA
      · subst hA
        refine .inl ⟨?_, hb⟩
        simp only [Option.map_some, Nat.mul_one]
        congr 1
        unfold Addr.add
        split
        · rename_i h0; rw [h0]; rfl
        · rfl
      · exact .inr (by rw [List.length_drop]; omega)
    · rw [List.length_drop] at hi
      have := hc (k + i) j (by omega) hj
      rw [show off1 + k + (i * 1 + j) = off1 + ((k + i) * 1 + j) by omega]
      exact this
    · rw [List.length_drop] at hi
      have := h2 (k + i) (by omega)
      rw [show (l.drop k).getD i [] = l.getD (k + i) [] by simp [List.getD_eq_getElem?_getD]]
      exact this
/-- What holds of the forest between two rules of Core. -/
structure CorI (m : Mo) (f : List Int) (w1 : World) (F : Fo) (a k : Nat) (w2 : World) (F1 : Fo) : Prop where
  op : OpR k w1 F w2 F1
  lt : a < F1.ks.length
  ev : ∀ v, ev F1.ks v a = evF1 v f
theorem CorI.step {m : Mo} {f : List Int} {w1 : World} {F : Fo} {a k l : Nat} {w2 w3 : World} {F1 F2 : Fo} (h : CorI m f w1 F a k w2 F1) (r : OpR l w2 F1 w3 F2) : CorI m f w1 F a (k + l) w3 F2 :=
  ⟨h.op.trans r, Nat.lt_of_lt_of_le h.lt r.st.le, fun v => by rw [r.st.ev h.op.st.here.wf h.lt, h.ev v]⟩
end Go.Proofs.Ytehadoecnmfeoaa
/- Core as the elder program has it: walk. -/
namespace Go.Proofs.Ytehadoecnmfeoaa
open Go.RowKit
set_option linter.unusedVariables false
set_option linter.unusedSimpArgs false
/-- A list of numbers of the call's own, above block B. -/
def NStk (B : Nat) (w : World) (sv : Value) (S : List Nat) : Prop := w.ownsRow B 3 1 sv S.length (S.map fun (n : Nat) => Value.int .i64 n)
theorem NStk.nil (w : World) (B : Nat) : NStk B w (.slice none 0 0) [] := World.ownsRow_nil w B 3 1
theorem NStk.below {B : Nat} {w w' : World} {sv : Value} {S : List Nat} (h : NStk B w sv S) (hb : Below w.heap.size w w') : NStk B w' sv S := owns_below h hb
theorem NStk.same {B : Nat} {w w' : World} {sv : Value} {S : List Nat} (h : NStk B w sv S) (hs : ∀ b, sv.ownBlock = some b → w'.heap[b]? = w.heap[b]?) : NStk B w' sv S := ownsRow_same h hs
theorem NStk.shape {B : Nat} {w : World} {sv : Value} {S : List Nat} (h : NStk B w sv S) : ∃ A cap, sv = .slice A S.length cap ∧ S.length ≤ cap ∧ cap ≤ maxLen := by
  rcases h.2 with ⟨h1, h2⟩ | ⟨g, cap, cur, h1, _, _, h2, h3, _⟩
  · exact ⟨none, 0, by rw [h1, h2], by omega, by unfold maxLen; omega⟩
  · exact ⟨_, cap, h1, h2, h3⟩
theorem NStk.cells {B : Nat} {w : World} {A : Option Addr} {n cap : Nat} {S : List Nat} (h : NStk B w (.slice A n cap) S) (hn : 0 < S.length) : ∃ g, A = some ⟨g, 0, none⟩ ∧ g < w.heap.size ∧ B ≤ g ∧ ∀ i, i < S.length → w.cell? ⟨g, i, none⟩ = some (.int .i64 (S.getD i 0 : Nat)) := by
  obtain ⟨g, cap', hv, hgb, hl⟩ := World.ownsRow.form h hn
  injection hv with h1 h2 h3
  subst h1
  refine ⟨g, rfl, hl, hgb, fun i hi => ?_⟩
  have := World.ownsRow.cells (g := g) h rfl i (.int .i64 (S.getD i 0 : Nat)) (by simp [hi])
  have he : (⟨g, 0, none⟩ : Addr).add i = ⟨g, i, none⟩ := by
    unfold Addr.add
    split
    · rename_i h0; rw [h0]
    · rw [Nat.zero_add]
  rwa [he] at this
theorem NStk.push {B : Nat} {w1 : World} {S : List Nat} {v1 : Value} {m : Nat} (hown : w1.ownsRow B 3 1 v1 (S.length + 1) ((S.map fun (n : Nat) => Value.int .i64 n) ++ [.int .i64 (m : Nat)])) : NStk B w1 v1 (S ++ [m]) := by
  unfold NStk
  rw [List.length_append, List.map_append]
  exact hown
theorem NStk.base {B B' : Nat} {w : World} {sv : Value} {S : List Nat} (h : NStk B w sv S) (hB : B' ≤ B) : NStk B' w sv S := owns_base h hB
/-- Numbers but one. -/
def butN (i : Nat) (S : List Nat) : List Nat := S.filter fun k => !(k == i)
/-- Formulas of an elder world w, in a slice of the call's own. -/
structure OFs (w : World) (e B : Nat) (wr : World) (sv : Value) (L : List (List Int)) (vs : List Value) : Prop where
  len : vs.length = L.length
  own : wr.ownsRow B e 1 sv L.length vs
  row : ∀ i, i < L.length → Ints w w.heap.size (vs.getD i undef) (L.getD i [])
theorem OFs.nil (w : World) (e B : Nat) (wr : World) : OFs w e B wr (.slice none 0 0) [] [] := ⟨rfl, World.ownsRow_nil wr B e 1, fun i hi => by simp at hi⟩
theorem OFs.same {w : World} {e B : Nat} {wr wr' : World} {sv : Value} {L : List (List Int)} {vs : List Value} (h : OFs w e B wr sv L vs) (hs : ∀ b, sv.ownBlock = some b → wr'.heap[b]? = wr.heap[b]?) : OFs w e B wr' sv L vs := ⟨h.len, ownsRow_same h.own hs, h.row⟩
theorem OFs.push {w : World} {e B : Nat} {wr wr' : World} {sv v1 : Value} {L : List (List Int)} {vs : List Value} {l : List Int} {x : Value} (h : OFs w e B wr sv L vs) (hx : Ints w w.heap.size x l) (hown : wr'.ownsRow B e 1 v1 (L.length + 1) (vs ++ [x])) : OFs w e B wr' v1 (L ++ [l]) (vs ++ [x]) := by
  have hl := h.len
  refine ⟨by simp [hl], by rw [List.length_append]; exact hown, fun i hi => ?_⟩
  rw [getD_push, getD_push, hl]
  by_cases h1 : i < L.length
  · rw [if_pos h1, if_pos h1]
    exact h.row i h1
  · have : i = L.length := by simp at hi; omega
    rw [if_neg h1, if_pos this, if_neg h1, if_pos this]
    exact hx
theorem OFs.forms {w : World} {e B : Nat} {wr : World} {sv : Value} {L : List (List Int)} {vs : List Value} (h : OFs w e B wr sv L vs) (hb : Below w.heap.size w wr) : Forms wr wr.heap.size sv L := by
  refine ⟨fun i => vs.getD i undef, Sl.of_owns h.own fun i j hi hj => ?_, fun i hi => ((h.row i hi).below hb).more hb.size⟩
  obtain rfl : j = 0 := by omega
  have := h.len
  have hi2 : i < vs.length := by omega
  rw [Nat.mul_one, Nat.add_zero]
  simp [hi2]
theorem OFs.shape {w : World} {e B : Nat} {wr : World} {sv : Value} {L : List (List Int)} {vs : List Value} (h : OFs w e B wr sv L vs) : ∃ A cap, sv = .slice A L.length cap ∧ L.length ≤ cap ∧ cap ≤ maxLen := by
  rcases h.own.2 with ⟨h1, h2⟩ | ⟨g, cap, cur, h1, _, _, h2, h3, _⟩
  · exact ⟨none, 0, by rw [h1, h2], by omega, by unfold maxLen; omega⟩
  · exact ⟨_, cap, h1, h2, h3⟩
/-- The blocks that change when a rule is appended in a box. -/
def fewS (fb : Nat) (rv : Value) (k : Nat) : Prop := k = fb ∨ rv.ownBlock = some k
end Go.Proofs.Ytehadoecnmfeoaa
/- The greatest fill of a run: walk. -/
namespace Go.Proofs.Ytehadoecnmfeoaa
open Go.RowKit
set_option linter.unusedVariables false
set_option linter.unusedSimpArgs false
/-- The formulas and the sizes of some wires. -/
def fmsL (l : Lo) (T : List Nat) : List (List Int) := T.map fun i => (l.ws.getD i Wi.o).form
def szsL (l : Lo) (T : List Nat) : List Int := T.map fun i => (l.ws.getD i Wi.o).size
theorem ownsKeep {w w' : World} {b e sz n b2 e2 sz2 n2 : Nat} {v v2 : Value} {xs xs2 : List Value} {o : Obj} (h : w.ownsRow b e sz v n xs) (h2 : w.ownsRow b2 e2 sz2 v2 n2 xs2) (hne : e ≠ e2) (hg : (w.alloc o).grownBy w' v2.ownBlock) : w'.ownsRow b e sz v n xs := by
  refine (h.alloc o).kept hg ?_
  cases hv : v2.ownBlock with
  | none =>
    cases hv1 : v.ownBlock with
    | none => exact .inl rfl
    | some g => exact .inr (by simp)
  | some g =>
    right
    obtain ⟨_, ⟨h3, _⟩ | ⟨g', cap, cur, h3, _, h4, _⟩⟩ := h2
    · rw [h3] at hv; cases hv
    · rw [h3] at hv
      injection hv with hv
      simp only at hv
      subst hv
      exact ownsNot h h4 hne
/-- What worst has gathered. -/
structure WorS (w0 wr : World) (B lb : Nat) (A0 A1 A2 A3 A4 A5 : Option Addr) (q0 q1 q2 q3 q4 q5 : Nat) (l : Lo) (fv sv : Value) (Fs : List (List Int)) (Ss : List Int) (vs : List Value) : Prop where
  below : Below w0.heap.size w0 wr
  box : LoBox wr lb A0 A1 A2 A3 A4 A5 q0 q1 q2 q3 q4 q5 l
  f : OFs w0 51 B wr fv Fs vs
  s : wr.ownsRow B 3 1 sv Ss.length (Ss.map fun (n : Int) => Value.int .i64 n)
  lt : w0.heap.size ≤ B ∧ B ≤ wr.heap.size
section
variable {w0 wr w' : World} {B lb : Nat} {A0 A1 A2 A3 A4 A5 : Option Addr} {q0 q1 q2 q3 q4 q5 : Nat} {l : Lo} {fv sv v1 x : Value} {Fs : List (List Int)} {Ss : List Int} {vs : List Value} {m : Int} {o : Obj} {f : List Int}
theorem own_box {b e sz n t : Nat} {v : Value} {xs : List Value} {C : Array Value} {g : Nat} (h : wr.ownsRow b e sz v n xs) (hg : (wr.alloc o).grownBy w' v.ownBlock) (hb : wr.heap[g]? = some (.cells C t (0, 0))) (hne : e ≠ t) : w'.heap[g]? = some (.cells C t (0, 0)) :=
  (hg.block g (by have := box_lt hb; simp; omega) (fun q => ownsNot h hb hne q.symm)).trans (box_to hb ((Below.refl _ _).alloc (Nat.le_refl _) _))
theorem own_low {b e sz n : Nat} {v : Value} {xs : List Value} (h0 : Below w0.heap.size w0 wr) (h : wr.ownsRow b e sz v n xs) (hb : w0.heap.size ≤ b) (hg : (wr.alloc o).grownBy w' v.ownBlock) : Below w0.heap.size w0 w' :=
  Below.grown (Below.to h0 ((Below.refl wr.heap.size wr).alloc (Nat.le_refl _) o) (Nat.le_refl _)) hg (by have := h0.size; simp; omega) (fun k hk => Nat.le_trans hb (h.lt k hk).1)
theorem WorS.pushF (h : WorS w0 wr B lb A0 A1 A2 A3 A4 A5 q0 q1 q2 q3 q4 q5 l fv sv Fs Ss vs) (hx : Ints w0 w0.heap.size x f) (hown : w'.ownsRow B 51 1 v1 (Fs.length + 1) (vs ++ [x])) (hg : (wr.alloc o).grownBy w' fv.ownBlock) : WorS w0 w' B lb A0 A1 A2 A3 A4 A5 q0 q1 q2 q3 q4 q5 l v1 sv (Fs ++ [f]) Ss (vs ++ [x]) :=
  ⟨own_low h.below h.f.own h.lt.1 hg, own_box h.f.own hg h.box (by decide), h.f.push hx hown, ownsKeep h.s h.f.own (by decide) hg, h.lt.1, by have := hg.size; simp at this; have := h.lt.2; omega⟩
theorem WorS.pushS (h : WorS w0 wr B lb A0 A1 A2 A3 A4 A5 q0 q1 q2 q3 q4 q5 l fv sv Fs Ss vs) (hown : w'.ownsRow B 3 1 v1 (Ss.length + 1) ((Ss.map fun (n : Int) => Value.int .i64 n) ++ [.int .i64 m])) (hg : (wr.alloc o).grownBy w' sv.ownBlock) : WorS w0 w' B lb A0 A1 A2 A3 A4 A5 q0 q1 q2 q3 q4 q5 l fv v1 Fs (Ss ++ [m]) vs :=
  ⟨own_low h.below h.s h.lt.1 hg, own_box h.s hg h.box (by decide), ⟨h.f.len, ownsKeep h.f.own h.s (by decide) hg, h.f.row⟩, by rw [List.length_append, List.length_singleton, List.map_append]; exact hown, h.lt.1, by have := hg.size; simp at this; have := h.lt.2; omega⟩
end
theorem Ints.of_own {w : World} {base : Nat} {v : Value} {S : List Int} (h : w.ownsRow base 3 1 v S.length (S.map fun (n : Int) => Value.int .i64 n)) : Ints w w.heap.size v S :=
  Sl.of_owns h fun i j hi hj => by
    obtain rfl : j = 0 := by omega
    rw [Nat.mul_one, Nat.add_zero]
    simp [hi]
/-- The greatest fill of a run, its variant, the error. -/
def worN (l : Lo) (run : Nat) : Int := mosN l.m (fmsL l (thruL l run)) (szsL l (thruL l run))
def worX (l : Lo) (run : Nat) : List Bool := mosX l.m (fmsL l (thruL l run)) (szsL l (thruL l run))
def worE (l : Lo) (run : Nat) : Int := mosE l.m (fmsL l (thruL l run)) (szsL l (thruL l run))
end Go.Proofs.Ytehadoecnmfeoaa

/- Part 26 of this claim's texts: walks and plain laws. -/
import Derived.Test.YtehadoecnmfeoaaGreatRows
import Derived.Test.YtehadoecnmfeoaaGreatGBS25
import Derived.Deep.DeepMust
import Derived.Deep.RegionHeld3
import Derived.Deep.DrawnRows
import Derived.Test.YtehadoecnmfeoaaGreatGBS3
import Derived.Test.YtehadoecnmfeoaaGreatGBS18
set_option linter.unusedVariables false
set_option linter.unusedSimpArgs false
set_option linter.unusedSectionVars false
namespace Go.Proofs.YtehadoecnmfeoaaGreat
open Go.RowKit
set_option maxRecDepth 100000 in
set_option maxHeartbeats 1000000 in
theorem bck1_any (d : Md) (Af : Option Addr) (qf : Nat) (Aw : Option Addr) (qw : Nat) (A0 A1 A2 A3 A4 A5 : Option Addr) (q0 q1 q2 q3 q4 q5 : Nat) (l : Lo) (lb : Nat) (w : World) (hs : SizedL l) (hd : d.f.length ≤ maxLen ∧ d.ws.length ≤ maxLen) (h : LoA w w.heap.size A0 A1 A2 A3 A4 A5 q0 q1 q2 q3 q4 q5 l) (hx : LoBox w lb A0 A1 A2 A3 A4 A5 q0 q1 q2 q3 q4 q5 l) (hf : Ints w w.heap.size (.slice Af d.f.length qf) d.f) (hw : Ints w w.heap.size (.slice Aw d.ws.length qw) d.ws) (hm : l.m.err = 0) :
  Calls Tryz.prog 82 #[.agg #[.slice Af d.f.length qf, .slice Aw d.ws.length qw], .pointer (some ⟨lb, 0, none⟩)] w fun e w' => e = .returned (.bool (!rightB l d)) ∧ Below w.heap.size w w' := by
 obtain ⟨z, hz⟩ : ∃ z, rightB l d = z := ⟨_, rfl⟩
 have hr := fun (w0 : World) (hB : Below w.heap.size w w0) => right_any d Af qf Aw qw A0 A1 A2 A3 A4 A5 q0 q1 q2 q3 q4 q5 l w0 hs hd (h.up hB) (hf.up hB) (hw.up hB) hm
 rw [hz] at hr ⊢
 have HR := hide hr
 have HX := hide hx
 clear h hx hf hw hr hz
 go_enter Tryz.func82, Tryz.ntmps82
 go_upto_region 1 with (fail)
 generalize hw0 : World.alloc _ _ = w0
 obtain ⟨hb0, hB0, hs0⟩ := alloc1 hw0
 have m0 := cellOf hb0 0
 have m1 := cellOf hb0 1
 have lm := box_lt hb0
 obtain ⟨c0, c1, c2, c3, c4, c5⟩ := zL (HX.out.to hB0)
 have lc := box_lt (HX.out.to hB0)
 have HB0 := hide hB0
 clear hw0 hb0 hB0 hs0
 go_wp2_with (go_at_call 83; refine (HR.out _ HB0.out).mono ?_; rintro e w1 ⟨rfl, hB1⟩; have HB1 := hide (Below.to HB0.out hB1 (Nat.le_refl _)); clear hB1 m0 m1 lm c0 c1 c2 c3 c4 c5 lc)
 go_ret
 exact ⟨rfl, HB1.out⟩
set_option maxRecDepth 100000 in
theorem index_module (p : Md → Bool) (c0 : Value) (v : Value) (gs : List Md) (w : World) (hm : gs.length ≤ maxLen) (h : Mods w w.heap.size v gs)
  (hf : ∀ (i : Nat) (x : Md) (Af : Option Addr) (qf : Nat) (Aw : Option Addr) (qw : Nat) (W : World), i < gs.length → gs.getD i Md.o = x → Below w.heap.size w W → Ints W w.heap.size (.slice Af x.f.length qf) x.f → Ints W w.heap.size (.slice Aw x.ws.length qw) x.ws → Calls Tryz.prog 82 #[.agg #[.slice Af x.f.length qf, .slice Aw x.ws.length qw], c0] W fun e w' => e = .returned (.bool (p x)) ∧ Below W.heap.size W w') :
  Calls Tryz.prog 63 #[v, .func (.func 82) #[] #[c0]] w fun e w' => e = .returned (.int .i64 (idxI p gs)) ∧ Below w.heap.size w w' := by
 unfold maxLen at hm
 obtain ⟨A, cap, rfl⟩ := Mods.form h
 have H := hide h; clear h
 have HF := hide hf; clear hf
 go_enter Tryz.func63, Tryz.ntmps63
 go_wp2
 go_loopw [5, 8] (fun _ i wr => ∃ k : Nat, k ≤ gs.length ∧ i = .int .i64 k ∧ Hid (∀ j, j < k → p (gs.getD j Md.o) = false) ∧ Below w.heap.size w wr) (fun _ i _ => gs.length - (intOf i).toNat)
 case atStart => exact ⟨0, Nat.zero_le _, rfl, fun j hj => by omega, Below.refl _ _⟩
 case round =>
  obtain ⟨k, hk, rfl, hz, hB⟩ := hrel
  by_cases hlt : k < gs.length
  ·
   obtain ⟨b, off, x, Af, qf, Aw, qw, HX, rfl, hbb, hq, HFO, HWO, e0, e1⟩ := Mods.at (H.out.below hB) hlt
   have hf := fun W (hW : Below w.heap.size w W) => HF.out k x Af qf Aw qw W hlt HX.out hW
   have HF2 := hide hf
   have HB := hide hB
   clear hf
   by_cases hp : p x = true
   ·
    have HP := hide hp
    clear hp
    go_wp2_with (go_at_call 82; refine (HF2.out _ hB HFO.out HWO.out).mono ?_; rw [HP.out]; rintro e w1 ⟨rfl, hB1⟩)
    go_ret
    exact ⟨ret_int (idxI_at p Md.o gs k hz.out hlt (by rw [HX.out]; exact HP.out)).symm, Below.to HB.out hB1 (Nat.le_refl _)⟩
   ·
    have hp' : p x = false := by simpa using hp
    have HP := hide hp'
    clear hp hp'
    go_wp2_with (go_at_call 82; refine (HF2.out _ hB HFO.out HWO.out).mono ?_; rw [HP.out]; rintro e w1 ⟨rfl, hB1⟩)
    go_roundw
    case rel => exact ⟨k + 1, by omega, by go_num, fun j hj => by
      rcases Nat.lt_or_ge j k with h | h
      ·
       exact hz.out j h
      ·
       rw [show j = k from by omega, HX.out]; exact HP.out, Below.to HB.out hB1 (Nat.le_refl _)⟩
    case measure => simp [intOf]; omega
  ·
   go_wp2
   go_ret
   exact ⟨ret_int (idxI_none p Md.o gs (fun j hj => hz.out j (by omega))).symm, hB⟩
set_option maxRecDepth 100000 in
theorem contains_module (p : Md → Bool) (c0 : Value) (v : Value) (gs : List Md) (w : World) (hm : gs.length ≤ maxLen) (h : Mods w w.heap.size v gs)
  (hf : ∀ (i : Nat) (x : Md) (Af : Option Addr) (qf : Nat) (Aw : Option Addr) (qw : Nat) (W : World), i < gs.length → gs.getD i Md.o = x → Below w.heap.size w W → Ints W w.heap.size (.slice Af x.f.length qf) x.f → Ints W w.heap.size (.slice Aw x.ws.length qw) x.ws → Calls Tryz.prog 82 #[.agg #[.slice Af x.f.length qf, .slice Aw x.ws.length qw], c0] W fun e w' => e = .returned (.bool (p x)) ∧ Below W.heap.size W w') :
  Calls Tryz.prog 81 #[v, .func (.func 82) #[] #[c0]] w fun e w' => e = .returned (.bool (gs.any p)) ∧ Below w.heap.size w w' := by
 have hc := index_module p c0 v gs w hm h hf
 have he := idxI_any p gs
 have hlo := idxI_lo p gs
 have hhi := idxI_hi p gs
 obtain ⟨z, hz⟩ : ∃ z, idxI p gs = z := ⟨_, rfl⟩
 rw [hz] at hc he hlo hhi
 obtain ⟨A, cap, rfl⟩ := Mods.form h
 have HC := hide hc
 have HE := hide he
 unfold maxLen at hm
 have hz2 : z ≤ 9223372036854775807 := by omega
 clear hc he hz h hf
 go_enter Tryz.func81, Tryz.ntmps81
 go_wp2_with (go_at_call 63; refine HC.out.mono ?_; rintro e w1 ⟨rfl, hB1⟩)
 go_ret
 exact ⟨ret_bool HE.out, hB1⟩

set_option maxRecDepth 100000 in
set_option maxHeartbeats 2000000 in
theorem bCheck_any (ms : List Md) (Am : Option Addr) (qm : Nat) (A0 A1 A2 A3 A4 A5 : Option Addr) (q0 q1 q2 q3 q4 q5 : Nat) (l : Lo) (w : World) (hs : SizedL l) (hd : SizedD ms) (h : LoA w w.heap.size A0 A1 A2 A3 A4 A5 q0 q1 q2 q3 q4 q5 l) (hm : Mods w w.heap.size (.slice Am ms.length qm) ms) :
  Calls Tryz.prog 26 #[.agg #[.slice A0 l.m.opts.length q0, .slice A1 l.m.rules.length q1, .slice A2 l.ss.length q2, .slice A3 l.us.length q3, .slice A4 l.ps.length q4, .slice A5 l.ws.length q5], .slice Am ms.length qm] w fun e w' => e = .returned (.int .i64 (bldE l ms)) ∧ Below w.heap.size w w' := by
 have H := hide h
 have HS := hide hs
 have HM := hide hm
 have HD := hide hd
 have hdn := hd.n
 unfold maxLen at hdn
 clear h hs hm hd
 by_cases hz : l.err = 0
 case neg =>
  rw [bldE_err hz]
  obtain ⟨z, hze⟩ : ∃ z, l.err = z := ⟨_, rfl⟩
  rw [hze] at hz ⊢
  have HZ := hide hze
  have hz1 : (z != 0) = true := by simpa using hz
  clear hz hze
  go_enter Tryz.func26, Tryz.ntmps26
  go_upto_region 1 with (fail)
  generalize hw0 : World.alloc _ _ = w0
  obtain ⟨hb0, hB0, hs0⟩ := alloc1 hw0
  have HB0 := hide hB0
  obtain ⟨c0, c1, c2, c3, c4, c5⟩ := zL hb0
  have hlb := box_lt hb0
  clear hw0 hb0 hB0 hs0
  go_wp2_with (go_at_call 62; refine (Check_any A0 A1 A2 A3 A4 A5 q0 q1 q2 q3 q4 q5 l _ HS.out (H.out.up HB0.out)).mono ?_; rw [HZ.out]; rintro e w1 ⟨rfl, hB1⟩; have HB1 := hide (Below.to HB0.out hB1 (Nat.le_refl _)); clear hB1 c0 c1 c2 c3 c4 c5 hlb)
  go_ret
  exact ⟨rfl, HB1.out⟩
 case pos =>
 have HZ := hide hz
 have hmo : l.m.err = 0 := (Lo.err_ok hz).m
 have HMO := hide hmo
 by_cases h60 : 60 < ms.length
 case pos =>
  have hr : bldE l ms = 120 := by unfold bldE; rw [if_neg (by simp [hz]), decide_eq_true h60]; rfl
  rw [hr]
  have hgt : (60 : Int) < (ms.length : Int) := by omega
  clear hz hmo hr h60
  go_enter Tryz.func26, Tryz.ntmps26
  go_upto_region 1 with (fail)
  generalize hw0 : World.alloc _ _ = w0
  obtain ⟨hb0, hB0, hs0⟩ := alloc1 hw0
  have HB0 := hide hB0
  obtain ⟨c0, c1, c2, c3, c4, c5⟩ := zL hb0
  have hlb := box_lt hb0
  clear hw0 hb0 hB0 hs0
  go_wp2_with (go_at_call 62; refine (Check_any A0 A1 A2 A3 A4 A5 q0 q1 q2 q3 q4 q5 l _ HS.out (H.out.up HB0.out)).mono ?_; rw [HZ.out]; rintro e w1 ⟨rfl, hB1⟩; have HB1 := hide (Below.to HB0.out hB1 (Nat.le_refl _)); clear hB1 c0 c1 c2 c3 c4 c5 hlb)
  go_ret
  exact ⟨rfl, HB1.out⟩
 case neg =>
  have hgt : ¬ (60 : Int) < (ms.length : Int) := by omega
  obtain ⟨z, hze⟩ : ∃ z, ms.any (fun x => !rightB l x) = z := ⟨_, rfl⟩
  have hr : bldE l ms = if z = true then 120 else 0 := by
   unfold bldE
   rw [if_neg (by simp [hz]), decide_eq_false h60, Bool.false_or, ← hze]
   congr 1
   rw [List.any_eq_not_all_not]
   simp
  rw [hr]
  have HE := hide hze
  clear hz hmo hr h60 hze
  cases z with
  | true =>
   go_enter Tryz.func26, Tryz.ntmps26
   go_upto_region 1 with (fail)
   generalize hw0 : World.alloc _ _ = w0
   obtain ⟨hb0, hB0, hs0⟩ := alloc1 hw0
   have HB0 := hide hB0
   have HL0 : Hid (LoBox w0 w.heap.size A0 A1 A2 A3 A4 A5 q0 q1 q2 q3 q4 q5 l) := hb0
   obtain ⟨c0, c1, c2, c3, c4, c5⟩ := zL hb0
   have hlb := box_lt hb0
   clear hw0 hb0 hB0 hs0
   go_wp2_with (first | (go_at_call 62; refine (Check_any A0 A1 A2 A3 A4 A5 q0 q1 q2 q3 q4 q5 l _ HS.out (H.out.up HB0.out)).mono ?_; rw [HZ.out]; rintro e w1 ⟨rfl, hB1⟩; have HL1 := hide (HL0.out.to hB1); have HB1 := hide (Below.to HB0.out hB1 (Nat.le_refl _)); clear hB1 c0 c1 c2 c3 c4 c5 hlb) | (go_at_call 81; refine (contains_module (fun x => !rightB l x) (.pointer (some ⟨w.heap.size, 0, none⟩)) _ ms w1 HD.out.n (HM.out.up HB1.out) (fun i x Af qf Aw qw W hi hx hW hf hg => bck1_any x Af qf Aw qw A0 A1 A2 A3 A4 A5 q0 q1 q2 q3 q4 q5 l _ W HS.out (by have := HD.out.f x (by rw [← hx]; exact getD_mem7 hi); exact this) ((H.out.up HB1.out).up hW) (HL1.out.to hW) (hf.more hW.size) (hg.more hW.size) HMO.out)).mono ?_; rw [HE.out]; rintro e w2 ⟨rfl, hB2⟩; have HB2 := hide (Below.to HB1.out hB2 (Nat.le_refl _)); clear hB2))
   go_ret
   exact ⟨rfl, HB2.out⟩
  | false =>
   go_enter Tryz.func26, Tryz.ntmps26
   go_upto_region 1 with (fail)
   generalize hw0 : World.alloc _ _ = w0
   obtain ⟨hb0, hB0, hs0⟩ := alloc1 hw0
   have HB0 := hide hB0
   have HL0 : Hid (LoBox w0 w.heap.size A0 A1 A2 A3 A4 A5 q0 q1 q2 q3 q4 q5 l) := hb0
   obtain ⟨c0, c1, c2, c3, c4, c5⟩ := zL hb0
   have hlb := box_lt hb0
   clear hw0 hb0 hB0 hs0
   go_wp2_with (first | (go_at_call 62; refine (Check_any A0 A1 A2 A3 A4 A5 q0 q1 q2 q3 q4 q5 l _ HS.out (H.out.up HB0.out)).mono ?_; rw [HZ.out]; rintro e w1 ⟨rfl, hB1⟩; have HL1 := hide (HL0.out.to hB1); have HB1 := hide (Below.to HB0.out hB1 (Nat.le_refl _)); clear hB1 c0 c1 c2 c3 c4 c5 hlb) | (go_at_call 81; refine (contains_module (fun x => !rightB l x) (.pointer (some ⟨w.heap.size, 0, none⟩)) _ ms w1 HD.out.n (HM.out.up HB1.out) (fun i x Af qf Aw qw W hi hx hW hf hg => bck1_any x Af qf Aw qw A0 A1 A2 A3 A4 A5 q0 q1 q2 q3 q4 q5 l _ W HS.out (by have := HD.out.f x (by rw [← hx]; exact getD_mem7 hi); exact this) ((H.out.up HB1.out).up hW) (HL1.out.to hW) (hf.more hW.size) (hg.more hW.size) HMO.out)).mono ?_; rw [HE.out]; rintro e w2 ⟨rfl, hB2⟩; have HB2 := hide (Below.to HB1.out hB2 (Nat.le_refl _)); clear hB2))
   go_ret
   exact ⟨rfl, HB2.out⟩
set_option maxRecDepth 100000 in
theorem indexI_any (ns : List Int) (s : Int) (v : Value) (w : World) (hm : ns.length ≤ maxLen) (h : Ints w w.heap.size v ns) :
  Calls Tryz.prog 194 #[v, .int .i64 s] w fun e w' => e = .returned (.int .i64 (idxI (fun x => x == s) ns)) ∧ w = w' := by
 unfold maxLen at hm
 obtain ⟨A, cap, rfl⟩ := h.form7
 have H := hide h
 clear h
 go_enter Tryz.func194, Tryz.ntmps194
 go_wp2
 go_loop [8] (fun i => ∃ k : Nat, k ≤ ns.length ∧ i = .int .i64 k ∧ Hid (∀ j, j < k → (ns.getD j 0 == s) = false)) (fun i => ns.length - (intOf i).toNat)
 case atStart => exact ⟨0, Nat.zero_le _, rfl, fun j hj => by omega⟩
 case round =>
  obtain ⟨k, hk, rfl, hall⟩ := hrel
  by_cases hlt : k < ns.length
  ·
   obtain ⟨b, off, x, HX, rfl, hbb, hq, c0⟩ := H.out.at7 hlt
   by_cases he : x = s
   ·
    have he1 : (s == x) = true := by simp [he]
    have HE := hide he
    clear he
    go_wp2
    go_ret
    exact ⟨ret_int (idxI_at _ 0 ns k hall.out hlt (by rw [HX.out, HE.out]; simp)).symm, rfl⟩
   ·
    have he1 : (s == x) = false := by simp; omega
    have he2 : ¬ s = x := by omega
    have HE := hide he
    clear he
    go_wp2
    go_round
    case rel => exact ⟨k + 1, by omega, by go_num, fun j hj => by
      rcases Nat.lt_or_ge j k with h | h
      ·
       exact hall.out j h
      ·
       rw [show j = k from by omega, HX.out]; simpa using HE.out⟩
    case measure => simp [intOf]; omega
  ·
   go_wp2
   go_ret
   exact ⟨ret_int (idxI_none _ 0 ns (fun j hj => hall.out j (by omega))).symm, rfl⟩
set_option maxRecDepth 100000 in
theorem containsI_any (ns : List Int) (s : Int) (v : Value) (w : World) (c : Bool) (hm : ns.length ≤ maxLen) (h : Ints w w.heap.size v ns) (hc : ns.contains s = c) :
  Calls Tryz.prog 123 #[v, .int .i64 s] w fun e w' => e = .returned (.bool c) ∧ w = w' := by
 have he : c = decide (0 ≤ idxI (fun x => x == s) ns) := by
  rw [idxI_any, ← hc, Bool.eq_iff_iff]
  simp
 have HE := hide he
 have H := hide h
 clear he h hc
 go_enter Tryz.func123, Tryz.ntmps123
 go_wp2_with (go_at_call 194; refine (indexI_any ns s v _ hm H.out).mono ?_; rintro e w1 ⟨rfl, rfl⟩)
 go_ret
 exact ⟨ret_bool HE.out.symm, rfl⟩
structure WthS (w0 wr : World) (v : Value) (L : List (List Int)) (vs : List Value) : Prop where
 below : Below w0.heap.size w0 wr
 len : vs.length = L.length
 own : wr.ownsRow w0.heap.size 46 1 v L.length vs
 row : ∀ i, i < L.length → Ints w0 w0.heap.size (vs.getD i undef) (L.getD i [])
section
variable {w0 wr w' : World} {v v1 x : Value} {L : List (List Int)} {vs : List Value} {f : List Int} {o : Obj}
theorem WthS.to (h : WthS w0 wr v L vs) (hb : Below wr.heap.size wr w') : WthS w0 w' v L vs := ⟨Below.to h.below hb (Nat.le_refl _), h.len, owns_below h.own hb, h.row⟩
theorem WthS.push (h : WthS w0 wr v L vs) (hx : Ints w0 w0.heap.size x f) (hown : w'.ownsRow w0.heap.size 46 1 v1 (L.length + 1) (vs ++ [x])) (hg : (wr.alloc o).grownBy w' v.ownBlock) : WthS w0 w' v1 (L ++ [f]) (vs ++ [x]) := by
 have hl := h.len
 refine ⟨Below.grown (h.below.alloc h.below.size o) hg (by have := h.below.size; simp; omega) (fun k hk => (h.own.lt k hk).1), by simp [hl], by rw [List.length_append]; exact hown, fun i hi => ?_⟩
 rcases Nat.lt_or_ge i L.length with h1 | h1
 ·
  rw [List.getD_eq_getElem?_getD, List.getElem?_append_left (by omega), ← List.getD_eq_getElem?_getD, List.getD_eq_getElem?_getD (l := L ++ [f]), List.getElem?_append_left h1, ← List.getD_eq_getElem?_getD]
  exact h.row i h1
 ·
  have he : i = L.length := by simp at hi; omega
  subst he
  rw [List.getD_eq_getElem?_getD, List.getElem?_append_right (by omega), List.getD_eq_getElem?_getD (l := L ++ [f]), List.getElem?_append_right (Nat.le_refl _), hl, Nat.sub_self]
  exact hx
theorem WthS.forms (h : WthS w0 wr v L vs) : Forms wr wr.heap.size v L := by
 refine ⟨fun i => vs.getD i undef, Sl.of_owns h.own fun i j hi hj => ?_, fun i hi => ((h.row i hi).below h.below).more h.below.size⟩
 obtain rfl : j = 0 := by omega
 have := h.len
 have hi2 : i < vs.length := by omega
 rw [Nat.mul_one, Nat.add_zero]
 simp [hi2]
end
theorem with_succ {ms : List Md} {w k : Nat} {d : Md} (hk : k < ms.length) (hd : ms.getD k Md.o = d) : withL (ms.take (k + 1)) w = if mdIn w d then withL (ms.take k) w ++ [d.f] else withL (ms.take k) w := by
 have h1 : ms.take (k + 1) = ms.take k ++ [d] := by
  rw [List.take_add_one, List.getElem?_eq_getElem hk, ← hd, List.getD_eq_getElem?_getD, List.getElem?_eq_getElem hk]
  rfl
 unfold withL
 rw [h1, List.filter_append, List.map_append]
 cases h : mdIn w d <;> simp [h]
theorem with_len (ms : List Md) (w : Nat) : (withL ms w).length ≤ ms.length := by
 unfold withL
 rw [List.length_map]
 exact List.length_filter_le _ _
set_option maxRecDepth 100000 in
set_option maxHeartbeats 4000000 in
theorem with_any (ms : List Md) (k0 : Nat) (Am : Option Addr) (qm : Nat) (w : World) (hd : SizedD ms) (h60 : ms.length ≤ 60) (hm : Mods w w.heap.size (.slice Am ms.length qm) ms) :
  Calls Tryz.prog 55 #[.slice Am ms.length qm, .int .i64 k0] w fun e w' => ∃ v vs, e = .returned v ∧ WthS w w' v (withL ms k0) vs := by
 obtain ⟨i1, hi1, jz0, jz1, jz2⟩ := info_parts infoForm
 have HM := hide hm
 have HD := hide hd
 clear hm hd
 go_enter Tryz.func55, Tryz.ntmps55
 go_wp2_with fail
 go_loopw [4, 6, 9] (fun o _ i wr => ∃ (k : Nat) (A : Option Addr) (cap : Nat) (L : List (List Int)) (vs : List Value), i = .int .i64 k ∧ o = .slice A L.length cap ∧ k ≤ ms.length ∧ Hid (withL (ms.take k) k0 = L) ∧ Hid (WthS w wr (.slice A L.length cap) L vs)) (fun _ _ i _ => ms.length - (intOf i).toNat)
 case atStart => exact ⟨0, none, 0, [], [], rfl, rfl, Nat.zero_le _, rfl, ⟨Below.refl _ _, rfl, World.ownsRow_nil _ _ _ _, fun i hi => absurd hi (by simp)⟩⟩
 case round =>
  obtain ⟨k, A, cap, L, vs, rfl, rfl, hk, HL, R⟩ := hrel
  have hLl : L.length ≤ 60 := by
   rw [← HL.out]
   have := with_len (ms.take k) k0
   simp at this
   omega
  by_cases hkl : k < ms.length
  ·
   obtain ⟨b, off, d, Af, qf, Aw, qw, HX, rfl, hb, hq, HF, HW, e0, e1⟩ := HM.out.at hkl
   have z0 := (R.out.below.cell (p := ⟨b, off + k * 2, none⟩) hb).trans e0
   have z1 := (R.out.below.cell (p := ⟨b, off + k * 2 + 1, none⟩) hb).trans e1
   have lb : b < wr.heap.size := Nat.lt_of_lt_of_le hb R.out.below.size
   have i0 : (0 : Int) ≤ (k : Int) := by omega
   have ik : (k : Int) < (ms.length : Int) := by omega
   have iq : (ms.length : Int) ≤ (qm : Int) := by omega
   have hdw := (HD.out.f d (by rw [← HX.out]; exact getD_mem7 hkl)).2
   have hws := with_succ (w := k0) hkl HX.out
   have HWS := hide hws
   clear hq e0 e1 hws
   go_upto_region 4 with (fail)
   generalize hw1 : World.alloc _ _ = w1
   obtain ⟨hb1, hB1, hs1⟩ := alloc1 hw1
   have R1 := hide (R.out.to hB1)
   have m0 := cellOf hb1 0
   have m1 := cellOf hb1 1
   have lm := box_lt hb1
   have HW1 := hide ((HW.out.up R.out.below).up hB1)
   clear hw1 hb1 hB1 hs1 z0 z1 lb
   cases hc : mdIn k0 d with
   | true =>
    have hc2 : d.ws.contains (k0 : Int) = true := hc
    have HC := hide hc
    have HC2 := hide hc2
    clear hc hc2
    go_wp2_with (first | (go_at_call 123; refine (containsI_any d.ws (k0 : Int) _ _ _ hdw HW1.out HC2.out).mono ?_; rintro e w2 ⟨rfl, rfl⟩) | (at_builtin; go_must (refine wpList_append_own_at _ rfl (.tmp 17) (.tmp 20) _ rfl (w.heap.size) 46 i1 _ 1 24 Tryz.underlying23 hi1 jz0 jz1 jz2 rfl (by omega) _ _ _ rfl ((R1.out.own).alloc _) ⟨w1.heap.size, 0, none⟩ 1 1 [.slice Af d.f.length qf] rfl rfl (World.news_of_block (heap_alloc_new w1 _)) (by simp [Value.oneCell']) (by have h1 := hLl; unfold maxLen; omega) (by have h1 := hLl; omega) (by have h1 := R1.out.below.size; simp; omega) ?_); intro v1 w3 hown1 hg1 _ hat1; obtain ⟨A2, cap2, hv2⟩ := owns_form hown1; subst hv2; have R2 := hide (R1.out.push HF.out hown1 hg1); clear hown1 hg1 hat1))
    go_roundw
    case rel => exact ⟨k + 1, A2, cap2, L ++ [d.f], _, by go_num, by rw [List.length_append, List.length_singleton], by omega, by show _ = _; rw [HWS.out, HC.out, if_pos rfl, HL.out], by rw [List.length_append, List.length_singleton]; exact R2.out⟩
    case measure => simp [intOf]; omega
   | false =>
    have hc2 : d.ws.contains (k0 : Int) = false := hc
    have HC := hide hc
    have HC2 := hide hc2
    clear hc hc2
    go_wp2_with (go_at_call 123; refine (containsI_any d.ws (k0 : Int) _ _ _ hdw HW1.out HC2.out).mono ?_; rintro e w2 ⟨rfl, rfl⟩)
    go_roundw
    case rel => exact ⟨k + 1, _, _, L, vs, by go_num, rfl, by omega, by show _ = _; rw [HWS.out, HC.out, if_neg (by simp), HL.out], R1.out⟩
    case measure => simp [intOf]; omega
  ·
   have hke : k = ms.length := by omega
   subst hke
   have hL := HL.out
   rw [List.take_length] at hL
   subst hL
   go_wp2_with fail
   go_ret
   exact ⟨_, vs, rfl, R.out⟩
end Go.Proofs.YtehadoecnmfeoaaGreat
namespace Go.Proofs.YtehadoecnmfeoaaGreat
theorem sort_uniq {α : Type} {lt : α → α → Bool} (hi : ∀ a, lt a a = false) (ht : ∀ a b c, lt a b = true → lt b c = true → lt a c = true) :
  ∀ {l r : List α}, l.Pairwise (fun a b => lt a b = true) → r.Pairwise (fun a b => lt a b = true) → (∀ a, a ∈ l ↔ a ∈ r) → l = r
 | [], [], _, _, _ => rfl
 | [], b :: r, _, _, h => absurd ((h b).2 (by simp)) (by simp)
 | a :: l, [], _, _, h => absurd ((h a).1 (by simp)) (by simp)
 | a :: l, b :: r, hl, hr, h => by
  obtain ⟨l1, l2⟩ := List.pairwise_cons.1 hl
  obtain ⟨r1, r2⟩ := List.pairwise_cons.1 hr
  have hab : a = b := by
   rcases List.mem_cons.1 ((h a).1 (by simp)) with e | e
   ·
    exact e
   ·
    rcases List.mem_cons.1 ((h b).2 (by simp)) with e2 | e2
    ·
     exact e2.symm
    ·
     have h3 := ht _ _ _ (r1 a e) (l1 b e2)
     rw [hi] at h3
     cases h3
  subst hab
  have hlr : l = r := sort_uniq hi ht l2 r2 fun c => by
   constructor
   ·
    intro hc
    rcases List.mem_cons.1 ((h c).1 (by simp [hc])) with e | e
    ·
     subst e
     have h3 := l1 c hc
     rw [hi] at h3
     cases h3
    ·
     exact e
   ·
    intro hc
    rcases List.mem_cons.1 ((h c).2 (by simp [hc])) with e | e
    ·
     subst e
     have h3 := r1 c hc
     rw [hi] at h3
     cases h3
    ·
     exact e
  rw [hlr]
structure Ct where
 s : Int
 n : Int
 c : Int
def Ct.o : Ct := ⟨0, 0, 0⟩
def ltK (a b : Ct) : Bool := decide (a.s < b.s) || (a.s == b.s && decide (a.n < b.n))
def sameK (a b : Ct) : Bool := a.s == b.s && a.n == b.n
def insC (x : Ct) : List Ct → List Ct
 | [] => [x]
 | a :: r => if ltK a x = true then a :: insC x r else if sameK a x = true then ⟨a.s, a.n, a.c + 1⟩ :: r else x :: a :: r
def cntC (ps : List (Int × Int)) (s n : Int) : Nat := ps.countP fun p => p.1 == s && p.2 == n
def cutS (ps : List (Int × Int)) : List Ct := ps.foldl (fun o p => insC ⟨p.1, p.2, 1⟩ o) []
structure CutI (ps : List (Int × Int)) (o : List Ct) : Prop where
 so : o.Pairwise (fun a b => ltK a b = true)
 c : ∀ a ∈ o, a.c = (cntC ps a.s a.n : Nat)
 key : ∀ a ∈ o, (a.s, a.n) ∈ ps
 all : ∀ p ∈ ps, ∃ a ∈ o, a.s = p.1 ∧ a.n = p.2
abbrev Pn := Int × Int
def ltP (a b : Pn) : Bool := decide (a.1 < b.1) || (a.1 == b.1 && decide (a.2 < b.2))
theorem ltP_iff {a b : Pn} : ltP a b = true ↔ a.1 < b.1 ∨ (a.1 = b.1 ∧ a.2 < b.2) := by
 unfold ltP
 simp
theorem ltP_irr (a : Pn) : ltP a a = false := by
 unfold ltP
 simp
theorem ltP_trans (a b c : Pn) (h : ltP a b = true) (k : ltP b c = true) : ltP a c = true := by
 rw [ltP_iff] at h k ⊢
 omega
theorem pn_ext {a b : Pn} (h : a.1 = b.1) (k : a.2 = b.2) : a = b := by
 obtain ⟨x, y⟩ := a
 obtain ⟨z, u⟩ := b
 simp only at h k
 rw [h, k]
theorem ltP_total {a b : Pn} (h : ¬ ltP a b = true) (k : a ≠ b) : ltP b a = true := by
 rw [ltP_iff] at h ⊢
 have : ¬ (a.1 = b.1 ∧ a.2 = b.2) := fun e => k (pn_ext e.1 e.2)
 omega
def insP (x : Pn) : List Pn → List Pn
 | [] => [x]
 | a :: r => if ltP a x = true then a :: insP x r else if a = x then a :: r else x :: a :: r
theorem mem_insP {x b : Pn} : ∀ {o : List Pn}, b ∈ insP x o ↔ b = x ∨ b ∈ o
 | [] => by simp [insP]
 | a :: r => by
  unfold insP
  split
  ·
   rw [List.mem_cons, mem_insP, List.mem_cons]
   constructor
   ·
    rintro (h | h | h)
    ·
     exact .inr (.inl h)
    ·
     exact .inl h
    ·
     exact .inr (.inr h)
   ·
    rintro (h | h | h)
    ·
     exact .inr (.inl h)
    ·
     exact .inl h
    ·
     exact .inr (.inr h)
  ·
   split
   ·
    rename_i h1 h2
    rw [List.mem_cons]
    constructor
    ·
     exact fun h => .inr h
    ·
     rintro (h | h)
     ·
      exact .inl (h.trans h2.symm)
     ·
      exact h
   ·
    rw [List.mem_cons]
def Asc (l : List Pn) : Prop := l.Pairwise fun a b => ltP a b = true
theorem insP_sorted {x : Pn} : ∀ {o : List Pn}, Asc o → Asc (insP x o)
 | [], _ => by simp [insP, Asc]
 | a :: r, h => by
  obtain ⟨h1, h2⟩ := List.pairwise_cons.1 h
  unfold insP
  by_cases h3 : ltP a x = true
  ·
   rw [if_pos h3]
   refine List.pairwise_cons.2 ⟨fun b hb => ?_, insP_sorted h2⟩
   rcases mem_insP.1 hb with e | e
   ·
    rw [e]; exact h3
   ·
    exact h1 b e
  ·
   rw [if_neg h3]
   by_cases h4 : a = x
   ·
    rw [if_pos h4]; exact h
   ·
    rw [if_neg h4]
    have h5 := ltP_total h3 h4
    refine List.pairwise_cons.2 ⟨fun b hb => ?_, h⟩
    rcases List.mem_cons.1 hb with e | e
    ·
     rw [e]; exact h5
    ·
     exact ltP_trans _ _ _ h5 (h1 b e)
def sortU (l : List Pn) : List Pn := l.foldl (fun o p => insP p o) []
theorem foldP_mem {b : Pn} : ∀ {l o : List Pn}, b ∈ l.foldl (fun o p => insP p o) o ↔ b ∈ l ∨ b ∈ o
 | [], o => by simp
 | a :: l, o => by
  rw [List.foldl_cons, foldP_mem, mem_insP, List.mem_cons]
  constructor
  ·
   rintro (h | h | h)
   ·
    exact .inl (.inr h)
   ·
    exact .inl (.inl h)
   ·
    exact .inr h
  ·
   rintro ((h | h) | h)
   ·
    exact .inr (.inl h)
   ·
    exact .inl h
   ·
    exact .inr (.inr h)
theorem foldP_sorted : ∀ {l o : List Pn}, Asc o → Asc (l.foldl (fun o p => insP p o) o)
 | [], _, h => h
 | a :: l, o, h => by
  rw [List.foldl_cons]
  exact foldP_sorted (insP_sorted h)
theorem sortU_mem {b : Pn} {l : List Pn} : b ∈ sortU l ↔ b ∈ l := by
 unfold sortU
 rw [foldP_mem]
 simp
theorem sortU_sorted (l : List Pn) : Asc (sortU l) := foldP_sorted List.Pairwise.nil
theorem sortU_uniq {l m : List Pn} (h : Asc l) (hm : ∀ a, a ∈ l ↔ a ∈ m) : l = sortU m :=
 sort_uniq ltP_irr ltP_trans h (sortU_sorted m) fun a => (hm a).trans sortU_mem.symm
def touB (a b : Pn) (net : List Pn) : Bool := net.contains a || net.contains b
theorem touB_iff {a b : Pn} {net : List Pn} : touB a b net = true ↔ a ∈ net ∨ b ∈ net := by
 unfold touB
 simp
def bothL (out : List (List Pn)) (a b : Pn) : List Pn := (out.filter (touB a b)).flatten
def joiL (out : List (List Pn)) (a b : Pn) : List (List Pn) := out.filter (fun n => !touB a b n) ++ [sortU (a :: b :: bothL out a b)]
def Apart (m n : List Pn) : Prop := ∀ p, p ∈ m → ¬ p ∈ n
structure NetI (out : List (List Pn)) : Prop where
 ne : ∀ net ∈ out, net ≠ []
 asc : ∀ net ∈ out, Asc net
 apart : out.Pairwise Apart
theorem NetI.nil : NetI [] := ⟨fun n h => absurd h (by simp), fun n h => absurd h (by simp), List.Pairwise.nil⟩
theorem bothL_mem {out : List (List Pn)} {a b p : Pn} : p ∈ bothL out a b ↔ ∃ net ∈ out, touB a b net = true ∧ p ∈ net := by
 unfold bothL
 rw [List.mem_flatten]
 constructor
 ·
  rintro ⟨net, h1, h2⟩
  obtain ⟨h3, h4⟩ := List.mem_filter.1 h1
  exact ⟨net, h3, h4, h2⟩
 ·
  rintro ⟨net, h1, h2, h3⟩
  exact ⟨net, List.mem_filter.2 ⟨h1, h2⟩, h3⟩
theorem pair_mem {α : Type} {R : α → α → Prop} (hs : ∀ x y, R x y → R y x) : ∀ {l : List α} {x y : α}, l.Pairwise R → x ∈ l → y ∈ l → x = y ∨ R x y
 | [], _, _, _, h, _ => absurd h (by simp)
 | a :: l, x, y, h, hx, hy => by
  obtain ⟨h1, h2⟩ := List.pairwise_cons.1 h
  rcases List.mem_cons.1 hx with e | e
  ·
   rcases List.mem_cons.1 hy with e2 | e2
   ·
    exact .inl (e.trans e2.symm)
   ·
    rw [e]; exact .inr (h1 y e2)
  ·
   rcases List.mem_cons.1 hy with e2 | e2
   ·
    rw [e2]; exact .inr (hs _ _ (h1 x e))
   ·
    exact pair_mem hs h2 e e2
theorem Apart.symm {m n : List Pn} (h : Apart m n) : Apart n m := fun p hp hq => h p hq hp
theorem NetI.join {out : List (List Pn)} (h : NetI out) (a b : Pn) : NetI (joiL out a b) := by
 have hsub : ∀ net, net ∈ out.filter (fun n => !touB a b n) → net ∈ out ∧ touB a b net = false := fun net hn => by
  obtain ⟨h1, h2⟩ := List.mem_filter.1 hn
  exact ⟨h1, by simpa using h2⟩
 refine ⟨fun net hn => ?_, fun net hn => ?_, ?_⟩
 ·
  rcases List.mem_append.1 hn with h1 | h1
  ·
   exact h.ne net (hsub net h1).1
  ·
   have e : net = sortU (a :: b :: bothL out a b) := by simpa using h1
   intro h2
   have h3 : a ∈ net := by rw [e, sortU_mem]; simp
   rw [h2] at h3
   exact absurd h3 (by simp)
 ·
  rcases List.mem_append.1 hn with h1 | h1
  ·
   exact h.asc net (hsub net h1).1
  ·
   have e : net = sortU (a :: b :: bothL out a b) := by simpa using h1
   rw [e]
   exact sortU_sorted _
 ·
  refine List.pairwise_append.2 ⟨h.apart.filter _, List.pairwise_singleton _ _, fun m hm n hn p hp hq => ?_⟩
  have e : n = sortU (a :: b :: bothL out a b) := by simpa using hn
  obtain ⟨h1, h2⟩ := hsub m hm
  rw [e, sortU_mem] at hq
  have h3 : ¬ (a ∈ m ∨ b ∈ m) := fun h4 => by rw [touB_iff.2 h4] at h2; cases h2
  rcases List.mem_cons.1 hq with e1 | hq
  ·
   exact h3 (.inl (e1 ▸ hp))
  ·
   rcases List.mem_cons.1 hq with e1 | hq
   ·
    exact h3 (.inr (e1 ▸ hp))
   ·
    obtain ⟨net, hnet, h5, h6⟩ := bothL_mem.1 hq
    rcases pair_mem (fun _ _ => Apart.symm) h.apart h1 hnet with e2 | e2
    ·
     rw [← e2, h2] at h5
     cases h5
    ·
     exact e2 p hp h6
def netU (es : List (Pn × Pn)) : List (List Pn) := es.foldl (fun o e => joiL o e.1 e.2) []
theorem netU_snoc (es : List (Pn × Pn)) (e : Pn × Pn) : netU (es ++ [e]) = joiL (netU es) e.1 e.2 := by
 unfold netU
 rw [List.foldl_append]
 rfl
theorem foldN_i : ∀ {es : List (Pn × Pn)} {o : List (List Pn)}, NetI o → NetI (es.foldl (fun o e => joiL o e.1 e.2) o)
 | [], _, h => h
 | e :: es, o, h => by
  rw [List.foldl_cons]
  exact foldN_i (h.join _ _)
theorem netU_i (es : List (Pn × Pn)) : NetI (netU es) := foldN_i NetI.nil
def hdP (net : List Pn) : Pn := net.headD (0, 0)
theorem hdP_mem {net : List Pn} (h : net ≠ []) : hdP net ∈ net := by
 cases net with
 | nil => exact absurd rfl h
 | cons a r => simp [hdP]
def ltN (m n : List Pn) : Bool := ltP (hdP m) (hdP n)
def AscN (o : List (List Pn)) : Prop := o.Pairwise fun m n => ltN m n = true
def insN (x : List Pn) : List (List Pn) → List (List Pn)
 | [] => [x]
 | a :: r => if ltN a x = true then a :: insN x r else x :: a :: r
theorem mem_insN {x b : List Pn} : ∀ {o : List (List Pn)}, b ∈ insN x o ↔ b = x ∨ b ∈ o
 | [] => by simp [insN]
 | a :: r => by
  unfold insN
  split
  ·
   rw [List.mem_cons, mem_insN, List.mem_cons]
   constructor
   ·
    rintro (h | h | h)
    ·
     exact .inr (.inl h)
    ·
     exact .inl h
    ·
     exact .inr (.inr h)
   ·
    rintro (h | h | h)
    ·
     exact .inr (.inl h)
    ·
     exact .inl h
    ·
     exact .inr (.inr h)
  ·
   rw [List.mem_cons]
theorem insN_sorted {x : List Pn} : ∀ {o : List (List Pn)}, AscN o → (∀ a ∈ o, hdP a ≠ hdP x) → AscN (insN x o)
 | [], _, _ => by simp [insN, AscN]
 | a :: r, h, hd => by
  obtain ⟨h1, h2⟩ := List.pairwise_cons.1 h
  unfold insN
  by_cases h3 : ltN a x = true
  ·
   rw [if_pos h3]
   refine List.pairwise_cons.2 ⟨fun b hb => ?_, insN_sorted h2 fun c hc => hd c (by simp [hc])⟩
   rcases mem_insN.1 hb with e | e
   ·
    rw [e]; exact h3
   ·
    exact h1 b e
  ·
   rw [if_neg h3]
   have h5 : ltN x a = true := ltP_total h3 (hd a (by simp))
   refine List.pairwise_cons.2 ⟨fun b hb => ?_, h⟩
   rcases List.mem_cons.1 hb with e | e
   ·
    rw [e]; exact h5
   ·
    exact ltP_trans _ _ _ h5 (h1 b e)
def sortN (o : List (List Pn)) : List (List Pn) := o.foldl (fun s x => insN x s) []
theorem foldM_mem {b : List Pn} : ∀ {l o : List (List Pn)}, b ∈ l.foldl (fun s x => insN x s) o ↔ b ∈ l ∨ b ∈ o
 | [], o => by simp
 | a :: l, o => by
  rw [List.foldl_cons, foldM_mem, mem_insN, List.mem_cons]
  constructor
  ·
   rintro (h | h | h)
   ·
    exact .inl (.inr h)
   ·
    exact .inl (.inl h)
   ·
    exact .inr h
  ·
   rintro ((h | h) | h)
   ·
    exact .inr (.inl h)
   ·
    exact .inl h
   ·
    exact .inr (.inr h)
theorem sortN_mem {b : List Pn} {o : List (List Pn)} : b ∈ sortN o ↔ b ∈ o := by
 unfold sortN
 rw [foldM_mem]
 simp
theorem foldM_sorted : ∀ {l o : List (List Pn)}, AscN o → l.Pairwise (fun m n => hdP m ≠ hdP n) → (∀ a ∈ o, ∀ b ∈ l, hdP a ≠ hdP b) → AscN (l.foldl (fun s x => insN x s) o)
 | [], _, h, _, _ => h
 | a :: l, o, h, hp, hd => by
  obtain ⟨h1, h2⟩ := List.pairwise_cons.1 hp
  rw [List.foldl_cons]
  refine foldM_sorted (insN_sorted h fun b hb => hd b hb a (by simp)) h2 fun b hb c hc => ?_
  rcases mem_insN.1 hb with e | e
  ·
   rw [e]; exact h1 c hc
  ·
   exact hd b e c (by simp [hc])
theorem NetI.heads {o : List (List Pn)} (h : NetI o) : o.Pairwise fun m n => hdP m ≠ hdP n := by
 refine (List.pairwise_iff_forall_sublist.2 fun {m n} hs => ?_)
 have hm : m ∈ o := hs.subset (by simp)
 have hn : n ∈ o := hs.subset (by simp)
 have hap : Apart m n := (List.pairwise_iff_forall_sublist.1 h.apart) hs
 intro e
 exact hap _ (hdP_mem (h.ne m hm)) (e ▸ hdP_mem (h.ne n hn))
theorem sortN_sorted {o : List (List Pn)} (h : NetI o) : AscN (sortN o) := foldM_sorted List.Pairwise.nil h.heads fun a ha => absurd ha (by simp)
theorem sortN_uniq {o q : List (List Pn)} (h : NetI o) (hq : AscN q) (hm : ∀ a, a ∈ q ↔ a ∈ o) : q = sortN o :=
 sort_uniq (lt := ltN) (fun a => ltP_irr _) (fun a b c => ltP_trans _ _ _) hq (sortN_sorted h) fun a => (hm a).trans sortN_mem.symm
def netL (es : List (Pn × Pn)) : List (List Pn) := sortN (netU es)
theorem netL_mem {es : List (Pn × Pn)} {net : List Pn} : net ∈ netL es ↔ net ∈ netU es := sortN_mem
def conB (o : List (List Pn)) (a b : Pn) : Bool := o.any fun net => net.contains a && net.contains b
theorem conB_iff {o : List (List Pn)} {a b : Pn} : conB o a b = true ↔ ∃ net ∈ o, a ∈ net ∧ b ∈ net := by
 unfold conB
 simp
theorem conB_mem {o q : List (List Pn)} (h : ∀ n, n ∈ o ↔ n ∈ q) (a b : Pn) : conB o a b = conB q a b := by
 rw [Bool.eq_iff_iff, conB_iff, conB_iff]
 constructor
 ·
  rintro ⟨n, hn, h1⟩; exact ⟨n, (h n).1 hn, h1⟩
 ·
  rintro ⟨n, hn, h1⟩; exact ⟨n, (h n).2 hn, h1⟩
theorem NetI.one {o : List (List Pn)} (h : NetI o) {m n : List Pn} {p : Pn} (hm : m ∈ o) (hn : n ∈ o) (h1 : p ∈ m) (h2 : p ∈ n) : m = n := by
 rcases pair_mem (fun _ _ => Apart.symm) h.apart hm hn with e | e
 ·
  exact e
 ·
  exact absurd h2 (e p h1)
def jonN (net : List Pn) : List (Pn × Pn) := (List.range (net.length - 1)).map fun k => (net.getD k (0, 0), net.getD (k + 1) (0, 0))
def jonL (o : List (List Pn)) : List (Pn × Pn) := o.flatMap jonN
def apaN (o : List (List Pn)) (i : Nat) : List (Pn × Pn) := (o.drop (i + 1)).map fun n => (hdP (o.getD i []), hdP n)
def apaL (o : List (List Pn)) : List (Pn × Pn) := (List.range o.length).flatMap (apaN o)
def pasB (o q : List (List Pn)) : Bool := (jonL o).all (fun p => conB q p.1 p.2) && (apaL o).all fun p => !conB q p.1 p.2
end Go.Proofs.YtehadoecnmfeoaaGreat

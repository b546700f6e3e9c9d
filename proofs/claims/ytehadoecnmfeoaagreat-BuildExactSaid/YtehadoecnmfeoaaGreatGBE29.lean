/- Part 29 of this claim's texts: walks and plain laws. -/
import Derived.Test.YtehadoecnmfeoaaGreatRows
import Derived.Test.YtehadoecnmfeoaaGreatGBE17
import Derived.Test.YtehadoecnmfeoaaGreatGBE28
import Derived.Test.YtehadoecnmfeoaaGreatGBE8
import Derived.Test.YtehadoecnmfeoaaGreatGBE10
import Derived.Test.YtehadoecnmfeoaaGreatGBE19
import Derived.Deep.DeepMust
import Derived.Deep.RegionHeld3
import Derived.Deep.DrawnRows
import Derived.Test.YtehadoecnmfeoaaGreatGBE27
import Derived.Test.YtehadoecnmfeoaaGreatGBE11
import Derived.Shelf.Sort.Plain
import Derived.Shelf.Slices.In.SortNone
import Derived.Sort.OwnSortedInts
import Derived.Test.YtehadoecnmfeoaaGreatProg
/- The first defect is a defect, and no other comes before it: plain laws. -/
namespace Go.Proofs.YtehadoecnmfeoaaGreat
set_option linter.unusedVariables false
set_option linter.unusedSimpArgs false
/-- The kind of defect that a wire has: by whether it belongs to the variant, and how often it is made. -/
def kndB (is : Bool) (n : Nat) : Nat := if is = true ∧ n = 0 then 1 else if is = false ∧ 0 < n then 2 else if 1 < n then 3 else 0
theorem kndB_def (is : Bool) (n : Nat) {k : Nat} (h1 : 1 ≤ k) (h3 : k ≤ 3) : defB k is n = true ↔ kndB is n = k := by
  rcases (by omega : k = 1 ∨ k = 2 ∨ k = 3) with rfl | rfl | rfl <;> cases is <;> rcases (by omega : n = 0 ∨ n = 1 ∨ 1 < n) with rfl | rfl | h
  all_goals first
    | decide
    | (have a1 : ¬ n = 0 := by omega
       have a2 : 0 < n := by omega
       simp [defB, kndB, a1, a2, h])
theorem kndB_le (is : Bool) (n : Nat) : kndB is n ≤ 3 := by
  unfold kndB
  repeat' split
  all_goals omega
def kndN (l : Lo) (ms : List Md) (x : List Bool) (w : Nat) : Nat := kndB (evF1 (vf x) (l.ws.getD w Wi.o).form) (manyN ms x w)
theorem audK_some {m : Mo} {f : List Int} {fs : List (List Int)} : ∀ {n : Nat} {r : Nat × List Bool}, audK m f fs n = some r → 1 ≤ r.1 ∧ r.1 ≤ n ∧ frstV m f fs r.1 = some r.2
  | 0, _, h => by cases h
  | n + 1, r, h => by
    cases h1 : audK m f fs n with
    | some r1 =>
      rw [audK_stays h1 (Nat.le_succ n)] at h
      injection h with h
      subst h
      have := audK_some h1
      exact ⟨this.1, Nat.le_succ_of_le this.2.1, this.2.2⟩
    | none =>
      rw [audK_next h1] at h
      cases h2 : frstV m f fs (n + 1) with
      | none => rw [h2] at h; cases h
      | some x =>
        rw [h2] at h
        injection h with h
        subst h
        exact ⟨Nat.succ_le_succ (Nat.zero_le n), Nat.le_refl _, h2⟩
theorem audN_some {l : Lo} {ms : List Md} : ∀ {n : Nat} {r : Nat × Nat × List Bool}, audN l ms n = some r → r.1 < n ∧ audK l.m (l.ws.getD r.1 Wi.o).form (withL ms r.1) 3 = some r.2
  | 0, _, h => by cases h
  | n + 1, r, h => by
    cases h1 : audN l ms n with
    | some r1 =>
      rw [audN_stays h1 (Nat.le_succ n)] at h
      injection h with h
      subst h
      have := audN_some h1
      exact ⟨Nat.lt_succ_of_lt this.1, this.2⟩
    | none =>
      rw [audN_next h1] at h
      cases h2 : audK l.m (l.ws.getD n Wi.o).form (withL ms n) 3 with
      | none => rw [h2] at h; cases h
      | some x =>
        rw [h2] at h
        injection h with h
        subst h
        exact ⟨Nat.lt_succ_self n, h2⟩
/-- What is found is a defect of a buildable variant. -/
theorem audA_is {l : Lo} {ms : List Md} (he : bldE l ms = 0) {r : Nat × Nat × List Bool} (h : audA l ms = some r) : r.1 < l.ws.length ∧ r.2.2 ∈ allM l.m ∧ kndN l ms r.2.2 r.1 = r.2.1 ∧ 1 ≤ r.2.1 ∧ r.2.1 ≤ 3 := by
  unfold audA at h
  rw [if_pos he] at h
  obtain ⟨h1, h2⟩ := audN_some h
  obtain ⟨h3, h4, h5⟩ := audK_some h2
  unfold frstV at h5
  have h6 := List.find?_some h5
  have hw : ∀ d ∈ ms, wiresB l.ws.length d.ws = true := fun d hd => by
    have := (bldE_ok he).ok d hd
    unfold rightB at this
    exact (Bool.and_eq_true _ _ ▸ this).1
  refine ⟨h1, List.mem_of_find?_eq_some h5, ?_, h3, h4⟩
  unfold kndN
  rw [many_cnt hw]
  exact (kndB_def _ _ h3 h4).1 h6
/-- No defect of a buildable variant comes before it. -/
theorem audA_least {l : Lo} {ms : List Md} (he : bldE l ms = 0) {x : List Bool} (hx : x ∈ allM l.m) {w : Nat} (hw : w < l.ws.length) (hk : kndN l ms x w ≠ 0) : ∃ r, audA l ms = some r ∧ (r.1 < w ∨ (r.1 = w ∧ r.2.1 ≤ kndN l ms x w)) := by
  have hwb : ∀ d ∈ ms, wiresB l.ws.length d.ws = true := fun d hd => by
    have := (bldE_ok he).ok d hd
    unfold rightB at this
    exact (Bool.and_eq_true _ _ ▸ this).1
  have h3 : kndN l ms x w ≤ 3 := kndB_le _ _
  obtain ⟨k, hke⟩ : ∃ k, kndN l ms x w = k := ⟨_, rfl⟩
  rw [hke] at hk h3 ⊢
  have hd : defB k (evF1 (vf x) (l.ws.getD w Wi.o).form) (cntV (withL ms w) x) = true := by
    rw [← many_cnt hwb]
    exact (kndB_def _ _ (by omega) h3).2 hke
  have hf : (frstV l.m (l.ws.getD w Wi.o).form (withL ms w) k).isSome = true := by
    unfold frstV
    rw [List.find?_isSome]
    exact ⟨x, hx, hd⟩
  have hK : ∃ r, audK l.m (l.ws.getD w Wi.o).form (withL ms w) k = some r := by
    obtain ⟨j, rfl⟩ : ∃ j, k = j + 1 := ⟨k - 1, by omega⟩
    cases h1 : audK l.m (l.ws.getD w Wi.o).form (withL ms w) j with
    | some r => exact ⟨r, audK_stays h1 (Nat.le_succ j)⟩
    | none =>
      rw [audK_next h1]
      cases h2 : frstV l.m (l.ws.getD w Wi.o).form (withL ms w) (j + 1) with
      | none => rw [h2] at hf; cases hf
      | some y => exact ⟨_, rfl⟩
  obtain ⟨r, hr⟩ := hK
  have hr1 := (audK_some hr).2.1
  have hr3 := audK_stays hr h3
  unfold audA
  rw [if_pos he]
  cases h1 : audN l ms w with
  | some q => exact ⟨q, audN_stays h1 (Nat.le_of_lt hw), .inl (audN_some h1).1⟩
  | none =>
    have h2 := audN_next h1
    rw [hr3] at h2
    exact ⟨_, audN_stays h2 hw, .inr ⟨rfl, hr1⟩⟩
end Go.Proofs.YtehadoecnmfeoaaGreat
/- What is picked, and how often a wire is in it (the elder): walks. -/
namespace Go.Proofs.YtehadoecnmfeoaaGreat
open Go.RowKit
set_option linter.unusedVariables false
set_option linter.unusedSimpArgs false
theorem many_le (ms : List Md) (x : List Bool) (w n : Nat) (h : ∀ d ∈ ms, wiresB n d.ws = true) : manyN ms x w ≤ ms.length := by
  rw [many_cnt h]
  unfold cntV withL
  refine Nat.le_trans (List.length_filter_le _ _) ?_
  rw [List.length_map]
  exact List.length_filter_le _ _
def occK (ws : List Int) (w k : Nat) : Nat := ((ws.drop k).filter fun x => x == (w : Int)).length
theorem Nods.at8 {w : World} {B : Nat} {A : Option Addr} {m q : Nat} {S : List Nat} (h : Nods w B (.slice A m q) S) {k : Nat} (hk : k < S.length) : ∃ b off x, Hid (S.getD k 0 = x) ∧ A = some ⟨b, off, none⟩ ∧ b < B ∧ S.length ≤ q ∧ w.cell? ⟨b, off + k, none⟩ = some (.int .i64 (x : Nat)) := by
  obtain ⟨h1, h2, b, off, h3, h4, h5⟩ := sl_at h hk
  have h6 := h5 0 (by omega)
  rw [Nat.mul_one, Nat.add_zero] at h6
  exact ⟨b, off, _, rfl, h3, h4, by omega, h6⟩
end Go.Proofs.YtehadoecnmfeoaaGreat
/- What is picked, with the errors, on both sides: walks. -/
namespace Go.Proofs.YtehadoecnmfeoaaGreat
open Go.RowKit
set_option linter.unusedVariables false
set_option linter.unusedSimpArgs false
def pikE (l : Lo) (ms : List Md) (x : List Bool) : Int := if bldE l ms = 0 then (if x.length = l.m.opts.length then 0 else 1) else bldE l ms
def pikL (l : Lo) (ms : List Md) (x : List Bool) : List Nat := if pikE l ms x = 0 then pckL ms x else []
theorem pik_err {l : Lo} {ms : List Md} {x : List Bool} (h : bldE l ms ≠ 0) : pikE l ms x = bldE l ms ∧ pikL l ms x = [] := by
  have h1 : pikE l ms x = bldE l ms := by unfold pikE; rw [if_neg h]
  refine ⟨h1, ?_⟩
  unfold pikL
  rw [h1, if_neg h]
theorem pik_arg {l : Lo} {ms : List Md} {x : List Bool} (h : bldE l ms = 0) (h2 : x.length ≠ l.m.opts.length) : pikE l ms x = 1 ∧ pikL l ms x = [] := by
  have h1 : pikE l ms x = 1 := by unfold pikE; rw [if_pos h, if_neg h2]
  refine ⟨h1, ?_⟩
  unfold pikL
  rw [h1, if_neg (by decide)]
theorem pik_ok {l : Lo} {ms : List Md} {x : List Bool} (h : bldE l ms = 0) (h2 : x.length = l.m.opts.length) : pikE l ms x = 0 ∧ pikL l ms x = pckL ms x := by
  have h1 : pikE l ms x = 0 := by unfold pikE; rw [if_pos h, if_pos h2]
  refine ⟨h1, ?_⟩
  unfold pikL
  rw [if_pos h1]
def PicP (L : List Nat) (er : Int) (w : World) (e : Ending) (w' : World) : Prop := ∃ v, e = .returned (.tuple #[v, .int .i64 er]) ∧ Nods w' w'.heap.size v L ∧ Below w.heap.size w w'
theorem right_val {l : Lo} {d : Md} (h : rightB l d = true) : wiresB l.ws.length d.ws = true ∧ validF l.m.opts.length d.f = true := by
  unfold rightB at h
  exact Bool.and_eq_true_iff.1 h
set_option maxRecDepth 100000 in
set_option maxHeartbeats 4000000 in
theorem bholds_any (f : List Int) (x : List Bool) (Af : Option Addr) (qf : Nat) (vv : Value) (A0 A1 A2 A3 A4 A5 : Option Addr) (q0 q1 q2 q3 q4 q5 : Nat) (l : Lo) (w : World) (hs : SizedL l) (hl : f.length ≤ maxLen) (h : LoA w w.heap.size A0 A1 A2 A3 A4 A5 q0 q1 q2 q3 q4 q5 l) (hf : Ints w w.heap.size (.slice Af f.length qf) f) (hx : Bols w w.heap.size vv x) (hm : l.m.err = 0) (hv : validF l.m.opts.length f = true) (hN : x.length = l.m.opts.length) :
    Calls Tryz.prog 85 #[.agg #[.slice A0 l.m.opts.length q0, .slice A1 l.m.rules.length q1, .slice A2 l.ss.length q2, .slice A3 l.us.length q3, .slice A4 l.ps.length q4, .slice A5 l.ws.length q5], .slice Af f.length qf, vv] w fun e w' => e = .returned (.bool (evF1 (vf x) f)) ∧ Below w.heap.size w w' := by
  have hok := hol_ok (m := l.m) (f := f) (vs := x) (errF_all hm fun g hg => by rw [List.mem_singleton] at hg; rw [hg]; exact hv) hN
  obtain ⟨Ax, qx, hvv⟩ := Sl.form hx
  subst hvv
  have H := hide h
  have HS := hide hs
  have HF := hide hf
  have HX := hide hx
  have HL := hide hl
  obtain ⟨r, hr⟩ : ∃ r, evF1 (vf x) f = r := ⟨_, rfl⟩
  rw [hr] at hok ⊢
  have HOK := hide hok
  clear hok h hs hf hx hl hr hN
  go_enter Tryz.func85, Tryz.ntmps85
  go_upto_region 1 with (fail)
  generalize hw0 : World.alloc _ _ = w0
  obtain ⟨hb0, hB0, hs0⟩ := alloc1 hw0
  have HB0 := hide hB0
  have c0 := cellOf hb0 0; have c1 := cellOf hb0 1; have c2 := cellOf hb0 2; have c3 := cellOf hb0 3; have c4 := cellOf hb0 4; have c5 := cellOf hb0 5
  have hlb := box_lt hb0
  clear hw0 hb0 hB0 hs0
  go_wp2_with (go_at_call 37; refine (Holds_any l.m f x _ _ _ _ w0 HS.out.m HL.out (H.out.up HB0.out).m (HF.out.up HB0.out) (Sl.up HX.out HB0.out)).mono ?_; rw [HOK.out.1, HOK.out.2]; rintro e w1 ⟨rfl, hB1⟩; have HB1 := hide (Below.to HB0.out hB1 (Nat.le_refl _)); clear hB1 c0 c1 c2 c3 c4 c5 hlb)
  go_ret
  exact ⟨rfl, HB1.out⟩
theorem ms_valid {l : Lo} {ms : List Md} (h : bldE l ms = 0) : ∀ d ∈ ms, validF l.m.opts.length d.f = true := fun d hd => (right_val ((bldE_ok h).ok d hd)).2
theorem ms_wires {l : Lo} {ms : List Md} (h : bldE l ms = 0) : ∀ d ∈ ms, wiresB l.ws.length d.ws = true := fun d hd => (right_val ((bldE_ok h).ok d hd)).1
set_option maxRecDepth 100000 in
set_option maxHeartbeats 8000000 in
theorem Pick_any (ms : List Md) (x : List Bool) (Am : Option Addr) (qm : Nat) (Ax : Option Addr) (qx : Nat) (A0 A1 A2 A3 A4 A5 : Option Addr) (q0 q1 q2 q3 q4 q5 : Nat) (l : Lo) (w : World) (hs : SizedL l) (hd : SizedD ms) (h : LoA w w.heap.size A0 A1 A2 A3 A4 A5 q0 q1 q2 q3 q4 q5 l) (hm : Mods w w.heap.size (.slice Am ms.length qm) ms) (hx : Bols w w.heap.size (.slice Ax x.length qx) x) :
    Calls Tryz.prog 28 #[.agg #[.slice A0 l.m.opts.length q0, .slice A1 l.m.rules.length q1, .slice A2 l.ss.length q2, .slice A3 l.us.length q3, .slice A4 l.ps.length q4, .slice A5 l.ws.length q5], .slice Am ms.length qm, .slice Ax x.length qx] w (PicP (pikL l ms x) (pikE l ms x) w) := by
  obtain ⟨i0, hi0, iz0, iz1, iz2⟩ := info_parts infoInt
  have H := hide h
  have HS := hide hs
  have HM := hide hm
  have HD := hide hd
  have HX := hide hx
  obtain ⟨er, her⟩ : ∃ z, bldE l ms = z := ⟨_, rfl⟩
  have HER := hide her
  clear h hs hm hd hx
  by_cases h0 : er = 0
  case neg =>
    have hp := pik_err (l := l) (ms := ms) (x := x) (by rw [her]; exact h0)
    rw [hp.1, hp.2, her]
    have hz1 : (er != 0) = true := by simpa using h0
    clear her h0 hp
    go_enter Tryz.func28, Tryz.ntmps28
    go_upto_region 1 with (fail)
    generalize hw0 : World.alloc _ _ = w0
    obtain ⟨hb0, hB0, hs0⟩ := alloc1 hw0
    have HB0 := hide hB0
    have c0 := cellOf hb0 0; have c1 := cellOf hb0 1; have c2 := cellOf hb0 2; have c3 := cellOf hb0 3; have c4 := cellOf hb0 4; have c5 := cellOf hb0 5
    have hlb := box_lt hb0
    clear hw0 hb0 hB0 hs0
    go_wp2_with (go_at_call 26; refine (bCheck_any ms Am qm A0 A1 A2 A3 A4 A5 q0 q1 q2 q3 q4 q5 l _ HS.out HD.out (H.out.up HB0.out) (HM.out.up HB0.out)).mono ?_; rw [HER.out]; rintro e w1 ⟨rfl, hB1⟩; have HB1 := hide (Below.to HB0.out hB1 (Nat.le_refl _)); clear hB1 c0 c1 c2 c3 c4 c5 hlb)
    go_ret2
    exact ⟨_, rfl, Sl.nil _ _ _ _, HB1.out⟩
  case pos =>
  subst h0
  by_cases hxl : x.length = l.m.opts.length
  case neg =>
    have hp := pik_arg her hxl
    rw [hp.1, hp.2]
    have n1 : ((x.length : Int) != (l.m.opts.length : Int)) = true := by simp; omega
    clear her hxl hp
    go_enter Tryz.func28, Tryz.ntmps28
    go_upto_region 1 with (fail)
    generalize hw0 : World.alloc _ _ = w0
    obtain ⟨hb0, hB0, hs0⟩ := alloc1 hw0
    have HL0 : Hid (LoBox w0 w.heap.size A0 A1 A2 A3 A4 A5 q0 q1 q2 q3 q4 q5 l) := hb0
    have HB0 := hide hB0
    have c0 := cellOf hb0 0; have c1 := cellOf hb0 1; have c2 := cellOf hb0 2; have c3 := cellOf hb0 3; have c4 := cellOf hb0 4; have c5 := cellOf hb0 5
    have hlb := box_lt hb0
    clear hw0 hb0 hB0 hs0
    go_wp2_with (go_at_call 26; refine (bCheck_any ms Am qm A0 A1 A2 A3 A4 A5 q0 q1 q2 q3 q4 q5 l _ HS.out HD.out (H.out.up HB0.out) (HM.out.up HB0.out)).mono ?_; rw [HER.out]; rintro e w1 ⟨rfl, hB1⟩; have HL1 := hide (HL0.out.to hB1); have HB1 := hide (Below.to HB0.out hB1 (Nat.le_refl _)); clear hB1 c0 c1 c2 c3 c4 c5 hlb; have c0 := cellOf HL1.out 0; have c1 := cellOf HL1.out 1; have c2 := cellOf HL1.out 2; have c3 := cellOf HL1.out 3; have c4 := cellOf HL1.out 4; have c5 := cellOf HL1.out 5; have hlb := box_lt HL1.out)
    go_ret2
    exact ⟨_, rfl, Sl.nil _ _ _ _, HB1.out⟩
  case pos =>
  have hp := pik_ok her hxl
  obtain ⟨LR, hLR⟩ : ∃ z, pckL ms x = z := ⟨_, rfl⟩
  rw [hp.1, hp.2, hLR]
  have HLR := hide hLR
  clear hLR
  have n1 : ((x.length : Int) != (l.m.opts.length : Int)) = false := by simp; omega
  have HXL := hide hxl
  have HV := hide (ms_valid her)
  have h60 := (bldE_ok her).n
  have HMO := hide (bldE_ok her).lo.m
  clear her hxl hp
  go_enter Tryz.func28, Tryz.ntmps28
  go_upto_region 1 with (fail)
  generalize hw0 : World.alloc _ _ = w0
  obtain ⟨hb0, hB0, hs0⟩ := alloc1 hw0
  have HL0 : Hid (LoBox w0 w.heap.size A0 A1 A2 A3 A4 A5 q0 q1 q2 q3 q4 q5 l) := hb0
  have HB0 := hide hB0
  have c0 := cellOf hb0 0; have c1 := cellOf hb0 1; have c2 := cellOf hb0 2; have c3 := cellOf hb0 3; have c4 := cellOf hb0 4; have c5 := cellOf hb0 5
  have hlb := box_lt hb0
  clear hw0 hb0 hB0 hs0
  go_upto_region 4 with (go_at_call 26; refine (bCheck_any ms Am qm A0 A1 A2 A3 A4 A5 q0 q1 q2 q3 q4 q5 l _ HS.out HD.out (H.out.up HB0.out) (HM.out.up HB0.out)).mono ?_; rw [HER.out]; rintro e w1 ⟨rfl, hB1⟩; have HL1 := hide (HL0.out.to hB1); have HB1 := hide (Below.to HB0.out hB1 (Nat.le_refl _)); clear hB1 c0 c1 c2 c3 c4 c5 hlb; have c0 := cellOf HL1.out 0; have c1 := cellOf HL1.out 1; have c2 := cellOf HL1.out 2; have c3 := cellOf HL1.out 3; have c4 := cellOf HL1.out 4; have c5 := cellOf HL1.out 5; have hlb := box_lt HL1.out)
  obtain ⟨W1, hW1⟩ : ∃ wo : World, wo = w1 := ⟨_, rfl⟩
  subst hW1
  go_wp2_with fail
  go_loopw [6, 9, 10, 26] (fun sv _ _ i wr => ∃ (k : Nat) (L : List Nat), i = .int .i64 k ∧ k ≤ ms.length ∧ L.length ≤ k ∧ Hid (pckK ms x k = L) ∧ Hid (wr.ownsRow W1.heap.size 3 1 sv L.length (L.map fun (n : Nat) => Value.int .i64 n)) ∧ Hid (Below W1.heap.size W1 wr)) (fun _ _ _ i _ => ms.length - (intOf i).toNat)
  case atStart => exact ⟨0, [], rfl, Nat.zero_le _, Nat.le_refl _, rfl, World.ownsRow_nil _ _ _ _, Below.refl _ _⟩
  case round =>
    obtain ⟨k, L, rfl, hk, hLk, HL, HO, HB⟩ := hrel
    obtain ⟨A9, q9, hv9⟩ := owns_form HO.out
    subst hv9
    by_cases hkl : k < ms.length
    case neg =>
      have hkl1 : ¬ (k : Int) < (ms.length : Int) := by omega
      have hLL : LR = L := by rw [← HL.out, ← HLR.out]; unfold pckL; rw [show ms.length = k by omega]
      subst hLL
      clear hkl c0 c1 c2 c3 c4 c5 hlb
      go_wp2_with fail
      go_ret2
      exact ⟨_, rfl, Nods.of_own HO.out, Below.to HB1.out HB.out (Nat.le_refl _)⟩
    case pos =>
    have hkl1 : (k : Int) < (ms.length : Int) := by omega
    have ik0 : (0 : Int) ≤ (k : Int) := by omega
    have HBr := hide (Below.to HB1.out HB.out (Nat.le_refl _))
    obtain ⟨b, off, d, Af, qf, Aw, qw, HDD, hA, hb, hq, HF, HWS, e0, e1⟩ := HM.out.at hkl
    subst hA
    have z0 := (HBr.out.cell (p := ⟨b, off + k * 2, none⟩) hb).trans e0
    have z1 := (HBr.out.cell (p := ⟨b, off + k * 2 + 1, none⟩) hb).trans e1
    have lb : b < wr.heap.size := Nat.lt_of_lt_of_le hb HBr.out.size
    have iq : (ms.length : Int) ≤ (qm : Int) := by omega
    have hmem : d ∈ ms := by rw [← HDD.out]; exact getD_mem7 hkl
    have HVD := hide (HV.out d hmem)
    have HDL := hide (HD.out.f d hmem).1
    have hps := pckK_succ ms x k
    rw [HL.out, HDD.out] at hps
    unfold pckB at hps
    have hLl : L.length ≤ 60 := by omega
    have HLr := hide (HL1.out.to HB.out)
    clear e0 e1 hq hmem c0 c1 c2 c3 c4 c5 hlb
    go_upto_region 9 with (fail)
    generalize hw3 : World.alloc _ _ = w3
    obtain ⟨hb3, hB3, hs3⟩ := alloc1 hw3
    have m0 := cellOf hb3 0
    have m1 := cellOf hb3 1
    have lm := box_lt hb3
    have HLr3 := hide (HLr.out.to hB3)
    have c0 := cellOf HLr3.out 0; have c1 := cellOf HLr3.out 1; have c2 := cellOf HLr3.out 2; have c3 := cellOf HLr3.out 3; have c4 := cellOf HLr3.out 4; have c5 := cellOf HLr3.out 5
    have hlb := box_lt HLr3.out
    have HO3 := hide (owns_below HO.out hB3)
    have HB3 := hide (Below.to HB.out hB3 (Nat.le_refl _))
    have HBr3 := hide (Below.to HB1.out HB3.out (Nat.le_refl _))
    clear hw3 hb3 hB3 hs3 z0 z1 lb
    cases hc : evF1 (vf x) d.f with
    | true =>
      rw [hc, if_pos rfl] at hps
      have HC := hide hc
      have HPS := hide hps
      clear hps hc
      go_wp2_with (first | (go_at_call 85; refine (bholds_any d.f x Af qf _ A0 A1 A2 A3 A4 A5 q0 q1 q2 q3 q4 q5 l w3 HS.out HDL.out (H.out.up HBr3.out) (HF.out.up HBr3.out) (Sl.up HX.out HBr3.out) HMO.out HVD.out HXL.out).mono ?_; rw [HC.out]; rintro e w4 ⟨rfl, hB4⟩; have HO4 := hide (owns_below HO3.out hB4); have HB4 := hide (Below.to HB3.out hB4 (Nat.le_refl _)); clear hB4 c0 c1 c2 c3 c4 c5 hlb m0 m1 lm) | (at_builtin; go_must (refine wpList_append_own_at _ rfl (.tmp 36) (.tmp 38) _ rfl (W1.heap.size) 3 i0 _ 1 8 Tryz.underlying45 hi0 iz0 iz1 iz2 rfl (by omega) _ _ _ rfl ((HO4.out).alloc _) ⟨w4.heap.size, 0, none⟩ 1 1 [.int .i64 (k : Nat)] rfl rfl (World.news_of_block (heap_alloc_new w4 _)) (by simp [Value.oneCell']) (by have h1 := hLl; unfold maxLen; omega) (by have h1 := hLl; omega) (by have h1 := HB4.out.size; simp; omega) ?_); intro v1 w3 hown1 hg1 _ hat1; have HO5 := hide hown1; have HB5 := hide (Below.grown (Below.allocT HB4.out (Nat.le_refl _) _) hg1 (by have := HB4.out.size; simp; omega) (fun j hj => (HO4.out.lt j hj).1)); clear hown1 hg1 hat1))
      go_roundw
      case rel => exact ⟨k + 1, L ++ [k], by go_num, by omega, by simp; omega, HPS, by
          have := HO5.out
          rw [List.map_append, List.length_append, List.length_singleton]
          exact this, HB5⟩
      case measure => simp [intOf]; omega
    | false =>
      rw [hc, if_neg (by simp)] at hps
      have HC := hide hc
      have HPS := hide hps
      clear hps hc
      go_wp2_with (go_at_call 85; refine (bholds_any d.f x Af qf _ A0 A1 A2 A3 A4 A5 q0 q1 q2 q3 q4 q5 l w3 HS.out HDL.out (H.out.up HBr3.out) (HF.out.up HBr3.out) (Sl.up HX.out HBr3.out) HMO.out HVD.out HXL.out).mono ?_; rw [HC.out]; rintro e w4 ⟨rfl, hB4⟩; have HO4 := hide (owns_below HO3.out hB4); have HB4 := hide (Below.to HB3.out hB4 (Nat.le_refl _)); clear hB4 c0 c1 c2 c3 c4 c5 hlb m0 m1 lm)
      go_roundw
      case rel => exact ⟨k + 1, L, by go_num, by omega, by omega, HPS, HO4, HB4⟩
      case measure => simp [intOf]; omega
end Go.Proofs.YtehadoecnmfeoaaGreat
/- slices.Sort over integers: the shelf's contract at this program, laid by the kit's tool in plain words; over a row of the call's own. -/
namespace Go.Proofs.YtehadoecnmfeoaaGreat
open Go.Shelf
def srtRen15 : Go.Shelf.Ren := ⟨fun | 189 => 88 | 125 => 160 | 257 => 159 | 128 => 214 | 129 => 215 | 294 => 205 | 295 => 206 | 296 => 207 | 297 => 208 | 298 => 209 | 299 => 210 | 216 => 211 | 300 => 212 | 301 => 213 | 328 => 242 | 329 => 243 | 330 => 244 | 331 => 245 | 332 => 246 | 215 => 166 | 343 => 268 | n => n, fun | 28 => 45 | 3 => 3 | 46 => 173 | 0 => 0 | 51 => 253 | 53 => 255 | 4 => 4 | 183 => 247 | 182 => 246 | 131 => 61 | 5 => 5 | 9 => 9 | 218 => 282 | 222 => 286 | 228 => 302 | 229 => 205 | n => n, fun | n => n⟩
theorem srtLays15 : Go.Proofs.Lays.n189 Tryz.prog srtRen15 := {
  mixed := by kernel_rfl
  f125 := Tryz.func160.trans (congrArg some (by kernel_rfl))
  f128 := Tryz.func214.trans (congrArg some (by kernel_rfl))
  f129 := Tryz.func215.trans (congrArg some (by kernel_rfl))
  f189 := Tryz.func88.trans (congrArg some (by kernel_rfl))
  f215 := Tryz.func166.trans (congrArg some (by kernel_rfl))
  f216 := Tryz.func211.trans (congrArg some (by kernel_rfl))
  f257 := Tryz.func159.trans (congrArg some (by kernel_rfl))
  f294 := Tryz.func205.trans (congrArg some (by kernel_rfl))
  f295 := Tryz.func206.trans (congrArg some (by kernel_rfl))
  f296 := Tryz.func207.trans (congrArg some (by kernel_rfl))
  f297 := Tryz.func208.trans (congrArg some (by kernel_rfl))
  f298 := Tryz.func209.trans (congrArg some (by kernel_rfl))
  f299 := Tryz.func210.trans (congrArg some (by kernel_rfl))
  f300 := Tryz.func212.trans (congrArg some (by kernel_rfl))
  f301 := Tryz.func213.trans (congrArg some (by kernel_rfl))
  f328 := Tryz.func242.trans (congrArg some (by kernel_rfl))
  f329 := Tryz.func243.trans (congrArg some (by kernel_rfl))
  f330 := Tryz.func244.trans (congrArg some (by kernel_rfl))
  f331 := Tryz.func245.trans (congrArg some (by kernel_rfl))
  f332 := Tryz.func246.trans (congrArg some (by kernel_rfl))
  f343 := Tryz.func268.trans (congrArg some (by kernel_rfl))
  t0 := Tryz.underlying0
  a0 := Tryz.isAgg0
  z0 := Tryz.sizeOf0
  v0 := Tryz.zeroValue0
  t3 := Tryz.underlying3
  a3 := Tryz.isAgg3
  z3 := Tryz.sizeOf3
  v3 := Tryz.zeroValue3
  t4 := Tryz.underlying4
  a4 := Tryz.isAgg4
  z4 := Tryz.sizeOf4
  v4 := Tryz.zeroValue4
  t5 := Tryz.underlying5
  a5 := Tryz.isAgg5
  z5 := Tryz.sizeOf5
  v5 := Tryz.zeroValue5
  t9 := Tryz.underlying9
  a9 := Tryz.isAgg9
  z9 := Tryz.sizeOf9
  v9 := Tryz.zeroValue9
  t28 := Tryz.underlying45
  a28 := Tryz.isAgg45
  z28 := Tryz.sizeOf45
  v28 := Tryz.zeroValue45
  t46 := Tryz.underlying173
  a46 := Tryz.isAgg173
  z46 := Tryz.sizeOf173
  v46 := Tryz.zeroValue173
  t51 := Tryz.underlying253
  a51 := Tryz.isAgg253
  z51 := Tryz.sizeOf253
  v51 := Tryz.zeroValue253
  t53 := Tryz.underlying255
  a53 := Tryz.isAgg255
  z53 := Tryz.sizeOf255
  v53 := Tryz.zeroValue255
  t131 := Tryz.underlying61
  a131 := Tryz.isAgg61
  z131 := Tryz.sizeOf61
  v131 := Tryz.zeroValue61
  t182 := Tryz.underlying246
  a182 := Tryz.isAgg246
  z182 := Tryz.sizeOf246
  v182 := Tryz.zeroValue246
  t183 := Tryz.underlying247
  a183 := Tryz.isAgg247
  z183 := Tryz.sizeOf247
  v183 := Tryz.zeroValue247
  t218 := Tryz.underlying282
  a218 := Tryz.isAgg282
  z218 := Tryz.sizeOf282
  v218 := Tryz.zeroValue282
  t222 := Tryz.underlying286
  a222 := Tryz.isAgg286
  z222 := Tryz.sizeOf286
  v222 := Tryz.zeroValue286
  t228 := Tryz.underlying302
  a228 := Tryz.isAgg302
  z228 := Tryz.sizeOf302
  v228 := Tryz.zeroValue302
  t229 := Tryz.underlying205
  a229 := Tryz.isAgg205
  z229 := Tryz.sizeOf205
  v229 := Tryz.zeroValue205 }
open Go.Sort Go.RowKit in
open Go.Sort Go.RowKit in
theorem sort_ints15 (blk off cap : Nat) (zs : List Int) (w : World) (hH : Holds (Value.int .i64) w blk off zs.toArray) (hblk : blk < w.heap.size) (hsz : zs.length < 4611686018427387904) :
    Calls Tryz.prog 88 #[.slice (some ⟨blk, off, none⟩) zs.length cap] w fun e w' =>
      e = .returned (.tuple #[]) ∧ ∃ n os, w' = grow (putRow (Value.int .i64) (Sort.ahead w n) blk off (zs.mergeSort fun x y => decide (x ≤ y)).toArray) os := Any.slices_Sort_int srtLays15 blk off cap zs w hH hblk hsz
open Go.Sort Go.RowKit in
theorem sort_none15 (p : Option Addr) (cap : Nat) (w : World) :
    Calls Tryz.prog 88 #[.slice p 0 cap] w fun e w' => e = .returned (.tuple #[]) ∧ w' = w := Any.slices_Sort_int_none srtLays15 p cap w
open Go.Sort Go.RowKit in
/-- A row of the call's own, sorted. -/
theorem sort_own15 (l : List Int) (base : Nat) (v : Value) (w : World) (hl0 : l.length ≤ 100000) (h : w.ownsRow base 3 1 v l.length (l.map (Value.int .i64))) :
    Calls Tryz.prog 88 #[v] w fun e w' => e = .returned (.tuple #[]) ∧ w'.ownsRow base 3 1 v l.length ((l.mergeSort fun x y => decide (x ≤ y)).map (Value.int .i64)) ∧ (base ≤ w.heap.size → Below base w w') := by
  rcases h.2 with ⟨h0, hl⟩ | ⟨g, cap, cur, rfl, hg, hb, hn, hcap, hcur, ht⟩
  · obtain rfl : l = [] := by
      cases l with
      | nil => rfl
      | cons a b => simp at hl
    subst h0
    refine (sort_none15 none 0 w).mono ?_
    rintro e w' ⟨rfl, rfl⟩
    exact ⟨rfl, by simpa using h, fun _ => Below.refl _ _⟩
  · have hgl : g < w.heap.size := (Array.getElem?_eq_some_iff.1 hb).1
    refine (sort_ints15 g 0 cap l w (holds_of_blockI hb (by simpa using ht)) hgl (by omega)).mono ?_
    rintro e w' ⟨rfl, n, os, rfl⟩
    refine ⟨rfl, ownsRow_sortedI (by simp) hg hb hn hcap hcur, fun hbs => ?_⟩
    exact (Below.refl base w).grown (grownBy_sortedI _) hbs (fun k e => by injection e with e; omega)
end Go.Proofs.YtehadoecnmfeoaaGreat
/- What is made, on both sides: walks. -/
namespace Go.Proofs.YtehadoecnmfeoaaGreat
open Go.RowKit
set_option linter.unusedVariables false
set_option linter.unusedSimpArgs false
theorem wires_up {n : Nat} {ws : List Int} (h : wiresB n ws = true) : ∀ k, k < ws.length → (k : Int) ≤ ws.getD k 0
  | 0, hk => (wires_at h hk).1
  | k + 1, hk => by
    have h1 := wires_up h k (by omega)
    have h2 := (wires_at h hk).2.2 (by omega)
    rw [Nat.add_sub_cancel] at h2
    omega
theorem wires_len {n : Nat} {ws : List Int} (h : wiresB n ws = true) : ws.length ≤ n := by
  rcases Nat.eq_zero_or_pos ws.length with h0 | h0
  · omega
  · have h1 := wires_up h (ws.length - 1) (by omega)
    have h2 := (wires_at h (show ws.length - 1 < ws.length by omega)).2.1
    omega
def madL (l : Lo) (ms : List Md) (x : List Bool) : List Nat := if pikE l ms x = 0 then madeN l.ws.length ms x else []
theorem pik_zero {l : Lo} {ms : List Md} {x : List Bool} (h : pikE l ms x = 0) : bldE l ms = 0 ∧ x.length = l.m.opts.length := by
  have hb : bldE l ms = 0 := by
    by_cases hb : bldE l ms = 0
    · exact hb
    · rw [(pik_err hb).1] at h
      exact absurd h hb
  refine ⟨hb, ?_⟩
  by_cases hxl : x.length = l.m.opts.length
  · exact hxl
  · rw [(pik_arg hb hxl).1] at h
    omega
theorem wsI_end {ms : List Md} {L : List Nat} {k : Nat} (h : L.length ≤ k) : wsI ms (L.take k) = wsI ms L := by rw [List.take_of_length_le h]
theorem wsI_step {ms : List Md} {L : List Nat} {k : Nat} (h : k < L.length) : wsI ms (L.take (k + 1)) = wsI ms (L.take k) ++ (ms.getD (L.getD k 0) Md.o).ws := by
  have h1 : L.getD k 0 = L[k] := by
    rw [List.getD_eq_getElem?_getD, List.getElem?_eq_getElem h]
    rfl
  unfold wsI
  rw [List.take_add_one, List.getElem?_eq_getElem h, List.flatMap_append, h1]
  simp
theorem sorted_nods {w : World} {base : Nat} {v : Value} {l : List Int} {S : List Nat} (h : w.ownsRow base 3 1 v l.length ((l.mergeSort fun x y => decide (x ≤ y)).map (Value.int .i64))) (hs : (l.mergeSort fun x y => decide (x ≤ y)) = S.map fun (n : Nat) => (n : Int)) : Nods w w.heap.size v S := by
  have hl : l.length = S.length := by
    have h2 := congrArg List.length hs
    rw [List.length_mergeSort, List.length_map] at h2
    exact h2
  rw [hs, hl, List.map_map] at h
  exact Nods.of_own h
theorem one_ints9 {f : List Int} : ∀ u ∈ (f : List Int).map (Value.int .i64), u.oneCell' = true := fun u hu => by
  obtain ⟨x, _, rfl⟩ := List.mem_map.1 hu
  simp [Value.oneCell']
set_option maxRecDepth 100000 in
set_option maxHeartbeats 8000000 in
theorem Made_any (ms : List Md) (x : List Bool) (Am : Option Addr) (qm : Nat) (Ax : Option Addr) (qx : Nat) (A0 A1 A2 A3 A4 A5 : Option Addr) (q0 q1 q2 q3 q4 q5 : Nat) (l : Lo) (w : World) (hs : SizedL l) (hd : SizedD ms) (h : LoA w w.heap.size A0 A1 A2 A3 A4 A5 q0 q1 q2 q3 q4 q5 l) (hm : Mods w w.heap.size (.slice Am ms.length qm) ms) (hx : Bols w w.heap.size (.slice Ax x.length qx) x) :
    Calls Tryz.prog 30 #[.agg #[.slice A0 l.m.opts.length q0, .slice A1 l.m.rules.length q1, .slice A2 l.ss.length q2, .slice A3 l.us.length q3, .slice A4 l.ps.length q4, .slice A5 l.ws.length q5], .slice Am ms.length qm, .slice Ax x.length qx] w (PicP (madL l ms x) (pikE l ms x) w) := by
  obtain ⟨i0, hi0, iz0, iz1, iz2⟩ := info_parts infoInt
  have H := hide h
  have HS := hide hs
  have HM := hide hm
  have HD := hide hd
  have HX := hide hx
  obtain ⟨er, her⟩ : ∃ z, pikE l ms x = z := ⟨_, rfl⟩
  obtain ⟨P, hP⟩ : ∃ z, pikL l ms x = z := ⟨_, rfl⟩
  have HER := hide her
  have HP := hide hP
  clear h hs hm hd hx
  by_cases h0 : er = 0
  case neg =>
    have hL : madL l ms x = [] := by unfold madL; rw [her, if_neg h0]
    rw [hL, her]
    have hz1 : (er != 0) = true := by simpa using h0
    clear her h0 hL hP
    go_enter Tryz.func30, Tryz.ntmps30
    go_upto_region 1 with (fail)
    generalize hw0 : World.alloc _ _ = w0
    obtain ⟨hb0, hB0, hs0⟩ := alloc1 hw0
    have HB0 := hide hB0
    have c0 := cellOf hb0 0; have c1 := cellOf hb0 1; have c2 := cellOf hb0 2; have c3 := cellOf hb0 3; have c4 := cellOf hb0 4; have c5 := cellOf hb0 5
    have hlb := box_lt hb0
    clear hw0 hb0 hB0 hs0
    go_wp2_with (go_at_call 28; refine (Pick_any ms x Am qm Ax qx A0 A1 A2 A3 A4 A5 q0 q1 q2 q3 q4 q5 l _ HS.out HD.out (H.out.up HB0.out) (HM.out.up HB0.out) (Sl.up HX.out HB0.out)).mono ?_; rw [HER.out]; rintro e w1 ⟨v1, rfl, hv1, hB1⟩; have HB1 := hide (Below.to HB0.out hB1 (Nat.le_refl _)); clear hv1 hB1 c0 c1 c2 c3 c4 c5 hlb)
    go_ret2
    exact ⟨_, rfl, Sl.nil _ _ _ _, HB1.out⟩
  case pos =>
  subst h0
  obtain ⟨hb, hxl⟩ := pik_zero her
  have hL : madL l ms x = madeN l.ws.length ms x := by unfold madL; rw [if_pos her]
  have hPP : pckL ms x = P := by rw [← hP]; exact (pik_ok hb hxl).2.symm
  have hin : ∀ i, i < P.length → P.getD i 0 < ms.length := fun i hi => by
    refine (pckL_lt (x := x) ?_).1
    rw [hPP, List.getD_eq_getElem?_getD, List.getElem?_eq_getElem hi]
    exact List.getElem_mem hi
  have hms60 := (bldE_ok hb).n
  have hws60 := (bldE_ok hb).lo.w60
  have hPl : P.length ≤ 60 := by rw [← hPP]; exact Nat.le_trans (pckK_le ms x _) hms60
  have HIN := hide hin
  have HPP := hide hPP
  have HWR := hide (ms_wires hb)
  have HSORT := hide (made_sort (ms_wires hb) x)
  rw [hL, her]
  clear her hL hb hxl hP hPP hin
  go_enter Tryz.func30, Tryz.ntmps30
  go_upto_region 1 with (fail)
  generalize hw0 : World.alloc _ _ = w0
  obtain ⟨hb0, hB0, hs0⟩ := alloc1 hw0
  have HB0 := hide hB0
  have c0 := cellOf hb0 0; have c1 := cellOf hb0 1; have c2 := cellOf hb0 2; have c3 := cellOf hb0 3; have c4 := cellOf hb0 4; have c5 := cellOf hb0 5
  have hlb := box_lt hb0
  clear hw0 hb0 hB0 hs0
  go_upto_region 4 with (go_at_call 28; refine (Pick_any ms x Am qm Ax qx A0 A1 A2 A3 A4 A5 q0 q1 q2 q3 q4 q5 l _ HS.out HD.out (H.out.up HB0.out) (HM.out.up HB0.out) (Sl.up HX.out HB0.out)).mono ?_; rw [HER.out, HP.out]; rintro e w1 ⟨v1, rfl, hv1, hB1⟩; obtain ⟨A9, q9, e9⟩ := Sl.form hv1; subst e9; have HV1 := hide hv1; have HB1 := hide (Below.to HB0.out hB1 (Nat.le_refl _)); clear hv1 hB1 c0 c1 c2 c3 c4 c5 hlb)
  obtain ⟨W1, hW1⟩ : ∃ wo : World, wo = w1 := ⟨_, rfl⟩
  subst hW1
  go_wp2_with fail
  go_loopw [6, 10, 23] (fun sv _ i wr => ∃ (k : Nat) (L : List Int), i = .int .i64 k ∧ k ≤ P.length ∧ L.length ≤ k * 60 ∧ Hid (wsI ms (P.take k) = L) ∧ Hid (wr.ownsRow W1.heap.size 3 1 sv L.length (L.map (Value.int .i64))) ∧ Hid (Below W1.heap.size W1 wr)) (fun _ _ i _ => P.length - (intOf i).toNat)
  case atStart => exact ⟨0, [], rfl, Nat.zero_le _, Nat.zero_le _, rfl, World.ownsRow_nil _ _ _ _, Below.refl _ _⟩
  case round =>
    obtain ⟨k, L, rfl, hk, hLk, HL, HO, HB⟩ := hrel
    obtain ⟨A8, q8, hv8⟩ := owns_form HO.out
    subst hv8
    have HBr := hide (Below.to HB1.out HB.out (Nat.le_refl _))
    by_cases hkl : k < P.length
    case neg =>
      have hkl1 : ¬ (k : Int) < (P.length : Int) := by omega
      have hLL : wsP ms x = L := by rw [← HL.out, wsI_end (by omega)]; unfold wsP; rw [HPP.out]
      have hso := HSORT.out
      rw [hLL] at hso
      have HSO := hide hso
      have hLb : L.length ≤ 100000 := by omega
      clear hLL hkl hso
      go_wp2_with (go_at_call 88; refine (sort_own15 L W1.heap.size _ _ hLb HO.out).mono ?_; rintro e w7 ⟨rfl, hS7, hB7⟩; have HN7 := hide (sorted_nods hS7 HSO.out); have HB7 := hide (Below.to HB1.out (Below.trans HB.out (hB7 HB.out.size)) (Nat.le_refl _)); clear hS7 hB7)
      go_ret2
      exact ⟨_, rfl, HN7.out, HB7.out⟩
    case pos =>
    have hkl1 : (k : Int) < (P.length : Int) := by omega
    have ik0 : (0 : Int) ≤ (k : Int) := by omega
    obtain ⟨b1, o1, j, HJ, hA1, hb1, hq1, ej0⟩ := Nods.at8 HV1.out hkl
    have hjm : j < ms.length := by rw [← HJ.out]; exact HIN.out k hkl
    have ej := (HB.out.cell (p := ⟨b1, o1 + k, none⟩) hb1).trans ej0
    have lb1 : b1 < wr.heap.size := Nat.lt_of_lt_of_le hb1 HB.out.size
    obtain ⟨b, off, d, Af, qf, Aw, qw, HDD, hA, hb, hq, HF, HWS, e0, e1⟩ := HM.out.at hjm
    subst hA hA1
    have z1 := (HBr.out.cell (p := ⟨b, off + j * 2 + 1, none⟩) hb).trans e1
    have lb : b < wr.heap.size := Nat.lt_of_lt_of_le hb HBr.out.size
    have iq : (ms.length : Int) ≤ (qm : Int) := by omega
    have iq1 : (P.length : Int) ≤ (q9 : Int) := by omega
    have ij0 : (0 : Int) ≤ (j : Int) := by omega
    have ij1 : (j : Int) < (ms.length : Int) := by omega
    have hdl := wires_len (HWR.out d (by rw [← HDD.out]; exact getD_mem7 hjm))
    have hst := wsI_step (ms := ms) hkl
    rw [HL.out, HJ.out, HDD.out] at hst
    have HST := hide hst
    have HWr := hide (HWS.out.up HBr.out)
    have hsum : L.length + d.ws.length ≤ 4000 := by omega
    clear hq hq1 e0 e1 ej0 hst
    go_wp2_with (at_builtin; refine wpList_append_any _ rfl (.tmp 27) (.tmp 32) _ rfl W1.heap.size 3 i0 _ 1 8 Tryz.underlying45 hi0 iz0 iz1 iz2 rfl (by decide) _ _ _ rfl HO.out wr.heap.size Aw d.ws.length qw (d.ws.map (Value.int .i64)) rfl (Ints.flat7 HWr.out) one_ints9 (by unfold maxLen; omega) (by omega) HB.out.size ?_; intro v1 w3 hown1 hg1 hat1; have HO3 := hide hown1; have HB3 := hide (Below.grown HB.out hg1 HB.out.size (fun j hj => (HO.out.lt j hj).1)); clear hown1 hg1 hat1)
    go_roundw
    case rel => exact ⟨k + 1, L ++ d.ws, by go_num, by omega, by rw [List.length_append]; omega, HST, by
        have := HO3.out
        rw [List.map_append, List.length_append]
        exact this, HB3⟩
    case measure => simp [intOf]; omega
end Go.Proofs.YtehadoecnmfeoaaGreat

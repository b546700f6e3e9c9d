/- Part 29 of this claim's texts: walks and plain laws. -/
import Derived.Test.YtmabfnddedffoaaRows
import Derived.Test.YtmabfnddedffoaaGLV26
import Derived.Test.YtmabfnddedffoaaGLV27
import Derived.Test.YtmabfnddedffoaaGLV1
import Derived.Deep.RegionHeld3
import Derived.Deep.DrawnRows
import Derived.Test.YtmabfnddedffoaaGLV21
import Derived.Laws.Cover3
import Derived.Test.YtmabfnddedffoaaGLV17
import Derived.Test.YtmabfnddedffoaaGLV3
/- Formulas copied: walk. -/
namespace Go.Proofs.Ytmabfnddedffoaa
open Go.RowKit
set_option linter.unusedVariables false
set_option linter.unusedSimpArgs false
theorem Ints.flat6 {w : World} {B n cap : Nat} {A : Option Addr} {l : List Int} (h : Ints w B (.slice A n cap) l) : Reads w B 1 A l.length (l.map (Value.int .i64)) := by
  have h1 := Sl.form h
  obtain ⟨A', cap', he⟩ := h1
  injection he with e1 e2 e3
  subst e1 e2 e3
  have h2 := Sl.reads h (by omega)
  have e : Go.Proofs.Ytmabfnddedffoaa.flat l.length 1 (fun i _ => Value.int .i64 (l.getD i 0)) = l.map (Value.int .i64) := by
    apply List.ext_getElem
    · simp [flat_length]
    · intro i q1 q2
      have h3 := flat_get (n := l.length) (sz := 1) (f := fun i _ => Value.int .i64 (l.getD i 0)) (i := i) (j := 0) (by simpa using q2) (by omega)
      rw [Nat.mul_one, Nat.add_zero, List.getElem?_eq_getElem q1] at h3
      injection h3 with h3
      rw [h3]
      have q3 : i < l.length := by simpa using q2
      simp [q3]
  rwa [e] at h2
theorem one_ints6 {l : List Int} : ∀ u ∈ l.map (Value.int .i64), u.oneCell' = true := by
  intro u hu
  rw [List.mem_map] at hu
  obtain ⟨_, _, rfl⟩ := hu
  rfl
theorem ints_own6 {w : World} {base : Nat} {v : Value} {l : List Int} (h : w.ownsRow base 3 1 v l.length (l.map (Value.int .i64))) : Ints w w.heap.size v l :=
  Sl.of_owns h fun i j hi hj => by
    obtain rfl : j = 0 := by omega
    rw [Nat.mul_one, Nat.add_zero, List.getElem?_map]
    simp [hi]
/-- Formulas in rows of their own, in a row of the call's own. -/
structure FoS (w0 wr : World) (B : Nat) (v : Value) (L : List (List Int)) (vs : List Value) : Prop where
  below : Below w0.heap.size w0 wr
  len : vs.length = L.length
  own : wr.ownsRow B 66 1 v L.length vs
  row : ∀ i, i < L.length → wr.ownsRow B 3 1 (vs.getD i undef) (L.getD i []).length ((L.getD i []).map (Value.int .i64))
  lt : w0.heap.size ≤ B ∧ B ≤ wr.heap.size
theorem FoS.to {w0 wr w' : World} {B : Nat} {v : Value} {L : List (List Int)} {vs : List Value} (h : FoS w0 wr B v L vs) (hb : Below wr.heap.size wr w') : FoS w0 w' B v L vs :=
  ⟨Below.to h.below hb (Nat.le_refl _), h.len, owns_below h.own hb, fun i hi => owns_below (h.row i hi) hb, h.lt.1, Nat.le_trans h.lt.2 hb.size⟩
theorem FoS.push {w0 wr w' : World} {B : Nat} {v v1 x : Value} {L : List (List Int)} {vs : List Value} {f : List Int} {o : Obj} (h : FoS w0 wr B v L vs) (hx : wr.ownsRow B 3 1 x f.length (f.map (Value.int .i64))) (hown : w'.ownsRow B 66 1 v1 (L.length + 1) (vs ++ [x])) (hg : (wr.alloc o).grownBy w' v.ownBlock) : FoS w0 w' B v1 (L ++ [f]) (vs ++ [x]) := by
  have hl := h.len
  refine ⟨own_low h.below h.own h.lt.1 hg, by simp [hl], by rw [List.length_append]; exact hown, fun i hi => ?_, h.lt.1, by have := hg.size; simp at this; have := h.lt.2; omega⟩
  rcases Nat.lt_or_ge i L.length with h1 | h1
  · rw [List.getD_eq_getElem?_getD, List.getElem?_append_left (by omega), ← List.getD_eq_getElem?_getD, List.getD_eq_getElem?_getD (l := L ++ [f]), List.getElem?_append_left h1, ← List.getD_eq_getElem?_getD]
    exact ownsKeep (h.row i h1) h.own (by decide) hg
  · have he : i = L.length := by simp at hi; omega
    subst he
    rw [List.getD_eq_getElem?_getD, List.getElem?_append_right (by omega), List.getD_eq_getElem?_getD (l := L ++ [f]), List.getElem?_append_right (Nat.le_refl _), hl, Nat.sub_self]
    exact ownsKeep hx h.own (by decide) hg
theorem FoS.forms {w0 wr : World} {B : Nat} {v : Value} {L : List (List Int)} {vs : List Value} (h : FoS w0 wr B v L vs) : Forms wr wr.heap.size v L := by
  refine ⟨fun i => vs.getD i undef, Sl.of_owns h.own fun i j hi hj => ?_, fun i hi => ints_own6 (h.row i hi)⟩
  obtain rfl : j = 0 := by omega
  have := h.len
  have hi2 : i < vs.length := by omega
  rw [Nat.mul_one, Nat.add_zero]
  simp [hi2]
set_option maxRecDepth 100000 in
set_option maxHeartbeats 4000000 in
theorem copyForms_any (L : List (List Int)) (A : Option Addr) (q : Nat) (w : World) (hl : L.length ≤ 100) (hf : ∀ f ∈ L, f.length ≤ 100) (h : Forms w w.heap.size (.slice A L.length q) L) :
    Calls Try.prog 51 #[.slice A L.length q] w fun e w' => ∃ v vs, e = .returned v ∧ FoS w w' w.heap.size v L vs := by
  obtain ⟨i0, hi0, iz0, iz1, iz2⟩ := info_parts infoInt
  obtain ⟨i1, hi1, jz0, jz1, jz2⟩ := info_parts infoForm
  have H := hide h
  have HF := hide hf
  clear h hf
  go_enter Try.func51, Try.ntmps51
  go_wp2_with fail
  go_loopw [3, 4] (fun o i wr => ∃ (k : Nat) (A : Option Addr) (cap : Nat) (T : List (List Int)) (vs : List Value), i = .int .i64 k ∧ o = .slice A T.length cap ∧ k ≤ L.length ∧ Hid (L.take k = T) ∧ Hid (FoS w wr w.heap.size (.slice A T.length cap) T vs)) (fun _ i _ => L.length - (intOf i).toNat)
  case atStart => exact ⟨0, _, _, [], [], rfl, rfl, Nat.zero_le _, rfl, ⟨Below.refl _ _, rfl, World.ownsRow_nil _ _ _ _, fun i hi => absurd hi (by simp), Nat.le_refl _, Nat.le_refl _⟩⟩
  case round =>
    obtain ⟨k, Ao, cap, T, vs, rfl, rfl, hk, HT, R⟩ := hrel
    have hTl : T.length ≤ 100 := by rw [← HT.out]; simp; omega
    by_cases hkl : k < L.length
    · obtain ⟨fv, hs, hfi⟩ := (Forms.up H.out R.out.below)
      obtain ⟨_, hq, b, off, rfl, hb, hc⟩ := sl_at hs hkl
      have hx := hfi k hkl
      obtain ⟨f, hfe⟩ : ∃ f, L.getD k [] = f := ⟨_, rfl⟩
      rw [hfe] at hx
      obtain ⟨Af, qf, e⟩ := Sl.form hx
      have c0 := hc 0 (by omega)
      rw [Nat.mul_one, Nat.add_zero, e] at c0
      rw [e] at hx
      have hfl : f.length ≤ 100 := by rw [← hfe]; exact HF.out _ (getD_mem3f hkl)
      have htk : L.take (k + 1) = T ++ [f] := by
        rw [← HT.out, ← hfe, List.take_add_one, List.getElem?_eq_getElem hkl, List.getD_eq_getElem?_getD, List.getElem?_eq_getElem hkl]
        rfl
      have HTK := hide htk
      have HFR := hide hx.flat6
      have ik0 : (0 : Int) ≤ (k : Int) := by omega
      have ik : (k : Int) < (L.length : Int) := by omega
      have iq : (L.length : Int) ≤ (q : Int) := by omega
      have hBw := R.out.lt.2
      clear hx hs hfi hc htk hfe e
      go_wp2_with (first
        | (at_builtin; refine wpList_append_own_at _ rfl (.tmp 11) (.tmp 18) _ rfl w.heap.size 66 i1 _ 1 24 Try.underlying23 hi1 jz0 jz1 jz2 rfl (by omega) _ _ _ rfl (R1.out.own.alloc _) ⟨w1.heap.size, 0, none⟩ 1 1 [.slice A1 f.length cap1] rfl rfl (World.news_of_block (heap_alloc_new w1 _)) (by simp [Value.oneCell']) (by unfold maxLen; omega) (by omega) (by have := R1.out.lt.2; simp; omega) ?_; intro v2 w3 hown2 hg2 _ hat2; obtain ⟨A2, cap2, hv2⟩ := owns_form hown2; subst hv2; have R2 := hide (R1.out.push HX1.out hown2 hg2); clear hown2 hg2 hat2)
        | (at_builtin; refine wpList_append_any _ rfl (.tmp 12) (.tmp 16) _ rfl w.heap.size 3 i0 _ 1 8 Try.underlying66 hi0 iz0 iz1 iz2 rfl (by decide) _ 0 [] rfl (World.ownsRow_made wr #[] 0 hBw (by unfold maxLen; omega) rfl) wr.heap.size Af f.length qf (f.map (Value.int .i64)) rfl (HFR.out.alloc (Nat.le_refl _) _) one_ints6 (by unfold maxLen; omega) (by omega) (by simp; omega) ?_; intro v1 w1 hown1 hg1 _; rw [Nat.zero_add, List.nil_append] at hown1; obtain ⟨A1, cap1, hv1⟩ := owns_form hown1; subst hv1; have HX1 := hide hown1; have R1 := hide (R.out.to (Below.grown (Below.allocT (Below.refl _ _) (Nat.le_refl _) _) hg1 (by simp) (fun j hj => by injection hj with hj; exact Nat.le_of_eq hj))); clear hown1 hg1))
      go_roundw
      case rel => exact ⟨k + 1, A2, cap2, T ++ [f], _, by go_num, by rw [List.length_append, List.length_singleton], by omega, HTK.out, by rw [List.length_append, List.length_singleton]; exact R2.out⟩
      case measure => simp [intOf]; omega
    · have hke : k = L.length := by omega
      subst hke
      have hT := HT.out
      rw [List.take_length] at hT
      subst hT
      go_wp2_with fail
      go_ret
      exact ⟨_, vs, rfl, R.out⟩
end Go.Proofs.Ytmabfnddedffoaa
/- The elder search for a way: walk. -/
namespace Go.Proofs.Ytmabfnddedffoaa
open Go.RowKit
set_option linter.unusedVariables false
set_option linter.unusedSimpArgs false
theorem Nods.flat6 {w : World} {B n cap : Nat} {A : Option Addr} {l : List Nat} (h : Nods w B (.slice A n cap) l) : Reads w B 1 A l.length (l.map fun (n : Nat) => Value.int .i64 n) := by
  obtain ⟨A', cap', he⟩ := Sl.form h
  injection he with e1 e2 e3
  subst e1 e2 e3
  have h2 := Sl.reads h (by omega)
  have e : Go.Proofs.Ytmabfnddedffoaa.flat l.length 1 (fun i _ => Value.int .i64 (l.getD i 0 : Nat)) = l.map fun (n : Nat) => Value.int .i64 n := by
    apply List.ext_getElem
    · simp [flat_length]
    · intro i q1 q2
      have h3 := flat_get (n := l.length) (sz := 1) (f := fun i _ => Value.int .i64 (l.getD i 0 : Nat)) (i := i) (j := 0) (by simpa using q2) (by omega)
      rw [Nat.mul_one, Nat.add_zero, List.getElem?_eq_getElem q1] at h3
      injection h3 with h3
      rw [h3]
      have q3 : i < l.length := by simpa using q2
      simp [q3]
  rwa [e] at h2
/-- What a search that leads there gives. -/
def WkYes (w : World) (rs : List (Nat × Nat)) (back : Int) (a b : Nat) (Q : List Nat) (e : Ending) (w' : World) : Prop :=
  ∃ (P : List Nat) (Ad : Addr) (cap : Nat), WayP rs back a P b ∧ e = .returned (.slice (some Ad) (Q ++ P).length cap) ∧ Nods w' w'.heap.size (.slice (some Ad) (Q ++ P).length cap) (Q ++ P) ∧ Below w.heap.size w w'
def WkNo (w : World) (e : Ending) (w' : World) : Prop := e = .returned (.slice none 0 0) ∧ Below w.heap.size w w'
end Go.Proofs.Ytmabfnddedffoaa
/- The elder checks of spots and pins: walks. -/
namespace Go.Proofs.Ytmabfnddedffoaa
open Go.RowKit
set_option linter.unusedVariables false
set_option linter.unusedSimpArgs false
theorem btw_neg {n m : Int} (h : n < 0) : btw n 0 m = false := btw_f (.inl h)
theorem btw_dec {n : Int} {m : Nat} (h : 0 ≤ n) : btw n 0 ((m : Int) - 1) = decide (n < (m : Int)) := by
  unfold btw
  rw [decide_eq_true h, Bool.true_and]
  exact decide_eq_decide.2 (by omega)
theorem btw_dec2 {n m : Int} (h : 0 ≤ n) : btw n 0 (m - 1) = decide (n < m) := by
  unfold btw
  rw [decide_eq_true h, Bool.true_and]
  exact decide_eq_decide.2 (by omega)
set_option maxRecDepth 100000 in
set_option maxHeartbeats 1000000 in
theorem rspot_any (n : Int) (A0 A1 A2 A3 A4 A5 : Option Addr) (q0 q1 q2 q3 q4 q5 : Nat) (l : Lo) (w : World) (b : Bool) (hb : btw n 0 ((l.ss.length : Int) - 1) = b) :
    Calls Try.prog 90 #[.agg #[.slice A0 l.m.opts.length q0, .slice A1 l.m.rules.length q1, .slice A2 l.ss.length q2, .slice A3 l.us.length q3, .slice A4 l.ps.length q4, .slice A5 l.ws.length q5], .int .i64 n] w fun e w' => e = .returned (.bool b) ∧ Below w.heap.size w w' := by
  subst hb
  by_cases h0 : 0 ≤ n
  · have hr := btw_dec (n := n) (m := l.ss.length) h0
    have HR := hide hr
    clear hr
    go_enter Try.func90, Try.ntmps90
    go_wp2_with fail
    go_ret
    exact ⟨ret_bool HR.out.symm, (by repeat (first | exact Below.refl _ _ | assumption | refine Below.drew ?_ | refine Below.drewN ?_ _ | refine Below.allocT ?_ (Nat.le_refl _) _ | refine Below.setCell ?_ (by simp <;> omega) _ | refine Below.to ?_ (by assumption) (Nat.le_refl _)))⟩
  · have hr := btw_neg (n := n) (m := (l.ss.length : Int) - 1) (by omega)
    have HR := hide hr
    clear hr
    go_enter Try.func90, Try.ntmps90
    go_wp2_with fail
    go_ret
    exact ⟨ret_bool HR.out.symm, (by repeat (first | exact Below.refl _ _ | assumption | refine Below.drew ?_ | refine Below.drewN ?_ _ | refine Below.allocT ?_ (Nat.le_refl _) _ | refine Below.setCell ?_ (by simp <;> omega) _ | refine Below.to ?_ (by assumption) (Nat.le_refl _)))⟩
set_option maxRecDepth 100000 in
set_option maxHeartbeats 2000000 in
theorem rpin_any (p c : Int) (A0 A1 A2 A3 A4 A5 : Option Addr) (q0 q1 q2 q3 q4 q5 : Nat) (l : Lo) (w : World) (h : LoA w w.heap.size A0 A1 A2 A3 A4 A5 q0 q1 q2 q3 q4 q5 l) (b : Bool) (hb : pinOk l p c = b) :
    Calls Try.prog 137 #[.agg #[.slice A0 l.m.opts.length q0, .slice A1 l.m.rules.length q1, .slice A2 l.ss.length q2, .slice A3 l.us.length q3, .slice A4 l.ps.length q4, .slice A5 l.ws.length q5], .agg #[.int .i64 p, .int .i64 c]] w fun e w' => e = .returned (.bool b) ∧ Below w.heap.size w w' := by
  subst hb
  have H := hide h
  clear h
  by_cases h0 : 0 ≤ p
  case neg =>
    have hr : pinOk l p c = false := by unfold pinOk; rw [btw_f (.inl (by omega))]; rfl
    have HR := hide hr
    have e0 : decide ((0 : Int) ≤ p) = false := decide_eq_false h0
    clear hr
    go_enter Try.func137, Try.ntmps137
    go_upto_region 1 with (fail)
    generalize hw0 : World.alloc _ _ = w0
    obtain ⟨hb0, hb1, hB0, hs0⟩ := alloc2 hw0
    have HB0 := hide hB0
    have c4 := cellOf hb0 4
    have d0 := cellOf hb1 0
    have d1 := cellOf hb1 1
    have l0 := box_lt hb0
    have l1 := box_lt hb1
    clear hw0 hb0 hb1 hB0 hs0
    refine wp_region_held_drew (S := (fun w' => Below w0.heap.size w0 w')) (by kernel_rfl) ?_ (fun hHeld => ?_)
    · try dsimp only
      exact (by repeat (first | exact Below.refl _ _ | assumption | refine Below.drew ?_ | refine Below.drewN ?_ _ | refine Below.allocT ?_ (Nat.le_refl _) _ | refine Below.setCell ?_ (by simp <;> omega) _ | refine Below.to ?_ (by assumption) (Nat.le_refl _)))
    refine zT 0 rfl ?_
    try simp only [zX]
    refine zT 1 rfl ?_
    try simp only [zX]
    refine zT 2 rfl ?_
    try simp only [zX]
    refine zT 3 rfl ?_
    try simp only [zX]
    refine wpAnyH_take (i := 4) (v := undef) rfl (by kernel_rfl) (by kernel_rfl) (by kernel_rfl) (fun _ _ _ h => h) (Or.inr ⟨?w1_4, rfl⟩) (by assumption) ?r1_4
    case' w1_4 => first | rfl | (simp [Region.wanted, yielded, *]; done)
    try simp only [zX]
    refine wpAnyH_take (i := 5) (v := undef) rfl (by kernel_rfl) (by kernel_rfl) (by kernel_rfl) (fun _ _ _ h => h) (Or.inr ⟨?w1_5, rfl⟩) (by assumption) ?r1_5
    case' w1_5 => first | rfl | (simp [Region.wanted, yielded, *]; done)
    try simp only [zX]
    refine wpAnyH_take (i := 6) (v := undef) rfl (by kernel_rfl) (by kernel_rfl) (by kernel_rfl) (fun _ _ _ h => h) (Or.inr ⟨?w1_6, rfl⟩) (by assumption) ?r1_6
    case' w1_6 => first | rfl | (simp [Region.wanted, yielded, *]; done)
    try simp only [zX]
    refine wpAnyH_take (i := 7) (v := undef) rfl (by kernel_rfl) (by kernel_rfl) (by kernel_rfl) (fun _ _ _ h => h) (Or.inr ⟨?w1_7, rfl⟩) (by assumption) ?r1_7
    case' w1_7 => first | rfl | (simp [Region.wanted, yielded, *]; done)
    try simp only [zX]
    refine wpAnyH_take (i := 8) (v := undef) rfl (by kernel_rfl) (by kernel_rfl) (by kernel_rfl) (fun _ _ _ h => h) (Or.inr ⟨?w1_8, rfl⟩) (by assumption) ?r1_8
    case' w1_8 => first | rfl | (simp [Region.wanted, yielded, *]; done)
    try simp only [zX]
    refine wpAnyH_take (i := 9) (v := undef) rfl (by kernel_rfl) (by kernel_rfl) (by kernel_rfl) (fun _ _ _ h => h) (Or.inr ⟨?w1_9, rfl⟩) (by assumption) ?r1_9
    case' w1_9 => first | rfl | (simp [Region.wanted, yielded, *]; done)
    try simp only [zX]
    refine zT 10 rfl ?_
    try simp only [zX]
    refine zT 11 rfl ?_
    try simp only [zX]
    refine wpAnyH_take (i := 12) (v := undef) rfl (by kernel_rfl) (by kernel_rfl) (by kernel_rfl) (fun _ _ _ h => h) (Or.inr ⟨?w1_12, rfl⟩) (by assumption) ?r1_12
    case' w1_12 => first | rfl | (simp [Region.wanted, yielded, *]; done)
    try simp only [zX]
    refine wpAnyH_take (i := 13) (v := undef) rfl (by kernel_rfl) (by kernel_rfl) (by kernel_rfl) (fun _ _ _ h => h) (Or.inr ⟨?w1_13, rfl⟩) (by assumption) ?r1_13
    case' w1_13 => first | rfl | (simp [Region.wanted, yielded, *]; done)
    try simp only [zX]
    refine wpAnyH_take (i := 14) (v := undef) rfl (by kernel_rfl) (by kernel_rfl) (by kernel_rfl) (fun _ _ _ h => h) (Or.inr ⟨?w1_14, rfl⟩) (by assumption) ?r1_14
    case' w1_14 => first | rfl | (simp [Region.wanted, yielded, *]; done)
    try simp only [zX]
    refine zT 15 rfl ?_
    try simp only [zX]
    refine zT 16 rfl ?_
    try simp only [zX]
    refine wpAnyH_take (i := 17) (v := undef) rfl (by kernel_rfl) (by kernel_rfl) (by kernel_rfl) (fun _ _ _ h => h) (Or.inr ⟨?w1_17, rfl⟩) (by assumption) ?r1_17
    case' w1_17 => first | rfl | (simp [Region.wanted, yielded, *]; done)
    try simp only [zX]
    refine wpAnyH_take (i := 18) (v := undef) rfl (by kernel_rfl) (by kernel_rfl) (by kernel_rfl) (fun _ _ _ h => h) (Or.inr ⟨?w1_18, rfl⟩) (by assumption) ?r1_18
    case' w1_18 => first | rfl | (simp [Region.wanted, yielded, *]; done)
    try simp only [zX]
    refine wpAnyH_take (i := 19) (v := undef) rfl (by kernel_rfl) (by kernel_rfl) (by kernel_rfl) (fun _ _ _ h => h) (Or.inr ⟨?w1_19, rfl⟩) (by assumption) ?r1_19
    case' w1_19 => first | rfl | (simp [Region.wanted, yielded, *]; done)
    try simp only [zX]
    refine wpAnyH_take (i := 20) (v := undef) rfl (by kernel_rfl) (by kernel_rfl) (by kernel_rfl) (fun _ _ _ h => h) (Or.inr ⟨?w1_20, rfl⟩) (by assumption) ?r1_20
    case' w1_20 => first | rfl | (simp [Region.wanted, yielded, *]; done)
    try simp only [zX]
    refine wpAnyH_take (i := 21) (v := undef) rfl (by kernel_rfl) (by kernel_rfl) (by kernel_rfl) (fun _ _ _ h => h) (Or.inr ⟨?w1_21, rfl⟩) (by assumption) ?r1_21
    case' w1_21 => first | rfl | (simp [Region.wanted, yielded, *]; done)
    try simp only [zX]
    refine wpAnyH_take (i := 22) (v := undef) rfl (by kernel_rfl) (by kernel_rfl) (by kernel_rfl) (fun _ _ _ h => h) (Or.inr ⟨?w1_22, rfl⟩) (by assumption) ?r1_22
    case' w1_22 => first | rfl | (simp [Region.wanted, yielded, *]; done)
    try simp only [zX]
    refine wpAnyH_take (i := 23) (v := undef) rfl (by kernel_rfl) (by kernel_rfl) (by kernel_rfl) (fun _ _ _ h => h) (Or.inr ⟨?w1_23, rfl⟩) (by assumption) ?r1_23
    case' w1_23 => first | rfl | (simp [Region.wanted, yielded, *]; done)
    try simp only [zX]
    refine wpAnyH_take (i := 24) (v := undef) rfl (by kernel_rfl) (by kernel_rfl) (by kernel_rfl) (fun _ _ _ h => h) (Or.inr ⟨?w1_24, rfl⟩) (by assumption) ?r1_24
    case' w1_24 => first | rfl | (simp [Region.wanted, yielded, *]; done)
    try simp only [zX]
    refine wpAnyH_take (i := 25) (v := undef) rfl (by kernel_rfl) (by kernel_rfl) (by kernel_rfl) (fun _ _ _ h => h) (Or.inr ⟨?w1_25, rfl⟩) (by assumption) ?r1_25
    case' w1_25 => first | rfl | (simp [Region.wanted, yielded, *]; done)
    try simp only [zX]
    refine wpAnyH_take (i := 26) (v := undef) rfl (by kernel_rfl) (by kernel_rfl) (by kernel_rfl) (fun _ _ _ h => h) (Or.inr ⟨?w1_26, rfl⟩) (by assumption) ?r1_26
    case' w1_26 => first | rfl | (simp [Region.wanted, yielded, *]; done)
    try simp only [zX]
    refine zT 27 rfl ?_
    try simp only [zX]
    refine zT 28 rfl ?_
    try simp only [zX]
    refine wpAnyH_done (by kernel_rfl) ?_ _
    go_wp2_with fail
    go_ret
    exact ⟨ret_bool HR.out.symm, Below.to HB0.out hHeld (Nat.le_refl _)⟩
  case pos =>
  have e0 : decide ((0 : Int) ≤ p) = true := decide_eq_true h0
  by_cases h1 : p < (l.ps.length : Int)
  case neg =>
    have hr : pinOk l p c = false := by unfold pinOk; rw [btw_f (.inr (by omega))]; rfl
    have HR := hide hr
    have e1 : decide (p < (l.ps.length : Int)) = false := decide_eq_false h1
    clear hr
    go_enter Try.func137, Try.ntmps137
    go_upto_region 1 with (fail)
    generalize hw0 : World.alloc _ _ = w0
    obtain ⟨hb0, hb1, hB0, hs0⟩ := alloc2 hw0
    have HB0 := hide hB0
    have c4 := cellOf hb0 4
    have d0 := cellOf hb1 0
    have d1 := cellOf hb1 1
    have l0 := box_lt hb0
    have l1 := box_lt hb1
    clear hw0 hb0 hb1 hB0 hs0
    refine wp_region_held_drew (S := (fun w' => Below w0.heap.size w0 w')) (by kernel_rfl) ?_ (fun hHeld => ?_)
    · try dsimp only
      exact (by repeat (first | exact Below.refl _ _ | assumption | refine Below.drew ?_ | refine Below.drewN ?_ _ | refine Below.allocT ?_ (Nat.le_refl _) _ | refine Below.setCell ?_ (by simp <;> omega) _ | refine Below.to ?_ (by assumption) (Nat.le_refl _)))
    refine zT 0 rfl ?_
    try simp only [zX]
    refine zT 1 rfl ?_
    try simp only [zX]
    refine zT 2 rfl ?_
    try simp only [zX]
    refine zT 3 rfl ?_
    try simp only [zX]
    refine zT 4 rfl ?_
    try simp only [zX]
    refine zT 5 rfl ?_
    try simp only [zX]
    refine zT 6 rfl ?_
    try simp only [zX]
    refine zT 7 rfl ?_
    try simp only [zX]
    refine zT 8 rfl ?_
    try simp only [zX]
    refine zT 9 rfl ?_
    try simp only [zX]
    refine zT 10 rfl ?_
    try simp only [zX]
    refine zT 11 rfl ?_
    try simp only [zX]
    refine wpAnyH_take (i := 12) (v := undef) rfl (by kernel_rfl) (by kernel_rfl) (by kernel_rfl) (fun _ _ _ h => h) (Or.inr ⟨?w2_12, rfl⟩) (by assumption) ?r2_12
    case' w2_12 => first | rfl | (simp [Region.wanted, yielded, *]; done)
    try simp only [zX]
    refine wpAnyH_take (i := 13) (v := undef) rfl (by kernel_rfl) (by kernel_rfl) (by kernel_rfl) (fun _ _ _ h => h) (Or.inr ⟨?w2_13, rfl⟩) (by assumption) ?r2_13
    case' w2_13 => first | rfl | (simp [Region.wanted, yielded, *]; done)
    try simp only [zX]
    refine wpAnyH_take (i := 14) (v := undef) rfl (by kernel_rfl) (by kernel_rfl) (by kernel_rfl) (fun _ _ _ h => h) (Or.inr ⟨?w2_14, rfl⟩) (by assumption) ?r2_14
    case' w2_14 => first | rfl | (simp [Region.wanted, yielded, *]; done)
    try simp only [zX]
    refine zT 15 rfl ?_
    try simp only [zX]
    refine zT 16 rfl ?_
    try simp only [zX]
    refine wpAnyH_take (i := 17) (v := undef) rfl (by kernel_rfl) (by kernel_rfl) (by kernel_rfl) (fun _ _ _ h => h) (Or.inr ⟨?w2_17, rfl⟩) (by assumption) ?r2_17
    case' w2_17 => first | rfl | (simp [Region.wanted, yielded, *]; done)
    try simp only [zX]
    refine wpAnyH_take (i := 18) (v := undef) rfl (by kernel_rfl) (by kernel_rfl) (by kernel_rfl) (fun _ _ _ h => h) (Or.inr ⟨?w2_18, rfl⟩) (by assumption) ?r2_18
    case' w2_18 => first | rfl | (simp [Region.wanted, yielded, *]; done)
    try simp only [zX]
    refine wpAnyH_take (i := 19) (v := undef) rfl (by kernel_rfl) (by kernel_rfl) (by kernel_rfl) (fun _ _ _ h => h) (Or.inr ⟨?w2_19, rfl⟩) (by assumption) ?r2_19
    case' w2_19 => first | rfl | (simp [Region.wanted, yielded, *]; done)
    try simp only [zX]
    refine wpAnyH_take (i := 20) (v := undef) rfl (by kernel_rfl) (by kernel_rfl) (by kernel_rfl) (fun _ _ _ h => h) (Or.inr ⟨?w2_20, rfl⟩) (by assumption) ?r2_20
    case' w2_20 => first | rfl | (simp [Region.wanted, yielded, *]; done)
    try simp only [zX]
    refine wpAnyH_take (i := 21) (v := undef) rfl (by kernel_rfl) (by kernel_rfl) (by kernel_rfl) (fun _ _ _ h => h) (Or.inr ⟨?w2_21, rfl⟩) (by assumption) ?r2_21
    case' w2_21 => first | rfl | (simp [Region.wanted, yielded, *]; done)
    try simp only [zX]
    refine wpAnyH_take (i := 22) (v := undef) rfl (by kernel_rfl) (by kernel_rfl) (by kernel_rfl) (fun _ _ _ h => h) (Or.inr ⟨?w2_22, rfl⟩) (by assumption) ?r2_22
    case' w2_22 => first | rfl | (simp [Region.wanted, yielded, *]; done)
    try simp only [zX]
    refine wpAnyH_take (i := 23) (v := undef) rfl (by kernel_rfl) (by kernel_rfl) (by kernel_rfl) (fun _ _ _ h => h) (Or.inr ⟨?w2_23, rfl⟩) (by assumption) ?r2_23
    case' w2_23 => first | rfl | (simp [Region.wanted, yielded, *]; done)
    try simp only [zX]
    refine wpAnyH_take (i := 24) (v := undef) rfl (by kernel_rfl) (by kernel_rfl) (by kernel_rfl) (fun _ _ _ h => h) (Or.inr ⟨?w2_24, rfl⟩) (by assumption) ?r2_24
    case' w2_24 => first | rfl | (simp [Region.wanted, yielded, *]; done)
    try simp only [zX]
    refine wpAnyH_take (i := 25) (v := undef) rfl (by kernel_rfl) (by kernel_rfl) (by kernel_rfl) (fun _ _ _ h => h) (Or.inr ⟨?w2_25, rfl⟩) (by assumption) ?r2_25
    case' w2_25 => first | rfl | (simp [Region.wanted, yielded, *]; done)
    try simp only [zX]
    refine wpAnyH_take (i := 26) (v := undef) rfl (by kernel_rfl) (by kernel_rfl) (by kernel_rfl) (fun _ _ _ h => h) (Or.inr ⟨?w2_26, rfl⟩) (by assumption) ?r2_26
    case' w2_26 => first | rfl | (simp [Region.wanted, yielded, *]; done)
    try simp only [zX]
    refine zT 27 rfl ?_
    try simp only [zX]
    refine zT 28 rfl ?_
    try simp only [zX]
    refine wpAnyH_done (by kernel_rfl) ?_ _
    go_wp2_with fail
    go_ret
    exact ⟨ret_bool HR.out.symm, Below.to HB0.out hHeld (Nat.le_refl _)⟩
  case pos =>
  have e1 : decide (p < (l.ps.length : Int)) = true := decide_eq_true h1
  by_cases h2 : 0 ≤ c
  case neg =>
    have hr : pinOk l p c = false := by unfold pinOk; rw [btw_f (n := c) (.inl (by omega))]; simp
    have HR := hide hr
    have e2 : decide ((0 : Int) ≤ c) = false := decide_eq_false h2
    clear hr
    go_enter Try.func137, Try.ntmps137
    go_upto_region 1 with (fail)
    generalize hw0 : World.alloc _ _ = w0
    obtain ⟨hb0, hb1, hB0, hs0⟩ := alloc2 hw0
    have HB0 := hide hB0
    have c4 := cellOf hb0 4
    have d0 := cellOf hb1 0
    have d1 := cellOf hb1 1
    have l0 := box_lt hb0
    have l1 := box_lt hb1
    clear hw0 hb0 hb1 hB0 hs0
    refine wp_region_held_drew (S := (fun w' => Below w0.heap.size w0 w')) (by kernel_rfl) ?_ (fun hHeld => ?_)
    · try dsimp only
      exact (by repeat (first | exact Below.refl _ _ | assumption | refine Below.drew ?_ | refine Below.drewN ?_ _ | refine Below.allocT ?_ (Nat.le_refl _) _ | refine Below.setCell ?_ (by simp <;> omega) _ | refine Below.to ?_ (by assumption) (Nat.le_refl _)))
    refine zT 0 rfl ?_
    try simp only [zX]
    refine zT 1 rfl ?_
    try simp only [zX]
    refine zT 2 rfl ?_
    try simp only [zX]
    refine zT 3 rfl ?_
    try simp only [zX]
    refine zT 4 rfl ?_
    try simp only [zX]
    refine zT 5 rfl ?_
    try simp only [zX]
    refine zT 6 rfl ?_
    try simp only [zX]
    refine zT 7 rfl ?_
    try simp only [zX]
    refine zT 8 rfl ?_
    try simp only [zX]
    refine zT 9 rfl ?_
    try simp only [zX]
    refine zT 10 rfl ?_
    try simp only [zX]
    refine zT 11 rfl ?_
    try simp only [zX]
    refine zT 12 rfl ?_
    try simp only [zX]
    refine zT 13 rfl ?_
    try simp only [zX]
    refine zT 14 rfl ?_
    try simp only [zX]
    refine zT 15 rfl ?_
    try simp only [zX]
    refine zT 16 rfl ?_
    try simp only [zX]
    refine wpAnyH_take (i := 17) (v := undef) rfl (by kernel_rfl) (by kernel_rfl) (by kernel_rfl) (fun _ _ _ h => h) (Or.inr ⟨?w3_17, rfl⟩) (by assumption) ?r3_17
    case' w3_17 => first | rfl | (simp [Region.wanted, yielded, *]; done)
    try simp only [zX]
    refine wpAnyH_take (i := 18) (v := undef) rfl (by kernel_rfl) (by kernel_rfl) (by kernel_rfl) (fun _ _ _ h => h) (Or.inr ⟨?w3_18, rfl⟩) (by assumption) ?r3_18
    case' w3_18 => first | rfl | (simp [Region.wanted, yielded, *]; done)
    try simp only [zX]
    refine wpAnyH_take (i := 19) (v := undef) rfl (by kernel_rfl) (by kernel_rfl) (by kernel_rfl) (fun _ _ _ h => h) (Or.inr ⟨?w3_19, rfl⟩) (by assumption) ?r3_19
    case' w3_19 => first | rfl | (simp [Region.wanted, yielded, *]; done)
    try simp only [zX]
    refine wpAnyH_take (i := 20) (v := undef) rfl (by kernel_rfl) (by kernel_rfl) (by kernel_rfl) (fun _ _ _ h => h) (Or.inr ⟨?w3_20, rfl⟩) (by assumption) ?r3_20
    case' w3_20 => first | rfl | (simp [Region.wanted, yielded, *]; done)
    try simp only [zX]
    refine wpAnyH_take (i := 21) (v := undef) rfl (by kernel_rfl) (by kernel_rfl) (by kernel_rfl) (fun _ _ _ h => h) (Or.inr ⟨?w3_21, rfl⟩) (by assumption) ?r3_21
    case' w3_21 => first | rfl | (simp [Region.wanted, yielded, *]; done)
    try simp only [zX]
    refine wpAnyH_take (i := 22) (v := undef) rfl (by kernel_rfl) (by kernel_rfl) (by kernel_rfl) (fun _ _ _ h => h) (Or.inr ⟨?w3_22, rfl⟩) (by assumption) ?r3_22
    case' w3_22 => first | rfl | (simp [Region.wanted, yielded, *]; done)
    try simp only [zX]
    refine wpAnyH_take (i := 23) (v := undef) rfl (by kernel_rfl) (by kernel_rfl) (by kernel_rfl) (fun _ _ _ h => h) (Or.inr ⟨?w3_23, rfl⟩) (by assumption) ?r3_23
    case' w3_23 => first | rfl | (simp [Region.wanted, yielded, *]; done)
    try simp only [zX]
    refine wpAnyH_take (i := 24) (v := undef) rfl (by kernel_rfl) (by kernel_rfl) (by kernel_rfl) (fun _ _ _ h => h) (Or.inr ⟨?w3_24, rfl⟩) (by assumption) ?r3_24
    case' w3_24 => first | rfl | (simp [Region.wanted, yielded, *]; done)
    try simp only [zX]
    refine wpAnyH_take (i := 25) (v := undef) rfl (by kernel_rfl) (by kernel_rfl) (by kernel_rfl) (fun _ _ _ h => h) (Or.inr ⟨?w3_25, rfl⟩) (by assumption) ?r3_25
    case' w3_25 => first | rfl | (simp [Region.wanted, yielded, *]; done)
    try simp only [zX]
    refine wpAnyH_take (i := 26) (v := undef) rfl (by kernel_rfl) (by kernel_rfl) (by kernel_rfl) (fun _ _ _ h => h) (Or.inr ⟨?w3_26, rfl⟩) (by assumption) ?r3_26
    case' w3_26 => first | rfl | (simp [Region.wanted, yielded, *]; done)
    try simp only [zX]
    refine zT 27 rfl ?_
    try simp only [zX]
    refine zT 28 rfl ?_
    try simp only [zX]
    refine wpAnyH_done (by kernel_rfl) ?_ _
    go_wp2_with fail
    go_ret
    exact ⟨ret_bool HR.out.symm, Below.to HB0.out hHeld (Nat.le_refl _)⟩
  case pos =>
  have e2 : decide ((0 : Int) ≤ c) = true := decide_eq_true h2
  obtain ⟨k, rfl⟩ := Int.eq_ofNat_of_zero_le h0
  have hk : k < l.ps.length := by omega
  obtain ⟨b, off, x, HX, rfl, hbb, hq, f0, f1, f2⟩ := H.out.pl hk
  have iq : (l.ps.length : Int) ≤ (q4 : Int) := by omega
  have hr : pinOk l k c = decide (c < x.cav) := by unfold pinOk; rw [btw_t h0 (by omega), Int.toNat_natCast, HX.out, btw_dec2 h2]; rfl
  have HR := hide hr
  clear hr
  go_enter Try.func137, Try.ntmps137
  go_upto_region 1 with (fail)
  generalize hw0 : World.alloc _ _ = w0
  obtain ⟨hb0, hb1, hB0, hs0⟩ := alloc2 hw0
  have HB0 := hide hB0
  have c4 := cellOf hb0 4
  have d0 := cellOf hb1 0
  have d1 := cellOf hb1 1
  have l0 := box_lt hb0
  have l1 := box_lt hb1
  have l2 : b < w0.heap.size := by omega
  have g2 := (hB0.cell (p := ⟨b, off + k * 3 + 2, none⟩) hbb).trans f2
  clear f0 f1 f2
  clear hw0 hb0 hb1 hB0 hs0
  refine wp_region_held_drew (S := (fun w' => Below w0.heap.size w0 w')) (by kernel_rfl) ?_ (fun hHeld => ?_)
  · try dsimp only
    exact (by repeat (first | exact Below.refl _ _ | assumption | refine Below.drew ?_ | refine Below.drewN ?_ _ | refine Below.allocT ?_ (Nat.le_refl _) _ | refine Below.setCell ?_ (by simp <;> omega) _ | refine Below.to ?_ (by assumption) (Nat.le_refl _)))
  refine zT 0 rfl ?_
  try simp only [zX]
  refine zT 1 rfl ?_
  try simp only [zX]
  refine zT 2 rfl ?_
  try simp only [zX]
  refine zT 3 rfl ?_
  try simp only [zX]
  refine zT 4 rfl ?_
  try simp only [zX]
  refine zT 5 rfl ?_
  try simp only [zX]
  refine zT 6 rfl ?_
  try simp only [zX]
  refine zT 7 rfl ?_
  try simp only [zX]
  refine zT 8 rfl ?_
  try simp only [zX]
  refine zT 9 rfl ?_
  try simp only [zX]
  refine zT 10 rfl ?_
  try simp only [zX]
  refine zT 11 rfl ?_
  try simp only [zX]
  refine zT 12 rfl ?_
  try simp only [zX]
  refine zT 13 rfl ?_
  try simp only [zX]
  refine zT 14 rfl ?_
  try simp only [zX]
  refine zT 15 rfl ?_
  try simp only [zX]
  refine zT 16 rfl ?_
  try simp only [zX]
  refine zT 17 rfl ?_
  try simp only [zX]
  refine zT 18 rfl ?_
  try simp only [zX]
  refine zT 19 rfl ?_
  try simp only [zX]
  refine zT 20 rfl ?_
  try simp only [zX]
  refine zT 21 rfl ?_
  try simp only [zX]
  refine zT 22 rfl ?_
  try simp only [zX]
  refine zT 23 rfl ?_
  try simp only [zX]
  refine zT 24 rfl ?_
  try simp only [zX]
  refine zT 25 rfl ?_
  try simp only [zX]
  refine zT 26 rfl ?_
  try simp only [zX]
  refine zT 27 rfl ?_
  try simp only [zX]
  refine zT 28 rfl ?_
  try simp only [zX]
  refine wpAnyH_done (by kernel_rfl) ?_ _
  go_wp2_with fail
  go_ret
  exact ⟨ret_bool HR.out.symm, Below.to HB0.out hHeld (Nat.le_refl _)⟩
end Go.Proofs.Ytmabfnddedffoaa

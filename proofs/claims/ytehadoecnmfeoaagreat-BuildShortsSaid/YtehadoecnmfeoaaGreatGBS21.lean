/- Part 21 of this claim's texts: walks and plain laws. -/
import Derived.Test.YtehadoecnmfeoaaGreatRows
import Derived.Test.YtehadoecnmfeoaaGreatGBS18
import Derived.Test.YtehadoecnmfeoaaGreatGBS3
import Derived.Deep.RegionHeld3
import Derived.Deep.DrawnRows
set_option linter.unusedVariables false
set_option linter.unusedSimpArgs false
set_option linter.unusedSectionVars false
namespace Go.Proofs.YtehadoecnmfeoaaGreat
open Go.RowKit
set_option maxRecDepth 100000 in
set_option maxHeartbeats 1000000 in
theorem first_spot (e : Nat → Int) (c0 : Value) (A0 A1 A2 A3 A4 A5 : Option Addr) (q0 q1 q2 q3 q4 q5 : Nat) (l : Lo) (w : World) (hm : l.ss.length ≤ maxLen) (h : LoA w w.heap.size A0 A1 A2 A3 A4 A5 q0 q1 q2 q3 q4 q5 l)
  (hf : ∀ (i : Nat) (x : Sp)  (W : World), i < l.ss.length → l.ss.getD i Sp.o = x → Below w.heap.size w W → Calls Tryz.prog 133 #[.int .i64 i, .agg #[.int .i64 x.x, .int .i64 x.y, .int .i64 x.z], c0] W fun e' w' => e' = .returned (.int .i64 (e i)) ∧ Below W.heap.size W w') :
  Calls Tryz.prog 132 #[.slice A2 l.ss.length q2, .func (.func 133) #[] #[c0]] w fun e' w' => e' = .returned (.int .i64 (firstE e l.ss.length)) ∧ Below w.heap.size w w' := by
 unfold maxLen at hm
 have H := hide h; clear h
 have HF := hide hf; clear hf
 go_enter Tryz.func132, Tryz.ntmps132
 go_wp2
 go_loopw [5, 6, 7, 10] (fun _ _ _ i wr => ∃ k : Nat, k ≤ l.ss.length ∧ i = .int .i64 k ∧ Hid (∀ j, j < k → e j = 0) ∧ Below w.heap.size w wr) (fun _ _ _ i _ => l.ss.length - (intOf i).toNat)
 case atStart => exact ⟨0, Nat.zero_le _, rfl, fun j hj => by omega, Below.refl _ _⟩
 case round =>
  obtain ⟨k, hk, rfl, hz, hB⟩ := hrel
  by_cases hlt : k < l.ss.length
  ·
   obtain ⟨b, off, x, HX, rfl, hbb, hq, e0, e1, e2⟩ := (H.out.below hB).sp hlt
   have hf := fun W (hW : Below w.heap.size w W) (hW2 : Below w.heap.size wr W) => HF.out k x  W hlt HX.out hW
   obtain ⟨z, hz2⟩ : ∃ z, e k = z := ⟨_, rfl⟩
   rw [hz2] at hf
   have HF2 := hide hf
   have HZ2 := hide hz2
   have HB := hide hB
   have hlt2 : (k : Int) < (l.ss.length : Int) := by omega
   have hq2 : (l.ss.length : Int) ≤ (q2 : Int) := by omega
   clear hz2 hf hB
   by_cases hz3 : z = 0
   ·
    subst hz3
    go_wp2_with (go_at_call 133; refine (HF2.out _ (Below.allocT HB.out (Nat.le_refl _) _) ((Below.refl _ _).alloc HB.out.size _)).mono ?_; rintro e1 w1 ⟨rfl, hB1⟩)
    go_roundw
    case rel => exact ⟨k + 1, by omega, by go_num, fun j hj => by
      rcases Nat.lt_or_ge j k with h | h
      ·
       exact hz.out j h
      ·
       rw [show j = k from by omega]; exact HZ2.out, Below.to (Below.allocT HB.out (Nat.le_refl _) _) hB1 (Nat.le_refl _)⟩
    case measure => simp [intOf]; omega
   ·
    have hz4 : (z != 0) = true := by simpa using hz3
    have HZ3 := hide hz3
    clear hz3
    go_wp2_with (go_at_call 133; refine (HF2.out _ (Below.allocT HB.out (Nat.le_refl _) _) ((Below.refl _ _).alloc HB.out.size _)).mono ?_; rintro e1 w1 ⟨rfl, hB1⟩)
    go_ret
    exact ⟨ret_int (by rw [firstE_at hz.out (by rw [HZ2.out]; exact HZ3.out) hlt]; exact HZ2.out.symm), Below.to (Below.allocT HB.out (Nat.le_refl _) _) hB1 (Nat.le_refl _)⟩
  ·
   have : k = l.ss.length := by omega
   subst this
   go_wp2
   go_ret
   exact ⟨ret_int (firstE_none hz.out).symm, hB⟩

set_option maxRecDepth 100000 in
set_option maxHeartbeats 1000000 in
theorem first_run (e : Nat → Int) (c0 c1 : Value) (A0 A1 A2 A3 A4 A5 : Option Addr) (q0 q1 q2 q3 q4 q5 : Nat) (l : Lo) (w : World) (hm : l.us.length ≤ maxLen) (h : LoA w w.heap.size A0 A1 A2 A3 A4 A5 q0 q1 q2 q3 q4 q5 l)
  (hf : ∀ (i : Nat) (x : Ru)  (W : World), i < l.us.length → l.us.getD i Ru.o = x → Below w.heap.size w W → Calls Tryz.prog 137 #[.int .i64 i, .agg #[.int .i64 x.a, .int .i64 x.b, .int .i64 x.len, .int .i64 x.room], c0, c1] W fun e' w' => e' = .returned (.int .i64 (e i)) ∧ Below W.heap.size W w') :
  Calls Tryz.prog 136 #[.slice A3 l.us.length q3, .func (.func 137) #[] #[c0, c1]] w fun e' w' => e' = .returned (.int .i64 (firstE e l.us.length)) ∧ Below w.heap.size w w' := by
 unfold maxLen at hm
 have H := hide h; clear h
 have HF := hide hf; clear hf
 go_enter Tryz.func136, Tryz.ntmps136
 go_wp2
 go_loopw [5, 6, 7, 10] (fun _ _ _ i wr => ∃ k : Nat, k ≤ l.us.length ∧ i = .int .i64 k ∧ Hid (∀ j, j < k → e j = 0) ∧ Below w.heap.size w wr) (fun _ _ _ i _ => l.us.length - (intOf i).toNat)
 case atStart => exact ⟨0, Nat.zero_le _, rfl, fun j hj => by omega, Below.refl _ _⟩
 case round =>
  obtain ⟨k, hk, rfl, hz, hB⟩ := hrel
  by_cases hlt : k < l.us.length
  ·
   obtain ⟨b, off, x, HX, rfl, hbb, hq, e0, e1, e2, e3⟩ := (H.out.below hB).ru hlt
   have hf := fun W (hW : Below w.heap.size w W) (hW2 : Below w.heap.size wr W) => HF.out k x  W hlt HX.out hW
   obtain ⟨z, hz2⟩ : ∃ z, e k = z := ⟨_, rfl⟩
   rw [hz2] at hf
   have HF2 := hide hf
   have HZ2 := hide hz2
   have HB := hide hB
   have hlt2 : (k : Int) < (l.us.length : Int) := by omega
   have hq2 : (l.us.length : Int) ≤ (q3 : Int) := by omega
   clear hz2 hf hB
   by_cases hz3 : z = 0
   ·
    subst hz3
    go_wp2_with (go_at_call 137; refine (HF2.out _ (Below.allocT HB.out (Nat.le_refl _) _) ((Below.refl _ _).alloc HB.out.size _)).mono ?_; rintro e1 w1 ⟨rfl, hB1⟩)
    go_roundw
    case rel => exact ⟨k + 1, by omega, by go_num, fun j hj => by
      rcases Nat.lt_or_ge j k with h | h
      ·
       exact hz.out j h
      ·
       rw [show j = k from by omega]; exact HZ2.out, Below.to (Below.allocT HB.out (Nat.le_refl _) _) hB1 (Nat.le_refl _)⟩
    case measure => simp [intOf]; omega
   ·
    have hz4 : (z != 0) = true := by simpa using hz3
    have HZ3 := hide hz3
    clear hz3
    go_wp2_with (go_at_call 137; refine (HF2.out _ (Below.allocT HB.out (Nat.le_refl _) _) ((Below.refl _ _).alloc HB.out.size _)).mono ?_; rintro e1 w1 ⟨rfl, hB1⟩)
    go_ret
    exact ⟨ret_int (by rw [firstE_at hz.out (by rw [HZ2.out]; exact HZ3.out) hlt]; exact HZ2.out.symm), Below.to (Below.allocT HB.out (Nat.le_refl _) _) hB1 (Nat.le_refl _)⟩
  ·
   have : k = l.us.length := by omega
   subst this
   go_wp2
   go_ret
   exact ⟨ret_int (firstE_none hz.out).symm, hB⟩

set_option maxRecDepth 100000 in
set_option maxHeartbeats 1000000 in
theorem first_plug (e : Nat → Int) (c0 c1 : Value) (A0 A1 A2 A3 A4 A5 : Option Addr) (q0 q1 q2 q3 q4 q5 : Nat) (l : Lo) (w : World) (hm : l.ps.length ≤ maxLen) (h : LoA w w.heap.size A0 A1 A2 A3 A4 A5 q0 q1 q2 q3 q4 q5 l)
  (hf : ∀ (i : Nat) (x : Pl)  (W : World), i < l.ps.length → l.ps.getD i Pl.o = x → Below w.heap.size w W → Calls Tryz.prog 141 #[.int .i64 i, .agg #[.string x.name, .int .i64 x.spot, .int .i64 x.cav], c0, c1] W fun e' w' => e' = .returned (.int .i64 (e i)) ∧ Below W.heap.size W w') :
  Calls Tryz.prog 140 #[.slice A4 l.ps.length q4, .func (.func 141) #[] #[c0, c1]] w fun e' w' => e' = .returned (.int .i64 (firstE e l.ps.length)) ∧ Below w.heap.size w w' := by
 unfold maxLen at hm
 have H := hide h; clear h
 have HF := hide hf; clear hf
 go_enter Tryz.func140, Tryz.ntmps140
 go_wp2
 go_loopw [5, 6, 7, 10] (fun _ _ _ i wr => ∃ k : Nat, k ≤ l.ps.length ∧ i = .int .i64 k ∧ Hid (∀ j, j < k → e j = 0) ∧ Below w.heap.size w wr) (fun _ _ _ i _ => l.ps.length - (intOf i).toNat)
 case atStart => exact ⟨0, Nat.zero_le _, rfl, fun j hj => by omega, Below.refl _ _⟩
 case round =>
  obtain ⟨k, hk, rfl, hz, hB⟩ := hrel
  by_cases hlt : k < l.ps.length
  ·
   obtain ⟨b, off, x, HX, rfl, hbb, hq, e0, e1, e2⟩ := (H.out.below hB).pl hlt
   have hf := fun W (hW : Below w.heap.size w W) (hW2 : Below w.heap.size wr W) => HF.out k x  W hlt HX.out hW
   obtain ⟨z, hz2⟩ : ∃ z, e k = z := ⟨_, rfl⟩
   rw [hz2] at hf
   have HF2 := hide hf
   have HZ2 := hide hz2
   have HB := hide hB
   have hlt2 : (k : Int) < (l.ps.length : Int) := by omega
   have hq2 : (l.ps.length : Int) ≤ (q4 : Int) := by omega
   clear hz2 hf hB
   by_cases hz3 : z = 0
   ·
    subst hz3
    go_wp2_with (go_at_call 141; refine (HF2.out _ (Below.allocT HB.out (Nat.le_refl _) _) ((Below.refl _ _).alloc HB.out.size _)).mono ?_; rintro e1 w1 ⟨rfl, hB1⟩)
    go_roundw
    case rel => exact ⟨k + 1, by omega, by go_num, fun j hj => by
      rcases Nat.lt_or_ge j k with h | h
      ·
       exact hz.out j h
      ·
       rw [show j = k from by omega]; exact HZ2.out, Below.to (Below.allocT HB.out (Nat.le_refl _) _) hB1 (Nat.le_refl _)⟩
    case measure => simp [intOf]; omega
   ·
    have hz4 : (z != 0) = true := by simpa using hz3
    have HZ3 := hide hz3
    clear hz3
    go_wp2_with (go_at_call 141; refine (HF2.out _ (Below.allocT HB.out (Nat.le_refl _) _) ((Below.refl _ _).alloc HB.out.size _)).mono ?_; rintro e1 w1 ⟨rfl, hB1⟩)
    go_ret
    exact ⟨ret_int (by rw [firstE_at hz.out (by rw [HZ2.out]; exact HZ3.out) hlt]; exact HZ2.out.symm), Below.to (Below.allocT HB.out (Nat.le_refl _) _) hB1 (Nat.le_refl _)⟩
  ·
   have : k = l.ps.length := by omega
   subst this
   go_wp2
   go_ret
   exact ⟨ret_int (firstE_none hz.out).symm, hB⟩

set_option maxRecDepth 100000 in
set_option maxHeartbeats 1000000 in
theorem first_wire (e : Nat → Int) (c0 c1 : Value) (A0 A1 A2 A3 A4 A5 : Option Addr) (q0 q1 q2 q3 q4 q5 : Nat) (l : Lo) (w : World) (hm : l.ws.length ≤ maxLen) (h : LoA w w.heap.size A0 A1 A2 A3 A4 A5 q0 q1 q2 q3 q4 q5 l)
  (hf : ∀ (i : Nat) (x : Wi) (Af : Option Addr) (qf : Nat) (W : World), i < l.ws.length → l.ws.getD i Wi.o = x → Below w.heap.size w W → Ints W W.heap.size (.slice Af x.form.length qf) x.form → Calls Tryz.prog 147 #[.int .i64 i, .agg #[.string x.name, .int .i64 x.fp, .int .i64 x.fc, .int .i64 x.tp, .int .i64 x.tc, .int .i64 x.size, .slice Af x.form.length qf], c0, c1] W fun e' w' => e' = .returned (.int .i64 (e i)) ∧ Below W.heap.size W w') :
  Calls Tryz.prog 146 #[.slice A5 l.ws.length q5, .func (.func 147) #[] #[c0, c1]] w fun e' w' => e' = .returned (.int .i64 (firstE e l.ws.length)) ∧ Below w.heap.size w w' := by
 unfold maxLen at hm
 have H := hide h; clear h
 have HF := hide hf; clear hf
 go_enter Tryz.func146, Tryz.ntmps146
 go_wp2
 go_loopw [5, 6, 7, 10] (fun _ _ _ i wr => ∃ k : Nat, k ≤ l.ws.length ∧ i = .int .i64 k ∧ Hid (∀ j, j < k → e j = 0) ∧ Below w.heap.size w wr) (fun _ _ _ i _ => l.ws.length - (intOf i).toNat)
 case atStart => exact ⟨0, Nat.zero_le _, rfl, fun j hj => by omega, Below.refl _ _⟩
 case round =>
  obtain ⟨k, hk, rfl, hz, hB⟩ := hrel
  by_cases hlt : k < l.ws.length
  ·
   obtain ⟨b, off, x, Af, qf, HX, rfl, hbb, hq, HFO, e0, e1, e2, e3, e4, e5, e6⟩ := (H.out.below hB).wi hlt
   have hf := fun W (hW : Below w.heap.size w W) (hW2 : Below w.heap.size wr W) => HF.out k x Af qf W hlt HX.out hW ((HFO.out.below hW2).more hW.size)
   obtain ⟨z, hz2⟩ : ∃ z, e k = z := ⟨_, rfl⟩
   rw [hz2] at hf
   have HF2 := hide hf
   have HZ2 := hide hz2
   have HB := hide hB
   have hlt2 : (k : Int) < (l.ws.length : Int) := by omega
   have hq2 : (l.ws.length : Int) ≤ (q5 : Int) := by omega
   clear hz2 hf hB
   by_cases hz3 : z = 0
   ·
    subst hz3
    go_wp2_with (go_at_call 147; refine (HF2.out _ (Below.allocT HB.out (Nat.le_refl _) _) ((Below.refl _ _).alloc HB.out.size _)).mono ?_; rintro e1 w1 ⟨rfl, hB1⟩)
    go_roundw
    case rel => exact ⟨k + 1, by omega, by go_num, fun j hj => by
      rcases Nat.lt_or_ge j k with h | h
      ·
       exact hz.out j h
      ·
       rw [show j = k from by omega]; exact HZ2.out, Below.to (Below.allocT HB.out (Nat.le_refl _) _) hB1 (Nat.le_refl _)⟩
    case measure => simp [intOf]; omega
   ·
    have hz4 : (z != 0) = true := by simpa using hz3
    have HZ3 := hide hz3
    clear hz3
    go_wp2_with (go_at_call 147; refine (HF2.out _ (Below.allocT HB.out (Nat.le_refl _) _) ((Below.refl _ _).alloc HB.out.size _)).mono ?_; rintro e1 w1 ⟨rfl, hB1⟩)
    go_ret
    exact ⟨ret_int (by rw [firstE_at hz.out (by rw [HZ2.out]; exact HZ3.out) hlt]; exact HZ2.out.symm), Below.to (Below.allocT HB.out (Nat.le_refl _) _) hB1 (Nat.le_refl _)⟩
  ·
   have : k = l.ws.length := by omega
   subst this
   go_wp2
   go_ret
   exact ⟨ret_int (firstE_none hz.out).symm, hB⟩

set_option maxRecDepth 100000 in
theorem place_any (n : Int) (w : World) (b : Bool) (hb : btw n (-100000) 100000 = b) : Calls Tryz.prog 131 #[.int .i64 n] w fun e w' => e = .returned (.bool b) ∧ w = w' := by
 subst hb
 go_enter Tryz.func131, Tryz.ntmps131
 go_wp2_with (go_at_call 106; refine (within_any _ _ _ _).mono ?_; rintro e w1 ⟨rfl, rfl⟩)
 go_ret
 exact ⟨rfl, rfl⟩
def FnBox (w : World) (b : Nat) (f : Nat) (caps : Array Value) (t : Nat) : Prop := w.heap[b]? = some (.cells #[.func (.func f) #[] caps] t (0, 0))
theorem FnBox.to {w w' : World} {b f t : Nat} {caps : Array Value} (h : FnBox w b f caps t) (hb : Below w.heap.size w w') : FnBox w' b f caps t := box_to h hb
theorem LoBox.to {w w' : World} {b : Nat} {A0 A1 A2 A3 A4 A5 : Option Addr} {q0 q1 q2 q3 q4 q5 : Nat} {l : Lo} (h : LoBox w b A0 A1 A2 A3 A4 A5 q0 q1 q2 q3 q4 q5 l) (hb : Below w.heap.size w w') : LoBox w' b A0 A1 A2 A3 A4 A5 q0 q1 q2 q3 q4 q5 l := box_to h hb
set_option maxRecDepth 100000 in
set_option maxHeartbeats 1000000 in
theorem ckSpot_any (i : Int) (s : Sp) (pb : Nat) (w : World) (h : FnBox w pb 131 #[] 114) :
  Calls Tryz.prog 133 #[.int .i64 i, .agg #[.int .i64 s.x, .int .i64 s.y, .int .i64 s.z], .pointer (some ⟨pb, 0, none⟩)] w fun e w' => e = .returned (.int .i64 (mustE s.ok 60)) ∧ Below w.heap.size w w' := by
 have c0 := cellOf h 0
 have hlb := box_lt h
 clear h
 cases hx : btw s.x (-100000) 100000 with
 | false =>
  have hr : s.ok = false := by unfold Sp.ok; rw [hx]; rfl
  rw [hr]
  have HX := hide hx
  clear hr hx
  go_enter Tryz.func133, Tryz.ntmps133
  go_wp2_with (first | (go_at_call 131; refine (place_any _ _ _ HX.out).mono ?_; rintro e w1 ⟨rfl, rfl⟩) | (go_at_call 134; refine (must_any _ _ _).mono ?_; rintro e w1 ⟨rfl, rfl⟩))
  go_ret
  exact ⟨rfl, zP⟩
 | true =>
  have HX := hide hx
  cases hy : btw s.y (-100000) 100000 with
  | false =>
   have hr : s.ok = false := by unfold Sp.ok; rw [hx, hy]; rfl
   rw [hr]
   have HY := hide hy
   clear hr hx hy
   go_enter Tryz.func133, Tryz.ntmps133
   go_wp2_with (first | (go_at_call 131; refine (place_any _ _ _ (by first | exact HX.out | exact HY.out)).mono ?_; rintro e w1 ⟨rfl, rfl⟩) | (go_at_call 134; refine (must_any _ _ _).mono ?_; rintro e w1 ⟨rfl, rfl⟩))
   go_ret
   exact ⟨rfl, zP⟩
  | true =>
   obtain ⟨bz, hz⟩ : ∃ bz, btw s.z (-100000) 100000 = bz := ⟨_, rfl⟩
   have hr : s.ok = bz := by unfold Sp.ok; rw [hx, hy, hz]; rfl
   rw [hr]
   have HY := hide hy
   have HZ := hide hz
   clear hr hx hy hz
   go_enter Tryz.func133, Tryz.ntmps133
   go_wp2_with (first | (go_at_call 131; refine (place_any _ _ _ (by first | exact HX.out | exact HY.out | exact HZ.out)).mono ?_; rintro e w1 ⟨rfl, rfl⟩) | (go_at_call 134; refine (must_any _ _ _).mono ?_; rintro e w1 ⟨rfl, rfl⟩))
   go_ret
   exact ⟨rfl, zP⟩
set_option maxRecDepth 100000 in
theorem spotN_any (n : Int) (A0 A1 A2 A3 A4 A5 : Option Addr) (q0 q1 q2 q3 q4 q5 : Nat) (l : Lo) (lb : Nat) (w : World) (hm : l.ss.length ≤ maxLen) (h : LoBox w lb A0 A1 A2 A3 A4 A5 q0 q1 q2 q3 q4 q5 l) (b : Bool) (hb : btw n 0 ((l.ss.length : Int) - 1) = b) :
  Calls Tryz.prog 135 #[.int .i64 n, .pointer (some ⟨lb, 0, none⟩)] w fun e w' => e = .returned (.bool b) ∧ w = w' := by
 subst hb
 have c2 := cellOf h 2
 have hlb := box_lt h
 unfold maxLen at hm
 clear h
 go_enter Tryz.func135, Tryz.ntmps135
 go_wp2_with (go_at_call 106; refine (within_any _ _ _ _).mono ?_; rintro e w1 ⟨rfl, rfl⟩)
 go_ret
 exact ⟨rfl, rfl⟩
theorem Sp.ok_bd {s : Sp} (h : s.ok = true) : (-100000 ≤ s.x ∧ s.x ≤ 100000) ∧ (-100000 ≤ s.y ∧ s.y ≤ 100000) ∧ (-100000 ≤ s.z ∧ s.z ≤ 100000) := by
 unfold Sp.ok at h
 simp only [Bool.and_eq_true, btw_iff] at h
 exact ⟨h.1.1, h.1.2, h.2⟩
theorem sq_bd {x c : Int} (h1 : -c ≤ x) (h2 : x ≤ c) (hc : 0 ≤ c) : 0 ≤ x * x ∧ x * x ≤ c * c := by
 constructor
 ·
  rcases Int.le_total 0 x with h | h
  ·
   exact Int.mul_nonneg h h
  ·
   exact Int.mul_nonneg_of_nonpos_of_nonpos h h
 ·
  rcases Int.le_total 0 x with h | h
  ·
   exact Int.mul_le_mul h2 h2 h hc
  ·
   have := Int.mul_le_mul (a := -x) (b := -x) (c := c) (d := c) (by omega) (by omega) (by omega) hc
   rwa [Int.neg_mul_neg] at this
theorem sqS_bd {a b : Sp} (ha : a.ok = true) (hb : b.ok = true) : 0 ≤ sqS a b ∧ sqS a b ≤ 120000000000 := by
 obtain ⟨⟨a1, a2⟩, ⟨a3, a4⟩, a5, a6⟩ := Sp.ok_bd ha
 obtain ⟨⟨b1, b2⟩, ⟨b3, b4⟩, b5, b6⟩ := Sp.ok_bd hb
 have h1 := sq_bd (x := a.x - b.x) (c := 200000) (by omega) (by omega) (by omega)
 have h2 := sq_bd (x := a.y - b.y) (c := 200000) (by omega) (by omega) (by omega)
 have h3 := sq_bd (x := a.z - b.z) (c := 200000) (by omega) (by omega) (by omega)
 unfold sqS
 omega
set_option maxRecDepth 100000 in
set_option maxHeartbeats 2000000 in
theorem square_any (a b : Sp) (w : World) (ha : a.ok = true) (hb : b.ok = true) :
  Calls Tryz.prog 138 #[.agg #[.int .i64 a.x, .int .i64 a.y, .int .i64 a.z], .agg #[.int .i64 b.x, .int .i64 b.y, .int .i64 b.z]] w fun e w' => e = .returned (.int .i64 (sqS a b)) ∧ Below w.heap.size w w' := by
 obtain ⟨⟨a1, a2⟩, ⟨a3, a4⟩, a5, a6⟩ := Sp.ok_bd ha
 obtain ⟨⟨b1, b2⟩, ⟨b3, b4⟩, b5, b6⟩ := Sp.ok_bd hb
 clear ha hb
 go_enter Tryz.func138, Tryz.ntmps138
 go_upto_region 1 with (fail)
 generalize hw0 : World.alloc _ _ = w0
 obtain ⟨hb0, hb1, hB0, hs0⟩ := alloc2 hw0
 have c0 := cellOf hb0 0
 have c1 := cellOf hb0 1
 have c2 := cellOf hb0 2
 have d0 := cellOf hb1 0
 have d1 := cellOf hb1 1
 have d2 := cellOf hb1 2
 have l0 : w.heap.size < w0.heap.size := by omega
 have l1 : w.heap.size + 1 < w0.heap.size := by omega
 have HB0 := hide hB0
 clear hw0 hb0 hb1 hs0 hB0
 refine wp_region_held_drew (S := (fun w' => Below w0.heap.size w0 w')) (by kernel_rfl) ?_ (fun hHeld => ?_)
 ·
  try dsimp only
  exact zP
 refine zT 0 rfl ?_
 refine zT 1 rfl ?_
 refine zT 2 rfl ?_
 refine zT 3 rfl ?_
 refine zT 4 rfl ?_
 refine zT 5 rfl ?_
 refine zT 6 rfl ?_
 refine zT 7 rfl ?_
 refine zT 8 rfl ?_
 refine zT 9 rfl ?_
 refine zT 10 rfl ?_
 refine zT 11 rfl ?_
 refine zT 12 rfl ?_
 refine zT 13 rfl ?_
 refine zT 14 rfl ?_
 refine zT 15 rfl ?_
 refine zT 16 rfl ?_
 refine zT 17 rfl ?_
 refine wpAnyH_done (by kernel_rfl) ?_ _
 obtain ⟨x, hx⟩ : ∃ x, a.x - b.x = x := ⟨_, rfl⟩
 obtain ⟨y, hy⟩ : ∃ y, a.y - b.y = y := ⟨_, rfl⟩
 obtain ⟨z, hz⟩ : ∃ z, a.z - b.z = z := ⟨_, rfl⟩
 have hsq : sqS a b = x * x + y * y + z * z := by unfold sqS; rw [hx, hy, hz]
 have h1 := sq_bd (x := x) (c := 200000) (by omega) (by omega) (by omega)
 have h2 := sq_bd (x := y) (c := 200000) (by omega) (by omega) (by omega)
 have h3 := sq_bd (x := z) (c := 200000) (by omega) (by omega) (by omega)
 rw [hx, hy, hz]
 have x1 : -200000 ≤ x ∧ x ≤ 200000 := by omega
 have y1 : -200000 ≤ y ∧ y ≤ 200000 := by omega
 have z1 : -200000 ≤ z ∧ z ≤ 200000 := by omega
 obtain ⟨x1, x2⟩ := x1
 obtain ⟨y1, y2⟩ := y1
 obtain ⟨z1, z2⟩ := z1
 have HSQ := hide hsq
 clear hx hy hz hsq c0 c1 c2 d0 d1 d2
 go_wp2_with fail
 go_ret
 exact ⟨ret_int HSQ.out.symm, Below.to HB0.out hHeld (Nat.le_refl _)⟩
end Go.Proofs.YtehadoecnmfeoaaGreat

/- Part 39 of this claim's texts: walks and plain laws. -/
import Derived.Test.YtehadoecnmfeoaaGreatRows
import Derived.Test.YtehadoecnmfeoaaGreatGBT38
import Derived.Test.YtehadoecnmfeoaaGreatGBT26
import Derived.Test.YtehadoecnmfeoaaGreatGBT11
import Derived.Test.YtehadoecnmfeoaaGreatGBT3
import Derived.Test.YtehadoecnmfeoaaGreatGBT37
import Derived.Deep.DeepMust
import Derived.Deep.RegionHeld3
import Derived.Deep.DrawnRows
import Derived.Laws.EntriesVeiled
import Derived.ChangeKeysEq
/- The look at the example; equal lists of numbers are told equal: walks. -/
namespace Go.Proofs.YtehadoecnmfeoaaGreat
open Go.RowKit
set_option linter.unusedVariables false
set_option linter.unusedSimpArgs false
theorem Nods.ints7 {w : World} {B : Nat} {v : Value} {l : List Nat} (h : Nods w B v l) : Ints w B v (l.map fun (n : Nat) => (n : Int)) := by
  obtain ⟨A, b, off, cap, h1, h2, h3, h4⟩ := h
  have hl : (l.map fun (n : Nat) => (n : Int)).length = l.length := by simp
  refine ⟨A, b, off, cap, ?_, by rw [hl]; exact h2, ?_, fun i j hi hj => ?_⟩
  · rw [hl]; exact h1
  · rw [hl]; exact h3
  · rw [hl] at hi
    have := h4 i j hi hj
    rw [this]
    simp [hi]
set_option maxRecDepth 100000 in
set_option maxHeartbeats 2000000 in
theorem sameInts12_any (f : List Int) (u v : Value) (w : World) (hl : f.length ≤ maxLen) (h : Ints w w.heap.size u f) (h2 : Ints w w.heap.size v f) :
    Calls Tryz.prog 21 #[u, v] w fun e w' => e = .returned (.bool true) ∧ Below w.heap.size w w' := by
  obtain ⟨A, q, rfl⟩ := Sl.form h
  obtain ⟨C, r, rfl⟩ := Sl.form h2
  unfold maxLen at hl
  have H := hide h
  have H2 := hide h2
  clear h h2
  go_enter Tryz.func21, Tryz.ntmps21
  go_wp2_with fail
  go_loopw [5] (fun i wr => ∃ k : Nat, k ≤ f.length ∧ i = .int .i64 k ∧ Hid (Below w.heap.size w wr)) (fun i _ => f.length - (intOf i).toNat)
  case atStart => exact ⟨0, Nat.zero_le _, rfl, Below.refl _ _⟩
  case round =>
    obtain ⟨k, hk, rfl, hB⟩ := hrel
    by_cases hlt : k < f.length
    · obtain ⟨_, hq, b, off, rfl, hb, g0⟩ := sl_at (Sl.below H.out hB.out) hlt
      obtain ⟨_, hq2, b2, off2, rfl, hb2, g1⟩ := sl_at (Sl.below H2.out hB.out) hlt
      have c0 := g0 0 (by omega)
      have d0 := g1 0 (by omega)
      rw [Nat.mul_one, Nat.add_zero] at c0 d0
      have l0 : b < wr.heap.size := Nat.lt_of_lt_of_le hb hB.out.size
      have l1 : b2 < wr.heap.size := Nat.lt_of_lt_of_le hb2 hB.out.size
      have ik0 : (0 : Int) ≤ (k : Int) := by omega
      have ik : (k : Int) < (f.length : Int) := by omega
      have iq : (f.length : Int) ≤ (q : Int) := by omega
      have iq2 : (f.length : Int) ≤ (r : Int) := by omega
      obtain ⟨x, hx⟩ : ∃ x, f.getD k 0 = x := ⟨_, rfl⟩
      rw [hx] at c0 d0
      have n1 : (x != x) = false := by simp
      clear hx g0 g1
      go_wp2_with fail
      refine wp_region_held_drew (S := (fun w' => Below wr.heap.size wr w')) (by kernel_rfl) ?_ (fun hHeld => ?_)
      · try dsimp only
        exact (by repeat (first | exact Below.refl _ _ | assumption | refine Below.drew ?_ | refine Below.drewN ?_ _ | refine Below.allocT ?_ (Nat.le_refl _) _ | refine Below.setCell ?_ (by simp <;> omega) _ | refine Below.to ?_ (by assumption) (Nat.le_refl _)))
      refine zT 0 rfl ?_
      refine zT 1 rfl ?_
      refine zT 2 rfl ?_
      refine zT 3 rfl ?_
      refine zT 4 rfl ?_
      refine zT 5 rfl ?_
      refine zT 6 rfl ?_
      refine zT 7 rfl ?_
      refine zT 8 rfl ?_
      refine wpAnyH_done (by kernel_rfl) ?_ _
      go_wp2_with fail
      go_roundw
      case rel => exact ⟨k + 1, by omega, by go_num, Below.to hB.out hHeld (Nat.le_refl _)⟩
      case measure => simp [intOf]; omega
    · go_wp2_with fail
      go_ret
      exact ⟨rfl, hB.out⟩
def exMd : List Md := [⟨[1], [1, 2]⟩]
theorem exB_aud : audA exB exMd = some (0, 1, [true, false]) := by kernel_rfl
theorem exB_err : bldE exB exMd = 0 := by kernel_rfl
theorem exB_rel : relR [6, 5, 4, 5] 10 = [0, 1, 0, 1] := by kernel_rfl
theorem exB_rele : relE [6, 5, 4, 5] 10 = 0 := by kernel_rfl
theorem exB_sized : SizedL exB := by
  have hm : ∀ n : Nat, n ≤ 100 → n ≤ maxLen := fun n hn => by unfold maxLen; omega
  refine ⟨⟨hm _ (by decide), fun x hx => hm _ ?_, hm _ (by decide), fun f hf => ?_⟩, hm _ (by decide), hm _ (by decide), hm _ (by decide), hm _ (by decide), fun x hx => hm _ ?_, fun x hx => ⟨hm _ ?_, hm _ ?_⟩⟩
  · have : x = ⟨#[116, 111, 119]⟩ ∨ x = ⟨#[104, 101, 97, 116]⟩ := by simpa [exB] using hx
    rcases this with rfl | rfl <;> decide
  · simp [exB] at hf
  · simp [exB] at hx
    rcases hx with rfl | rfl | rfl <;> decide
  · simp [exB] at hx
    rcases hx with rfl | rfl | rfl <;> decide
  · simp [exB] at hx
    rcases hx with rfl | rfl | rfl <;> decide
theorem exMd_sized : SizedD exMd := ⟨by unfold maxLen; decide, fun x hx => by
  simp [exMd] at hx
  subst hx
  unfold maxLen
  decide⟩
theorem mods_ex {w w0 : World} {o p q : Obj} (h : ((w.alloc o).alloc p).alloc q = w0) {t u s : Nat} (ho : o = .cells #[.int .i64 1] t (0, 0)) (hp : p = .cells #[.int .i64 1, .int .i64 2] u (0, 0)) (hq : q = .cells #[.slice (some ⟨w.heap.size, 0, none⟩) 1 1, .slice (some ⟨w.heap.size + 1, 0, none⟩) 2 2] s (0, 0)) :
    Mods w0 w0.heap.size (.slice (some ⟨w.heap.size + 2, 0, none⟩) 1 1) exMd ∧ Below w.heap.size w w0 := by
  obtain ⟨h0, h1, h2, hB, hs⟩ := alloc3 h
  subst ho hp hq
  refine ⟨⟨fun _ => .slice (some ⟨w.heap.size, 0, none⟩) 1 1, fun _ => .slice (some ⟨w.heap.size + 1, 0, none⟩) 2 2, sl_boxes7 h2 (by omega) (fun i hi j hj => ?_), fun i hi => ?_⟩, hB⟩
  · have hi1 : i < 1 := hi
    obtain rfl : i = 0 := by omega
    rcases (by omega : j = 0 ∨ j = 1) with rfl | rfl <;> rfl
  · have hi1 : i < 1 := hi
    obtain rfl : i = 0 := by omega
    exact ⟨ints_box (l := [1]) h0 (by omega), ints_box (l := [1, 2]) h1 (by omega)⟩
set_option maxRecDepth 100000 in
set_option maxHeartbeats 2000000 in
theorem works_build (w : World) :
    Calls Tryz.prog 15 #[] w fun e w' => e = .returned (.bool true) ∧ Below w.heap.size w w' := by
  go_enter Tryz.func15, Tryz.ntmps15
  go_upto_region 2 with (first
    | (go_at_call 52; refine (exb_any w).mono ?_; rintro e w1 ⟨A0, A1, A2, A3, A4, A5, q0, q1, q2, q3, q4, q5, rfl, hl1, hB1⟩; have HL1 := hide hl1; have HB1 := hide hB1; clear hl1 hB1)
    | (go_at_call 16; generalize hw0 : World.alloc _ _ = w0; obtain ⟨hms, hBm⟩ := mods_ex hw0 rfl rfl rfl; refine (Audit_any exMd _ _ A0 A1 A2 A3 A4 A5 q0 q1 q2 q3 q4 q5 exB w0 exB_sized exMd_sized (HL1.out.up hBm) hms (fun _ => by decide)).mono ?_; rw [exB_aud, exB_err]; rintro e w2 ⟨v2, he2, hop2, hB2⟩; have he3 : e = .returned (.tuple #[.agg #[.int .i64 0, .int .i64 1, v2], .bool true, .int .i64 0]) := he2; subst he3; obtain ⟨ad2, p2, e2⟩ := hop2.1; subst e2; have HV2 := hide hop2.2; have HB2 := hide (Below.to HB1.out (Below.to hBm hB2 (Nat.le_refl _)) (Nat.le_refl _)); clear hw0 hms hBm hB2 hop2 he2))
  generalize hw3 : World.alloc _ _ = w3
  obtain ⟨hb3, hB3, hs3⟩ := alloc1 hw3
  have HV3 := hide (Sl.up HV2.out hB3)
  have HB3 := hide (Below.to HB2.out hB3 (Nat.le_refl _))
  have HZ3 := hide hb3
  clear hw3 hb3 hB3 hs3
  go_upto_region 3 with (go_at_call 53; generalize hw4 : World.alloc _ _ = w4; obtain ⟨hb4, hB4, hs4⟩ := alloc1 hw4; refine (Reels_any [6, 5, 4, 5] 10 _ _ w4 (by unfold maxLen; decide) (ints_box (l := [6, 5, 4, 5]) hb4 (by omega))).mono ?_; rw [exB_rel, exB_rele]; rintro e w5 ⟨v5, rfl, hv5, hB5⟩; have HV5 := hide (Sl.up (Sl.up HV3.out hB4) hB5); have HZ5 := hide (box_to (box_to HZ3.out hB4) hB5); have HN5 := hide hv5; have HB5 := hide (Below.to HB3.out (Below.to hB4 hB5 (Nat.le_refl _)) (Nat.le_refl _)); clear hw4 hb4 hB4 hs4 hv5 hB5)
  have y0 := cellOf HZ5.out 0
  have y1 := cellOf HZ5.out 1
  have y2 := cellOf HZ5.out 2
  have l5 := box_lt HZ5.out
  go_wp2_with (first
    | (go_at_call 41; refine (SameVariant_any [true, false] [true, false] _ _ _ (Sl.up HV5.out (Below.allocT (Below.refl _ _) (Nat.le_refl _) _)) (bols_box (l := [true, false]) (heap_new _ _ _ rfl) (by simp)) (by decide) (by unfold maxLen; decide)).mono ?_; rintro e w6 ⟨rfl, hB6⟩; have HN6 := hide (Sl.up HN5.out (Below.to (Below.allocT (Below.refl _ _) (Nat.le_refl _) _) hB6 (Nat.le_refl _))); have HB6 := hide (Below.to (Below.allocT HB5.out (Nat.le_refl _) _) hB6 (Nat.le_refl _)); clear hB6)
    | (go_at_call 21; refine (sameInts12_any [0, 1, 0, 1] _ _ _ (by unfold maxLen; decide) (Nods.ints7 (Sl.up HN6.out (Below.allocT (Below.refl _ _) (Nat.le_refl _) _))) (ints_box (l := [0, 1, 0, 1]) (heap_new _ _ _ rfl) (by simp))).mono ?_; rintro e w7 ⟨rfl, hB7⟩))
  go_ret
  exact ⟨rfl, Below.to (Below.allocT HB6.out (Nat.le_refl _) _) hB7 (Nat.le_refl _)⟩
end Go.Proofs.YtehadoecnmfeoaaGreat
/- Passed tests and what nets say then: walk of BuildTested. -/
namespace Go.Proofs.YtehadoecnmfeoaaGreat
open Go.Joins Go.ChangeShapes Go.WideShapes Go.ChangeAt Go.RowKit Go.Deep
set_option linter.unusedVariables false
set_option linter.unusedSimpArgs false
/-- The wires that hold, as the law finds them. -/
def rgtB (l : Lo) (x : List Bool) (i : Nat) : Bool := decide (holE l.m (l.ws.getD i Wi.o).form x = 0) && holB l.m (l.ws.getD i Wi.o).form x
def rgtK (l : Lo) (x : List Bool) (k : Nat) : List Nat := (List.range k).filter (rgtB l x)
theorem rgtK_succ (l : Lo) (x : List Bool) (k : Nat) : rgtK l x (k + 1) = if rgtB l x k then rgtK l x k ++ [k] else rgtK l x k := by
  unfold rgtK
  rw [List.range_succ, List.filter_append, List.filter_cons]
  cases rgtB l x k <;> simp
theorem rgtK_le (l : Lo) (x : List Bool) (k : Nat) : (rgtK l x k).length ≤ k := by
  have h := List.length_filter_le (rgtB l x) (List.range k)
  rw [List.length_range] at h
  exact h
theorem rgt_bel {l : Lo} {x : List Bool} (h : copE l x = 0) : rgtK l x l.ws.length = belL l x := by
  obtain ⟨ok, hxl⟩ := copE_ok h
  unfold rgtK belL belK
  refine List.filter_congr fun i hi => ?_
  have hil := List.mem_range.1 hi
  have hfv := (ok.wi hil).2
  obtain ⟨h1, h2⟩ := hol_ok (m := l.m) (f := (l.ws.getD i Wi.o).form) (vs := x) (errF_all ok.m fun g hg => by rw [List.mem_singleton] at hg; rw [hg]; exact hfv) hxl
  unfold rgtB
  rw [h1, h2]
  rfl
theorem nat_int (L : List Nat) : (L.map fun (n : Nat) => (n : Int)).map Int.toNat = L := by
  rw [List.map_map]
  conv => rhs; rw [← List.map_id L]
  exact List.map_congr_left fun n _ => by simp
/-- Passed of one's own wires. -/
theorem pas_right {l : Lo} {x : List Bool} (h : pasE l x ((rgtK l x l.ws.length).map fun (n : Nat) => (n : Int)) = 0) : pasV l x ((rgtK l x l.ws.length).map fun (n : Nat) => (n : Int)) = true ∧ copE l x = 0 ∧
    ntsE l ((rgtK l x l.ws.length).map fun (n : Nat) => (n : Int)) = 0 ∧ ntsL l ((rgtK l x l.ws.length).map fun (n : Nat) => (n : Int)) = prbN l x := by
  have hc : copE l x = 0 := by
    unfold pasE at h
    by_cases h1 : copE l x = 0
    · exact h1
    · rw [if_neg h1] at h; exact absurd h h1
  have hk : chkE l ((rgtK l x l.ws.length).map fun (n : Nat) => (n : Int)) = 0 := by
    unfold pasE at h
    rw [if_pos hc] at h
    exact h
  have he : l.err = 0 := copE_zero hc
  have hn : ntsE l ((rgtK l x l.ws.length).map fun (n : Nat) => (n : Int)) = 0 := by unfold ntsE; rw [if_pos he]; exact hk
  refine ⟨?_, hc, hn, ?_⟩
  · unfold pasV
    rw [if_pos h, nat_int, rgt_bel hc]
    exact pas_own (netL_i _)
  · unfold ntsL
    rw [if_pos hn, nat_int, rgt_bel hc]
    rfl
theorem pas_other {l : Lo} {x : List Bool} {ts : List Int} (h : pasE l x ts = 0) (hv : pasV l x ts = true) : ntsE l ts = 0 ∧ pasB (prbN l x) (ntsL l ts) = true := by
  have hc : copE l x = 0 := by
    unfold pasE at h
    by_cases h1 : copE l x = 0
    · exact h1
    · rw [if_neg h1] at h; exact absurd h h1
  have hk : chkE l ts = 0 := by
    unfold pasE at h
    rw [if_pos hc] at h
    exact h
  have he : l.err = 0 := copE_zero hc
  have hn : ntsE l ts = 0 := by unfold ntsE; rw [if_pos he]; exact hk
  refine ⟨hn, ?_⟩
  unfold pasV at hv
  rw [if_pos h] at hv
  unfold ntsL
  rw [if_pos hn]
  exact hv
theorem nets_i {l : Lo} {ts : List Int} : NetI (ntsL l ts) := by
  unfold ntsL
  split
  · exact netL_i _
  · exact NetI.nil
end Go.Proofs.YtehadoecnmfeoaaGreat
/- Whether wires pass the tests (the elder): walks. -/
namespace Go.Proofs.YtehadoecnmfeoaaGreat
open Go.RowKit
set_option linter.unusedVariables false
set_option linter.unusedSimpArgs false
end Go.Proofs.YtehadoecnmfeoaaGreat
/- Whether pins and pairs of pins are equal: walks. -/
namespace Go.Proofs.YtehadoecnmfeoaaGreat
open Go.RowKit
set_option linter.unusedVariables false
set_option linter.unusedSimpArgs false
end Go.Proofs.YtehadoecnmfeoaaGreat
/- Nets, Probes and Passed on both sides, compared: walk of BuildNets. -/
namespace Go.Proofs.YtehadoecnmfeoaaGreat
open Go.Joins Go.ChangeShapes Go.WideShapes Go.ChangeAt Go.RowKit Go.Deep
set_option linter.unusedVariables false
set_option linter.unusedSimpArgs false
theorem ntsL_small (l : Lo) (ts : List Int) : (ntsL l ts).length ≤ 100 ∧ totN (ntsL l ts) ≤ 1000 := by
  unfold ntsL
  split
  · rename_i h
    have hc : chkE l ts = 0 := by
      unfold ntsE at h
      by_cases h2 : l.err = 0
      · rw [if_pos h2] at h; exact h
      · rw [if_neg h2] at h; exact absurd h h2
    have h1 := net_facts (es := esL l (ts.map Int.toNat)) (by unfold esL; rw [List.length_map]; exact (ts_nat hc).2)
    exact ⟨h1.1, h1.2.1⟩
  · simp [totN]
end Go.Proofs.YtehadoecnmfeoaaGreat

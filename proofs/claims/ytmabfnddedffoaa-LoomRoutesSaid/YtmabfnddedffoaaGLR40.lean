/- Part 40 of this claim's texts: walks and plain laws. -/
import Derived.Test.YtmabfnddedffoaaRows
import Derived.Test.YtmabfnddedffoaaGLR39
import Derived.Laws.EntriesVeiled
import Derived.Deep.RegionHeld3
import Derived.Deep.DrawnRows
import Derived.BigQuiet
import Derived.Test.YtmabfnddedffoaaGLR37
import Derived.Test.YtmabfnddedffoaaGLR32
import Derived.Test.YtmabfnddedffoaaGLR36
/- The program's way between two spots: walk. -/
namespace Go.Proofs.Ytmabfnddedffoaa
open Go.RowKit
set_option linter.unusedVariables false
set_option linter.unusedSimpArgs false
theorem WyAt.setS {w0 w : World} {n b : Nat} {A0 A1 A2 A3 A4 A5 : Option Addr} {q0 q1 q2 q3 q4 q5 : Nat} {l : Lo} {sv rv : Value} {S R : List Nat} (h : WyAt w0 w n A0 A1 A2 A3 A4 A5 q0 q1 q2 q3 q4 q5 l b sv rv S R) : WyAt w0 (w.setCell ⟨n + 2, 0, none⟩ sv) n A0 A1 A2 A3 A4 A5 q0 q1 q2 q3 q4 q5 l b sv rv S R := by
  have hk : ∀ k, k ≠ n + 2 → (w.setCell ⟨n + 2, 0, none⟩ sv).heap[k]? = w.heap[k]? := fun k h3 => Below.heap_setCell _ _ _ _ h3
  exact ⟨Below.setCell h.below (by show n ≤ n + 2; omega) _, (hk n (by omega)).trans h.box, (hk _ (by omega)).trans h.tb, setCellOf h.s _, (hk _ (by omega)).trans h.r, (hk _ (by omega)).trans h.v, ownsRow_same h.sr fun k h1 => hk k (by have := (h.sr.lt k h1).1; omega), ownsRow_same h.rr fun k h1 => hk k (by have := (h.rr.lt k h1).1; omega), h.ne, h.n0⟩
theorem WyAt.setR {w0 w : World} {n b : Nat} {A0 A1 A2 A3 A4 A5 : Option Addr} {q0 q1 q2 q3 q4 q5 : Nat} {l : Lo} {sv rv : Value} {S R : List Nat} (h : WyAt w0 w n A0 A1 A2 A3 A4 A5 q0 q1 q2 q3 q4 q5 l b sv rv S R) : WyAt w0 (w.setCell ⟨n + 3, 0, none⟩ rv) n A0 A1 A2 A3 A4 A5 q0 q1 q2 q3 q4 q5 l b sv rv S R := by
  have hk : ∀ k, k ≠ n + 3 → (w.setCell ⟨n + 3, 0, none⟩ rv).heap[k]? = w.heap[k]? := fun k h3 => Below.heap_setCell _ _ _ _ h3
  exact ⟨Below.setCell h.below (by show n ≤ n + 3; omega) _, (hk n (by omega)).trans h.box, (hk _ (by omega)).trans h.tb, (hk _ (by omega)).trans h.s, setCellOf h.r _, (hk _ (by omega)).trans h.v, ownsRow_same h.sr fun k h1 => hk k (by have := (h.sr.lt k h1).1; omega), ownsRow_same h.rr fun k h1 => hk k (by have := (h.rr.lt k h1).1; omega), h.ne, h.n0⟩
theorem results_cell_cell {P : Program} {fn : Func} {p u : Tmp} {ty ty2 : TypeId} (h : fn.results = #[.cell p ty, .cell u ty2]) (tmps : Array Value) (w : World) :
    (results fn tmps).run P w = ((asAddr (tmps.getD p undef)).run P w).andThen fun a w₁ => ((loadVar ty a).run P w₁).andThen fun v w₂ => ((asAddr (tmps.getD u undef)).run P w₂).andThen fun a2 w₃ => ((loadVar ty2 a2).run P w₃).andThen fun v2 w₄ => .ok (.tuple #[v, v2]) w₄ := by
  simp only [results, h]
  simp [Sem.run_bind, Result.andThen]
  try (congr; done)
theorem alloc5x {w w0 : World} {o p q r s : Obj} (h : ((((w.alloc o).alloc p).alloc q).alloc r).alloc s = w0) : w0.heap[w.heap.size]? = some o ∧ w0.heap[w.heap.size + 1]? = some p ∧ w0.heap[w.heap.size + 1 + 1]? = some q ∧ w0.heap[w.heap.size + 1 + 1 + 1]? = some r ∧ w0.heap[w.heap.size + 1 + 1 + 1 + 1]? = some s ∧ Below w.heap.size w w0 := by
  have hw : allocs w [o, p, q, r, s] = w0 := h
  subst hw
  exact ⟨allocs_get w _ 0 (by simp), allocs_get w _ 1 (by simp), allocs_get w _ 2 (by simp), allocs_get w _ 3 (by simp), allocs_get w _ 4 (by simp), allocs_below w _ (Nat.le_refl _) _⟩
set_option maxRecDepth 100000 in
set_option maxHeartbeats 4000000 in
theorem wayP_any (a b : Nat) (A0 A1 A2 A3 A4 A5 : Option Addr) (q0 q1 q2 q3 q4 q5 : Nat) (l : Lo) (w : World) (h : LoA w w.heap.size A0 A1 A2 A3 A4 A5 q0 q1 q2 q3 q4 q5 l) (ok : LoOk l) (ha : a < l.ss.length) (hb : b < l.ss.length) :
    Calls Try.prog 103 #[.agg #[.slice A0 l.m.opts.length q0, .slice A1 l.m.rules.length q1, .slice A2 l.ss.length q2, .slice A3 l.us.length q3, .slice A4 l.ps.length q4, .slice A5 l.ws.length q5], .int .i64 a, .int .i64 b] w fun e w' => ∃ (P : List Nat) (sv rv : Value), WayP l.rs (-1) a P b ∧ e = .returned (.tuple #[sv, rv]) ∧ Nods w' w'.heap.size sv (spotsW l.rs a P) ∧ Nods w' w'.heap.size rv P ∧ Below w.heap.size w w' := by
  have H := hide h
  have OK := hide ok
  have T := hide ok.tree
  have s40 := ok.s40
  clear h ok
  go_enter Try.func103, Try.ntmps103
  go_upto_region 2 with (fail)
  generalize hw4 : World.alloc _ _ = w4
  obtain ⟨b0, b1, b2, b3, b4, hB4⟩ := alloc5x hw4
  have z0 := cellOf b4 0
  have z1 := unfrozenOf b4 0
  have lz := box_lt b4
  have hm : sideN l.rs l.ss.length (-1) a ≤ 40 := by
    unfold sideN
    exact Nat.le_trans List.countP_le_length (by simpa using s40)
  clear hw4
  go_upto_region 3 with (fail)
  have HWY : Hid (WyAt w (w4.setCell ⟨w.heap.size + 1 + 1 + 1 + 1, 0, none⟩ (.func (.func 145) #[] #[.pointer (some ⟨w.heap.size + 1 + 1, 0, none⟩), .pointer (some ⟨w.heap.size + 1, 0, none⟩), .pointer (some ⟨w.heap.size, 0, none⟩), .pointer (some ⟨w.heap.size + 1 + 1 + 1, 0, none⟩), .pointer (some ⟨w.heap.size + 1 + 1 + 1 + 1, 0, none⟩)])) w.heap.size A0 A1 A2 A3 A4 A5 q0 q1 q2 q3 q4 q5 l b (.slice none 0 0) (.slice none 0 0) [] []) := by
    refine ⟨Below.setCell hB4 (by show w.heap.size ≤ w.heap.size + 1 + 1 + 1 + 1; omega) _, (Below.heap_setCell _ _ _ _ (by show w.heap.size ≠ w.heap.size + 1 + 1 + 1 + 1; omega)).trans b0, (Below.heap_setCell _ _ _ _ (by show w.heap.size + 1 ≠ w.heap.size + 1 + 1 + 1 + 1; omega)).trans b1, (Below.heap_setCell _ _ _ _ (by show w.heap.size + 2 ≠ w.heap.size + 1 + 1 + 1 + 1; omega)).trans b2, (Below.heap_setCell _ _ _ _ (by show w.heap.size + 3 ≠ w.heap.size + 1 + 1 + 1 + 1; omega)).trans b3, setCellOf b4 _, World.ownsRow_nil _ _ _ _, World.ownsRow_nil _ _ _ _, fun g hg => by simp [Value.ownBlock] at hg, rfl⟩
  generalize hw5 : World.setCell _ _ _ = w5 at HWY ⊢
  have v0 : w5.cell? ⟨w.heap.size + 1 + 1 + 1 + 1, 0, none⟩ = _ := cellOf HWY.out.v 0
  have lv : w.heap.size + 1 + 1 + 1 + 1 < w5.heap.size := box_lt HWY.out.v
  have hcall := wayV_any A0 A1 A2 A3 A4 A5 q0 q1 q2 q3 q4 q5 l OK.out w w.heap.size H.out b hb _ a (-1) (-1) [] [] _ _ w5 HWY.out (Nat.le_refl _) (.inl ⟨rfl, rfl⟩) ha (by simp; omega) (by simp; omega)
  have hrch : Rch l.rs (-1) a b := T.out.all' ha hb
  have HCALL := hide hcall
  have HRCH := hide hrch
  clear hw5 b0 b1 b2 b3 b4 hB4 z0 z1 lz hcall hrch
  go_upto_region 4 with (go_at_call 145; refine HCALL.out.mono ?_; rintro e w6 h6; obtain ⟨_, P, sv, rv, hP, rfl, hW6⟩ | h6 := h6; rotate_left; exact absurd HRCH.out h6.1; skip; rw [List.nil_append, List.nil_append] at hW6; obtain ⟨A6, c6, hf6⟩ := owns_form hW6.sr; subst hf6; obtain ⟨A7, c7, hf7⟩ := owns_form hW6.rr; subst hf7; have HP := hide hP; have s0 : w6.cell? ⟨w.heap.size + 1 + 1, 0, none⟩ = _ := cellOf hW6.s 0; have s1 : w6.frozen? ⟨w.heap.size + 1 + 1, 0, none⟩ = _ := unfrozenOf hW6.s 0; have ls : w.heap.size + 1 + 1 < w6.heap.size := box_lt hW6.s; have r0 : w6.cell? ⟨w.heap.size + 1 + 1 + 1, 0, none⟩ = _ := cellOf hW6.r 0; have r1 : w6.frozen? ⟨w.heap.size + 1 + 1 + 1, 0, none⟩ = _ := unfrozenOf hW6.r 0; have lr : w.heap.size + 1 + 1 + 1 < w6.heap.size := box_lt hW6.r; have HW6 := hide hW6; clear hP hW6 v0 lv)
  go_region
  have HW7 := hide (HW6.out.setS.setR)
  generalize hw7 : World.setCell _ _ _ = w7 at HW7 ⊢
  have HW8 := hide (HW7.out.up (Below.drew (Below.refl _ _)))
  have d0 : w7.drew.cell? ⟨w.heap.size + 1 + 1, 0, none⟩ = _ := cellOf HW8.out.s 0
  have d1 : w7.drew.cell? ⟨w.heap.size + 1 + 1 + 1, 0, none⟩ = _ := cellOf HW8.out.r 0
  clear hw7 s0 s1 ls r0 r1 lr
  go_wp2_with fail
  refine bodyPost_ret (v := .tuple #[.slice A6 (spotsW l.rs a P).length c6, .slice A7 P.length c7]) ?_ rfl ⟨P, _, _, HP.out, rfl, Nods.of_own HW8.out.sr, Nods.of_own HW8.out.rr, HW8.out.below⟩
  rw [results_cell_cell rfl]
  go_simp
end Go.Proofs.Ytmabfnddedffoaa
/- Fill, both: walks. -/
namespace Go.Proofs.Ytmabfnddedffoaa
open Go.RowKit
set_option linter.unusedVariables false
set_option linter.unusedSimpArgs false
/-- The sum of the sizes of some wires. -/
def filN (l : Lo) (T : List Nat) : Int := (szsL l T).sum
/-- A number and an error. -/
def FilP (n er : Int) (w : World) (e : Ending) (w' : World) : Prop := e = .returned (.tuple #[.int .i64 n, .int .i64 er]) ∧ Below w.heap.size w w'
end Go.Proofs.Ytmabfnddedffoaa
/- The program's distance: walk. -/
namespace Go.Proofs.Ytmabfnddedffoaa
open Go.RowKit
set_option linter.unusedVariables false
set_option linter.unusedSimpArgs false
theorem lenS_le {l : Lo} (ok : LoOk l) : ∀ {T : List Nat}, (∀ i ∈ T, i < l.us.length) → 0 ≤ (T.map (runLen l)).sum ∧ (T.map (runLen l)).sum ≤ 1000000 * T.length
  | [], _ => by simp
  | i :: T, h => by
    have h1 := lenS_le ok (T := T) fun j hj => h j (by simp [hj])
    have h2 := ok.len (h i (by simp))
    rw [List.map_cons, List.sum_cons, List.length_cons]
    omega
set_option maxRecDepth 100000 in
set_option maxHeartbeats 4000000 in
theorem distance_any (a b : Nat) (A0 A1 A2 A3 A4 A5 : Option Addr) (q0 q1 q2 q3 q4 q5 : Nat) (l : Lo) (w : World) (h : LoA w w.heap.size A0 A1 A2 A3 A4 A5 q0 q1 q2 q3 q4 q5 l) (ok : LoOk l) (ha : a < l.ss.length) (hb : b < l.ss.length) :
    Calls Try.prog 89 #[.agg #[.slice A0 l.m.opts.length q0, .slice A1 l.m.rules.length q1, .slice A2 l.ss.length q2, .slice A3 l.us.length q3, .slice A4 l.ps.length q4, .slice A5 l.ws.length q5], .int .i64 a, .int .i64 b] w fun e w' => e = .returned (.int .i64 (distN l.rs (runLen l) a b)) ∧ Below w.heap.size w w' := by
  have H := hide h
  have OK := hide ok
  have u40 := ok.u40
  clear h ok
  go_enter Try.func89, Try.ntmps89
  go_upto_region 1 with (fail)
  generalize hw0 : World.alloc _ _ = w0
  obtain ⟨hb0, hB0, hs0⟩ := alloc1 hw0
  have c0 := cellOf hb0 0; have c1 := cellOf hb0 1; have c2 := cellOf hb0 2; have c3 := cellOf hb0 3; have c4 := cellOf hb0 4; have c5 := cellOf hb0 5
  have hlb := box_lt hb0
  have HB0 := hide hB0
  have HL0 : Hid (LoBox w0 w.heap.size A0 A1 A2 A3 A4 A5 q0 q1 q2 q3 q4 q5 l) := hb0
  clear hw0 hb0 hB0 hs0
  go_wp2_with (go_at_call 103; refine (wayP_any a b A0 A1 A2 A3 A4 A5 q0 q1 q2 q3 q4 q5 l _ (H.out.up HB0.out) OK.out ha hb).mono ?_; rintro e w2 ⟨P, sv, rv, hP, rfl, hn1, hn2, hB2⟩; obtain ⟨At, qt, hv2⟩ := Sl.form hn2; subst hv2; have HP := hide hP; have HN2 := hide hn2; have HL2 := hide (HL0.out.to hB2); have HB2 := hide (Below.to HB0.out hB2 (Nat.le_refl _)); clear hP hn1 hn2 hB2 c0 c1 c2 c3 c4 c5 hlb)
  have hPm : ∀ i ∈ P, i < l.us.length := fun i hi => by have := HP.out.lt i hi; rwa [rs_len] at this
  have hPl : P.length ≤ 40 := Nat.le_trans (nodup_len (HP.out.mem OK.out.tree).1 hPm) u40
  have HPM := hide hPm
  clear hPm
  go_loopw [6, 10, 20] (fun o _ i wr => ∃ (k : Nat) (s : Int), i = .int .i64 k ∧ o = .int .i64 s ∧ k ≤ P.length ∧ Hid (((P.take k).map (runLen l)).sum = s) ∧ Hid (Below w2.heap.size w2 wr)) (fun _ _ i _ => P.length - (intOf i).toNat)
  case atStart => exact ⟨0, 0, rfl, rfl, Nat.zero_le _, rfl, Below.refl _ _⟩
  case round =>
    obtain ⟨k, s, rfl, rfl, hk, HSs, HBr⟩ := hrel
    by_cases hkl : k < P.length
    · obtain ⟨bt, ot, rfl, hbt, _, ct⟩ := (HN2.out.up HBr.out).at hkl
      have hqt := Nods.cap HN2.out
      obtain ⟨i, hi⟩ : ∃ i, P.getD k 0 = i := ⟨_, rfl⟩
      have hil := HPM.out i (by rw [← hi]; exact getD_mem3 hkl)
      have hsz := OK.out.len hil
      have hts := take_snoc hkl
      rw [hi] at hts ct
      have hsb := lenS_le OK.out (T := P.take k) fun j hj => HPM.out j (List.mem_of_mem_take hj)
      rw [HSs.out, List.length_take] at hsb
      have hnew : ((P.take (k + 1)).map (runLen l)).sum = s + runLen l i := by rw [hts, List.map_append, List.sum_append, HSs.out]; simp
      unfold runLen at hsz
      obtain ⟨bu, offu, r, HRU, rfl, hbu, hq3, _, _, e2, _⟩ := H.out.ru hil
      have hri : runLen l i = r.len := by unfold runLen; rw [HRU.out]
      rw [HRU.out] at hsz
      rw [hri] at hnew
      have HNEW := hide hnew
      have hBw := Below.to HB2.out HBr.out (Nat.le_refl _)
      have z2 := (hBw.cell (p := ⟨bu, offu + i * 4 + 2, none⟩) hbu).trans e2
      have lbu : bu < wr.heap.size := Nat.lt_of_lt_of_le hbu hBw.size
      have y3 := cellOf (box_to HL2.out HBr.out) 3
      have ly := box_lt (box_to HL2.out HBr.out)
      have ik : (k : Int) < (P.length : Int) := by omega
      have iqt : (P.length : Int) ≤ (qt : Int) := by omega
      have ii : (i : Int) < (l.us.length : Int) := by omega
      have iq : (l.us.length : Int) ≤ (q3 : Int) := by omega
      have hsl : 0 ≤ s ∧ s ≤ 40000000 := by omega
      clear hi hqt hts hsb hnew hBw e2 hri
      go_wp2_with fail
      go_roundw
      case rel => exact ⟨k + 1, s + r.len, by go_num, by go_num, by omega, HNEW.out, HBr.out⟩
      case measure => simp [intOf]; omega
    · have hke : k = P.length := by omega
      subst hke
      have hS := HSs.out
      rw [List.take_length, HP.out.dist OK.out.tree] at hS
      have HS2 := hide hS
      clear hS
      go_wp2_with fail
      go_ret
      refine ⟨?_, Below.to HB2.out HBr.out (Nat.le_refl _)⟩
      rw [HS2.out]
      rfl
end Go.Proofs.Ytmabfnddedffoaa
/- The elder distance: walk. -/
namespace Go.Proofs.Ytmabfnddedffoaa
open Go.RowKit
set_option linter.unusedVariables false
set_option linter.unusedSimpArgs false
set_option maxRecDepth 100000 in
set_option maxHeartbeats 4000000 in
theorem rdistance_any (a b : Nat) (A0 A1 A2 A3 A4 A5 : Option Addr) (q0 q1 q2 q3 q4 q5 : Nat) (l : Lo) (w : World) (h : LoA w w.heap.size A0 A1 A2 A3 A4 A5 q0 q1 q2 q3 q4 q5 l) (ok : LoOk l) (ha : a < l.ss.length) (hb : b < l.ss.length) :
    Calls Try.prog 91 #[.agg #[.slice A0 l.m.opts.length q0, .slice A1 l.m.rules.length q1, .slice A2 l.ss.length q2, .slice A3 l.us.length q3, .slice A4 l.ps.length q4, .slice A5 l.ws.length q5], .int .i64 a, .int .i64 b] w fun e w' => e = .returned (.int .i64 (distN l.rs (runLen l) a b)) ∧ Below w.heap.size w w' := by
  have H := hide h
  have OK := hide ok
  have u40 := ok.u40
  obtain ⟨P, hP⟩ := ok.way_some ha hb
  have HP := hide hP
  clear hP
  clear h ok
  go_enter Try.func91, Try.ntmps91
  go_upto_region 1 with (fail)
  generalize hw0 : World.alloc _ _ = w0
  obtain ⟨hb0, hB0, hs0⟩ := alloc1 hw0
  have c0 := cellOf hb0 0; have c1 := cellOf hb0 1; have c2 := cellOf hb0 2; have c3 := cellOf hb0 3; have c4 := cellOf hb0 4; have c5 := cellOf hb0 5
  have hlb := box_lt hb0
  have HB0 := hide hB0
  have HL0 : Hid (LoBox w0 w.heap.size A0 A1 A2 A3 A4 A5 q0 q1 q2 q3 q4 q5 l) := hb0
  clear hw0 hb0 hB0 hs0
  go_wp2_with (go_at_call 140; refine (way_any A0 A1 A2 A3 A4 A5 q0 q1 q2 q3 q4 q5 l OK.out a b P _ (H.out.up HB0.out) ha hb HP.out).mono ?_; rintro e w2 ⟨At, qt, rfl, hn2, hB2⟩; have HN2 := hide hn2; have HL2 := hide (HL0.out.to hB2); have HB2 := hide (Below.to HB0.out hB2 (Nat.le_refl _)); clear hn2 hB2 c0 c1 c2 c3 c4 c5 hlb)
  have hPm : ∀ i ∈ P, i < l.us.length := fun i hi => by have := HP.out.lt i hi; rwa [rs_len] at this
  have hPl : P.length ≤ 40 := Nat.le_trans (nodup_len (HP.out.mem OK.out.tree).1 hPm) u40
  have HPM := hide hPm
  clear hPm
  go_loopw [7, 9] (fun o i wr => ∃ (k : Nat) (s : Int), i = .int .i64 k ∧ o = .int .i64 s ∧ k ≤ P.length ∧ Hid (((P.take k).map (runLen l)).sum = s) ∧ Hid (Below w2.heap.size w2 wr)) (fun _ i _ => P.length - (intOf i).toNat)
  case atStart => exact ⟨0, 0, rfl, rfl, Nat.zero_le _, rfl, Below.refl _ _⟩
  case round =>
    obtain ⟨k, s, rfl, rfl, hk, HSs, HBr⟩ := hrel
    by_cases hkl : k < P.length
    · obtain ⟨bt, ot, hAt, hbt, _, ct⟩ := (HN2.out.up HBr.out).at hkl
      injection hAt with hAt
      subst hAt
      have hqt := Nods.cap HN2.out
      obtain ⟨i, hi⟩ : ∃ i, P.getD k 0 = i := ⟨_, rfl⟩
      have hil := HPM.out i (by rw [← hi]; exact getD_mem3 hkl)
      have hsz := OK.out.len hil
      have hts := take_snoc hkl
      rw [hi] at hts ct
      have hsb := lenS_le OK.out (T := P.take k) fun j hj => HPM.out j (List.mem_of_mem_take hj)
      rw [HSs.out, List.length_take] at hsb
      have hnew : ((P.take (k + 1)).map (runLen l)).sum = s + runLen l i := by rw [hts, List.map_append, List.sum_append, HSs.out]; simp
      unfold runLen at hsz
      obtain ⟨bu, offu, r, HRU, rfl, hbu, hq3, _, _, e2, _⟩ := H.out.ru hil
      have hri : runLen l i = r.len := by unfold runLen; rw [HRU.out]
      rw [HRU.out] at hsz
      rw [hri] at hnew
      have HNEW := hide hnew
      have hBw := Below.to HB2.out HBr.out (Nat.le_refl _)
      have z2 := (hBw.cell (p := ⟨bu, offu + i * 4 + 2, none⟩) hbu).trans e2
      have lbu : bu < wr.heap.size := Nat.lt_of_lt_of_le hbu hBw.size
      have y3 := cellOf (box_to HL2.out HBr.out) 3
      have ly := box_lt (box_to HL2.out HBr.out)
      have ik : (k : Int) < (P.length : Int) := by omega
      have iqt : (P.length : Int) ≤ (qt : Int) := by omega
      have ii : (i : Int) < (l.us.length : Int) := by omega
      have iq : (l.us.length : Int) ≤ (q3 : Int) := by omega
      have hsl : 0 ≤ s ∧ s ≤ 40000000 := by omega
      have hwr : IntKind.i64.wrap (s + r.len) = s + r.len := IntWalk.i64_in _ (by omega)
      clear hi hqt hts hsb hnew hBw e2 hri
      go_upto_region 6 with (fail)
      go_region
      go_wp2_with fail
      go_roundw
      case rel => exact ⟨k + 1, s + r.len, by go_num, by first | rfl | go_num, by omega, HNEW.out, Below.drew HBr.out⟩
      case measure => simp [intOf]; omega
    · have hke : k = P.length := by omega
      subst hke
      have hS := HSs.out
      rw [List.take_length, HP.out.dist OK.out.tree] at hS
      have HS2 := hide hS
      clear hS
      go_wp2_with fail
      go_ret
      refine ⟨?_, Below.to HB2.out HBr.out (Nat.le_refl _)⟩
      rw [HS2.out]
      rfl
end Go.Proofs.Ytmabfnddedffoaa
/- Distance: walks. -/
namespace Go.Proofs.Ytmabfnddedffoaa
open Go.RowKit
set_option linter.unusedVariables false
set_option linter.unusedSimpArgs false
def disB (l : Lo) (a b : Int) : Bool := btw a 0 ((l.ss.length : Int) - 1) && btw b 0 ((l.ss.length : Int) - 1)
def disE (l : Lo) (a b : Int) : Int := havE l (disB l a b)
open Classical in
noncomputable def disN (l : Lo) (a b : Int) : Int := if disE l a b = 0 then distN l.rs (runLen l) a.toNat b.toNat else 0
end Go.Proofs.Ytmabfnddedffoaa
/- Distance, both: walks. -/
namespace Go.Proofs.Ytmabfnddedffoaa
open Go.RowKit
set_option linter.unusedVariables false
set_option linter.unusedSimpArgs false
end Go.Proofs.Ytmabfnddedffoaa

/- Part 37 of this claim's texts: walks and plain laws. -/
import Derived.Test.YtehadoecnmfeoaaGreatRows
import Derived.Test.YtehadoecnmfeoaaGreatGBC36
import Derived.Laws.EntriesVeiled
import Derived.Deep.RegionHeld3
import Derived.Deep.DrawnRows
import Derived.BigQuiet
import Derived.Test.YtehadoecnmfeoaaGreatGBC35
import Derived.Test.YtehadoecnmfeoaaGreatGBC28
import Derived.Test.YtehadoecnmfeoaaGreatGBC32
import Derived.Test.YtehadoecnmfeoaaGreatGBC3
/- The program's way between two spots: walk. -/
namespace Go.Proofs.YtehadoecnmfeoaaGreat
open Go.RowKit
set_option linter.unusedVariables false
set_option linter.unusedSimpArgs false
theorem WyAt.setS {w0 w : World} {n b : Nat} {A0 A1 A2 A3 A4 A5 : Option Addr} {q0 q1 q2 q3 q4 q5 : Nat} {l : Lo} {sv rv : Value} {S R : List Nat} (h : WyAt w0 w n A0 A1 A2 A3 A4 A5 q0 q1 q2 q3 q4 q5 l b sv rv S R) : WyAt w0 (w.setCell ⟨n + 2, 0, none⟩ sv) n A0 A1 A2 A3 A4 A5 q0 q1 q2 q3 q4 q5 l b sv rv S R := by
  have hk : ∀ k, k ≠ n + 2 → (w.setCell ⟨n + 2, 0, none⟩ sv).heap[k]? = w.heap[k]? := fun k h3 => Below.heap_setCell _ _ _ _ h3
  exact ⟨Below.setCell h.below (by show n ≤ n + 2; omega) _, (hk n (by omega)).trans h.box, (hk _ (by omega)).trans h.tb, setCellOf h.s _, (hk _ (by omega)).trans h.r, (hk _ (by omega)).trans h.v, ownsRow_same h.sr fun k h1 => hk k (by have := (h.sr.lt k h1).1; omega), ownsRow_same h.rr fun k h1 => hk k (by have := (h.rr.lt k h1).1; omega), h.ne, h.n0⟩
theorem WyAt.setR {w0 w : World} {n b : Nat} {A0 A1 A2 A3 A4 A5 : Option Addr} {q0 q1 q2 q3 q4 q5 : Nat} {l : Lo} {sv rv : Value} {S R : List Nat} (h : WyAt w0 w n A0 A1 A2 A3 A4 A5 q0 q1 q2 q3 q4 q5 l b sv rv S R) : WyAt w0 (w.setCell ⟨n + 3, 0, none⟩ rv) n A0 A1 A2 A3 A4 A5 q0 q1 q2 q3 q4 q5 l b sv rv S R := by
  have hk : ∀ k, k ≠ n + 3 → (w.setCell ⟨n + 3, 0, none⟩ rv).heap[k]? = w.heap[k]? := fun k h3 => Below.heap_setCell _ _ _ _ h3
  exact ⟨Below.setCell h.below (by show n ≤ n + 3; omega) _, (hk n (by omega)).trans h.box, (hk _ (by omega)).trans h.tb, (hk _ (by omega)).trans h.s, setCellOf h.r _, (hk _ (by omega)).trans h.v, ownsRow_same h.sr fun k h1 => hk k (by have := (h.sr.lt k h1).1; omega), ownsRow_same h.rr fun k h1 => hk k (by have := (h.rr.lt k h1).1; omega), h.ne, h.n0⟩
theorem results_cell_cell {P : Program} {fn : Func} {p u : Tmp} {ty ty2 : TypeId} (h : fn.results = #[.cell p ty, .cell u ty2]) (tmps : Array Value) (w : World) :
    (results fn tmps).run P w = ((asAddr (tmps.getD p undef)).run P w).andThen fun a w₁ => ((loadVar ty a).run P w₁).andThen fun v w₂ => ((asAddr (tmps.getD u undef)).run P w₂).andThen fun a2 w₃ => ((loadVar ty2 a2).run P w₃).andThen fun v2 w₄ => .ok (.tuple #[v, v2]) w₄ := by
  simp only [results, h]
  simp [Sem.run_bind, Result.andThen]
  try (congr; done)
theorem alloc5x {w w0 : World} {o p q r s : Obj} (h : ((((w.alloc o).alloc p).alloc q).alloc r).alloc s = w0) : w0.heap[w.heap.size]? = some o ∧ w0.heap[w.heap.size + 1]? = some p ∧ w0.heap[w.heap.size + 1 + 1]? = some q ∧ w0.heap[w.heap.size + 1 + 1 + 1]? = some r ∧ w0.heap[w.heap.size + 1 + 1 + 1 + 1]? = some s ∧ Below w.heap.size w w0 := by
  have hw : allocs w [o, p, q, r, s] = w0 := h
  subst hw
  exact ⟨allocs_get w _ 0 (by simp), allocs_get w _ 1 (by simp), allocs_get w _ 2 (by simp), allocs_get w _ 3 (by simp), allocs_get w _ 4 (by simp), allocs_below w _ (Nat.le_refl _) _⟩
set_option maxRecDepth 100000 in
set_option maxHeartbeats 4000000 in
theorem wayO_any (a b : Nat) (A0 A1 A2 A3 A4 A5 : Option Addr) (q0 q1 q2 q3 q4 q5 : Nat) (l : Lo) (w : World) (h : LoA w w.heap.size A0 A1 A2 A3 A4 A5 q0 q1 q2 q3 q4 q5 l) (ok : LoOk l) (ha : a < l.ss.length) (hb : b < l.ss.length) :
    Calls Tryz.prog 230 #[.agg #[.slice A0 l.m.opts.length q0, .slice A1 l.m.rules.length q1, .slice A2 l.ss.length q2, .slice A3 l.us.length q3, .slice A4 l.ps.length q4, .slice A5 l.ws.length q5], .int .i64 a, .int .i64 b] w fun e w' => ∃ (P : List Nat) (sv rv : Value), WayP l.rs (-1) a P b ∧ e = .returned (.tuple #[sv, rv]) ∧ w'.ownsRow w.heap.size 3 1 sv (spotsW l.rs a P).length (nvL (spotsW l.rs a P)) ∧ w'.ownsRow w.heap.size 3 1 rv P.length (nvL P) ∧ Below w.heap.size w w' := by
  have H := hide h
  have OK := hide ok
  have T := hide ok.tree
  have s40 := ok.s40
  clear h ok
  go_enter Tryz.func230, Tryz.ntmps230
  go_upto_region 2 with (fail)
  generalize hw4 : World.alloc _ _ = w4
  obtain ⟨b0, b1, b2, b3, b4, hB4⟩ := alloc5x hw4
  have z0 := cellOf b4 0
  have z1 := unfrozenOf b4 0
  have lz := box_lt b4
  have hm : sideN l.rs l.ss.length (-1) a ≤ 40 := by
    unfold sideN
    exact Nat.le_trans List.countP_le_length (by simpa using s40)
  clear hw4
  go_upto_region 3 with (fail)
  have HWY : Hid (WyAt w (w4.setCell ⟨w.heap.size + 1 + 1 + 1 + 1, 0, none⟩ (.func (.func 251) #[] #[.pointer (some ⟨w.heap.size + 1 + 1, 0, none⟩), .pointer (some ⟨w.heap.size + 1, 0, none⟩), .pointer (some ⟨w.heap.size, 0, none⟩), .pointer (some ⟨w.heap.size + 1 + 1 + 1, 0, none⟩), .pointer (some ⟨w.heap.size + 1 + 1 + 1 + 1, 0, none⟩)])) w.heap.size A0 A1 A2 A3 A4 A5 q0 q1 q2 q3 q4 q5 l b (.slice none 0 0) (.slice none 0 0) [] []) := by
    refine ⟨Below.setCell hB4 (by show w.heap.size ≤ w.heap.size + 1 + 1 + 1 + 1; omega) _, (Below.heap_setCell _ _ _ _ (by show w.heap.size ≠ w.heap.size + 1 + 1 + 1 + 1; omega)).trans b0, (Below.heap_setCell _ _ _ _ (by show w.heap.size + 1 ≠ w.heap.size + 1 + 1 + 1 + 1; omega)).trans b1, (Below.heap_setCell _ _ _ _ (by show w.heap.size + 2 ≠ w.heap.size + 1 + 1 + 1 + 1; omega)).trans b2, (Below.heap_setCell _ _ _ _ (by show w.heap.size + 3 ≠ w.heap.size + 1 + 1 + 1 + 1; omega)).trans b3, setCellOf b4 _, World.ownsRow_nil _ _ _ _, World.ownsRow_nil _ _ _ _, fun g hg => by simp [Value.ownBlock] at hg, rfl⟩
  generalize hw5 : World.setCell _ _ _ = w5 at HWY ⊢
  have v0 : w5.cell? ⟨w.heap.size + 1 + 1 + 1 + 1, 0, none⟩ = _ := cellOf HWY.out.v 0
  have lv : w.heap.size + 1 + 1 + 1 + 1 < w5.heap.size := box_lt HWY.out.v
  have hcall := wayV_any A0 A1 A2 A3 A4 A5 q0 q1 q2 q3 q4 q5 l OK.out w w.heap.size H.out b hb _ a (-1) (-1) [] [] _ _ w5 HWY.out (Nat.le_refl _) (.inl ⟨rfl, rfl⟩) ha (by simp; omega) (by simp; omega)
  have hrch : Rch l.rs (-1) a b := T.out.all' ha hb
  have HCALL := hide hcall
  have HRCH := hide hrch
  clear hw5 b0 b1 b2 b3 b4 hB4 z0 z1 lz hcall hrch
  go_upto_region 4 with (go_at_call 251; refine HCALL.out.mono ?_; rintro e w6 h6; obtain ⟨_, P, sv, rv, hP, rfl, hW6⟩ | h6 := h6; rotate_left; exact absurd HRCH.out h6.1; skip; rw [List.nil_append, List.nil_append] at hW6; obtain ⟨A6, c6, hf6⟩ := owns_form hW6.sr; subst hf6; obtain ⟨A7, c7, hf7⟩ := owns_form hW6.rr; subst hf7; have HP := hide hP; have s0 : w6.cell? ⟨w.heap.size + 1 + 1, 0, none⟩ = _ := cellOf hW6.s 0; have s1 : w6.frozen? ⟨w.heap.size + 1 + 1, 0, none⟩ = _ := unfrozenOf hW6.s 0; have ls : w.heap.size + 1 + 1 < w6.heap.size := box_lt hW6.s; have r0 : w6.cell? ⟨w.heap.size + 1 + 1 + 1, 0, none⟩ = _ := cellOf hW6.r 0; have r1 : w6.frozen? ⟨w.heap.size + 1 + 1 + 1, 0, none⟩ = _ := unfrozenOf hW6.r 0; have lr : w.heap.size + 1 + 1 + 1 < w6.heap.size := box_lt hW6.r; have HW6 := hide hW6; clear hP hW6 v0 lv)
  go_region
  have HW7 := hide (HW6.out.setS.setR)
  generalize hw7 : World.setCell _ _ _ = w7 at HW7 ⊢
  have HW8 := hide (HW7.out.up (Below.drew (Below.refl _ _)))
  have d0 : w7.drew.cell? ⟨w.heap.size + 1 + 1, 0, none⟩ = _ := cellOf HW8.out.s 0
  have d1 : w7.drew.cell? ⟨w.heap.size + 1 + 1 + 1, 0, none⟩ = _ := cellOf HW8.out.r 0
  clear hw7 s0 s1 ls r0 r1 lr
  go_wp2_with fail
  refine bodyPost_ret (v := .tuple #[.slice A6 (spotsW l.rs a P).length c6, .slice A7 P.length c7]) ?_ rfl ⟨P, _, _, HP.out, rfl, owns_base HW8.out.sr (by omega), owns_base HW8.out.rr (by omega), HW8.out.below⟩
  rw [results_cell_cell rfl]
  go_simp
theorem wayP_any (a b : Nat) (A0 A1 A2 A3 A4 A5 : Option Addr) (q0 q1 q2 q3 q4 q5 : Nat) (l : Lo) (w : World) (h : LoA w w.heap.size A0 A1 A2 A3 A4 A5 q0 q1 q2 q3 q4 q5 l) (ok : LoOk l) (ha : a < l.ss.length) (hb : b < l.ss.length) :
    Calls Tryz.prog 230 #[.agg #[.slice A0 l.m.opts.length q0, .slice A1 l.m.rules.length q1, .slice A2 l.ss.length q2, .slice A3 l.us.length q3, .slice A4 l.ps.length q4, .slice A5 l.ws.length q5], .int .i64 a, .int .i64 b] w fun e w' => ∃ (P : List Nat) (sv rv : Value), WayP l.rs (-1) a P b ∧ e = .returned (.tuple #[sv, rv]) ∧ Nods w' w'.heap.size sv (spotsW l.rs a P) ∧ Nods w' w'.heap.size rv P ∧ Below w.heap.size w w' :=
  (wayO_any a b A0 A1 A2 A3 A4 A5 q0 q1 q2 q3 q4 q5 l w h ok ha hb).mono fun e w' => fun ⟨P, sv, rv, h1, h2, h3, h4, h5⟩ => ⟨P, sv, rv, h1, h2, Nods.of_own h3, Nods.of_own h4, h5⟩
end Go.Proofs.YtehadoecnmfeoaaGreat
/- Fill, both: walks. -/
namespace Go.Proofs.YtehadoecnmfeoaaGreat
open Go.RowKit
set_option linter.unusedVariables false
set_option linter.unusedSimpArgs false
def filN (l : Lo) (T : List Nat) : Int := (szsL l T).sum
theorem sz_ok {l : Lo} (ok : LoOk l) {i : Nat} (hi : i < l.ws.length) : 1 ≤ (l.ws.getD i Wi.o).size ∧ (l.ws.getD i Wi.o).size ≤ 10000 := by
  have h := (LoOk.wi ok hi).1
  unfold wiOk at h
  simp only [Bool.and_eq_true, btw_iff] at h
  exact h.2
def FilP (n er : Int) (w : World) (e : Ending) (w' : World) : Prop := e = .returned (.tuple #[.int .i64 n, .int .i64 er]) ∧ Below w.heap.size w w'
end Go.Proofs.YtehadoecnmfeoaaGreat
/- The program's distance: walk. -/
namespace Go.Proofs.YtehadoecnmfeoaaGreat
open Go.RowKit
set_option linter.unusedVariables false
set_option linter.unusedSimpArgs false
theorem lenS_le {l : Lo} (ok : LoOk l) : ∀ {T : List Nat}, (∀ i ∈ T, i < l.us.length) → 0 ≤ (T.map (runLen l)).sum ∧ (T.map (runLen l)).sum ≤ 1000000 * T.length
  | [], _ => by simp
  | i :: T, h => by
    have h1 := lenS_le ok (T := T) fun j hj => h j (by simp [hj])
    have h2 := ok.len (h i (by simp))
    rw [List.map_cons, List.sum_cons, List.length_cons]
    omega
set_option maxRecDepth 100000 in
set_option maxHeartbeats 4000000 in
theorem distance_any (a b : Nat) (A0 A1 A2 A3 A4 A5 : Option Addr) (q0 q1 q2 q3 q4 q5 : Nat) (l : Lo) (w : World) (h : LoA w w.heap.size A0 A1 A2 A3 A4 A5 q0 q1 q2 q3 q4 q5 l) (ok : LoOk l) (ha : a < l.ss.length) (hb : b < l.ss.length) :
    Calls Tryz.prog 171 #[.agg #[.slice A0 l.m.opts.length q0, .slice A1 l.m.rules.length q1, .slice A2 l.ss.length q2, .slice A3 l.us.length q3, .slice A4 l.ps.length q4, .slice A5 l.ws.length q5], .int .i64 a, .int .i64 b] w fun e w' => e = .returned (.int .i64 (distN l.rs (runLen l) a b)) ∧ Below w.heap.size w w' := by
  have H := hide h
  have OK := hide ok
  have u40 := ok.u40
  clear h ok
  go_enter Tryz.func171, Tryz.ntmps171
  go_upto_region 1 with (fail)
  generalize hw0 : World.alloc _ _ = w0
  obtain ⟨hb0, hB0, hs0⟩ := alloc1 hw0
  have c0 := cellOf hb0 0; have c1 := cellOf hb0 1; have c2 := cellOf hb0 2; have c3 := cellOf hb0 3; have c4 := cellOf hb0 4; have c5 := cellOf hb0 5
  have hlb := box_lt hb0
  have HB0 := hide hB0
  have HL0 : Hid (LoBox w0 w.heap.size A0 A1 A2 A3 A4 A5 q0 q1 q2 q3 q4 q5 l) := hb0
  clear hw0 hb0 hB0 hs0
  go_wp2_with (go_at_call 230; refine (wayP_any a b A0 A1 A2 A3 A4 A5 q0 q1 q2 q3 q4 q5 l _ (H.out.up HB0.out) OK.out ha hb).mono ?_; rintro e w2 ⟨P, sv, rv, hP, rfl, hn1, hn2, hB2⟩; obtain ⟨At, qt, hv2⟩ := Sl.form hn2; subst hv2; have HP := hide hP; have HN2 := hide hn2; have HL2 := hide (HL0.out.to hB2); have HB2 := hide (Below.to HB0.out hB2 (Nat.le_refl _)); clear hP hn1 hn2 hB2 c0 c1 c2 c3 c4 c5 hlb)
  have hPm : ∀ i ∈ P, i < l.us.length := fun i hi => by have := HP.out.lt i hi; rwa [rs_len] at this
  have hPl : P.length ≤ 40 := Nat.le_trans (nodup_len (HP.out.mem OK.out.tree).1 hPm) u40
  have HPM := hide hPm
  clear hPm
  go_loopw [6, 10, 20] (fun o _ i wr => ∃ (k : Nat) (s : Int), i = .int .i64 k ∧ o = .int .i64 s ∧ k ≤ P.length ∧ Hid (((P.take k).map (runLen l)).sum = s) ∧ Hid (Below w2.heap.size w2 wr)) (fun _ _ i _ => P.length - (intOf i).toNat)
  case atStart => exact ⟨0, 0, rfl, rfl, Nat.zero_le _, rfl, Below.refl _ _⟩
  case round =>
    obtain ⟨k, s, rfl, rfl, hk, HSs, HBr⟩ := hrel
    by_cases hkl : k < P.length
    · obtain ⟨bt, ot, rfl, hbt, _, ct⟩ := (HN2.out.up HBr.out).at hkl
      have hqt := Nods.cap HN2.out
      obtain ⟨i, hi⟩ : ∃ i, P.getD k 0 = i := ⟨_, rfl⟩
      have hil := HPM.out i (by rw [← hi]; exact getD_mem3 hkl)
      have hsz := OK.out.len hil
      have hts := take_snoc hkl
      rw [hi] at hts ct
      have hsb := lenS_le OK.out (T := P.take k) fun j hj => HPM.out j (List.mem_of_mem_take hj)
      rw [HSs.out, List.length_take] at hsb
      have hnew : ((P.take (k + 1)).map (runLen l)).sum = s + runLen l i := by rw [hts, List.map_append, List.sum_append, HSs.out]; simp
      unfold runLen at hsz
      obtain ⟨bu, offu, r, HRU, rfl, hbu, hq3, _, _, e2, _⟩ := H.out.ru hil
      have hri : runLen l i = r.len := by unfold runLen; rw [HRU.out]
      rw [HRU.out] at hsz
      rw [hri] at hnew
      have HNEW := hide hnew
      have hBw := Below.to HB2.out HBr.out (Nat.le_refl _)
      have z2 := (hBw.cell (p := ⟨bu, offu + i * 4 + 2, none⟩) hbu).trans e2
      have lbu : bu < wr.heap.size := Nat.lt_of_lt_of_le hbu hBw.size
      have y3 := cellOf (box_to HL2.out HBr.out) 3
      have ly := box_lt (box_to HL2.out HBr.out)
      have ik : (k : Int) < (P.length : Int) := by omega
      have iqt : (P.length : Int) ≤ (qt : Int) := by omega
      have ii : (i : Int) < (l.us.length : Int) := by omega
      have iq : (l.us.length : Int) ≤ (q3 : Int) := by omega
      have hsl : 0 ≤ s ∧ s ≤ 40000000 := by omega
      clear hi hqt hts hsb hnew hBw e2 hri
      go_wp2_with fail
      go_roundw
      case rel => exact ⟨k + 1, s + r.len, by go_num, by go_num, by omega, HNEW.out, HBr.out⟩
      case measure => simp [intOf]; omega
    · have hke : k = P.length := by omega
      subst hke
      have hS := HSs.out
      rw [List.take_length, HP.out.dist OK.out.tree] at hS
      have HS2 := hide hS
      clear hS
      go_wp2_with fail
      go_ret
      refine ⟨?_, Below.to HB2.out HBr.out (Nat.le_refl _)⟩
      rw [HS2.out]
      rfl
end Go.Proofs.YtehadoecnmfeoaaGreat
/- The elder distance: walk. -/
namespace Go.Proofs.YtehadoecnmfeoaaGreat
open Go.RowKit
set_option linter.unusedVariables false
set_option linter.unusedSimpArgs false
set_option maxRecDepth 100000 in
set_option maxHeartbeats 4000000 in
theorem rdistance_any (a b : Nat) (A0 A1 A2 A3 A4 A5 : Option Addr) (q0 q1 q2 q3 q4 q5 : Nat) (l : Lo) (w : World) (h : LoA w w.heap.size A0 A1 A2 A3 A4 A5 q0 q1 q2 q3 q4 q5 l) (ok : LoOk l) (ha : a < l.ss.length) (hb : b < l.ss.length) :
    Calls Tryz.prog 169 #[.agg #[.slice A0 l.m.opts.length q0, .slice A1 l.m.rules.length q1, .slice A2 l.ss.length q2, .slice A3 l.us.length q3, .slice A4 l.ps.length q4, .slice A5 l.ws.length q5], .int .i64 a, .int .i64 b] w fun e w' => e = .returned (.int .i64 (distN l.rs (runLen l) a b)) ∧ Below w.heap.size w w' := by
  have H := hide h
  have OK := hide ok
  have u40 := ok.u40
  obtain ⟨P, hP⟩ := ok.way_some ha hb
  have HP := hide hP
  clear hP
  clear h ok
  go_enter Tryz.func169, Tryz.ntmps169
  go_upto_region 1 with (fail)
  generalize hw0 : World.alloc _ _ = w0
  obtain ⟨hb0, hB0, hs0⟩ := alloc1 hw0
  have c0 := cellOf hb0 0; have c1 := cellOf hb0 1; have c2 := cellOf hb0 2; have c3 := cellOf hb0 3; have c4 := cellOf hb0 4; have c5 := cellOf hb0 5
  have hlb := box_lt hb0
  have HB0 := hide hB0
  have HL0 : Hid (LoBox w0 w.heap.size A0 A1 A2 A3 A4 A5 q0 q1 q2 q3 q4 q5 l) := hb0
  clear hw0 hb0 hB0 hs0
  go_wp2_with (go_at_call 229; refine (way_any A0 A1 A2 A3 A4 A5 q0 q1 q2 q3 q4 q5 l OK.out a b P _ (H.out.up HB0.out) ha hb HP.out).mono ?_; rintro e w2 ⟨At, qt, rfl, hn2, hB2⟩; have HN2 := hide hn2; have HL2 := hide (HL0.out.to hB2); have HB2 := hide (Below.to HB0.out hB2 (Nat.le_refl _)); clear hn2 hB2 c0 c1 c2 c3 c4 c5 hlb)
  have hPm : ∀ i ∈ P, i < l.us.length := fun i hi => by have := HP.out.lt i hi; rwa [rs_len] at this
  have hPl : P.length ≤ 40 := Nat.le_trans (nodup_len (HP.out.mem OK.out.tree).1 hPm) u40
  have HPM := hide hPm
  clear hPm
  go_loopw [7, 9] (fun o i wr => ∃ (k : Nat) (s : Int), i = .int .i64 k ∧ o = .int .i64 s ∧ k ≤ P.length ∧ Hid (((P.take k).map (runLen l)).sum = s) ∧ Hid (Below w2.heap.size w2 wr)) (fun _ i _ => P.length - (intOf i).toNat)
  case atStart => exact ⟨0, 0, rfl, rfl, Nat.zero_le _, rfl, Below.refl _ _⟩
  case round =>
    obtain ⟨k, s, rfl, rfl, hk, HSs, HBr⟩ := hrel
    by_cases hkl : k < P.length
    · obtain ⟨bt, ot, hAt, hbt, _, ct⟩ := (HN2.out.up HBr.out).at hkl
      injection hAt with hAt
      subst hAt
      have hqt := Nods.cap HN2.out
      obtain ⟨i, hi⟩ : ∃ i, P.getD k 0 = i := ⟨_, rfl⟩
      have hil := HPM.out i (by rw [← hi]; exact getD_mem3 hkl)
      have hsz := OK.out.len hil
      have hts := take_snoc hkl
      rw [hi] at hts ct
      have hsb := lenS_le OK.out (T := P.take k) fun j hj => HPM.out j (List.mem_of_mem_take hj)
      rw [HSs.out, List.length_take] at hsb
      have hnew : ((P.take (k + 1)).map (runLen l)).sum = s + runLen l i := by rw [hts, List.map_append, List.sum_append, HSs.out]; simp
      unfold runLen at hsz
      obtain ⟨bu, offu, r, HRU, rfl, hbu, hq3, _, _, e2, _⟩ := H.out.ru hil
      have hri : runLen l i = r.len := by unfold runLen; rw [HRU.out]
      rw [HRU.out] at hsz
      rw [hri] at hnew
      have HNEW := hide hnew
      have hBw := Below.to HB2.out HBr.out (Nat.le_refl _)
      have z2 := (hBw.cell (p := ⟨bu, offu + i * 4 + 2, none⟩) hbu).trans e2
      have lbu : bu < wr.heap.size := Nat.lt_of_lt_of_le hbu hBw.size
      have y3 := cellOf (box_to HL2.out HBr.out) 3
      have ly := box_lt (box_to HL2.out HBr.out)
      have ik : (k : Int) < (P.length : Int) := by omega
      have iqt : (P.length : Int) ≤ (qt : Int) := by omega
      have ii : (i : Int) < (l.us.length : Int) := by omega
      have iq : (l.us.length : Int) ≤ (q3 : Int) := by omega
      have hsl : 0 ≤ s ∧ s ≤ 40000000 := by omega
      have hwr : IntKind.i64.wrap (s + r.len) = s + r.len := IntWalk.i64_in _ (by omega)
      clear hi hqt hts hsb hnew hBw e2 hri
      go_upto_region 6 with (fail)
      go_region
      go_wp2_with fail
      go_roundw
      case rel => exact ⟨k + 1, s + r.len, by go_num, by first | rfl | go_num, by omega, HNEW.out, Below.drew HBr.out⟩
      case measure => simp [intOf]; omega
    · have hke : k = P.length := by omega
      subst hke
      have hS := HSs.out
      rw [List.take_length, HP.out.dist OK.out.tree] at hS
      have HS2 := hide hS
      clear hS
      go_wp2_with fail
      go_ret
      refine ⟨?_, Below.to HB2.out HBr.out (Nat.le_refl _)⟩
      rw [HS2.out]
      rfl
end Go.Proofs.YtehadoecnmfeoaaGreat
/- Distance: walks. -/
namespace Go.Proofs.YtehadoecnmfeoaaGreat
open Go.RowKit
set_option linter.unusedVariables false
set_option linter.unusedSimpArgs false
def disB (l : Lo) (a b : Int) : Bool := btw a 0 ((l.ss.length : Int) - 1) && btw b 0 ((l.ss.length : Int) - 1)
def disE (l : Lo) (a b : Int) : Int := havE l (disB l a b)
open Classical in
noncomputable def disN (l : Lo) (a b : Int) : Int := if disE l a b = 0 then distN l.rs (runLen l) a.toNat b.toNat else 0
end Go.Proofs.YtehadoecnmfeoaaGreat
/- Distance, both: walks. -/
namespace Go.Proofs.YtehadoecnmfeoaaGreat
open Go.RowKit
set_option linter.unusedVariables false
set_option linter.unusedSimpArgs false
end Go.Proofs.YtehadoecnmfeoaaGreat
/- The program's route and length: walks. -/
namespace Go.Proofs.YtehadoecnmfeoaaGreat
open Go.RowKit
set_option linter.unusedVariables false
set_option linter.unusedSimpArgs false
open Classical in
noncomputable def wayL (l : Lo) (a b : Nat) : List Nat := if h : ∃ P, WayP l.rs (-1) a P b then Classical.choose h else []
def rouE (l : Lo) (i : Int) : Int := havE l (btw i 0 ((l.ws.length : Int) - 1))
noncomputable def rouW (l : Lo) (i : Nat) : List Nat := spotsW l.rs (endF l i) (wayL l (endF l i) (endT l i))
noncomputable def rouL (l : Lo) (i : Int) : List Nat := if rouE l i = 0 then rouW l i.toNat else []
noncomputable def lenW (l : Lo) (i : Nat) : Int := distN l.rs (runLen l) (endF l i) (endT l i)
noncomputable def lenN (l : Lo) (i : Int) : Int := if rouE l i = 0 then lenW l i.toNat else 0
theorem rouE_ok {l : Lo} {i : Int} (h : rouE l i = 0) : LoOk l ∧ 0 ≤ i ∧ i < (l.ws.length : Int) := by
  obtain ⟨h1, h2⟩ := havE_ok h
  obtain ⟨h3, h4⟩ := btw_iff.1 h2
  exact ⟨h1, h3, by omega⟩
set_option maxRecDepth 100000 in
set_option maxHeartbeats 1000000 in
theorem ends_wire {i : Nat} {x : Wi} (Af : Option Addr) (n qf : Nat) (A0 A1 A2 A3 A4 A5 : Option Addr) (q0 q1 q2 q3 q4 q5 : Nat) (l : Lo) (w : World) (h : LoA w w.heap.size A0 A1 A2 A3 A4 A5 q0 q1 q2 q3 q4 q5 l) (ok : LoOk l) (hi : i < l.ws.length) (hx : l.ws.getD i Wi.o = x) :
    Calls Tryz.prog 170 #[.agg #[.slice A0 l.m.opts.length q0, .slice A1 l.m.rules.length q1, .slice A2 l.ss.length q2, .slice A3 l.us.length q3, .slice A4 l.ps.length q4, .slice A5 l.ws.length q5], .agg #[.string x.name, .int .i64 x.fp, .int .i64 x.fc, .int .i64 x.tp, .int .i64 x.tc, .int .i64 x.size, .slice Af n qf]] w fun e w' => e = .returned (.tuple #[.int .i64 (endF l i : Nat), .int .i64 (endT l i : Nat)]) ∧ Below w.heap.size w w' := by
  obtain ⟨⟨a1, a2, a3⟩, b1, b2, b3⟩ := ok.wpin hi
  rw [hx] at a1 a2 a3 b1 b2 b3
  have h1 := ends_any x Af n qf A0 A1 A2 A3 A4 A5 q0 q1 q2 q3 q4 q5 l w h a1 a2 b1 b2 ok.p30
  have e1 : (l.ps.getD x.fp.toNat Pl.o).spot = (endF l i : Nat) := by unfold endF; rw [hx]; omega
  have e2 : (l.ps.getD x.tp.toNat Pl.o).spot = (endT l i : Nat) := by unfold endT; rw [hx]; omega
  rw [e1, e2] at h1
  exact h1
set_option maxRecDepth 100000 in
set_option maxHeartbeats 2000000 in
theorem length_wire {i : Nat} {x : Wi} (Af : Option Addr) (n qf : Nat) (A0 A1 A2 A3 A4 A5 : Option Addr) (q0 q1 q2 q3 q4 q5 : Nat) (l : Lo) (w : World) (h : LoA w w.heap.size A0 A1 A2 A3 A4 A5 q0 q1 q2 q3 q4 q5 l) (ok : LoOk l) (hi : i < l.ws.length) (hx : l.ws.getD i Wi.o = x) :
    Calls Tryz.prog 103 #[.agg #[.slice A0 l.m.opts.length q0, .slice A1 l.m.rules.length q1, .slice A2 l.ss.length q2, .slice A3 l.us.length q3, .slice A4 l.ps.length q4, .slice A5 l.ws.length q5], .agg #[.string x.name, .int .i64 x.fp, .int .i64 x.fc, .int .i64 x.tp, .int .i64 x.tc, .int .i64 x.size, .slice Af n qf]] w fun e w' => e = .returned (.int .i64 (lenW l i)) ∧ Below w.heap.size w w' := by
  have H := hide h
  have OK := hide ok
  have HX := hide hx
  obtain ⟨hea, heb⟩ := ok.ends hi
  clear h ok hx
  go_enter Tryz.func103, Tryz.ntmps103
  go_upto_region 1 with (fail)
  generalize hw0 : World.alloc _ _ = w0
  obtain ⟨hb0, hb1, hB0, hs0⟩ := alloc2 hw0
  have c0 := cellOf hb0 0; have c1 := cellOf hb0 1; have c2 := cellOf hb0 2; have c3 := cellOf hb0 3; have c4 := cellOf hb0 4; have c5 := cellOf hb0 5
  have l0 := box_lt hb0
  have hpx := hb1
  have z0 := cellOf hpx 0; have z1 := cellOf hpx 1; have z2 := cellOf hpx 2; have z3 := cellOf hpx 3; have z4 := cellOf hpx 4; have z5 := cellOf hpx 5; have z6 := cellOf hpx 6
  have l1 := box_lt hb1
  have HB0 := hide hB0
  have HL0 : Hid (LoBox w0 w.heap.size A0 A1 A2 A3 A4 A5 q0 q1 q2 q3 q4 q5 l) := hb0
  clear hw0 hb0 hb1 hpx hB0 hs0
  go_wp2_with (first | (go_at_call 170; refine (ends_wire Af n qf A0 A1 A2 A3 A4 A5 q0 q1 q2 q3 q4 q5 l _ (H.out.up HB0.out) OK.out hi HX.out).mono ?_; rintro e w1 ⟨rfl, hB1⟩; have d0 := cellOf (HL0.out.to hB1) 0; have d1 := cellOf (HL0.out.to hB1) 1; have d2 := cellOf (HL0.out.to hB1) 2; have d3 := cellOf (HL0.out.to hB1) 3; have d4 := cellOf (HL0.out.to hB1) 4; have d5 := cellOf (HL0.out.to hB1) 5; have ld := box_lt (HL0.out.to hB1); have HB1 := hide (Below.to HB0.out hB1 (Nat.le_refl _)); clear hB1 c0 c1 c2 c3 c4 c5 l0 l1) | (go_at_call 171; refine (distance_any (endF l i) (endT l i) A0 A1 A2 A3 A4 A5 q0 q1 q2 q3 q4 q5 l _ (H.out.up HB1.out) OK.out hea heb).mono ?_; rintro e w2 ⟨rfl, hB2⟩; have HB2 := hide (Below.to HB1.out hB2 (Nat.le_refl _)); clear hB2))
  go_ret
  exact ⟨rfl, HB2.out⟩
set_option maxRecDepth 100000 in
set_option maxHeartbeats 1000000 in
theorem have_length (p0 p1 : Value) (b : Bool) (A0 A1 A2 A3 A4 A5 : Option Addr) (q0 q1 q2 q3 q4 q5 : Nat) (l : Lo) (w : World) (hs : SizedL l) (h : LoA w w.heap.size A0 A1 A2 A3 A4 A5 q0 q1 q2 q3 q4 q5 l)
    (hf : l.err = 0 → ∀ W, Below w.heap.size w W → Calls Tryz.prog 105 #[p0, p1] W fun e w' => e = .returned (.bool b) ∧ Below W.heap.size W w') :
    Calls Tryz.prog 100 #[.agg #[.slice A0 l.m.opts.length q0, .slice A1 l.m.rules.length q1, .slice A2 l.ss.length q2, .slice A3 l.us.length q3, .slice A4 l.ps.length q4, .slice A5 l.ws.length q5], .func (.func 105) #[] #[p0, p1]] w fun e w' => e = .returned (.int .i64 (havE l b)) ∧ Below w.heap.size w w' := by
  have H := hide h
  have HF := hide hf
  obtain ⟨z, hz⟩ : ∃ z, l.err = z := ⟨_, rfl⟩
  have HZ := hide hz
  clear h hf
  by_cases hz0 : z = 0
  · subst hz0
    have hr : havE l b = mustE b 1 := by unfold havE; rw [hz]; rfl
    rw [hr]
    have hf := HF.out hz
    have HF2 := hide hf
    clear hf hz hr
    go_enter Tryz.func100, Tryz.ntmps100
    go_upto_region 1 with (fail)
    generalize hw0 : World.alloc _ _ = w0
    obtain ⟨hb0, hB0, hs0⟩ := alloc1 hw0
    have c0 := cellOf hb0 0; have c1 := cellOf hb0 1; have c2 := cellOf hb0 2; have c3 := cellOf hb0 3; have c4 := cellOf hb0 4; have c5 := cellOf hb0 5
    have hlb := box_lt hb0
    have hck := Check_any A0 A1 A2 A3 A4 A5 q0 q1 q2 q3 q4 q5 l w0 hs (H.out.up hB0)
    rw [HZ.out] at hck
    have HCK := hide hck
    have HB0 := hide hB0
    clear hw0 hb0 hB0 hs0 hck
    go_wp2_with (first | (go_at_call 62; refine HCK.out.mono ?_; rintro e w1 ⟨rfl, hB1⟩; have HB1 := hide (Below.to HB0.out hB1 (Nat.le_refl _)); clear hB1 c0 c1 c2 c3 c4 c5 hlb) | (go_at_call 105; refine (HF2.out _ HB1.out).mono ?_; rintro e w2 ⟨rfl, hB2⟩; have HB2 := hide (Below.to HB1.out hB2 (Nat.le_refl _)); clear hB2) | (go_at_call 134; refine (must_any _ _ _).mono ?_; rintro e w3 ⟨rfl, rfl⟩))
    go_ret
    exact ⟨rfl, HB2.out⟩
  · have hr : havE l b = z := by unfold havE; rw [hz, if_pos hz0]
    have hz1 : (z != 0) = true := by simpa using hz0
    rw [hr]
    clear hz hr hz0
    go_enter Tryz.func100, Tryz.ntmps100
    go_upto_region 1 with (fail)
    generalize hw0 : World.alloc _ _ = w0
    obtain ⟨hb0, hB0, hs0⟩ := alloc1 hw0
    have c0 := cellOf hb0 0; have c1 := cellOf hb0 1; have c2 := cellOf hb0 2; have c3 := cellOf hb0 3; have c4 := cellOf hb0 4; have c5 := cellOf hb0 5
    have hlb := box_lt hb0
    have hck := Check_any A0 A1 A2 A3 A4 A5 q0 q1 q2 q3 q4 q5 l w0 hs (H.out.up hB0)
    rw [HZ.out] at hck
    have HCK := hide hck
    have HB0 := hide hB0
    clear hw0 hb0 hB0 hs0 hck
    go_wp2_with (go_at_call 62; refine HCK.out.mono ?_; rintro e w1 ⟨rfl, hB1⟩; have HB1 := hide (Below.to HB0.out hB1 (Nat.le_refl _)); clear hB1 c0 c1 c2 c3 c4 c5 hlb)
    go_ret
    exact ⟨rfl, HB1.out⟩

set_option maxRecDepth 100000 in
theorem length1_any (i : Int) (A0 A1 A2 A3 A4 A5 : Option Addr) (q0 q1 q2 q3 q4 q5 : Nat) (l : Lo) (rb lb : Nat) (w : World) (hm : l.ws.length ≤ maxLen) (hr : w.heap[rb]? = some (.cells #[.int .i64 i] 3 (0, 0))) (h : LoBox w lb A0 A1 A2 A3 A4 A5 q0 q1 q2 q3 q4 q5 l) :
    Calls Tryz.prog 105 #[.pointer (some ⟨rb, 0, none⟩), .pointer (some ⟨lb, 0, none⟩)] w fun e w' => e = .returned (.bool (btw i 0 ((l.ws.length : Int) - 1))) ∧ Below w.heap.size w w' := by
  have c3 := cellOf h 5
  have d0 := cellOf hr 0
  have hlb := box_lt h
  have hlr := box_lt hr
  unfold maxLen at hm
  clear h hr
  go_enter Tryz.func105, Tryz.ntmps105
  go_wp2_with (go_at_call 106; refine (within_any _ _ _ _).mono ?_; rintro e w1 ⟨rfl, rfl⟩)
  go_ret
  exact ⟨rfl, Below.refl _ _⟩
set_option maxRecDepth 100000 in
set_option maxHeartbeats 4000000 in
theorem Length_any (i : Int) (A0 A1 A2 A3 A4 A5 : Option Addr) (q0 q1 q2 q3 q4 q5 : Nat) (l : Lo) (w : World) (hs : SizedL l) (h : LoA w w.heap.size A0 A1 A2 A3 A4 A5 q0 q1 q2 q3 q4 q5 l) :
    Calls Tryz.prog 38 #[.agg #[.slice A0 l.m.opts.length q0, .slice A1 l.m.rules.length q1, .slice A2 l.ss.length q2, .slice A3 l.us.length q3, .slice A4 l.ps.length q4, .slice A5 l.ws.length q5], .int .i64 i] w (FilP (lenN l i) (rouE l i) w) := by
  have H := hide h
  have HS := hide hs
  have hu := hs.w
  obtain ⟨z, hz⟩ : ∃ z, rouE l i = z := ⟨_, rfl⟩
  obtain ⟨nn, hnn⟩ : ∃ z, lenN l i = z := ⟨_, rfl⟩
  rw [hz, hnn]
  have HZ := hide hz
  clear h hs
  go_enter Tryz.func38, Tryz.ntmps38
  go_upto_region 1 with (fail)
  generalize hw0 : World.alloc _ _ = w0
  obtain ⟨hb0, hb1, hB0, hs0⟩ := alloc2 hw0
  have c0 := cellOf hb0 0; have c1 := cellOf hb0 1; have c2 := cellOf hb0 2; have c3 := cellOf hb0 3; have c4 := cellOf hb0 4; have c5 := cellOf hb0 5
  have hlb := box_lt hb0
  have hhv := have_length (.pointer (some ⟨w.heap.size + 1, 0, none⟩)) (.pointer (some ⟨w.heap.size, 0, none⟩)) (btw i 0 ((l.ws.length : Int) - 1)) A0 A1 A2 A3 A4 A5 q0 q1 q2 q3 q4 q5 l w0 HS.out (H.out.up hB0) (fun _ W hW => length1_any i A0 A1 A2 A3 A4 A5 q0 q1 q2 q3 q4 q5 l _ _ W hu (box_to hb1 hW) (LoBox.to hb0 hW))
  rw [show havE l (btw i 0 ((l.ws.length : Int) - 1)) = z from HZ.out] at hhv
  have HHV := hide hhv
  have HB0 := hide hB0
  have HL0 : Hid (LoBox w0 w.heap.size A0 A1 A2 A3 A4 A5 q0 q1 q2 q3 q4 q5 l) := hb0
  have HR0 := hide hb1
  clear hw0 hb0 hb1 hB0 hs0 hhv
  by_cases hz0 : z = 0
  case neg =>
    have hN : lenN l i = 0 := by unfold lenN; rw [if_neg (by rw [hz]; exact hz0)]
    rw [hN] at hnn
    subst hnn
    have hz1 : (z != 0) = true := by simpa using hz0
    clear hz hz0 hN
    go_wp2_with (go_at_call 100; refine HHV.out.mono ?_; rintro e w1 ⟨rfl, hB1⟩; have HB1 := hide (Below.to HB0.out hB1 (Nat.le_refl _)); clear hB1)
    go_ret2
    exact ⟨rfl, HB1.out⟩
  case pos =>
  subst hz0
  obtain ⟨ok, i0, i1⟩ := rouE_ok hz
  have hN : lenN l i = lenW l i.toNat := by unfold lenN; rw [if_pos hz]
  obtain ⟨k, rfl⟩ := Int.eq_ofNat_of_zero_le i0
  rw [Int.toNat_natCast] at hN
  rw [hN] at hnn
  subst hnn
  have hk : k < l.ws.length := by omega
  obtain ⟨bw, offw, x, Af, qf, HX, rfl, hbw, hq5, HFO, e0, e1, e2, e3, e4, e5, e6⟩ := H.out.wi hk
  have ii : (k : Int) < (l.ws.length : Int) := by omega
  have iq : (l.ws.length : Int) ≤ (q5 : Int) := by omega
  have OK := hide ok
  have HE := hide (And.intro e0 (And.intro e1 (And.intro e2 (And.intro e3 (And.intro e4 (And.intro e5 e6))))))
  clear hz hN ok i0 i1 e0 e1 e2 e3 e4 e5 e6
  go_upto_region 4 with (go_at_call 100; refine HHV.out.mono ?_; rintro e w1 ⟨rfl, hB1⟩; have HL1 := hide (HL0.out.to hB1); have HR1 := hide (box_to HR0.out hB1); have HB1 := hide (Below.to HB0.out hB1 (Nat.le_refl _)); clear hB1 c0 c1 c2 c3 c4 c5 hlb)
  have f0 := cellOf HR1.out 0
  have lf := box_lt HR1.out
  have d0 := cellOf HL1.out 0; have d1 := cellOf HL1.out 1; have d2 := cellOf HL1.out 2; have d3 := cellOf HL1.out 3; have d4 := cellOf HL1.out 4; have d5 := cellOf HL1.out 5
  have ld := box_lt HL1.out
  have hBw := HB1.out
  have lbw : bw < w1.heap.size := Nat.lt_of_lt_of_le hbw hBw.size
  have z0 := (hBw.cell (p := ⟨bw, offw + k * 7, none⟩) hbw).trans HE.out.1
  have z1 := (hBw.cell (p := ⟨bw, offw + k * 7 + 1, none⟩) hbw).trans HE.out.2.1
  have z2 := (hBw.cell (p := ⟨bw, offw + k * 7 + 2, none⟩) hbw).trans HE.out.2.2.1
  have z3 := (hBw.cell (p := ⟨bw, offw + k * 7 + 3, none⟩) hbw).trans HE.out.2.2.2.1
  have z4 := (hBw.cell (p := ⟨bw, offw + k * 7 + 4, none⟩) hbw).trans HE.out.2.2.2.2.1
  have z5 := (hBw.cell (p := ⟨bw, offw + k * 7 + 5, none⟩) hbw).trans HE.out.2.2.2.2.2.1
  have z6 := (hBw.cell (p := ⟨bw, offw + k * 7 + 6, none⟩) hbw).trans HE.out.2.2.2.2.2.2
  have HH1 := hide (H.out.up hBw)
  clear hBw
  refine wp_region_held_drew (S := (fun w' => Below w1.heap.size w1 w')) (by kernel_rfl) ?_ (fun hHeld => ?_)
  · try dsimp only
    exact (by repeat (first | exact Below.refl _ _ | assumption | refine Below.drew ?_ | refine Below.drewN ?_ _ | refine Below.allocT ?_ (Nat.le_refl _) _ | refine Below.setCell ?_ (by simp <;> omega) _ | refine Below.to ?_ (by assumption) (Nat.le_refl _)))
  refine zT 0 rfl ?_
  refine zT 1 rfl ?_
  refine zT 2 rfl ?_
  refine zT 3 rfl ?_
  refine zT 4 rfl ?_
  refine zT 5 rfl ?_
  refine wpAnyH_ready (rs := [6]) (by kernel_rfl) (by simp) ?_
  refine AllReadyH.cons rfl (fun K hK => ?_) AllReadyH.nil
  go_simp
  ((go_at_call 103; refine (length_wire Af x.form.length qf _ _ _ _ _ _ _ _ _ _ _ _ l _ (HH1.out.up (by repeat (first | exact Below.refl _ _ | assumption | refine Below.drew ?_ | refine Below.drewN ?_ _ | refine Below.allocT ?_ (Nat.le_refl _) _ | refine Below.setCell ?_ (by simp <;> omega) _ | refine Below.to ?_ (by assumption) (Nat.le_refl _)))) OK.out hk HX.out).mono ?_; rintro e w5 ⟨rfl, hB5⟩))
  (try dsimp only)
  refine hK.out _ _ ?_ (fun hNext => ?_)
  · try dsimp only
    exact (by repeat (first | exact Below.refl _ _ | assumption | refine Below.drew ?_ | refine Below.drewN ?_ _ | refine Below.allocT ?_ (Nat.le_refl _) _ | refine Below.setCell ?_ (by simp <;> omega) _ | refine Below.to ?_ (by assumption) (Nat.le_refl _)))
  clear hK K hHeld
  have hHeld := hNext
  clear hNext
  (try dsimp only at hHeld)
  try simp only [zX]
  refine zT 7 rfl ?_
  refine zT 8 rfl ?_
  refine wpAnyH_done (by kernel_rfl) ?_ _
  go_wp2_with fail
  go_ret2
  exact ⟨rfl, Below.to HB1.out hHeld (Nat.le_refl _)⟩
end Go.Proofs.YtehadoecnmfeoaaGreat
/- The program's copper of a variant: walk. -/
namespace Go.Proofs.YtehadoecnmfeoaaGreat
open Go.RowKit
set_option linter.unusedVariables false
set_option linter.unusedSimpArgs false
noncomputable def copF (l : Lo) (v : List Bool) (i : Nat) : Int := if inB l v i then lenW l i * (l.ws.getD i Wi.o).size else 0
def copE (l : Lo) (v : List Bool) : Int := havE l (decide (v.length = l.m.opts.length))
noncomputable def copN (l : Lo) (v : List Bool) : Int := if copE l v = 0 then sumN (copF l v) l.ws.length else 0
theorem copE_ok {l : Lo} {v : List Bool} (h : copE l v = 0) : LoOk l ∧ v.length = l.m.opts.length := by
  obtain ⟨h1, h2⟩ := havE_ok h
  exact ⟨h1, of_decide_eq_true h2⟩
end Go.Proofs.YtehadoecnmfeoaaGreat

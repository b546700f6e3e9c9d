/- The greatest current of a cycle: walks of both. -/
import Derived.Test.YtejjjijaojkohaaRows
import Derived.Test.YtejjjijaojkohaaW9
import Derived.Deep.RegionHeld3
namespace Go.Proofs.Ytejjjijaojkohaa
open Go.RowKit
set_option linter.unusedVariables false
set_option linter.unusedSimpArgs false

/-- The greatest current of the first k parts of a cycle. -/
def maxTo (cs : List Cu) : Nat → Int
  | 0 => 0
  | k + 1 => max (maxTo cs k) (cs.getD k Cu.z).amps
def gtI (cs : List Cu) : Int := maxTo cs cs.length
theorem maxTo_range {cs : List Cu} (hok : cycOk cs = true) : ∀ k, k ≤ cs.length → 0 ≤ maxTo cs k ∧ maxTo cs k ≤ 500
  | 0, _ => by simp [maxTo]
  | k + 1, h => by
    have h1 := maxTo_range hok k (by omega)
    have h2 : (cs.getD k Cu.z) ∈ cs := by
      rw [List.getD_eq_getElem?_getD, List.getElem?_eq_getElem (by omega)]
      exact List.getElem_mem _
    have h3 := cycOk_cu hok h2
    unfold maxTo
    omega
theorem gtI_range {cs : List Cu} (hok : cycOk cs = true) : 0 ≤ gtI cs ∧ gtI cs ≤ 500 := maxTo_range hok _ (Nat.le_refl _)

theorem rgreatest_any (v : Value) (cs : List Cu) (w : World) (hok : cycOk cs = true) (h : Cyc w w.heap.size v cs) :
    Calls Try.prog 83 #[v] w fun e w' => e = .returned (.int .i64 (gtI cs)) ∧ Below w.heap.size w w' := by
  obtain ⟨A, b, off, cap, rfl, hnc, hA, hc⟩ := h
  have HC := hide hc; clear hc
  have HA := hide hA; clear hA
  have HOK := hide hok; clear hok
  have hlen := (cycOk_len HOK.out).2
  go_enter Try.func83, Try.ntmps83
  go_wp2
  go_loop [3, 4] (fun n i => ∃ (k : Nat) (x : Int), k ≤ cs.length ∧ i = .int .i64 k ∧ n = .int .i64 x ∧ Hid (maxTo cs k = x)) (fun _ i => cs.length - (intOf i).toNat)
  case atStart => exact ⟨0, 0, Nat.zero_le _, rfl, rfl, rfl⟩
  case round =>
    obtain ⟨k, x, hk, rfl, rfl, hx⟩ := hrel
    by_cases hlt : k < cs.length
    · obtain ⟨c, HZ, hA1, h0, h1⟩ := cyAt (Below.refl _ w) HA.out HC.out hlt
      subst hA1
      go_wp2
      go_round
      case rel => exact ⟨k + 1, max x c.amps, by omega, by go_num, congrArg (Value.int IntKind.i64) (by first | rfl | omega | (split <;> omega)), (by show _ = _; rw [show maxTo cs (k + 1) = max (maxTo cs k) (cs.getD k Cu.z).amps from rfl, hx.out, HZ.out])⟩
      case measure => simp [intOf]; omega
    · go_wp2
      go_ret
      exact ⟨ret_int (by rw [← hx.out, show k = cs.length by omega]; rfl), (by repeat (first | exact Below.refl _ _ | assumption | refine Below.drew ?_ | refine Below.drewN ?_ _ | refine Below.allocT ?_ (Nat.le_refl _) _ | refine Below.setCell ?_ (by simp <;> omega) _ | refine Below.to ?_ (by assumption) (Nat.le_refl _)))⟩

def cmpI (a b : Int) : Int := if a < b then -1 else if b < a then 1 else 0
theorem isNaN_any (a : Int) (w : World) : Calls Try.prog 111 #[.int .i64 a] w fun e w' => e = .returned (.bool false) ∧ w = w' := by
  go_enter Try.func111, Try.ntmps111
  go_wp2
  go_ret
  exact ⟨by simp, rfl⟩
theorem compare_any (a b : Int) (w : World) : Calls Try.prog 103 #[.int .i64 a, .int .i64 b] w fun e w' => e = .returned (.int .i64 (cmpI a b)) ∧ w = w' := by
  by_cases h1 : a < b
  · go_enter Try.func103, Try.ntmps103
    go_wp2_with (go_at_call 111; refine (isNaN_any _ _).mono ?_; rintro e w' ⟨rfl, rfl⟩)
    go_ret
    exact ⟨ret_int (by simp [cmpI, h1]), rfl⟩
  · by_cases h2 : b < a
    · go_enter Try.func103, Try.ntmps103
      go_wp2_with (go_at_call 111; refine (isNaN_any _ _).mono ?_; rintro e w' ⟨rfl, rfl⟩)
      go_ret
      exact ⟨ret_int (by simp [cmpI, h1, h2]), rfl⟩
    · go_enter Try.func103, Try.ntmps103
      go_wp2_with (go_at_call 111; refine (isNaN_any _ _).mono ?_; rintro e w' ⟨rfl, rfl⟩)
      go_ret
      exact ⟨ret_int (by unfold cmpI; rw [if_neg (by omega), if_neg (by omega)]), rfl⟩
theorem cmpCu_any (a b c d : Int) (w : World) : Calls Try.prog 102 #[.agg #[.int .i64 a, .int .i64 c], .agg #[.int .i64 b, .int .i64 d]] w fun e w' => e = .returned (.int .i64 (cmpI a b)) ∧ Below w.heap.size w w' := by
  go_enter Try.func102, Try.ntmps102
  go_wp2_with (go_at_call 103; refine (compare_any _ _ _).mono ?_; rintro e w' ⟨rfl, rfl⟩)
  go_ret
  exact ⟨rfl, (by repeat (first | exact Below.refl _ _ | assumption | refine Below.drew ?_ | refine Below.drewN ?_ _ | refine Below.allocT ?_ (Nat.le_refl _) _ | refine Below.setCell ?_ (by simp <;> omega) _ | refine Below.to ?_ (by assumption) (Nat.le_refl _)))⟩

theorem results_cell1 {P : Program} {fn : Func} {p : Tmp} {ty : TypeId} (h : fn.results = #[.cell p ty]) (tmps : Array Value) (w : World) :
    (results fn tmps).run P w = ((asAddr (tmps.getD p undef)).run P w).andThen fun a w₁ => (loadVar ty a).run P w₁ := by
  simp only [results, h]
  simp [Sem.run_bind, Result.andThen]
  try (congr; done)
theorem mx_keep {wr w4 : World} {b o m : Nat} {a s x y : Int} (hB : Below wr.heap.size wr w4) (hb : b < wr.heap.size) (h0 : wr.cell? ⟨b, o, none⟩ = some (.int .i64 a)) (h1 : wr.cell? ⟨b, o + 1, none⟩ = some (.int .i64 s)) (hm : wr.heap[m]? = some (.cells #[.int .i64 x, .int .i64 y] 54 (0, 0))) :
    w4.cell? ⟨b, o, none⟩ = some (.int .i64 a) ∧ w4.cell? ⟨b, o + 1, none⟩ = some (.int .i64 s) ∧ w4.cell? ⟨m, 0, none⟩ = some (.int .i64 x) ∧ w4.cell? ⟨m, 1, none⟩ = some (.int .i64 y) ∧ Below wr.heap.size wr w4 :=
  ⟨(hB.cell (p := ⟨b, o, none⟩) hb).trans h0, (hB.cell (p := ⟨b, o + 1, none⟩) hb).trans h1, cellOf (box_to hm hB) 0, cellOf (box_to hm hB) 1, hB⟩

set_option maxRecDepth 100000 in
theorem maxFunc_any (v : Value) (cs : List Cu) (w : World) (hok : cycOk cs = true) (h : Cyc w w.heap.size v cs) :
    Calls Try.prog 101 #[v, .func (.func 102) #[] #[]] w
      fun e w' => (∃ s, e = .returned (.agg #[.int .i64 (gtI cs), .int .i64 s])) ∧ Below w.heap.size w w' := by
  obtain ⟨A, b, off, cap, rfl, hnc, hA, hc⟩ := h
  have HC := hide hc; clear hc
  have HA := hide hA; clear hA
  have HOK := hide hok; clear hok
  obtain ⟨hlen1, hlen2⟩ := cycOk_len HOK.out
  obtain ⟨c0, HZ0, hA1, e0, e1⟩ := cyAt (Below.refl _ w) HA.out HC.out (k := 0) (by omega)
  subst hA1
  have hbw : b < w.heap.size := cyB HA.out (by omega)
  have hfirst : maxTo cs 1 = c0.amps := by
    have h2 : (cs.getD 0 Cu.z) ∈ cs := by
      rw [List.getD_eq_getElem?_getD, List.getElem?_eq_getElem (by omega)]
      exact List.getElem_mem _
    have h3 := cycOk_cu HOK.out h2
    rw [HZ0.out] at h3
    rw [show maxTo cs 1 = max 0 (cs.getD 0 Cu.z).amps from rfl, HZ0.out]
    omega
  have HFI := hide hfirst
  clear hfirst
  rw [show off + 0 * 2 = off by omega] at e0 e1
  go_enter Try.func101, Try.ntmps101
  go_wp2
  go_loopw [6] (fun i wr => ∃ (k : Nat) (x s : Int), 1 ≤ k ∧ k ≤ cs.length ∧ i = .int .i64 k ∧ Hid (maxTo cs k = x) ∧ Hid (wr.heap[w.heap.size + 1]? = some (.cells #[.int .i64 x, .int .i64 s] 54 (0, 0))) ∧ Hid (wr.heap[w.heap.size]? = some (.cells #[.int .i64 0, .int .i64 0] 54 (0, 0))) ∧ Below w.heap.size w wr) (fun i _ => cs.length - (intOf i).toNat)
  case atStart =>
    refine ⟨1, c0.amps, c0.secs, by omega, hlen1, rfl, HFI.out, ?_, ?_, ?_⟩
    · show _ = _
      rw [heap_new _ _ _ (by simp)]
    · show _ = _
      rw [heap_old _ _ _ (by simp), heap_new _ _ _ rfl]
    · exact (by repeat (first | exact Below.refl _ _ | assumption | refine Below.drew ?_ | refine Below.drewN ?_ _ | refine Below.allocT ?_ (Nat.le_refl _) _ | refine Below.setCell ?_ (by simp <;> omega) _ | refine Below.to ?_ (by assumption) (Nat.le_refl _)))
  case round =>
    obtain ⟨k, x, s, hk1, hk, rfl, hx, hm, hr, hB⟩ := hrel
    have m0 : wr.cell? ⟨w.heap.size + 1, 0, none⟩ = some (.int .i64 x) := cellOf hm.out 0
    have m1 : wr.cell? ⟨w.heap.size + 1, 1, none⟩ = some (.int .i64 s) := cellOf hm.out 1
    by_cases hlt : k < cs.length
    · obtain ⟨c, hc⟩ : ∃ c, cs.getD k Cu.z = c := ⟨_, rfl⟩
      obtain ⟨h0, h1⟩ := cyAt2 hB hbw HC.out hlt hc
      have HZ := hide hc
      obtain ⟨cv, hcv⟩ : ∃ cv, cmpI c.amps x = cv := ⟨_, rfl⟩
      have HCV := hide hcv
      have hcx : 0 < cv ∧ x < c.amps ∨ ¬ 0 < cv ∧ c.amps ≤ x := by
        rw [← hcv]; unfold cmpI
        split
        · omega
        · split <;> omega
      clear hcv hc
      have hbs : b < wr.heap.size := Nat.lt_of_lt_of_le hbw hB.size
      go_wp2_with fail
      rcases hcx with ⟨hc1, hc2⟩ | ⟨hc1, hc2⟩
      · go_region_held3 (fun w' => w'.cell? ⟨b, off + k * 2, none⟩ = some (.int .i64 c.amps) ∧ w'.cell? ⟨b, off + k * 2 + 1, none⟩ = some (.int .i64 c.secs) ∧ w'.cell? ⟨w.heap.size + 1, 0, none⟩ = some (.int .i64 x) ∧ w'.cell? ⟨w.heap.size + 1, 1, none⟩ = some (.int .i64 s) ∧ Below wr.heap.size wr w')
          (exact mx_keep (by repeat (first | exact Below.refl _ _ | assumption | refine Below.drew ?_ | refine Below.drewN ?_ _ | refine Below.allocT ?_ (Nat.le_refl _) _ | refine Below.setCell ?_ (by simp <;> omega) _ | refine Below.to ?_ (by assumption) (Nat.le_refl _))) hbs h0 h1 hm.out)
          ((go_at_call 102; refine (cmpCu_any c.amps x c.secs s _).mono ?_; rw [HCV.out]; rintro e w4 ⟨rfl, hB4⟩))
        rename_i hh
        obtain ⟨g0, g1, g2, g3, hB5⟩ := hh
        have hm5 := box_to hm.out hB5
        have hr5 := box_to hr.out hB5
        have fm0 : w4.frozen? ⟨w.heap.size + 1, 0, none⟩ = false := unfrozenOf hm5 0
        have fm1 : w4.frozen? ⟨w.heap.size + 1, 1, none⟩ = false := unfrozenOf hm5 1
        have HM5 := hide hm5
        have HR5 := hide hr5
        clear hm5 hr5 m0 m1 h0 h1
        go_wp2_with fail
        go_roundw
        case rel => exact ⟨k + 1, c.amps, c.secs, by omega, by omega, by go_num, (by show _ = _; rw [show maxTo cs (k + 1) = max (maxTo cs k) (cs.getD k Cu.z).amps from rfl, hx.out, HZ.out]; omega), setCellOf (setCellOf HM5.out _) _, (by show _ = _; rw [Below.heap_setCell _ _ _ _ (by simp), Below.heap_setCell _ _ _ _ (by simp)]; exact HR5.out), Below.setCell (Below.setCell (Below.to hB hB5 (Nat.le_refl _)) (by simp) _) (by simp) _⟩
        case measure => simp [intOf]; omega
      · go_region_held3 (fun w' => w'.cell? ⟨b, off + k * 2, none⟩ = some (.int .i64 c.amps) ∧ w'.cell? ⟨b, off + k * 2 + 1, none⟩ = some (.int .i64 c.secs) ∧ w'.cell? ⟨w.heap.size + 1, 0, none⟩ = some (.int .i64 x) ∧ w'.cell? ⟨w.heap.size + 1, 1, none⟩ = some (.int .i64 s) ∧ Below wr.heap.size wr w')
          (exact mx_keep (by repeat (first | exact Below.refl _ _ | assumption | refine Below.drew ?_ | refine Below.drewN ?_ _ | refine Below.allocT ?_ (Nat.le_refl _) _ | refine Below.setCell ?_ (by simp <;> omega) _ | refine Below.to ?_ (by assumption) (Nat.le_refl _))) hbs h0 h1 hm.out)
          ((go_at_call 102; refine (cmpCu_any c.amps x c.secs s _).mono ?_; rw [HCV.out]; rintro e w4 ⟨rfl, hB4⟩))
        rename_i hh
        obtain ⟨g0, g1, g2, g3, hB5⟩ := hh
        go_wp2_with fail
        go_roundw
        case rel => exact ⟨k + 1, x, s, by omega, by omega, by go_num, (by show _ = _; rw [show maxTo cs (k + 1) = max (maxTo cs k) (cs.getD k Cu.z).amps from rfl, hx.out, HZ.out]; omega), box_to hm.out hB5, box_to hr.out hB5, Below.to hB hB5 (Nat.le_refl _)⟩
        case measure => simp [intOf]; omega
    · have fr0 : wr.frozen? ⟨w.heap.size, 0, none⟩ = false := unfrozenOf hr.out 0
      have fr1 : wr.frozen? ⟨w.heap.size, 1, none⟩ = false := unfrozenOf hr.out 1
      have r0 : wr.cell? ⟨w.heap.size, 0, none⟩ = some (.int .i64 0) := cellOf hr.out 0
      have r1 : wr.cell? ⟨w.heap.size, 1, none⟩ = some (.int .i64 0) := cellOf hr.out 1
      go_wp2_with fail
      have hW : ((wr.setCell ⟨w.heap.size, 0, none⟩ (.int .i64 x)).setCell ⟨w.heap.size, 1, none⟩ (.int .i64 s)).heap[w.heap.size]? = some (.cells #[.int .i64 x, .int .i64 s] 54 (0, 0)) := setCellOf (setCellOf hr.out _) _
      have hBz : Below w.heap.size w ((wr.setCell ⟨w.heap.size, 0, none⟩ (.int .i64 x)).setCell ⟨w.heap.size, 1, none⟩ (.int .i64 s)) := Below.setCell (Below.setCell hB (by simp) _) (by simp) _
      obtain ⟨wz, hwz⟩ : ∃ wz : World, (wr.setCell ⟨w.heap.size, 0, none⟩ (.int .i64 x)).setCell ⟨w.heap.size, 1, none⟩ (.int .i64 s) = wz := ⟨_, rfl⟩
      rw [hwz] at hW hBz ⊢
      have z0 : wz.cell? ⟨w.heap.size, 0, none⟩ = some (.int .i64 x) := cellOf hW 0
      have z1 : wz.cell? ⟨w.heap.size, 1, none⟩ = some (.int .i64 s) := cellOf hW 1
      clear r0 r1 fr0 fr1 m0 m1
      refine bodyPost_ret (v := .agg #[.int .i64 x, .int .i64 s]) ?_ rfl ⟨⟨s, ?_⟩, hBz⟩
      · rw [results_cell1 rfl]
        go_simp
      · rw [show gtI cs = x from by rw [← hx.out, show k = cs.length by omega]; rfl]

theorem field_cu (a s : Int) (w : World) : Sem.run Try.prog (Instr.field 54 (.agg #[.int .i64 a, .int .i64 s]) 0) w = .ok (.int .i64 a) w := by kernel_rfl
set_option maxRecDepth 100000 in
theorem greatest_any (v : Value) (cs : List Cu) (w : World) (hok : cycOk cs = true) (h : Cyc w w.heap.size v cs) :
    Calls Try.prog 82 #[v] w fun e w' => e = .returned (.int .i64 (gtI cs)) ∧ Below w.heap.size w w' := by
  have H := hide h
  have HOK := hide hok
  obtain ⟨A, cap, rfl⟩ := h.form
  clear h hok
  go_enter Try.func82, Try.ntmps82
  go_wp2_with fail
  refine (maxFunc_any _ cs _ HOK.out H.out).mono ?_
  rintro e w1 ⟨⟨s, rfl⟩, hB1⟩
  have hfl := field_cu (gtI cs) s w1
  go_wp2_with fail
  go_ret
  exact ⟨rfl, hB1⟩
end Go.Proofs.Ytejjjijaojkohaa

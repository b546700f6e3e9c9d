/- Count: walk. -/
import Derived.Test.YtohofcmikfkilaaRows
import Derived.Test.YtohofcmikfkilaaF13
namespace Go.Proofs.Ytohofcmikfkilaa
open Go.RowKit
set_option linter.unusedVariables false
set_option linter.unusedSimpArgs false
/-- The buildable variants in which a formula holds. -/
def satM (m : Mo) (p : (Nat → Bool) → Bool) : List (List Bool) := (exts m.opts.length []).filter fun x => allF (vf x) m.rules && p (vf x)
theorem satM_node {m : Mo} {ks : List Kn} {N n : Nat} {p : (Nat → Bool) → Bool} (hN : N = m.opts.length) (h : ∀ v, ev ks v n = (allF v m.rules && p v)) : sat ks N n [] = satM m p := by
  unfold sat satM
  rw [hN]
  exact List.filter_congr fun x _ => h _
/-- One formula in a new block is a list of formulas. -/
theorem forms_one {w : World} {b B : Nat} {fv : Value} {f : List Int} {t : Nat} (hb : w.heap[b]? = some (.cells #[fv] t (0, 0))) (hB : b < B) (h : Ints w B fv f) : Forms w B (.slice (some ⟨b, 0, none⟩) 1 1) [f] :=
  ⟨fun _ => fv, ⟨_, b, 0, 1, rfl, Nat.le_refl _, .inl ⟨rfl, hB⟩, fun i j hi hj => by
    simp at hi
    obtain rfl : j = 0 := by omega
    subst hi
    exact cellOf hb 0⟩, fun i hi => by
    simp at hi
    subst hi
    exact h⟩
theorem sized_one {f : List Int} (h : f.length ≤ maxLen) : Sized [f] := ⟨by unfold maxLen; simp, fun g hg => by simp at hg; rw [hg]; exact h⟩
/-- After begin and further steps all that was there before is as it was. -/
theorem OpR.low {m : Mo} {w w1 w2 : World} {F F2 : Fo} {n k : Nat} (h : BegR m w w1 F n) (r : OpR k w1 F w2 F2) : Below w.heap.size w w2 := by
  have hb := r.st.below h.here h.base2
  exact ⟨hb.os.trans h.below.os, hb.tape.trans h.below.tape, hb.output.trans h.below.output, Nat.le_trans h.below.size hb.size, fun k hk => (hb.block k (Nat.lt_of_lt_of_le hk h.base)).trans (h.below.block k hk)⟩
theorem BegR.of {m : Mo} {w w0 w1 : World} {F : Fo} {n : Nat} (h : BegR m w0 w1 F n) (hb : Below w.heap.size w w0) : BegR m w w1 F n :=
  ⟨h.here, h.N, Nat.le_trans hb.size h.base, Below.to hb h.below (Nat.le_refl _), h.base2, h.lt, h.ev, h.len, h.nj⟩
theorem BegR.op {m : Mo} {w w1 : World} {F : Fo} {n : Nat} (h : BegR m w w1 F n) : OpR 0 w1 F w1 F := OpR.refl h.here 0
theorem grow_beg {m : Mo} {w w1 w2 : World} {F F1 : Fo} {n k : Nat} {f : List Int} {fv : Value} (h : BegR m w w1 F n) (hN : m.opts.length ≤ 12) (r : OpR k w1 F w2 F1) (hk : k + 100 ≤ 200000) (hf : Ints w w.heap.size fv f) (hv : validF m.opts.length f = true) :
    Calls Try.prog 61 #[.pointer (some ⟨F.p, 0, none⟩), fv] w2
      fun e w' => ∃ g F', e = .returned (.int .i64 (g : Nat)) ∧ OpR (k + 100) w1 F w' F' ∧ OpR 100 w2 F1 w' F' ∧ g < F'.ks.length ∧ ∀ v, ev F'.ks v g = evF1 v f := by
  have hl := (validF_pos hv).2
  have hc := grow_any F1 f fv w2 r.st.here (by rw [r.st.ba]; exact Nat.le_trans h.base2 r.st.keep.size) (by rw [r.st.N, h.N]; exact hv) (by
    rw [r.st.ba]
    exact (hf.below (r.low h)).more h.base) ((h.room hN (k := k + 100) hk |>.step r).mono hl)
  rw [r.st.p] at hc
  refine hc.mono ?_
  rintro e w' ⟨g, F', rfl, r1, r2, r3⟩
  exact ⟨g, F', rfl, r.trans (r1.mono hl), r1.mono hl, r2, r3⟩
/-- and of some nodes, in a block that was just made. -/
theorem and_beg {m : Mo} {w w1 w2 : World} {F F1 : Fo} {n k : Nat} {l : List Nat} (h : BegR m w w1 F n) (hN : m.opts.length ≤ 12) (r : OpR k w1 F w2 F1) (hk : k + 4 ≤ 200000) (hl : l.length ≤ 4) (hln : ∀ x ∈ l, x < F1.ks.length) :
    Calls Try.prog 73 #[.pointer (some ⟨F.p, 0, none⟩), .slice (some ⟨w2.heap.size, 0, none⟩) l.length l.length] (w2.alloc (.cells (l.map fun (n : Nat) => Value.int .i64 n).toArray 3))
      fun e w' => ∃ g F', e = .returned (.int .i64 (g : Nat)) ∧ OpR (k + 4) w1 F w' F' ∧ OpR 4 w2 F1 w' F' ∧ g < F'.ks.length ∧ ∀ v, ev F'.ks v g = l.all (fun x => ev F1.ks v x) := by
  have hB : Below w2.heap.size w2 (w2.alloc (.cells (l.map fun (n : Nat) => Value.int .i64 n).toArray 3)) := (Below.refl _ _).alloc (Nat.le_refl _) _
  have hc := and_any F1 w2.heap.size l _ (r.st.here.below hB) hln (heap_new _ _ _ rfl) (fun e => by have := r.st.here.slt e; omega) (by omega) ((h.room hN (k := k + 4) hk |>.step r).mono hl)
  rw [r.st.p] at hc
  refine hc.mono ?_
  rintro e w' ⟨g, F', rfl, r1, r2, r3⟩
  have r4 : OpR 4 w2 F1 w' F' := (OpR.after_below r.st.here hB r1).mono hl
  exact ⟨g, F', rfl, r.trans r4, r4, r2, r3⟩
set_option maxRecDepth 100000 in
theorem Count_err (m : Mo) (f : List Int) (ov rv fv : Value) (w : World) (hs : SizedM m) (hl : f.length ≤ maxLen) (h : MoAt w w.heap.size ov rv m) (hf : Ints w w.heap.size fv f) (he : m.errF [f] ≠ 0) :
    Calls Try.prog 31 #[.agg #[ov, rv], fv] w fun e w' => e = .returned (.tuple #[.int .i64 0, .int .i64 (m.errF [f])]) ∧ Below w.heap.size w w' := by
  obtain ⟨A, cap, hov⟩ := Sl.form h.o
  obtain ⟨Ar, capr, hrv⟩ := h.r.form
  obtain ⟨Al, capl, hlv⟩ := Sl.form hf
  have H := hide h
  have HF := hide hf
  subst hov hrv hlv
  have hB2 : Below w.heap.size w ((w.alloc (.cells #[.slice A m.opts.length cap, .slice Ar m.rules.length capr] 25)).alloc (.cells #[.slice Al f.length capl] 35)) := (by repeat (first | exact Below.refl _ _ | assumption | refine Below.drew ?_ | refine Below.drewN ?_ _ | refine Below.allocT ?_ (Nat.le_refl _) _ | refine Below.setCell ?_ (by simp <;> omega) _ | refine Below.to ?_ (by assumption) (Nat.le_refl _)))
  have hbe := begin_err m [f] (.slice A m.opts.length cap) (.slice Ar m.rules.length capr) (.slice (some ⟨w.heap.size + 1, 0, none⟩) 1 1) _ hs (sized_one hl) (h.up hB2) (forms_one (heap_new _ _ _ (by simp)) (by simp) (hf.up hB2)) he
  have hne : (m.errF [f] != 0) = true := by simpa using he
  obtain ⟨z, hz⟩ : ∃ z, m.errF [f] = z := ⟨_, rfl⟩
  rw [hz] at hne hbe ⊢
  have HBE := hide hbe
  clear h hf hz he hbe hB2
  go_enter Try.func31, Try.ntmps31
  go_wp2_with (go_at_call 60; refine HBE.out.mono ?_; rintro e w1 ⟨rfl, hB1⟩)
  go_ret2
  exact ⟨rfl, (by repeat (first | exact Below.refl _ _ | assumption | refine Below.drew ?_ | refine Below.drewN ?_ _ | refine Below.allocT ?_ (Nat.le_refl _) _ | refine Below.setCell ?_ (by simp <;> omega) _ | refine Below.to ?_ (by assumption) (Nat.le_refl _)))⟩
set_option maxRecDepth 100000 in
set_option maxHeartbeats 1000000 in
theorem Count_ok (m : Mo) (f : List Int) (ov rv fv : Value) (w : World) (hs : SizedM m) (hl : f.length ≤ maxLen) (h : MoAt w w.heap.size ov rv m) (hf : Ints w w.heap.size fv f) (he : m.errF [f] = 0) (hN : m.opts.length ≤ 12) :
    Calls Try.prog 31 #[.agg #[ov, rv], fv] w fun e w' => e = .returned (.tuple #[.int .i64 ((satM m fun v => evF1 v f).length : Nat), .int .i64 0]) ∧ Below w.heap.size w w' := by
  have hmm := @run_makeMap Try.prog
  obtain ⟨A, cap, hov⟩ := Sl.form h.o
  obtain ⟨Ar, capr, hrv⟩ := h.r.form
  obtain ⟨Al, capl, hlv⟩ := Sl.form hf
  have H := hide h
  have HF := hide hf
  have HOK := hide (Mo.okF he)
  subst hov hrv hlv
  have hB2 : Below w.heap.size w ((w.alloc (.cells #[.slice A m.opts.length cap, .slice Ar m.rules.length capr] 25)).alloc (.cells #[.slice Al f.length capl] 35)) := (by repeat (first | exact Below.refl _ _ | assumption | refine Below.drew ?_ | refine Below.drewN ?_ _ | refine Below.allocT ?_ (Nat.le_refl _) _ | refine Below.setCell ?_ (by simp <;> omega) _ | refine Below.to ?_ (by assumption) (Nat.le_refl _)))
  have hbe := begin_ok m [f] (.slice A m.opts.length cap) (.slice Ar m.rules.length capr) (.slice (some ⟨w.heap.size + 1, 0, none⟩) 1 1) _ hs (sized_one hl) (h.up hB2) (forms_one (heap_new _ _ _ (by simp)) (by simp) (hf.up hB2)) he hN
  have HBE := hide hbe
  clear h hf he hbe hB2
  go_enter Try.func31, Try.ntmps31
  go_wp2_with (go_at_call 60; refine HBE.out.mono ?_; rintro e w1 ⟨F, n, rfl, r1⟩; have R1 : Hid (BegR m w w1 F n) := r1.of (by repeat (first | exact Below.refl _ _ | assumption | refine Below.drew ?_ | refine Below.drewN ?_ _ | refine Below.allocT ?_ (Nat.le_refl _) _ | refine Below.setCell ?_ (by simp <;> omega) _ | refine Below.to ?_ (by assumption) (Nat.le_refl _))); clear r1)
  refine (grow_beg R1.out hN R1.out.op (by omega) HF.out (HOK.out.2 f (by simp))).mono ?_
  rintro e w2 ⟨g, F2, rfl, r2, r3, hg, r4⟩
  have R2 := hide r2
  have R4 := hide r4
  have R3 := hide r3
  have hn2 : n < F2.ks.length := Nat.lt_of_lt_of_le R1.out.lt r3.st.le
  clear r2 r3 r4
  go_wp2_with fail
  refine (and_beg (l := [n, g]) R1.out hN R2.out (by omega) (by simp) (by intro x hx; simp at hx; rcases hx with rfl | rfl <;> assumption)).mono ?_
  rintro e w3 ⟨x, F3, rfl, r5, r6, hx, r7⟩
  have R5 := hide r5
  have R7 := hide r7
  have hN3 : F3.N = m.opts.length := r5.st.N.trans R1.out.N
  have hp : 2 ^ (F3.N + 1) ≤ 2 ^ 13 := Nat.pow_le_pow_right (by omega) (by omega)
  have hB3 : Below w3.heap.size w3 (w3.alloc (.map #[] 0)) := (Below.refl _ _).alloc (Nat.le_refl _) _
  have hco := count_any F3 w3.heap.size (fun e => by have := r5.st.here.slt e; omega) (by omega) F3.N x 0 (w3.alloc (.map #[] 0)) (fun _ => none) 0 (r5.st.here.below hB3) hx (by omega) (by omega) (MapIs.made _ _ _ _ _) (fun n x h => by cases h) (by omega)
  rw [r5.st.p] at hco
  have HCO := hide hco
  have HN3 := hide hN3
  clear r5 r6 r7 hco hN3 hp hB3
  go_wp2_with fail
  refine HCO.out.mono ?_
  rintro e w4 ⟨m', cnt', rfl, r8⟩
  have R8 := hide r8
  clear r8
  go_wp2_with fail
  go_ret2
  refine ⟨?_, ?_⟩
  · have h1 : cntK F3.ks F3.N x 0 = (satM m fun v => evF1 v f).length := by
      unfold cntK
      rw [show List.replicate 0 false = ([] : List Bool) from rfl, satM_node (p := fun v => evF1 v f) HN3.out (fun v => by rw [R7.out v, List.all_cons, List.all_cons, List.all_nil, R4.out v, R3.out.st.ev R1.out.here.wf R1.out.lt, R1.out.ev v, Bool.and_true])]
    rw [h1]; rfl
  · have h2 := R5.out.low R1.out
    have h3 := R8.out.keep.below (B := w.heap.size) (by have := h2.size; simp; omega) (fun k hk => by rw [hk]; exact h2.size)
    exact (Below.allocT h2 (Nat.le_refl _) _).trans h3
end Go.Proofs.Ytohofcmikfkilaa

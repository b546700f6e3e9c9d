/- Group J of this claim's texts: walks and plain laws. -/
import Derived.Test.YtohofcmikfkilaaRows
import Derived.Test.YtohofcmikfkilaaTCI
import Derived.Test.YtohofcmikfkilaaTCG
import Derived.Deep.RegionHeld3
import Derived.Deep.DrawnRows
import Derived.Test.YtohofcmikfkilaaTCH
import Derived.Test.YtohofcmikfkilaaTCF
/- The order of variants. Plain laws. -/
namespace Go.Proofs.Ytohofcmikfkilaa
set_option linter.unusedVariables false
/-- Whether a variant comes before another one. -/
def befB : List Bool → List Bool → Bool
  | a :: x, b :: y => if a = b then befB x y else b
  | _, _ => false
end Go.Proofs.Ytohofcmikfkilaa
/- Which variant comes before; the sum of a variant: walks. -/
namespace Go.Proofs.Ytohofcmikfkilaa
open Go.RowKit
set_option linter.unusedVariables false
set_option linter.unusedSimpArgs false
end Go.Proofs.Ytohofcmikfkilaa
/- The first variant in which a node holds. Plain laws. -/
namespace Go.Proofs.Ytohofcmikfkilaa
set_option linter.unusedVariables false
structure HeadI (ks : List Kn) (N n : Nat) (l : List Bool) (m : Nat) : Prop where
  head : (sat ks N n []).head? = (sat ks N m l).head?
  ne : m ≠ 0
  lt : m < ks.length
  top : l.length ≤ topK ks m
theorem HeadI.start {ks : List Kn} {N n : Nat} (hn : n < ks.length) (h0 : n ≠ 0) : HeadI ks N n [] n := ⟨rfl, h0, hn, Nat.zero_le _⟩
theorem HeadI.next {ks : List Kn} {N n m : Nat} {l : List Bool} (hw : WF N ks) (h : HeadI ks N n l m) (hl : l.length < N) : HeadI ks N n (l ++ [decide (brK ks m l.length false = 0)]) (brK ks m l.length (decide (brK ks m l.length false = 0))) := by
  have hst := sat_step hw h.lt hl
  have hne := sat_ne hw h.lt h.ne h.top
  by_cases h0 : brK ks m l.length false = 0
  · have hd : decide (brK ks m l.length false = 0) = true := decide_eq_true h0
    rw [hd]
    rw [h0, sat_zero, List.nil_append] at hst
    refine ⟨h.head.trans (by rw [hst]), fun e => ?_, brK_lt hw h.lt hl, ?_⟩
    · rw [e, sat_zero] at hst
      exact hne hst
    · rw [List.length_append]; exact brK_top hw h.lt hl h.top
  · have hd : decide (brK ks m l.length false = 0) = false := decide_eq_false h0
    rw [hd]
    have hb := brK_lt hw (b := false) h.lt hl
    have htop : (l ++ [false]).length ≤ topK ks (brK ks m l.length false) := by rw [List.length_append]; exact brK_top hw h.lt hl h.top
    refine ⟨h.head.trans ?_, h0, hb, htop⟩
    rw [hst]
    have h5 := sat_ne hw hb h0 htop
    match sat ks N (brK ks m l.length false) (l ++ [false]), h5 with
    | [], h5 => exact absurd rfl h5
    | x :: r, _ => rfl
theorem HeadI.finish {ks : List Kn} {N n m : Nat} {l : List Bool} (hw : WF N ks) (h : HeadI ks N n l m) (hl : l.length = N) : (sat ks N n []).head? = some l := by
  have h1 : m = 1 := by
    rcases Nat.lt_or_ge m 2 with h2 | h2
    · have := h.ne; omega
    · have h3 := hw.opt m h2 h.lt
      have h4 := h.top
      omega
  rw [h.head, h1, sat_one, hl, Nat.sub_self]
  rfl
end Go.Proofs.Ytohofcmikfkilaa
/- The first variant in which a node holds: walk. -/
namespace Go.Proofs.Ytohofcmikfkilaa
open Go.RowKit
set_option linter.unusedVariables false
set_option linter.unusedSimpArgs false
set_option maxRecDepth 100000 in
theorem firstNo_any (F : Fo) (w : World) :
    Calls Try.prog 82 #[.pointer (some ⟨F.p, 0, none⟩), .int .i64 0] w fun e w' => e = .returned (.slice none 0 0) ∧ w = w' := by
  go_enter Try.func82, Try.ntmps82
  go_wp2_with fail
  go_ret
  exact ⟨rfl, rfl⟩
def FirR (F : Fo) (n : Nat) (w : World) (e : Ending) (w' : World) : Prop := ∃ x : List Bool, e = .returned (.slice (some ⟨w.heap.size, 0, none⟩) F.N F.N) ∧ VarAt w' w.heap.size F.N x ∧ x.length = F.N ∧ (sat F.ks F.N n []).head? = some x ∧ Below w.heap.size w w'
set_option maxRecDepth 100000 in
set_option maxHeartbeats 4000000 in
theorem firstYes_any (F : Fo) (n : Nat) (w : World) (h : FoAt w F) (hn : n < F.ks.length) (h0 : n ≠ 0) (hN : F.N ≤ 12) :
    Calls Try.prog 82 #[.pointer (some ⟨F.p, 0, none⟩), .int .i64 n] w (FirR F n w) := by
  obtain ⟨i1, hi1, jz0, jz1, jz2⟩ := info_parts infoBool
  have hmk : ∀ W : World, (Instr.makeSlice 29 (.int .i64 F.N) (.int .i64 F.N)).run Try.prog W = .ok (.slice (some ⟨W.heap.size, 0, none⟩) F.N F.N) (W.alloc (.cells (madeCells #[.bool false] (F.N * 1)) 4)) := fun W => by
    have h1 := run_make (P := Try.prog) W 29 4 i1 (.bool false) Try.underlying29 hi1 jz0 .i64 .i64 F.N F.N (by omega) (Int.le_refl _) (by rw [jz2]; omega) (by omega)
    rw [jz1] at h1
    simpa [Value.cells] using h1
  have d0 := h.cellN
  have h01 : ((n : Int) == 0) = false := by simp; omega
  have HS := hide (HeadI.start (N := F.N) hn h0)
  have H := hide h
  clear h hn h0
  go_enter Try.func82, Try.ntmps82
  go_wp2_with fail
  generalize hw0 : World.alloc _ _ = w0
  obtain ⟨hb0, hB0, hs0⟩ := alloc1 hw0
  clear hw0
  have hva : VarAt w0 w.heap.size F.N [] := by
    unfold VarAt
    rw [hb0, made_bools]
    rfl
  have HVA := hide hva
  have HB0 := hide hB0
  clear hb0 hB0 hs0 hva hmk
  go_loopw [1, 16] (fun nv i wr => ∃ (k : Nat) (l : List Bool) (m : Nat), k ≤ F.N ∧ l.length = k ∧ i = .int .i64 k ∧ nv = .int .i64 m ∧ Hid (HeadI F.ks F.N n l m) ∧ Hid (VarAt wr w.heap.size F.N l) ∧ Hid (Below w.heap.size w wr)) (fun _ i _ => F.N - (intOf i).toNat)
  case atStart => exact ⟨0, [], n, Nat.zero_le _, rfl, rfl, rfl, HS.out, HVA.out, HB0.out⟩
  case round =>
    obtain ⟨k, l, m, hk, hll, rfl, rfl, hI, hV, hB⟩ := hrel
    by_cases hlt : k < F.N
    · have hF := H.out.below hB.out
      have e0 := hF.cellN
      have hb1 := branch_any F m k false wr hF hI.out.lt
      have HF := hide hF
      have hnx := hI.out.next hF.wf (by omega)
      rw [hll] at hnx
      obtain ⟨c, hc⟩ : ∃ c, brK F.ks m k false = c := ⟨_, rfl⟩
      obtain ⟨b, hb⟩ : ∃ b, decide (c = 0) = b := ⟨_, rfl⟩
      rw [hc, hb] at hnx
      rw [hc] at hb1
      have hcb : ((c : Int) == 0) = b := by
        rw [← hb]
        by_cases h0 : c = 0
        · simp [h0]
        · simp [h0]
      have HB1 := hide hb1
      have HNX := hide hnx
      have HLL := hide hll
      have j0 : (k : Int) < (F.N : Int) := by omega
      have v0 : wr.cell? ⟨w.heap.size, k, none⟩ = some (.bool false) := by rw [← hll]; exact hV.out.cell (by omega)
      clear hF hb1 hnx hll hc hb
      go_wp2_with fail
      refine HB1.out.mono ?_
      rintro e w1 ⟨rfl, hB1⟩
      have hV1 := hV.out.below hB1
      have x0 : w1.cell? ⟨w.heap.size, k, none⟩ = some (.bool false) := by rw [← HLL.out]; exact hV1.cell (by rw [HLL.out]; exact hlt)
      have x1 : w1.frozen? ⟨w.heap.size, k, none⟩ = false := unfrozenOf hV1 _
      have HV1 := hide hV1
      have HB1' := hide hB1
      clear hV1 hB1 v0
      go_wp2_with fail
      generalize hw9 : World.setCell _ _ _ = w9
      have hV9 : VarAt w9 w.heap.size F.N (l ++ [b]) := by
        rw [← hw9]
        have h1 := HV1.out.set (by rw [HLL.out]; exact hlt) b
        rw [HLL.out] at h1
        exact h1
      have hB9 : Below w.heap.size w w9 := by
        rw [← hw9]
        exact (Below.to hB.out HB1'.out (Nat.le_refl _)).setCell (Nat.le_refl _) _
      have y0 : w9.cell? ⟨w.heap.size, k, none⟩ = some (.bool b) := by
        rw [cellOf hV9]
        have hk1 : k < (l ++ [b]).length := by simp [HLL.out]
        simp [List.getElem?_append, HLL.out]
      have hb2 := branch_any F m k b w9 (H.out.below hB9) hI.out.lt
      have HB2 := hide hb2
      have HV9 := hide hV9
      have HB9 := hide hB9
      clear hw9 hV9 hB9 x0 x1 hb2
      go_wp2_with fail
      refine HB2.out.mono ?_
      rintro e w10 ⟨rfl, hB10⟩
      have HB10 := hide hB10
      clear hB10 y0
      go_wp2_with fail
      go_roundw
      case rel => exact ⟨k + 1, l ++ [b], _, by omega, by simp [HLL.out], by go_num, rfl, HNX.out, HV9.out.below HB10.out, Below.to HB9.out HB10.out (Nat.le_refl _)⟩
      case measure => simp [intOf]; omega
    · obtain rfl : k = F.N := by omega
      have hfin := hI.out.finish H.out.wf hll
      have HFIN := hide hfin
      have HLL := hide hll
      clear hfin hll
      go_wp2_with fail
      go_ret
      exact ⟨l, rfl, hV.out, HLL.out, HFIN.out, hB.out⟩
end Go.Proofs.Ytohofcmikfkilaa
/- Whether formulas can be met; whether one implies another: walks. -/
namespace Go.Proofs.Ytohofcmikfkilaa
open Go.RowKit
set_option linter.unusedVariables false
set_option linter.unusedSimpArgs false
theorem not_beg {m : Mo} {w w1 w2 : World} {F F1 : Fo} {n k x : Nat} (h : BegR m w w1 F n) (hN : m.opts.length ≤ 12) (r : OpR k w1 F w2 F1) (hk : k + 1 ≤ 200000) (hx : x < F1.ks.length) :
    Calls Try.prog 83 #[.pointer (some ⟨F.p, 0, none⟩), .int .i64 x] w2
      fun e w' => ∃ g F', e = .returned (.int .i64 (g : Nat)) ∧ OpR (k + 1) w1 F w' F' ∧ OpR 1 w2 F1 w' F' ∧ g < F'.ks.length ∧ ∀ v, ev F'.ks v g = !ev F1.ks v x := by
  have hc := not_any F1 x w2 r.st.here hx ((h.room hN (k := k + 1) hk |>.step r))
  rw [r.st.p] at hc
  refine hc.mono ?_
  rintro e w' ⟨g, F', rfl, r1, r2, r3⟩
  exact ⟨g, F', rfl, r.trans r1, r1, r2, r3⟩
/-- A variant (or none), whether so, and an error. -/
def MeeP (x : List Bool) (is : Bool) (er : Int) (w : World) (e : Ending) (w' : World) : Prop := ∃ v, e = .returned (.tuple #[v, .bool is, .int .i64 er]) ∧ Bols w' w'.heap.size v x ∧ Below w.heap.size w w'
/-- What Meets returns. -/
def meeL (m : Mo) (l : List (List Int)) : List (List Bool) := satM m fun v => allF v l
def meeX (m : Mo) (l : List (List Int)) : List Bool := if frmE m l = 0 then (meeL m l).head?.getD [] else []
def meeB (m : Mo) (l : List (List Int)) : Bool := if frmE m l = 0 then !(meeL m l).isEmpty else false
theorem MeeP.bad {x : List Bool} {b : Bool} {er : Int} {w w' : World} (h : x = [] ∧ b = false) (hb : Below w.heap.size w w') : MeeP x b er w (.returned (.tuple #[.slice none 0 0, .bool false, .int .i64 er])) w' := by
  obtain ⟨rfl, rfl⟩ := h
  exact ⟨_, rfl, Sl.nil _ _ _ _, hb⟩
/-- What Implies returns. -/
def impL (m : Mo) (f g : List Int) : List (List Bool) := satM m fun v => evF1 v f && !evF1 v g
def impX (m : Mo) (f g : List Int) : List Bool := if m.errF [f, g] = 0 then (impL m f g).head?.getD [] else []
def impB (m : Mo) (f g : List Int) : Bool := if m.errF [f, g] = 0 then (impL m f g).isEmpty else false
theorem imp_bad {m : Mo} {f g : List Int} (h : m.errF [f, g] ≠ 0) : impX m f g = [] ∧ impB m f g = false := by unfold impX impB; rw [if_neg h, if_neg h]; exact ⟨rfl, rfl⟩
theorem FirR.bols {F : Fo} {b : Nat} {w' : World} {x : List Bool} (hV : VarAt w' b F.N x) (hx : x.length = F.N) : Bols w' w'.heap.size (.slice (some ⟨b, 0, none⟩) F.N F.N) x := by
  have h1 := VarAt.bols (w := w') (b := b) (l := x) (by rw [hx]; exact hV)
  rw [hx] at h1
  exact h1
/-- first, in one: the variant that it gives. -/
def FstP (F : Fo) (n : Nat) (w : World) (e : Ending) (w' : World) : Prop := ∃ v, e = .returned v ∧ Bols w' w'.heap.size v ((sat F.ks F.N n []).head?.getD []) ∧ Below w.heap.size w w'
theorem first_any (F : Fo) (n : Nat) (w : World) (h : FoAt w F) (hn : n < F.ks.length) (hN : F.N ≤ 12) :
    Calls Try.prog 82 #[.pointer (some ⟨F.p, 0, none⟩), .int .i64 n] w (FstP F n w) := by
  by_cases h0 : n = 0
  · subst h0
    refine (firstNo_any F w).mono ?_
    rintro e w' ⟨rfl, rfl⟩
    refine ⟨_, rfl, ?_, Below.refl _ _⟩
    rw [sat_zero]
    exact Sl.nil _ _ _ _
  · refine (firstYes_any F n w h hn h0 hN).mono ?_
    rintro e w' ⟨x, rfl, h1, h2, h3, h4⟩
    refine ⟨_, rfl, ?_, h4⟩
    rw [h3]
    exact FirR.bols h1 h2
/-- Whether a node is no. -/
theorem node_no {F : Fo} {w : World} {n : Nat} (h : FoAt w F) (hn : n < F.ks.length) : decide (n = 0) = (sat F.ks F.N n []).isEmpty := by
  by_cases h0 : n = 0
  · rw [h0, sat_zero]; rfl
  · have h1 := sat_ne h.wf hn h0 (l := []) (Nat.zero_le _)
    rw [decide_eq_false h0]
    match sat F.ks F.N n [], h1 with
    | a :: r, _ => rfl
theorem forms_two {w : World} {b B : Nat} {fv gv : Value} {f g : List Int} {t : Nat} (hb : w.heap[b]? = some (.cells #[fv, gv] t (0, 0))) (hB : b < B) (h : Ints w B fv f) (h2 : Ints w B gv g) : Forms w B (.slice (some ⟨b, 0, none⟩) 2 2) [f, g] :=
  ⟨fun i => if i = 0 then fv else gv, ⟨_, b, 0, 2, rfl, Nat.le_refl _, .inl ⟨rfl, hB⟩, fun i j hi hj => by
    simp at hi
    obtain rfl : j = 0 := by omega
    rcases (by omega : i = 0 ∨ i = 1) with rfl | rfl
    · exact cellOf hb 0
    · exact cellOf hb 1⟩, fun i hi => by
    simp at hi
    rcases (by omega : i = 0 ∨ i = 1) with rfl | rfl
    · exact h
    · exact h2⟩
theorem sized_two {f g : List Int} (h : f.length ≤ maxLen) (h2 : g.length ≤ maxLen) : Sized [f, g] := ⟨by unfold maxLen; simp, fun x hg => by simp at hg; rcases hg with rfl | rfl <;> assumption⟩
set_option maxRecDepth 100000 in
set_option maxHeartbeats 4000000 in
theorem Implies_err (m : Mo) (f g : List Int) (ov rv fv gv : Value) (w : World) (hs : SizedM m) (hl : f.length ≤ maxLen) (hl2 : g.length ≤ maxLen) (h : MoAt w w.heap.size ov rv m) (hf : Ints w w.heap.size fv f) (hg : Ints w w.heap.size gv g) (he : m.errF [f, g] ≠ 0) :
    Calls Try.prog 43 #[.agg #[ov, rv], fv, gv] w (MeeP (impX m f g) (impB m f g) (m.errF [f, g]) w) := by
  obtain ⟨A, cap, hov⟩ := Sl.form h.o
  obtain ⟨Ar, capr, hrv⟩ := h.r.form
  obtain ⟨Al, capl, hlv⟩ := Sl.form hf
  obtain ⟨Ag, capg, hgv⟩ := Sl.form hg
  have H := hide h
  have HF := hide hf
  have HG := hide hg
  subst hov hrv hlv hgv
  have hB2 : Below w.heap.size w ((w.alloc (.cells #[.slice A m.opts.length cap, .slice Ar m.rules.length capr] 25)).alloc (.cells #[.slice Al f.length capl, .slice Ag g.length capg] 35)) := (by repeat (first | exact Below.refl _ _ | assumption | refine Below.drew ?_ | refine Below.drewN ?_ _ | refine Below.allocT ?_ (Nat.le_refl _) _ | refine Below.setCell ?_ (by simp <;> omega) _ | refine Below.to ?_ (by assumption) (Nat.le_refl _)))
  have hbe := begin_err m [f, g] (.slice A m.opts.length cap) (.slice Ar m.rules.length capr) (.slice (some ⟨w.heap.size + 1, 0, none⟩) 2 2) _ hs (sized_two hl hl2) (h.up hB2) (forms_two (heap_new _ _ _ (by simp)) (by simp) (hf.up hB2) (hg.up hB2)) he
  have hbad := imp_bad he
  have hne : (m.errF [f, g] != 0) = true := by simpa using he
  obtain ⟨z, hz⟩ : ∃ z, m.errF [f, g] = z := ⟨_, rfl⟩
  rw [hz] at hne hbe
  have HZ := hide hz
  have HBE := hide hbe
  have HBAD := hide hbad
  clear h hf hg hz he hbe hB2 hbad
  go_enter Try.func43, Try.ntmps43
  go_wp2_with (go_at_call 60; refine HBE.out.mono ?_; rintro e w1 ⟨rfl, hB1⟩)
  go_ret3
  rw [HZ.out]
  exact MeeP.bad HBAD.out (by repeat (first | exact Below.refl _ _ | assumption | refine Below.drew ?_ | refine Below.drewN ?_ _ | refine Below.allocT ?_ (Nat.le_refl _) _ | refine Below.setCell ?_ (by simp <;> omega) _ | refine Below.to ?_ (by assumption) (Nat.le_refl _)))
set_option maxRecDepth 100000 in
set_option maxHeartbeats 4000000 in
theorem Implies_ok (m : Mo) (f g : List Int) (ov rv fv gv : Value) (w : World) (hs : SizedM m) (hl : f.length ≤ maxLen) (hl2 : g.length ≤ maxLen) (h : MoAt w w.heap.size ov rv m) (hf : Ints w w.heap.size fv f) (hg : Ints w w.heap.size gv g) (he : m.errF [f, g] = 0) (hN : m.opts.length ≤ 12) :
    Calls Try.prog 43 #[.agg #[ov, rv], fv, gv] w (MeeP (impX m f g) (impB m f g) (m.errF [f, g]) w) := by
  obtain ⟨A, cap, hov⟩ := Sl.form h.o
  obtain ⟨Ar, capr, hrv⟩ := h.r.form
  obtain ⟨Al, capl, hlv⟩ := Sl.form hf
  obtain ⟨Ag, capg, hgv⟩ := Sl.form hg
  have H := hide h
  have HF := hide hf
  have HG := hide hg
  subst hov hrv hlv hgv
  have hB2 : Below w.heap.size w ((w.alloc (.cells #[.slice A m.opts.length cap, .slice Ar m.rules.length capr] 25)).alloc (.cells #[.slice Al f.length capl, .slice Ag g.length capg] 35)) := (by repeat (first | exact Below.refl _ _ | assumption | refine Below.drew ?_ | refine Below.drewN ?_ _ | refine Below.allocT ?_ (Nat.le_refl _) _ | refine Below.setCell ?_ (by simp <;> omega) _ | refine Below.to ?_ (by assumption) (Nat.le_refl _)))
  have hbe := begin_ok m [f, g] (.slice A m.opts.length cap) (.slice Ar m.rules.length capr) (.slice (some ⟨w.heap.size + 1, 0, none⟩) 2 2) _ hs (sized_two hl hl2) (h.up hB2) (forms_two (heap_new _ _ _ (by simp)) (by simp) (hf.up hB2) (hg.up hB2)) he hN
  have HBE := hide hbe
  have HE := hide he
  have HOK := hide (Mo.okF he)
  clear h hf hg he hbe hB2
  go_enter Try.func43, Try.ntmps43
  go_wp2_with (go_at_call 60; refine HBE.out.mono ?_; rintro e w1 ⟨F, n, rfl, r1⟩; have R1 : Hid (BegR m w w1 F n) := r1.of (by repeat (first | exact Below.refl _ _ | assumption | refine Below.drew ?_ | refine Below.drewN ?_ _ | refine Below.allocT ?_ (Nat.le_refl _) _ | refine Below.setCell ?_ (by simp <;> omega) _ | refine Below.to ?_ (by assumption) (Nat.le_refl _))); clear r1)
  refine (grow_beg R1.out hN R1.out.op (by omega) HF.out (HOK.out.2 f (by simp))).mono ?_
  rintro e w2 ⟨a, F2, rfl, r2, r3, ha, r4⟩
  have R2 := hide r2
  have R3 := hide r3
  have R4 := hide r4
  clear r2 r3 r4
  go_wp2_with fail
  refine (grow_beg R1.out hN R2.out (by omega) HG.out (HOK.out.2 g (by simp))).mono ?_
  rintro e w3 ⟨b, F3, rfl, r5, r6, hb, r7⟩
  have R5 := hide r5
  have R6 := hide r6
  have R7 := hide r7
  clear r5 r6 r7
  go_wp2_with fail
  refine (not_beg R1.out hN R5.out (by omega) hb).mono ?_
  rintro e w4 ⟨c, F4, rfl, r8, r9, hc, r10⟩
  have R8 := hide r8
  have hev4 : ∀ v, ev F4.ks v n = allF v m.rules ∧ ev F4.ks v a = evF1 v f ∧ ev F4.ks v c = !evF1 v g := fun v => by
    have hn2 := Nat.lt_of_lt_of_le R1.out.lt R3.out.st.le
    have hn3 := Nat.lt_of_lt_of_le hn2 R6.out.st.le
    have ha3 := Nat.lt_of_lt_of_le ha R6.out.st.le
    refine ⟨?_, ?_, ?_⟩
    · rw [r9.st.ev R5.out.st.here.wf hn3, R6.out.st.ev R2.out.st.here.wf hn2, R3.out.st.ev R1.out.here.wf R1.out.lt, R1.out.ev v]
    · rw [r9.st.ev R5.out.st.here.wf ha3, R6.out.st.ev R2.out.st.here.wf ha, R4.out v]
    · rw [r10 v, R7.out v]
  have HEV := hide hev4
  have hn4 : n < F4.ks.length := Nat.lt_of_lt_of_le (Nat.lt_of_lt_of_le (Nat.lt_of_lt_of_le R1.out.lt R3.out.st.le) R6.out.st.le) r9.st.le
  have ha4 : a < F4.ks.length := Nat.lt_of_lt_of_le (Nat.lt_of_lt_of_le ha R6.out.st.le) r9.st.le
  clear r8 r9 r10 hev4
  go_wp2_with fail
  refine (and_beg (l := [n, a, c]) R1.out hN R8.out (by omega) (by simp) (by intro x hx; simp at hx; rcases hx with rfl | rfl | rfl <;> assumption)).mono ?_
  rintro e w5 ⟨x, F5, rfl, r11, _, hx, r12⟩
  have hN3 : F5.N = m.opts.length := r11.st.N.trans R1.out.N
  have hsat : sat F5.ks F5.N x [] = impL m f g := satM_node (p := fun v => evF1 v f && !evF1 v g) hN3 (fun v => by rw [r12 v, List.all_cons, List.all_cons, List.all_cons, List.all_nil, (HEV.out v).1, (HEV.out v).2.1, (HEV.out v).2.2, Bool.and_true])
  have hfi := first_any F5 x w5 r11.st.here hx (by omega)
  rw [r11.st.p] at hfi
  have hno := node_no r11.st.here hx
  rw [hsat] at hno
  have hx1 : ((x : Int) == 0) = (impL m f g).isEmpty := by
    rw [← hno]
    by_cases h0 : x = 0
    · simp [h0]
    · simp [h0]
  obtain ⟨y, hy⟩ : ∃ b, (impL m f g).isEmpty = b := ⟨_, rfl⟩
  rw [hy] at hx1
  have HSAT := hide hsat
  have HFI := hide hfi
  have HLOW := hide (r11.low R1.out)
  have HB := hide hy
  clear r11 r12 hN3 hsat hfi hno hy
  go_wp2_with fail
  refine HFI.out.mono ?_
  rintro e w6 ⟨v6, rfl, hv6, hB6⟩
  rw [HSAT.out] at hv6
  have HV6 := hide hv6
  have HB6 := hide hB6
  clear hv6 hB6
  go_wp2_with fail
  go_ret3
  rw [HE.out]
  refine ⟨v6, ?_, ?_, Below.to HLOW.out HB6.out (Nat.le_refl _)⟩
  · unfold impB
    rw [HE.out, if_pos rfl, HB.out]
    rfl
  · unfold impX
    rw [HE.out, if_pos rfl]
    exact HV6.out
theorem Implies_any (m : Mo) (f g : List Int) (ov rv fv gv : Value) (w : World) (hs : SizedM m) (hl : f.length ≤ maxLen) (hl2 : g.length ≤ maxLen) (h : MoAt w w.heap.size ov rv m) (hf : Ints w w.heap.size fv f) (hg : Ints w w.heap.size gv g) (hN : m.err = 0 → m.opts.length ≤ 12) :
    Calls Try.prog 43 #[.agg #[ov, rv], fv, gv] w (MeeP (impX m f g) (impB m f g) (m.errF [f, g]) w) := by
  by_cases he : m.errF [f, g] = 0
  · exact Implies_ok m f g ov rv fv gv w hs hl hl2 h hf hg he (hN (Mo.okF he).1)
  · exact Implies_err m f g ov rv fv gv w hs hl hl2 h hf hg he
end Go.Proofs.Ytohofcmikfkilaa
/- Meets and Implies as the elder program has them: walks. -/
namespace Go.Proofs.Ytohofcmikfkilaa
open Go.RowKit
set_option linter.unusedVariables false
set_option linter.unusedSimpArgs false
/-- Those of the buildable variants in which the first k formulas hold. -/
def whereK (m : Mo) (l : List (List Int)) (k : Nat) : List (List Bool) := (l.take k).foldl whereF (allM m)
end Go.Proofs.Ytohofcmikfkilaa
/- Arguments opened: sums and pairs of formulas; lengths of the answers. No condition. -/
namespace Go.Proofs.Ytohofcmikfkilaa
open Go.Joins Go.ChangeShapes Go.WideShapes Go.ChangeAt Go.RowKit Go.Deep
set_option maxRecDepth 100000
set_option linter.unusedVariables false
set_option linter.unusedSimpArgs false
section
variable {H : Type} {enc : TypeId × Value → H} {W : World} {base b0 : Nat} {r : Reach} {spare : Nat → Bool} {held : Bool} {v : Value} {d : DataW H} {p : List MemPlace}
end
end Go.Proofs.Ytohofcmikfkilaa

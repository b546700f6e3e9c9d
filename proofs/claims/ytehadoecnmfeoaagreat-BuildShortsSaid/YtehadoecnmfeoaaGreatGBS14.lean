/- Part 14 of this claim's texts: walks and plain laws. -/
import Derived.Test.YtehadoecnmfeoaaGreatRows
import Derived.Test.YtehadoecnmfeoaaGreatGBS13
import Derived.Test.YtehadoecnmfeoaaGreatGBS12
set_option linter.unusedVariables false
set_option linter.unusedSimpArgs false
set_option linter.unusedSectionVars false
namespace Go.Proofs.YtehadoecnmfeoaaGreat
structure HeadI (ks : List Kn) (N n : Nat) (l : List Bool) (m : Nat) : Prop where
 head : (sat ks N n []).head? = (sat ks N m l).head?
 ne : m ≠ 0
 lt : m < ks.length
 top : l.length ≤ topK ks m
theorem HeadI.start {ks : List Kn} {N n : Nat} (hn : n < ks.length) (h0 : n ≠ 0) : HeadI ks N n [] n := ⟨rfl, h0, hn, Nat.zero_le _⟩
theorem HeadI.next {ks : List Kn} {N n m : Nat} {l : List Bool} (hw : WF N ks) (h : HeadI ks N n l m) (hl : l.length < N) : HeadI ks N n (l ++ [decide (brK ks m l.length false = 0)]) (brK ks m l.length (decide (brK ks m l.length false = 0))) := by
 have hst := sat_step hw h.lt hl
 have hne := sat_ne hw h.lt h.ne h.top
 by_cases h0 : brK ks m l.length false = 0
 ·
  have hd : decide (brK ks m l.length false = 0) = true := decide_eq_true h0
  rw [hd]
  rw [h0, sat_zero, List.nil_append] at hst
  refine ⟨h.head.trans (by rw [hst]), fun e => ?_, brK_lt hw h.lt hl, ?_⟩
  ·
   rw [e, sat_zero] at hst
   exact hne hst
  ·
   rw [List.length_append]; exact brK_top hw h.lt hl h.top
 ·
  have hd : decide (brK ks m l.length false = 0) = false := decide_eq_false h0
  rw [hd]
  have hb := brK_lt hw (b := false) h.lt hl
  have htop : (l ++ [false]).length ≤ topK ks (brK ks m l.length false) := by rw [List.length_append]; exact brK_top hw h.lt hl h.top
  refine ⟨h.head.trans ?_, h0, hb, htop⟩
  rw [hst]
  have h5 := sat_ne hw hb h0 htop
  match sat ks N (brK ks m l.length false) (l ++ [false]), h5 with
  | [], h5 => exact absurd rfl h5
  | x :: r, _ => rfl
theorem HeadI.finish {ks : List Kn} {N n m : Nat} {l : List Bool} (hw : WF N ks) (h : HeadI ks N n l m) (hl : l.length = N) : (sat ks N n []).head? = some l := by
 have h1 : m = 1 := by
  rcases Nat.lt_or_ge m 2 with h2 | h2
  ·
   have := h.ne; omega
  ·
   have h3 := hw.opt m h2 h.lt
   have h4 := h.top
   omega
 rw [h.head, h1, sat_one, hl, Nat.sub_self]
 rfl
end Go.Proofs.YtehadoecnmfeoaaGreat
namespace Go.Proofs.YtehadoecnmfeoaaGreat
open Go.RowKit
set_option maxRecDepth 100000 in
theorem firstNo_any (F : Fo) (w : World) :
  Calls Tryz.prog 122 #[.pointer (some ⟨F.p, 0, none⟩), .int .i64 0] w fun e w' => e = .returned (.slice none 0 0) ∧ w = w' := by
 go_enter Tryz.func122, Tryz.ntmps122
 go_wp2_with fail
 go_ret
 exact ⟨rfl, rfl⟩
def FirR (F : Fo) (n : Nat) (w : World) (e : Ending) (w' : World) : Prop := ∃ x : List Bool, e = .returned (.slice (some ⟨w.heap.size, 0, none⟩) F.N F.N) ∧ VarAt w' w.heap.size F.N x ∧ x.length = F.N ∧ (sat F.ks F.N n []).head? = some x ∧ Below w.heap.size w w'
set_option maxRecDepth 100000 in
set_option maxHeartbeats 4000000 in
theorem firstYes_any (F : Fo) (n : Nat) (w : World) (h : FoAt w F) (hn : n < F.ks.length) (h0 : n ≠ 0) (hN : F.N ≤ 12) :
  Calls Tryz.prog 122 #[.pointer (some ⟨F.p, 0, none⟩), .int .i64 n] w (FirR F n w) := by
 obtain ⟨i1, hi1, jz0, jz1, jz2⟩ := info_parts infoBool
 have hmk : ∀ W : World, (Instr.makeSlice 35 (.int .i64 F.N) (.int .i64 F.N)).run Tryz.prog W = .ok (.slice (some ⟨W.heap.size, 0, none⟩) F.N F.N) (W.alloc (.cells (madeCells #[.bool false] (F.N * 1)) 4)) := fun W => by
  have h1 := run_make (P := Tryz.prog) W 35 4 i1 (.bool false) Tryz.underlying35 hi1 jz0 .i64 .i64 F.N F.N (by omega) (Int.le_refl _) (by rw [jz2]; omega) (by omega)
  rw [jz1] at h1
  simpa [Value.cells] using h1
 have d0 := h.cellN
 have h01 : ((n : Int) == 0) = false := by simp; omega
 have HS := hide (HeadI.start (N := F.N) hn h0)
 have H := hide h
 clear h hn h0
 go_enter Tryz.func122, Tryz.ntmps122
 go_wp2_with fail
 generalize hw0 : World.alloc _ _ = w0
 obtain ⟨hb0, hB0, hs0⟩ := alloc1 hw0
 clear hw0
 have hva : VarAt w0 w.heap.size F.N [] := by
  unfold VarAt
  rw [hb0, made_bools]
  rfl
 have HVA := hide hva
 have HB0 := hide hB0
 clear hb0 hB0 hs0 hva hmk
 go_loopw [1, 16] (fun nv i wr => ∃ (k : Nat) (l : List Bool) (m : Nat), k ≤ F.N ∧ l.length = k ∧ i = .int .i64 k ∧ nv = .int .i64 m ∧ Hid (HeadI F.ks F.N n l m) ∧ Hid (VarAt wr w.heap.size F.N l) ∧ Hid (Below w.heap.size w wr)) (fun _ i _ => F.N - (intOf i).toNat)
 case atStart => exact ⟨0, [], n, Nat.zero_le _, rfl, rfl, rfl, HS.out, HVA.out, HB0.out⟩
 case round =>
  obtain ⟨k, l, m, hk, hll, rfl, rfl, hI, hV, hB⟩ := hrel
  by_cases hlt : k < F.N
  ·
   have hF := H.out.below hB.out
   have e0 := hF.cellN
   have hb1 := branch_any F m k false wr hF hI.out.lt
   have HF := hide hF
   have hnx := hI.out.next hF.wf (by omega)
   rw [hll] at hnx
   obtain ⟨c, hc⟩ : ∃ c, brK F.ks m k false = c := ⟨_, rfl⟩
   obtain ⟨b, hb⟩ : ∃ b, decide (c = 0) = b := ⟨_, rfl⟩
   rw [hc, hb] at hnx
   rw [hc] at hb1
   have hcb : ((c : Int) == 0) = b := by
    rw [← hb]
    by_cases h0 : c = 0
    ·
     simp [h0]
    ·
     simp [h0]
   have HB1 := hide hb1
   have HNX := hide hnx
   have HLL := hide hll
   have j0 : (k : Int) < (F.N : Int) := by omega
   have v0 : wr.cell? ⟨w.heap.size, k, none⟩ = some (.bool false) := by rw [← hll]; exact hV.out.cell (by omega)
   clear hF hb1 hnx hll hc hb
   go_wp2_with fail
   refine HB1.out.mono ?_
   rintro e w1 ⟨rfl, hB1⟩
   have hV1 := hV.out.below hB1
   have x0 : w1.cell? ⟨w.heap.size, k, none⟩ = some (.bool false) := by rw [← HLL.out]; exact hV1.cell (by rw [HLL.out]; exact hlt)
   have x1 : w1.frozen? ⟨w.heap.size, k, none⟩ = false := unfrozenOf hV1 _
   have HV1 := hide hV1
   have HB1' := hide hB1
   clear hV1 hB1 v0
   go_wp2_with fail
   generalize hw9 : World.setCell _ _ _ = w9
   have hV9 : VarAt w9 w.heap.size F.N (l ++ [b]) := by
    rw [← hw9]
    have h1 := HV1.out.set (by rw [HLL.out]; exact hlt) b
    rw [HLL.out] at h1
    exact h1
   have hB9 : Below w.heap.size w w9 := by
    rw [← hw9]
    exact (Below.to hB.out HB1'.out (Nat.le_refl _)).setCell (Nat.le_refl _) _
   have y0 : w9.cell? ⟨w.heap.size, k, none⟩ = some (.bool b) := by
    rw [cellOf hV9]
    have hk1 : k < (l ++ [b]).length := by simp [HLL.out]
    simp [List.getElem?_append, HLL.out]
   have hb2 := branch_any F m k b w9 (H.out.below hB9) hI.out.lt
   have HB2 := hide hb2
   have HV9 := hide hV9
   have HB9 := hide hB9
   clear hw9 hV9 hB9 x0 x1 hb2
   go_wp2_with fail
   refine HB2.out.mono ?_
   rintro e w10 ⟨rfl, hB10⟩
   have HB10 := hide hB10
   clear hB10 y0
   go_wp2_with fail
   go_roundw
   case rel => exact ⟨k + 1, l ++ [b], _, by omega, by simp [HLL.out], by go_num, rfl, HNX.out, HV9.out.below HB10.out, Below.to HB9.out HB10.out (Nat.le_refl _)⟩
   case measure => simp [intOf]; omega
  ·
   obtain rfl : k = F.N := by omega
   have hfin := hI.out.finish H.out.wf hll
   have HFIN := hide hfin
   have HLL := hide hll
   clear hfin hll
   go_wp2_with fail
   go_ret
   exact ⟨l, rfl, hV.out, HLL.out, HFIN.out, hB.out⟩
theorem all_beg {m : Mo} {w w1 w2 : World} {F F1 : Fo} {n k : Nat} {l : List (List Int)} {lv : Value} (h : BegR m w w1 F n) (hN : m.opts.length ≤ 12) (r : OpR k w1 F w2 F1) (hl : l.length ≤ 200) (hk : k + 102 * l.length ≤ 200000) (hf : Forms w w.heap.size lv l) (hv : ∀ f ∈ l, validF m.opts.length f = true) :
  Calls Tryz.prog 121 #[.pointer (some ⟨F.p, 0, none⟩), lv] w2
   fun e w' => ∃ g F', e = .returned (.int .i64 (g : Nat)) ∧ OpR (k + 102 * l.length) w1 F w' F' ∧ OpR (102 * l.length) w2 F1 w' F' ∧ g < F'.ks.length ∧ ∀ v, ev F'.ks v g = allF v l := by
 have hc := all_any F1 l lv w2 r.st.here (by rw [r.st.ba]; exact Nat.le_trans h.base2 r.st.keep.size) (by rw [r.st.N, h.N]; exact hv) (by
  rw [r.st.ba]
  exact (hf.below (r.low h)).more h.base) (by omega) ((h.room hN (k := k + 102 * l.length) hk |>.step r))
 rw [r.st.p] at hc
 refine hc.mono ?_
 rintro e w' ⟨g, F', rfl, r1, r2, r3⟩
 exact ⟨g, F', rfl, r.trans r1, r1, r2, r3⟩
theorem not_beg {m : Mo} {w w1 w2 : World} {F F1 : Fo} {n k x : Nat} (h : BegR m w w1 F n) (hN : m.opts.length ≤ 12) (r : OpR k w1 F w2 F1) (hk : k + 1 ≤ 200000) (hx : x < F1.ks.length) :
  Calls Tryz.prog 198 #[.pointer (some ⟨F.p, 0, none⟩), .int .i64 x] w2
   fun e w' => ∃ g F', e = .returned (.int .i64 (g : Nat)) ∧ OpR (k + 1) w1 F w' F' ∧ OpR 1 w2 F1 w' F' ∧ g < F'.ks.length ∧ ∀ v, ev F'.ks v g = !ev F1.ks v x := by
 have hc := not_any F1 x w2 r.st.here hx ((h.room hN (k := k + 1) hk |>.step r))
 rw [r.st.p] at hc
 refine hc.mono ?_
 rintro e w' ⟨g, F', rfl, r1, r2, r3⟩
 exact ⟨g, F', rfl, r.trans r1, r1, r2, r3⟩
def MeeP (x : List Bool) (is : Bool) (er : Int) (w : World) (e : Ending) (w' : World) : Prop := ∃ v, e = .returned (.tuple #[v, .bool is, .int .i64 er]) ∧ Bols w' w'.heap.size v x ∧ Below w.heap.size w w'
def meeL (m : Mo) (l : List (List Int)) : List (List Bool) := satM m fun v => allF v l
def meeX (m : Mo) (l : List (List Int)) : List Bool := if frmE m l = 0 then (meeL m l).head?.getD [] else []
def meeB (m : Mo) (l : List (List Int)) : Bool := if frmE m l = 0 then !(meeL m l).isEmpty else false
def impL (m : Mo) (f g : List Int) : List (List Bool) := satM m fun v => evF1 v f && !evF1 v g
def impX (m : Mo) (f g : List Int) : List Bool := if m.errF [f, g] = 0 then (impL m f g).head?.getD [] else []
def impB (m : Mo) (f g : List Int) : Bool := if m.errF [f, g] = 0 then (impL m f g).isEmpty else false
theorem FirR.bols {F : Fo} {b : Nat} {w' : World} {x : List Bool} (hV : VarAt w' b F.N x) (hx : x.length = F.N) : Bols w' w'.heap.size (.slice (some ⟨b, 0, none⟩) F.N F.N) x := by
 have h1 := VarAt.bols (w := w') (b := b) (l := x) (by rw [hx]; exact hV)
 rw [hx] at h1
 exact h1
def FstP (F : Fo) (n : Nat) (w : World) (e : Ending) (w' : World) : Prop := ∃ v, e = .returned v ∧ Bols w' w'.heap.size v ((sat F.ks F.N n []).head?.getD []) ∧ Below w.heap.size w w'
theorem node_no {F : Fo} {w : World} {n : Nat} (h : FoAt w F) (hn : n < F.ks.length) : decide (n = 0) = (sat F.ks F.N n []).isEmpty := by
 by_cases h0 : n = 0
 ·
  rw [h0, sat_zero]; rfl
 ·
  have h1 := sat_ne h.wf hn h0 (l := []) (Nat.zero_le _)
  rw [decide_eq_false h0]
  match sat F.ks F.N n [], h1 with
  | a :: r, _ => rfl
theorem forms_two {w : World} {b B : Nat} {fv gv : Value} {f g : List Int} {t : Nat} (hb : w.heap[b]? = some (.cells #[fv, gv] t (0, 0))) (hB : b < B) (h : Ints w B fv f) (h2 : Ints w B gv g) : Forms w B (.slice (some ⟨b, 0, none⟩) 2 2) [f, g] :=
 ⟨fun i => if i = 0 then fv else gv, ⟨_, b, 0, 2, rfl, Nat.le_refl _, .inl ⟨rfl, hB⟩, fun i j hi hj => by
  simp at hi
  obtain rfl : j = 0 := by omega
  rcases (by omega : i = 0 ∨ i = 1) with rfl | rfl
  ·
   exact cellOf hb 0
  ·
   exact cellOf hb 1⟩, fun i hi => by
  simp at hi
  rcases (by omega : i = 0 ∨ i = 1) with rfl | rfl
  ·
   exact h
  ·
   exact h2⟩
theorem sized_two {f g : List Int} (h : f.length ≤ maxLen) (h2 : g.length ≤ maxLen) : Sized [f, g] := ⟨by unfold maxLen; simp, fun x hg => by simp at hg; rcases hg with rfl | rfl <;> assumption⟩
def wOk (ws : List Int) : Bool := ws.all fun x => decide (-1000000 ≤ x) && decide (x ≤ 1000000)
def mosE (m : Mo) (l : List (List Int)) (ws : List Int) : Int := if frmE m l ≠ 0 then frmE m l else if ws.length ≠ l.length ∨ wOk ws = false then 1 else if allM m = [] then 12 else 0
def mosN (m : Mo) (l : List (List Int)) (ws : List Int) : Int := if mosE m l ws = 0 then bestF m l ws else 0
def mosX (m : Mo) (l : List (List Int)) (ws : List Int) : List Bool := if mosE m l ws = 0 then ((exts m.opts.length []).find? (fun y => valF m l ws y == bestF m l ws)).getD [] else []
def MosP (n : Int) (x : List Bool) (er : Int) (w : World) (e : Ending) (w' : World) : Prop := ∃ v, e = .returned (.tuple #[.int .i64 n, v, .int .i64 er]) ∧ Bols w' w'.heap.size v x ∧ Below w.heap.size w w'
end Go.Proofs.YtehadoecnmfeoaaGreat
namespace Go.Proofs.YtehadoecnmfeoaaGreat
structure Md where
 f : List Int
 ws : List Int
def Md.o : Md := ⟨[], []⟩
def mdIn (w : Nat) (d : Md) : Bool := d.ws.contains (w : Int)
def withL (ms : List Md) (w : Nat) : List (List Int) := (ms.filter (mdIn w)).map Md.f
def cntV (fs : List (List Int)) (x : List Bool) : Nat := (fs.filter fun g => evF1 (vf x) g).length
def defB (kind : Nat) (is : Bool) (n : Nat) : Bool :=
 match kind with
 | 1 => is && decide (n = 0)
 | 2 => !is && decide (0 < n)
 | _ => is && decide (1 < n)
def frstV (m : Mo) (f : List Int) (fs : List (List Int)) (kind : Nat) : Option (List Bool) := (allM m).find? fun x => defB kind (evF1 (vf x) f) (cntV fs x)
def soon (a b : Option (List Bool)) : Option (List Bool) :=
 match a, b with
 | none, y => y
 | some x, none => some x
 | some x, some y => if befB y x then some y else some x
theorem find_or (P q : List Bool → Bool) : ∀ (L : List (List Bool)), L.Pairwise (fun x y => befB x y = true) → L.find? (fun x => P x || q x) = soon (L.find? P) (L.find? q)
 | [], _ => rfl
 | a :: t, hs => by
  obtain ⟨ha, ht⟩ := List.pairwise_cons.1 hs
  have ih := find_or P q t ht
  rw [List.find?_cons, List.find?_cons, List.find?_cons]
  cases hP : P a with
  | true =>
   simp only [Bool.true_or]
   cases hq : q a with
   | true => simp [soon, befB_self]
   | false =>
    simp only
    cases hy : t.find? q with
    | none => rfl
    | some y =>
     have := befB_asym a y (ha y (List.mem_of_find?_eq_some hy))
     simp [soon, this]
  | false =>
   cases hq : q a with
   | true =>
    simp only [Bool.or_true]
    cases hx : t.find? P with
    | none => rfl
    | some x =>
     have := ha x (List.mem_of_find?_eq_some hx)
     simp [soon, this]
   | false =>
    simp only [Bool.or_false]
    exact ih
theorem head_find {L : List (List Bool)} (p : List Bool → Bool) : (L.filter p).head? = L.find? p := by
 induction L with
 | nil => rfl
 | cons a t ih =>
  rw [List.filter_cons, List.find?_cons]
  cases h : p a with
  | true => simp
  | false =>
   simp only [Bool.false_eq_true, if_false]
   exact ih
theorem cntV_pos {fs : List (List Int)} {x : List Bool} : decide (0 < cntV fs x) = fs.any fun g => evF1 (vf x) g := by
 unfold cntV
 rw [Bool.eq_iff_iff, decide_eq_true_eq, List.length_pos_iff, List.any_eq_true]
 constructor
 ·
  intro h
  obtain ⟨g, hg⟩ := List.exists_mem_of_ne_nil _ h
  exact ⟨g, (List.mem_filter.1 hg).1, by simpa using (List.mem_filter.1 hg).2⟩
 ·
  rintro ⟨g, hg, h⟩ h0
  have : g ∈ fs.filter fun g => evF1 (vf x) g := List.mem_filter.2 ⟨hg, by simpa using h⟩
  rw [h0] at this
  cases this
theorem take_step {fs : List (List Int)} {k : Nat} (hk : k < fs.length) : fs.take (k + 1) = fs.take k ++ [fs.getD k []] := by
 rw [List.take_add_one, List.getElem?_eq_getElem hk, List.getD_eq_getElem?_getD, List.getElem?_eq_getElem hk]
 rfl
def xtrV (m : Mo) (f : List Int) (fs : List (List Int)) (k : Nat) : Option (List Bool) := (allM m).find? fun x => !evF1 (vf x) f && (fs.take k).any fun g => evF1 (vf x) g
theorem xtrV_zero (m : Mo) (f : List Int) (fs : List (List Int)) : xtrV m f fs 0 = none := by
 unfold xtrV
 rw [List.find?_eq_none]
 intro x _
 simp
theorem xtrV_step {m : Mo} {f : List Int} {fs : List (List Int)} {k : Nat} (hk : k < fs.length) : xtrV m f fs (k + 1) = soon (xtrV m f fs k) ((allM m).find? fun x => evF1 (vf x) (fs.getD k []) && !evF1 (vf x) f) := by
 unfold xtrV
 rw [← find_or _ _ _ (allM_sorted m), take_step hk]
 congr 1
 funext x
 rw [List.any_append]
 cases evF1 (vf x) f <;> simp
theorem xtrV_all (m : Mo) (f : List Int) (fs : List (List Int)) : xtrV m f fs fs.length = frstV m f fs 2 := by
 unfold xtrV frstV
 rw [List.take_length]
 congr 1
 funext x
 show _ = (!evF1 (vf x) f && decide (0 < cntV fs x))
 rw [cntV_pos]
def dubB (fs : List (List Int)) (x : List Bool) : Nat → Bool
 | 0 => false
 | i + 1 => dubB fs x i || (evF1 (vf x) (fs.getD i []) && (fs.take i).any fun g => evF1 (vf x) g)
def dubV (m : Mo) (f : List Int) (fs : List (List Int)) (i j : Nat) : Option (List Bool) := (allM m).find? fun x => evF1 (vf x) f && (dubB fs x i || (evF1 (vf x) (fs.getD i []) && (fs.take j).any fun g => evF1 (vf x) g))
theorem dubV_zero (m : Mo) (f : List Int) (fs : List (List Int)) : dubV m f fs 0 0 = none := by
 unfold dubV
 rw [List.find?_eq_none]
 intro x _
 simp [dubB]
theorem dubV_in {m : Mo} {f : List Int} {fs : List (List Int)} {i j : Nat} (hj : j < i) (hi : i < fs.length) : dubV m f fs i (j + 1) = soon (dubV m f fs i j) ((allM m).find? fun x => evF1 (vf x) f && (evF1 (vf x) (fs.getD i []) && evF1 (vf x) (fs.getD j []))) := by
 unfold dubV
 rw [← find_or _ _ _ (allM_sorted m), take_step (by omega)]
 congr 1
 funext x
 rw [List.any_append]
 cases evF1 (vf x) f <;> cases evF1 (vf x) (fs.getD i []) <;> simp [Bool.or_assoc]
theorem dubV_next (m : Mo) (f : List Int) (fs : List (List Int)) (i : Nat) : dubV m f fs i i = dubV m f fs (i + 1) 0 := by
 unfold dubV
 congr 1
 funext x
 simp [dubB]
theorem dubB_all (fs : List (List Int)) (x : List Bool) : ∀ i, i ≤ fs.length → dubB fs x i = decide (1 < cntV (fs.take i) x)
 | 0, _ => by simp [dubB, cntV]
 | i + 1, hi => by
  have ih := dubB_all fs x i (by omega)
  show (dubB fs x i || _) = _
  rw [ih, take_step (by omega), ← cntV_pos]
  unfold cntV
  rw [List.filter_append, List.length_append]
  cases h : evF1 (vf x) (fs.getD i []) with
  | true =>
   simp only [List.filter_cons, h, Bool.true_and, List.filter_nil, if_true, List.length_singleton]
   rw [Bool.eq_iff_iff]
   simp only [Bool.or_eq_true, decide_eq_true_eq]
   omega
  | false =>
   have h2 : evF1 (vf x) (fs[i]?.getD []) = false := by rw [← List.getD_eq_getElem?_getD]; exact h
   simp [h2]
theorem dubV_all (m : Mo) (f : List Int) (fs : List (List Int)) : dubV m f fs fs.length 0 = frstV m f fs 3 := by
 unfold dubV frstV
 congr 1
 funext x
 have h := dubB_all fs x fs.length (Nat.le_refl _)
 rw [List.take_length] at h
 show _ = (evF1 (vf x) f && decide (1 < cntV fs x))
 rw [h]
 simp
theorem lack_sum (x : List Bool) : ∀ (fs : List (List Int)), fsum (vf x) fs (List.replicate fs.length (-1)) = -(cntV fs x : Int)
 | [] => rfl
 | g :: fs => by
  have ih := lack_sum x fs
  show (if evF1 (vf x) g then (-1 : Int) else 0) + fsum (vf x) fs (List.replicate fs.length (-1)) = _
  rw [ih]
  unfold cntV
  cases h : evF1 (vf x) g <;> simp [h] <;> omega
def lackW (fs : List (List Int)) : List Int := ((fs.length + 1 : Nat) : Int) :: List.replicate fs.length (-1)
theorem lack_val {m : Mo} {f : List Int} {fs : List (List Int)} {x : List Bool} (hx : x ∈ allM m) : valF m (f :: fs) (lackW fs) x = (if evF1 (vf x) f then ((fs.length + 1 : Nat) : Int) else 0) - (cntV fs x : Int) := by
 have h1 : allF (vf x) m.rules = true := (List.mem_filter.1 hx).2
 unfold valF
 rw [if_pos h1]
 show (if evF1 (vf x) f then ((fs.length + 1 : Nat) : Int) else 0) + fsum (vf x) fs (List.replicate fs.length (-1)) = _
 rw [lack_sum]
 omega
theorem lack_top {m : Mo} {f : List Int} {fs : List (List Int)} {x : List Bool} (hx : x ∈ allM m) : valF m (f :: fs) (lackW fs) x ≤ ((fs.length + 1 : Nat) : Int) ∧ (valF m (f :: fs) (lackW fs) x = ((fs.length + 1 : Nat) : Int) ↔ defB 1 (evF1 (vf x) f) (cntV fs x) = true) := by
 rw [lack_val hx]
 have h1 : defB 1 (evF1 (vf x) f) (cntV fs x) = (evF1 (vf x) f && decide (cntV fs x = 0)) := rfl
 rw [h1]
 cases evF1 (vf x) f with
 | true => simp; omega
 | false => simp; omega
theorem find_congr6 {p q : List Bool → Bool} : ∀ (L : List (List Bool)), (∀ x ∈ L, p x = q x) → L.find? p = L.find? q
 | [], _ => rfl
 | a :: t, h => by
  rw [List.find?_cons, List.find?_cons, h a (by simp), find_congr6 t fun x hx => h x (by simp [hx])]
theorem find_filter6 (p q : List Bool → Bool) : ∀ (L : List (List Bool)), (L.filter p).find? q = L.find? fun x => p x && q x
 | [] => rfl
 | a :: t => by
  rw [List.filter_cons, List.find?_cons]
  cases hp : p a with
  | true =>
   rw [if_pos rfl, List.find?_cons]
   simp [find_filter6 p q t]
  | false =>
   rw [if_neg (by simp)]
   simp [find_filter6 p q t]
theorem lack_law {m : Mo} {f : List Int} {fs : List (List Int)} {x : List Bool} (hl : fs.length ≤ 1000) (hx : (exts m.opts.length []).find? (fun y => valF m (f :: fs) (lackW fs) y == bestF m (f :: fs) (lackW fs)) = some x) :
  (((fs.length + 1 : Nat) : Int) ≤ bestF m (f :: fs) (lackW fs) → frstV m f fs 1 = some x) ∧ (bestF m (f :: fs) (lackW fs) < ((fs.length + 1 : Nat) : Int) → frstV m f fs 1 = none) := by
 have hmx := List.mem_of_find?_eq_some hx
 have hvx := List.find?_some hx
 simp only [beq_iff_eq] at hvx
 have hbest : ∀ y, y ∈ exts m.opts.length [] → valF m (f :: fs) (lackW fs) y ≤ bestF m (f :: fs) (lackW fs) := fun y hy => maxL_mem _ _ (List.mem_map_of_mem hy)
 constructor
 ·
  intro h
  have hin : x ∈ allM m := by
   refine List.mem_filter.2 ⟨hmx, ?_⟩
   cases ha : allF (vf x) m.rules with
   | true => rfl
   | false =>
    unfold valF at hvx
    rw [ha, if_neg (by simp)] at hvx
    rw [← hvx] at h
    unfold leastI at h
    omega
  have htop := (lack_top (f := f) (fs := fs) hin).1
  rw [← hx]
  unfold frstV allM
  rw [find_filter6]
  refine find_congr6 _ fun y hy => ?_
  cases ha : allF (vf y) m.rules with
  | true =>
   have hyi : y ∈ allM m := List.mem_filter.2 ⟨hy, ha⟩
   have h2 := lack_top (f := f) (fs := fs) hyi
   rw [Bool.true_and, Bool.eq_iff_iff, ← h2.2, beq_iff_eq]
   omega
  | false =>
   have h3 : valF m (f :: fs) (lackW fs) y = leastI := by unfold valF; rw [ha]; rfl
   rw [h3, Bool.false_and]
   symm
   rw [beq_eq_false_iff_ne]
   unfold leastI
   omega
 ·
  intro h
  unfold frstV
  rw [List.find?_eq_none]
  intro y hy hd
  have h2 := lack_top (f := f) (fs := fs) hy
  have h3 := hbest y (List.mem_filter.1 hy).1
  have h4 := h2.2.2 hd
  omega
end Go.Proofs.YtehadoecnmfeoaaGreat

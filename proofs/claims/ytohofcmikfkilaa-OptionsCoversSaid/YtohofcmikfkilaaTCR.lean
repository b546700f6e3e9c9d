/- Group R of this claim's texts: walks and plain laws. -/
import Derived.Test.YtohofcmikfkilaaRows
import Derived.Test.YtohofcmikfkilaaTCH
import Derived.Test.YtohofcmikfkilaaTCJ
import Derived.Test.YtohofcmikfkilaaTCQ
import Derived.Lib.LazyBuf
/- One more combination that is wanted: the closure's walk. -/
namespace Go.Proofs.Ytohofcmikfkilaa
open Go.RowKit
set_option linter.unusedVariables false
set_option linter.unusedSimpArgs false
theorem cell_cells {w : World} {b o : Nat} {u : Value} (h : w.cell? ⟨b, o, none⟩ = some u) : ∃ cs t fr, w.heap[b]? = some (.cells cs t fr) := by
  unfold World.cell? at h
  cases hh : w.heap[b]? with
  | none => rw [hh] at h; cases h
  | some ob =>
    rw [hh] at h
    cases ob with
    | cells cs t fr => exact ⟨cs, t, fr, rfl⟩
    | _ => cases h
/-- Rows lie in cells: what leaves cells alone leaves them. -/
theorem VStk.cellsStay {X : Nat → Prop} {B : Nat} {w w' : World} {sv : Value} {L : List (List Bool)} (h : VStk X B w sv L) (hc : ∀ (b : Nat) (cs : Array Value) (t : Nat) (fr : Nat × Nat), w.heap[b]? = some (Obj.cells cs t fr) → w'.heap[b]? = some (Obj.cells cs t fr)) (hs : w.heap.size ≤ w'.heap.size) : VStk X B w' sv L := by
  obtain ⟨vs, h⟩ := h
  refine ⟨vs, h.len, ownsRow_same h.own fun b hb => ?_, h.nx, fun i hi => ?_, h.ap⟩
  · rcases h.own.2 with ⟨h1, _⟩ | ⟨g, cap, cur, h1, q4, q5, q6⟩
    · rw [h1] at hb; cases hb
    · rw [h1] at hb; injection hb with hb; subst hb; exact (hc _ _ _ _ q5).trans q5.symm
  · refine ((h.row i hi).stay fun b hl hb hlt => ?_).more hs
    obtain ⟨b', off, cap, he, _, hob⟩ := (h.row i hi).block hl
    rw [hob] at hb
    injection hb with hb
    subst hb
    obtain ⟨A, b2, off2, cap2, he2, _, hA2, hc2⟩ := h.row i hi
    rw [he] at he2
    injection he2 with e1 _ _
    rcases hA2 with ⟨hA2, _⟩ | h0
    · rw [hA2] at e1
      injection e1 with e1
      injection e1 with e1 _ _
      subst e1
      obtain ⟨cs, t, fr, h5⟩ := cell_cells (hc2 0 0 hl (by omega))
      exact (hc _ _ _ _ h5).trans h5.symm
    · omega
/-- Between two combinations: the forest, the program's own variables, what was found so far. -/
structure CovI (m : Mo) (w : World) (B s fp n K : Nat) (L : List (List Bool)) (W : World) (F : Fo) (ov : Value) : Prop where
  fo : FoR m w W F n K
  p : F.p = fp
  mp : F.bk < B ∧ F.bj < B
  out : W.heap[w.heap.size + 1]? = some (.cells #[ov] 53 (0, 0))
  c4 : W.heap[s]? = some (.cells #[.pointer (some ⟨fp, 0, none⟩)] 86 (0, 0))
  c5 : W.heap[s + 1]? = some (.cells #[.int .i64 n] 3 (0, 0))
  row : VStk (fun b => SF F b ∨ b = w.heap.size + 1) B W ov L
  all : ∀ y ∈ L, y ∈ allM m
  sz : B ≤ W.heap.size
theorem CovI.turn {m : Mo} {w X Y : World} {B s fp n K : Nat} {L : List (List Bool)} {F : Fo} {ov : Value} {row : Option Nat} (h : CovI m w B s fp n K L X F ov) (hg : X.grownBy Y row) (hr : ∀ r, row = some r → B ≤ r ∧ ∃ o : Obj, X.heap[r]? = some o ∧ o.isCells = false) (hw : w.heap.size ≤ B) : CovI m w B s fp n K L Y F ov := by
  have hc : ∀ (b : Nat) (cs : Array Value) (t : Nat) (fr : Nat × Nat), X.heap[b]? = some (Obj.cells cs t fr) → Y.heap[b]? = some (Obj.cells cs t fr) := fun b cs t fr hb => (hg.block b (Array.getElem?_eq_some_iff.1 hb).1 (fun e => by
    obtain ⟨_, o, h2, h3⟩ := hr b e.symm
    rw [hb] at h2
    injection h2 with h2
    subst h2
    cases h3)).trans hb
  exact ⟨h.fo.kept (T := fun i => row = some i) (Keeps.of_grown hg fun k e => e) (fun i e => Nat.le_trans hw (hr i e).1) (h.fo.here.far h.mp hr), h.p, h.mp, hc _ _ _ _ h.out, hc _ _ _ _ h.c4, hc _ _ _ _ h.c5, h.row.cellsStay hc hg.size, h.all, Nat.le_trans h.sz hg.size⟩
theorem CovI.op {m : Mo} {w W W' : World} {B s fp n K k : Nat} {L : List (List Bool)} {F F' : Fo} {ov : Value} (h : CovI m w B s fp n K L W F ov) (r : OpR k W F W' F') : CovI m w B s fp n (K + k) L W' F' ov := by
  have hc : ∀ (b : Nat) (cs : Array Value) (t : Nat) (fr : Nat × Nat), W.heap[b]? = some (Obj.cells cs t fr) → t ≠ 99 → t ≠ 135 → W'.heap[b]? = some (Obj.cells cs t fr) := fun b cs t fr hb h1 h2 =>
    (r.st.keep.block b (Array.getElem?_eq_some_iff.1 hb).1 (h.fo.here.notSF hb h1 h2)).trans hb
  exact ⟨h.fo.op r, r.st.p.trans h.p, by rw [r.st.bk, r.st.bj]; exact h.mp, hc _ _ _ _ h.out (by decide) (by decide), hc _ _ _ _ h.c4 (by decide) (by decide), hc _ _ _ _ h.c5 (by decide) (by decide), h.row.step r.st.keep (fun b _ hs => .inl hs) (fun b hb hs => hs.imp (fun hs => r.st.sub b hb hs) id), h.all, Nat.le_trans h.sz r.st.keep.size⟩
/-- One more variant, and its list in the variable. -/
theorem CovI.app {m : Mo} {w W w1 : World} {B s fp n K : Nat} {L : List (List Bool)} {F : Fo} {A : Option Addr} {l cap : Nat} {vs : List Value} {v1 rv : Value} {o : Obj} {x : List Bool} (h : CovI m w B s fp n K L W F (.slice A l cap)) (hgs : GS Value.bool false 29 (fun b => SF F b ∨ b = w.heap.size + 1) B W (.slice A l cap) L vs) (hrv : Bols W W.heap.size rv x)
    (hrx : 0 < x.length → ∀ b, rv.ownBlock = some b → ¬ (SF F b ∨ b = w.heap.size + 1) ∧ (Value.slice A l cap).ownBlock ≠ some b) (hx : x ∈ allM m)
    (hown : w1.ownsRow B 29 1 v1 (L.length + 1) (vs ++ [rv])) (hg : (W.alloc o).grownBy w1 (Value.slice A l cap).ownBlock) (hat : v1.ownBlock = (Value.slice A l cap).ownBlock ∨ v1.ownBlock = some (W.alloc o).heap.size) (hs : w.heap.size + 1 < s) (hB : s + 1 < B) :
    CovI m w B s fp n K (L ++ [x]) (w1.setCell ⟨w.heap.size + 1, 0, none⟩ v1) F v1 ∧ Keeps (fun i => (Value.slice A l cap).ownBlock = some i ∨ i = w.heap.size + 1) W (w1.setCell ⟨w.heap.size + 1, 0, none⟩ v1) := by
  have hlt2 := box_lt h.out
  obtain ⟨h1, h2⟩ := hgs.push hrv hrx (fun b hb => by
    rcases hb with hb | hb
    · exact h.fo.here.slt hb
    · omega) hown hg hat
  have h3 : Keeps (fun i => (Value.slice A l cap).ownBlock = some i ∨ i = w.heap.size + 1) W (w1.setCell ⟨w.heap.size + 1, 0, none⟩ v1) := (h2.mono fun i _ hi => .inl hi).setCell (.inl (.inr rfl)) v1
  have hlo : ∀ i, (Value.slice A l cap).ownBlock = some i → B ≤ i := fun i hi => (hgs.own.lt i hi).1
  have hc : ∀ (b : Nat) (cs : Array Value) (t : Nat) (fr : Nat × Nat), b < B → b ≠ w.heap.size + 1 → W.heap[b]? = some (Obj.cells cs t fr) → (w1.setCell ⟨w.heap.size + 1, 0, none⟩ v1).heap[b]? = some (Obj.cells cs t fr) := fun b cs t fr hb hne hx =>
    (h3.block b (Array.getElem?_eq_some_iff.1 hx).1 (fun e => by
      rcases e with e | e
      · have := hlo b e; omega
      · exact hne e)).trans hx
  have ho1 : w1.heap[w.heap.size + 1]? = some (.cells #[.slice A l cap] 53 (0, 0)) := (h2.block _ hlt2 (fun e => by have := hlo _ e; omega)).trans h.out
  have hk4 : Keeps (fun i => i = w.heap.size + 1) w1 (w1.setCell ⟨w.heap.size + 1, 0, none⟩ v1) := Keeps.setCell (S := fun i => i = w.heap.size + 1) (p := ⟨w.heap.size + 1, 0, none⟩) (Keeps.refl _ w1) (.inl rfl) v1
  refine ⟨⟨h.fo.kept h3 (fun i e => ?_) (fun i hi e => ?_), h.p, h.mp, setCellOf (i := 0) ho1 v1, hc _ _ _ _ (by omega) (by omega) h.c4, hc _ _ _ _ (by omega) (by omega) h.c5, h1.step hk4 (fun b _ e => .inr e) (fun b _ e => e), fun y hy => ?_, Nat.le_trans h.sz h3.size⟩, h3⟩
  · rcases e with e | e
    · have := hlo i e; omega
    · omega
  · rcases e with e | e
    · exact hgs.nx i e (.inl hi)
    · subst e; exact h.fo.here.notSF h.out (by decide) (by decide) hi
  · rcases List.mem_append.1 hy with hy | hy
    · exact h.all y hy
    · simp at hy; subst hy; exact hx
end Go.Proofs.Ytohofcmikfkilaa
/- One more combination that is wanted: the closure's walk, to its end. -/
namespace Go.Proofs.Ytohofcmikfkilaa
open Go.RowKit
set_option linter.unusedVariables false
set_option linter.unusedSimpArgs false
theorem FoR.mono {m : Mo} {w W : World} {F : Fo} {n K K' : Nat} (h : FoR m w W F n K) (hK : K ≤ K') : FoR m w W F n K' := by
  have h3 := Nat.mul_le_mul_right (2 ^ F.N) hK
  exact ⟨h.here, h.N, h.base, h.below, h.base2, h.lt, h.ev, by have := h.len; omega, by have := h.nj; omega⟩
theorem CovI.mono {m : Mo} {w W : World} {B s fp n K K' : Nat} {L : List (List Bool)} {F : Fo} {ov : Value} (h : CovI m w B s fp n K L W F ov) (hK : K ≤ K') : CovI m w B s fp n K' L W F ov := ⟨h.fo.mono hK, h.p, h.mp, h.out, h.c4, h.c5, h.row, h.all, h.sz⟩
theorem first_uni (F : Fo) (n : Nat) (w : World) (h : FoAt w F) (hn : n < F.ks.length) (hN : F.N ≤ 12) :
    Calls Try.prog 82 #[.pointer (some ⟨F.p, 0, none⟩), .int .i64 n] w fun e w' => ∃ v, e = .returned v ∧ Below w.heap.size w w' ∧ ((n = 0 ∧ v = .slice none 0 0) ∨ (n ≠ 0 ∧ ∃ x : List Bool, v = .slice (some ⟨w.heap.size, 0, none⟩) F.N F.N ∧ VarAt w' w.heap.size F.N x ∧ x.length = F.N ∧ (sat F.ks F.N n []).head? = some x)) := by
  by_cases h0 : n = 0
  · subst h0
    refine (firstNo_any F w).mono ?_
    rintro e w' ⟨rfl, rfl⟩
    exact ⟨_, rfl, Below.refl _ _, .inl ⟨rfl, rfl⟩⟩
  · refine (firstYes_any F n w h hn h0 hN).mono ?_
    rintro e w' ⟨x, rfl, h1, h2, h3, h4⟩
    exact ⟨_, rfl, h4, .inr ⟨h0, x, rfl, h1, h2, h3⟩⟩
theorem neq_nil (W : World) (a : Option Addr) (n c : Nat) : (binOp .neq 29 (.slice a n c) (.slice none 0 0)).run Try.prog W = .ok (.bool (!a.isNone)) W := run_neq_slice_nil W _ _ a n c Try.underlying29
/-- What a variant says of an option, in memory. -/
theorem bols_at {w : World} {B n cap i : Nat} {A : Option Addr} {l : List Bool} (h : Bols w B (.slice A n cap) l) (hi : i < l.length) : ∃ b off, A = some ⟨b, off, none⟩ ∧ b < B ∧ w.cell? ⟨b, off + i, none⟩ = some (.bool (l.getD i false)) := by
  obtain ⟨A', b, off, cap', he, _, hA, hc⟩ := h
  injection he with e1 _ _
  subst e1
  rcases hA with ⟨hA, hb⟩ | h0
  · refine ⟨b, off, hA, hb, ?_⟩
    have := hc i 0 hi (by omega)
    rwa [Nat.mul_one, Nat.add_zero] at this
  · omega
theorem allM_l {m : Mo} {y : List Bool} (h : y ∈ allM m) : y.length = m.opts.length := allM_len h
/-- What the closure leaves. -/
def WanP (m : Mo) (w : World) (B s fp n K : Nat) (L : List (List Bool)) (F : Fo) (ov : Value) (W : World) (W' : World) : Prop := ∃ F' ov', CovI m w B s fp n K L W' F' ov' ∧ Keeps (fun i => SF F i ∨ ov.ownBlock = some i ∨ i = w.heap.size + 1) W W'
set_option maxRecDepth 100000 in
set_option maxHeartbeats 8000000 in
theorem want_any (m : Mo) (w : World) (B s fp n K : Nat) (L : List (List Bool)) (W : World) (F : Fo) (ov : Value) (h : CovI m w B s fp n K L W F ov) (hN : m.opts.length ≤ 12) (hK : K + 6 ≤ 200000) (hLl : L.length ≤ 600) (hs : w.heap.size + 1 < s) (hB : s + 1 < B) (a b : Nat) (wa wb : Bool) (ha : a < m.opts.length) (hb : b < m.opts.length) :
    Calls Try.prog 92 #[.int .i64 a, .int .i64 b, .bool wa, .bool wb, .pointer (some ⟨w.heap.size + 1, 0, none⟩), .pointer (some ⟨s, 0, none⟩), .pointer (some ⟨s + 1, 0, none⟩)] W
      fun e W' => (∃ v, e = .returned v) ∧ WanP m w B s fp n (K + 6) (covS m L ⟨a, b, wa, wb⟩) F ov W W' := by
  obtain ⟨i1, hi1, jz0, jz1, jz2⟩ := info_parts infoBools
  obtain ⟨Ao, capo, hov, hco1, hco2⟩ := h.row.form
  subst hov
  obtain ⟨rv, ⟨Ao2, bo, offo, capo2, heo, hnco, hAo, hco⟩, hrow⟩ := h.row.rows
  injection heo with eo1 eo2 eo3
  subst eo1 eo3
  have HI := hide h
  have HAO := hide hAo
  have HCO := hide hco
  have HROW := hide hrow
  have c2 := cellOf h.out 0
  have c4 := cellOf h.c4 0
  have c5 := cellOf h.c5 0
  have l2 : w.heap.size + 1 < W.heap.size := box_lt h.out
  have l4 : s < W.heap.size := box_lt h.c4
  have l5 : s + 1 < W.heap.size := box_lt h.c5
  have n2 : ¬ SF F (w.heap.size + 1) := h.fo.here.notSF h.out (by decide) (by decide)
  have n4 : ¬ SF F s := h.fo.here.notSF h.c4 (by decide) (by decide)
  have n5 : ¬ SF F (s + 1) := h.fo.here.notSF h.c5 (by decide) (by decide)
  clear h hAo hco hrow
  go_enter Try.func92, Try.ntmps92
  go_wp2_with fail
  go_loopw [16] (fun i wr => ∃ k : Nat, k ≤ L.length ∧ i = .int .i64 k ∧ Hid (∀ j, j < k → hasX ⟨a, b, wa, wb⟩ (L.getD j []) = false) ∧ Hid (wr = W)) (fun i _ => L.length - (intOf i).toNat)
  case atStart => exact ⟨0, Nat.zero_le _, rfl, fun j hj => absurd hj (by omega), rfl⟩
  case round =>
    obtain ⟨k, hk, rfl, hno, hwr⟩ := hrel
    obtain rfl : wr = W := hwr.out
    by_cases hlt : k < L.length
    · obtain ⟨rfl, q1, Ax, capx, q2, q3⟩ := vars_get HAO.out HCO.out HROW.out hlt
      obtain ⟨y, hy⟩ : ∃ x, L.getD k [] = x := ⟨_, rfl⟩
      have hyl : y.length = m.opts.length := allM_l (HI.out.all y (by rw [← hy]; exact getD_mem hlt))
      rw [hy] at q2 q3
      obtain ⟨by1, offy, rfl, _, y1⟩ := bols_at q3 (show a < y.length by omega)
      obtain ⟨by2, offy2, he2, _, y2⟩ := bols_at q3 (show b < y.length by omega)
      injection he2 with he2
      injection he2 with he2 he3
      subst he2 he3
      obtain ⟨ya, hya⟩ : ∃ x, y.getD a false = x := ⟨_, rfl⟩
      obtain ⟨yb, hyb⟩ : ∃ x, y.getD b false = x := ⟨_, rfl⟩
      rw [hya] at y1
      rw [hyb] at y2
      have hhx : hasX ⟨a, b, wa, wb⟩ y = ((ya == wa) && (yb == wb)) := by
        show ((vf y a == wa) && (vf y b == wb)) = _
        rw [← hya, ← hyb]; rfl
      have HHX := hide hhx
      have HY := hide hy
      have gi0 : (k : Int) < (L.length : Int) := by omega
      have gi1 : (a : Int) < (y.length : Int) := by omega
      have gi2 : (b : Int) < (y.length : Int) := by omega
      have HYL := hide hyl
      clear hhx hy hyl q3 hya hyb
      cases hpa : (ya == wa) with
      | false =>
        go_wp2_with fail
        go_roundw
        case rel => exact ⟨k + 1, by omega, by go_num, fun j hj => by
          rcases Nat.lt_or_ge j k with h | h
          · exact hno.out j h
          · obtain rfl : j = k := by omega
            rw [HY.out, HHX.out, hpa]; rfl, True.intro⟩
        case measure => simp [intOf]; omega
      | true =>
        cases hpb : (yb == wb) with
        | false =>
          go_wp2_with fail
          go_roundw
          case rel => exact ⟨k + 1, by omega, by go_num, fun j hj => by
            rcases Nat.lt_or_ge j k with h | h
            · exact hno.out j h
            · obtain rfl : j = k := by omega
              rw [HY.out, HHX.out, hpa, hpb]; rfl, True.intro⟩
          case measure => simp [intOf]; omega
        | true =>
          have hcs : covS m L ⟨a, b, wa, wb⟩ = L := by
            unfold covS
            rw [if_pos (List.any_eq_true.2 ⟨y, by rw [← HY.out]; exact getD_mem hlt, by rw [HHX.out, hpa, hpb]; rfl⟩)]
          have HCS := hide hcs
          clear hcs
          go_wp2_with fail
          refine bodyPost_ret (results_none rfl _ _ _) rfl ⟨⟨_, rfl⟩, ?_⟩
          rw [HCS.out]
          exact ⟨F, _, HI.out.mono (by omega), Keeps.refl _ _⟩
    · obtain rfl : k = L.length := by omega
      have gi0 : ¬ (L.length : Int) < (L.length : Int) := by omega
      go_upto_region 5 with (fail)
      have hany : L.any (hasX ⟨a, b, wa, wb⟩) = false := by
        rw [Bool.eq_false_iff]
        intro he
        obtain ⟨y, hy1, hy2⟩ := List.any_eq_true.1 he
        obtain ⟨j, hj, hje⟩ := List.getElem_of_mem hy1
        have h1 := hno.out j hj
        rw [List.getD_eq_getElem?_getD, List.getElem?_eq_getElem hj, Option.getD_some, hje, hy2] at h1
        cases h1
      have r0 : OpR 0 wr F wr.drew F := (OpR.refl HI.out.fo.here 0).then_below (by repeat (first | exact Below.refl _ _ | assumption | refine Below.drew ?_ | refine Below.drewN ?_ _ | refine Below.allocT ?_ (Nat.le_refl _) _ | refine Below.setCell ?_ (by simp <;> omega) _ | refine Below.to ?_ (by assumption) (Nat.le_refl _)))
      have hla := lit_for (o := a) (b := wa) HI.out.fo hN r0 (by omega) ha
      rw [HI.out.p] at hla
      have hlb : ∀ (w2 : World) (F2 : Fo), OpR 1 wr F w2 F2 → _ := fun w2 F2 r => lit_for (o := b) (b := wb) HI.out.fo hN r (by omega) hb
      rw [HI.out.p] at hlb
      have han : ∀ (w2 : World) (F2 : Fo) (l : List Nat), OpR 2 wr F w2 F2 → l.length ≤ 4 → (∀ x ∈ l, x < F2.ks.length) → _ := fun w2 F2 l r h1 h2 => and_for (l := l) HI.out.fo hN r (by omega) h1 h2
      rw [HI.out.p] at han
      have hfi : ∀ (w2 : World) (F2 : Fo) (c : Nat), OpR 6 wr F w2 F2 → c < F2.ks.length → Calls Try.prog 82 #[.pointer (some ⟨fp, 0, none⟩), .int .i64 c] w2 fun e w' => ∃ v, e = .returned v ∧ Below w2.heap.size w2 w' ∧ ((c = 0 ∧ v = .slice none 0 0) ∨ (c ≠ 0 ∧ ∃ x : List Bool, v = .slice (some ⟨w2.heap.size, 0, none⟩) F2.N F2.N ∧ VarAt w' w2.heap.size F2.N x ∧ x.length = F2.N ∧ (sat F2.ks F2.N c []).head? = some x)) := fun w2 F2 c r hc => by
        have := first_uni F2 c w2 r.st.here hc (by rw [r.st.N, HI.out.fo.N]; exact hN)
        rw [r.st.p, HI.out.p] at this
        exact this
      have HANY := hide hany
      have HLA := hide hla
      have HLB := hide hlb
      have HAN := hide han
      have HFI := hide hfi
      clear hla hlb han r0 hfi hany hno
      refine wp_region_held_drew (S := (fun w' => Keeps (SF F) wr w')) (by kernel_rfl) ?_ (fun hHeld => ?_)
      · try dsimp only
        (repeat (first | (with_reducible exact Keeps.refl _ _) | exact hKeep.out | exact hKeepS.out _ | assumption | (with_reducible refine Keeps.drew ?_) | (with_reducible refine Keeps.drewN ?_ _) | (with_reducible refine Keeps.alloc ?_ _) | (with_reducible refine Keeps.setCell ?_ (.inl (by first | exact .inl rfl | exact .inr rfl)) _)))
      refine wpAnyH_take (i := 0) (v := ?v1_1) rfl (by kernel_rfl) (by kernel_rfl) (by kernel_rfl) (fun _ _ _ h => h) (Or.inl ⟨by rfl, ?y1_1⟩) (by assumption) ?r1_1
      case' y1_1 => (intro w hSw; (try dsimp only at hSw); (try have hlS := HLK.out _ hSw); have hcS := kcell hSw; clear hSw; go_simp; try with_reducible rfl)
      try simp only [Act.put, List.getElem_toArray, List.getElem_cons_succ, List.getElem_cons_zero, List.setIfInBounds_toArray, List.set_cons_zero, List.set_cons_succ]
      refine wpAnyH_take (i := 1) (v := ?v1_2) rfl (by kernel_rfl) (by kernel_rfl) (by kernel_rfl) (fun _ _ _ h => h) (Or.inl ⟨by rfl, ?y1_2⟩) (by assumption) ?r1_2
      case' y1_2 => (intro w hSw; (try dsimp only at hSw); (try have hlS := HLK.out _ hSw); have hcS := kcell hSw; clear hSw; go_simp; try with_reducible rfl)
      try simp only [Act.put, List.getElem_toArray, List.getElem_cons_succ, List.getElem_cons_zero, List.setIfInBounds_toArray, List.set_cons_zero, List.set_cons_succ]
      refine wpAnyH_take (i := 2) (v := ?v1_3) rfl (by kernel_rfl) (by kernel_rfl) (by kernel_rfl) (fun _ _ _ h => h) (Or.inl ⟨by rfl, ?y1_3⟩) (by assumption) ?r1_3
      case' y1_3 => (intro w hSw; (try dsimp only at hSw); (try have hlS := HLK.out _ hSw); have hcS := kcell hSw; clear hSw; go_simp; try with_reducible rfl)
      try simp only [Act.put, List.getElem_toArray, List.getElem_cons_succ, List.getElem_cons_zero, List.setIfInBounds_toArray, List.set_cons_zero, List.set_cons_succ]
      refine wpAnyH_take (i := 3) (v := ?v1_4) rfl (by kernel_rfl) (by kernel_rfl) (by kernel_rfl) (fun _ _ _ h => h) (Or.inl ⟨by rfl, ?y1_4⟩) (by assumption) ?r1_4
      case' y1_4 => (intro w hSw; (try dsimp only at hSw); (try have hlS := HLK.out _ hSw); have hcS := kcell hSw; clear hSw; go_simp; try with_reducible rfl)
      try simp only [Act.put, List.getElem_toArray, List.getElem_cons_succ, List.getElem_cons_zero, List.setIfInBounds_toArray, List.set_cons_zero, List.set_cons_succ]
      refine wpAnyH_take (i := 4) (v := ?v1_5) rfl (by kernel_rfl) (by kernel_rfl) (by kernel_rfl) (fun _ _ _ h => h) (Or.inl ⟨by rfl, ?y1_5⟩) (by assumption) ?r1_5
      case' y1_5 => (intro w hSw; (try dsimp only at hSw); (try have hlS := HLK.out _ hSw); have hcS := kcell hSw; clear hSw; go_simp; try with_reducible rfl)
      try simp only [Act.put, List.getElem_toArray, List.getElem_cons_succ, List.getElem_cons_zero, List.setIfInBounds_toArray, List.set_cons_zero, List.set_cons_succ]
      refine wpAnyH_take (i := 5) (v := ?v1_6) rfl (by kernel_rfl) (by kernel_rfl) (by kernel_rfl) (fun _ _ _ h => h) (Or.inl ⟨by rfl, ?y1_6⟩) (by assumption) ?r1_6
      case' y1_6 => (intro w hSw; (try dsimp only at hSw); (try have hlS := HLK.out _ hSw); have hcS := kcell hSw; clear hSw; go_simp; try with_reducible rfl)
      try simp only [Act.put, List.getElem_toArray, List.getElem_cons_succ, List.getElem_cons_zero, List.setIfInBounds_toArray, List.set_cons_zero, List.set_cons_succ]
      refine wpAnyH_take (i := 7) (v := ?v1_7) rfl (by kernel_rfl) (by kernel_rfl) (by kernel_rfl) (fun _ _ _ h => h) (Or.inl ⟨by rfl, ?y1_7⟩) (by assumption) ?r1_7
      case' y1_7 => (intro w hSw; (try dsimp only at hSw); (try have hlS := HLK.out _ hSw); have hcS := kcell hSw; clear hSw; go_simp; try with_reducible rfl)
      try simp only [Act.put, List.getElem_toArray, List.getElem_cons_succ, List.getElem_cons_zero, List.setIfInBounds_toArray, List.set_cons_zero, List.set_cons_succ]
      refine wpAnyH_take (i := 8) (v := ?v1_8) rfl (by kernel_rfl) (by kernel_rfl) (by kernel_rfl) (fun _ _ _ h => h) (Or.inl ⟨by rfl, ?y1_8⟩) (by assumption) ?r1_8
      case' y1_8 => (intro w hSw; (try dsimp only at hSw); (try have hlS := HLK.out _ hSw); have hcS := kcell hSw; clear hSw; go_simp; try with_reducible rfl)
      try simp only [Act.put, List.getElem_toArray, List.getElem_cons_succ, List.getElem_cons_zero, List.setIfInBounds_toArray, List.set_cons_zero, List.set_cons_succ]
      refine wpAnyH_take (i := 9) (v := ?v1_9) rfl (by kernel_rfl) (by kernel_rfl) (by kernel_rfl) (fun _ _ _ h => h) (Or.inl ⟨by rfl, ?y1_9⟩) (by assumption) ?r1_9
      case' y1_9 => (intro w hSw; (try dsimp only at hSw); (try have hlS := HLK.out _ hSw); have hcS := kcell hSw; clear hSw; go_simp; try with_reducible rfl)
      try simp only [Act.put, List.getElem_toArray, List.getElem_cons_succ, List.getElem_cons_zero, List.setIfInBounds_toArray, List.set_cons_zero, List.set_cons_succ]
      refine wpAnyH_ready (rs := [6]) (by kernel_rfl) (by simp) ?_
      refine (AllReadyH.cons rfl (fun K hK => ?_) AllReadyH.nil)
      go_simp
      (first
        | (go_at_call 89; refine (HLB.out _ _ RA.out).mono ?_; rintro e wB ⟨gB, FB, rfl, rB1, rB2, hgB, rB3⟩; have RB := hide rB1; have RB2 := hide rB2; have RB3 := hide rB3; have hKeep : Hid (Keeps (SF F) wr wB) := rB1.st.keep; clear rB1 rB2 rB3)
        | (go_at_call 89; refine HLA.out.mono ?_; rintro e wA ⟨gA, FA, rfl, rA1, _, hgA, rA3⟩; have RA := hide rA1; have RA3 := hide rA3; have hKeep : Hid (Keeps (SF F) wr wA) := rA1.st.keep; clear rA1 rA3)
        | (go_at_call 73; refine (HAN.out _ _ [n, gA, gB] RB.out (by simp) (by intro x hx; simp at hx; rcases hx with rfl | rfl | rfl; exact Nat.lt_of_lt_of_le HI.out.fo.lt RB.out.st.le; exact Nat.lt_of_lt_of_le hgA RB2.out.st.le; exact hgB)).mono ?_; rintro e wZ ⟨c, FZ, rfl, rZ1, _, hc, rZ3⟩; have RZ := hide rZ1; have RZ3 := hide rZ3; have hKeep : Hid (Keeps (SF F) wr wZ) := rZ1.st.keep; clear rZ1 rZ3)
        | (go_at_call 82; refine (HFI.out _ _ _ RZ.out hc).mono ?_; rintro e wY ⟨fv, rfl, hB9, hfv⟩; have HFV := hide hfv; have HBY := hide hB9; have hKeep : Hid (Keeps (SF F) wr wY) := RZ.out.st.keep.trans (Keeps.of_below hB9) (T := fun _ => False) (fun _ _ h => h.elim); clear hB9 hfv))
      (try dsimp only)
      refine hK.out _ _ ?_ (fun hNext => ?_)
      · try dsimp only
        (repeat (first | (with_reducible exact Keeps.refl _ _) | exact hKeep.out | exact hKeepS.out _ | assumption | (with_reducible refine Keeps.drew ?_) | (with_reducible refine Keeps.drewN ?_ _) | (with_reducible refine Keeps.alloc ?_ _) | (with_reducible refine Keeps.setCell ?_ (.inl (by first | exact .inl rfl | exact .inr rfl)) _)))
      clear hK K hHeld
      have hHeld := hNext
      clear hNext
      (try dsimp only at hHeld)
      try simp only [Act.put, List.getElem_toArray, List.getElem_cons_succ, List.getElem_cons_zero, List.setIfInBounds_toArray, List.set_cons_zero, List.set_cons_succ]
      refine wpAnyH_ready (rs := [10]) (by kernel_rfl) (by simp) ?_
      refine (AllReadyH.cons rfl (fun K hK => ?_) AllReadyH.nil)
      go_simp
      (first
        | (go_at_call 89; refine (HLB.out _ _ RA.out).mono ?_; rintro e wB ⟨gB, FB, rfl, rB1, rB2, hgB, rB3⟩; have RB := hide rB1; have RB2 := hide rB2; have RB3 := hide rB3; have hKeep : Hid (Keeps (SF F) wr wB) := rB1.st.keep; clear rB1 rB2 rB3)
        | (go_at_call 89; refine HLA.out.mono ?_; rintro e wA ⟨gA, FA, rfl, rA1, _, hgA, rA3⟩; have RA := hide rA1; have RA3 := hide rA3; have hKeep : Hid (Keeps (SF F) wr wA) := rA1.st.keep; clear rA1 rA3)
        | (go_at_call 73; refine (HAN.out _ _ [n, gA, gB] RB.out (by simp) (by intro x hx; simp at hx; rcases hx with rfl | rfl | rfl; exact Nat.lt_of_lt_of_le HI.out.fo.lt RB.out.st.le; exact Nat.lt_of_lt_of_le hgA RB2.out.st.le; exact hgB)).mono ?_; rintro e wZ ⟨c, FZ, rfl, rZ1, _, hc, rZ3⟩; have RZ := hide rZ1; have RZ3 := hide rZ3; have hKeep : Hid (Keeps (SF F) wr wZ) := rZ1.st.keep; clear rZ1 rZ3)
        | (go_at_call 82; refine (HFI.out _ _ _ RZ.out hc).mono ?_; rintro e wY ⟨fv, rfl, hB9, hfv⟩; have HFV := hide hfv; have HBY := hide hB9; have hKeep : Hid (Keeps (SF F) wr wY) := RZ.out.st.keep.trans (Keeps.of_below hB9) (T := fun _ => False) (fun _ _ h => h.elim); clear hB9 hfv))
      (try dsimp only)
      refine hK.out _ _ ?_ (fun hNext => ?_)
      · try dsimp only
        (repeat (first | (with_reducible exact Keeps.refl _ _) | exact hKeep.out | exact hKeepS.out _ | assumption | (with_reducible refine Keeps.drew ?_) | (with_reducible refine Keeps.drewN ?_ _) | (with_reducible refine Keeps.alloc ?_ _) | (with_reducible refine Keeps.setCell ?_ (.inl (by first | exact .inl rfl | exact .inr rfl)) _)))
      clear hK K hHeld
      have hHeld := hNext
      clear hNext
      (try dsimp only at hHeld)
      try simp only [Act.put, List.getElem_toArray, List.getElem_cons_succ, List.getElem_cons_zero, List.setIfInBounds_toArray, List.set_cons_zero, List.set_cons_succ]
      refine wpAnyH_ready (rs := [11]) (by kernel_rfl) (by simp) ?_
      refine (AllReadyH.cons rfl (fun K hK => ?_) AllReadyH.nil)
      go_simp
      refine hK.out _ _ ?_ (fun hNext => ?_)
      · try dsimp only
        (repeat (first | (with_reducible exact Keeps.refl _ _) | exact hKeep.out | exact hKeepS.out _ | assumption | (with_reducible refine Keeps.drew ?_) | (with_reducible refine Keeps.drewN ?_ _) | (with_reducible refine Keeps.alloc ?_ _) | (with_reducible refine Keeps.setCell ?_ (.inl (by first | exact .inl rfl | exact .inr rfl)) _)))
      clear hK K hHeld
      have hHeld := hNext
      clear hNext
      (try dsimp only at hHeld)
      try simp only [Act.put, List.getElem_toArray, List.getElem_cons_succ, List.getElem_cons_zero, List.setIfInBounds_toArray, List.set_cons_zero, List.set_cons_succ]
      refine wpAnyH_ready (rs := [12]) (by kernel_rfl) (by simp) ?_
      refine (AllReadyH.cons rfl (fun K hK => ?_) AllReadyH.nil)
      go_simp
      (first
        | (go_at_call 89; refine (HLB.out _ _ RA.out).mono ?_; rintro e wB ⟨gB, FB, rfl, rB1, rB2, hgB, rB3⟩; have RB := hide rB1; have RB2 := hide rB2; have RB3 := hide rB3; have hKeep : Hid (Keeps (SF F) wr wB) := rB1.st.keep; clear rB1 rB2 rB3)
        | (go_at_call 89; refine HLA.out.mono ?_; rintro e wA ⟨gA, FA, rfl, rA1, _, hgA, rA3⟩; have RA := hide rA1; have RA3 := hide rA3; have hKeep : Hid (Keeps (SF F) wr wA) := rA1.st.keep; clear rA1 rA3)
        | (go_at_call 73; refine (HAN.out _ _ [n, gA, gB] RB.out (by simp) (by intro x hx; simp at hx; rcases hx with rfl | rfl | rfl; exact Nat.lt_of_lt_of_le HI.out.fo.lt RB.out.st.le; exact Nat.lt_of_lt_of_le hgA RB2.out.st.le; exact hgB)).mono ?_; rintro e wZ ⟨c, FZ, rfl, rZ1, _, hc, rZ3⟩; have RZ := hide rZ1; have RZ3 := hide rZ3; have hKeep : Hid (Keeps (SF F) wr wZ) := rZ1.st.keep; clear rZ1 rZ3)
        | (go_at_call 82; refine (HFI.out _ _ _ RZ.out hc).mono ?_; rintro e wY ⟨fv, rfl, hB9, hfv⟩; have HFV := hide hfv; have HBY := hide hB9; have hKeep : Hid (Keeps (SF F) wr wY) := RZ.out.st.keep.trans (Keeps.of_below hB9) (T := fun _ => False) (fun _ _ h => h.elim); clear hB9 hfv))
      (try dsimp only)
      refine hK.out _ _ ?_ (fun hNext => ?_)
      · try dsimp only
        (repeat (first | (with_reducible exact Keeps.refl _ _) | exact hKeep.out | exact hKeepS.out _ | assumption | (with_reducible refine Keeps.drew ?_) | (with_reducible refine Keeps.drewN ?_ _) | (with_reducible refine Keeps.alloc ?_ _) | (with_reducible refine Keeps.setCell ?_ (.inl (by first | exact .inl rfl | exact .inr rfl)) _)))
      clear hK K hHeld
      have hHeld := hNext
      clear hNext
      (try dsimp only at hHeld)
      try simp only [Act.put, List.getElem_toArray, List.getElem_cons_succ, List.getElem_cons_zero, List.setIfInBounds_toArray, List.set_cons_zero, List.set_cons_succ]
      refine wpAnyH_ready (rs := [13]) (by kernel_rfl) (by simp) ?_
      refine (AllReadyH.cons rfl (fun K hK => ?_) AllReadyH.nil)
      go_simp
      (first
        | (go_at_call 89; refine (HLB.out _ _ RA.out).mono ?_; rintro e wB ⟨gB, FB, rfl, rB1, rB2, hgB, rB3⟩; have RB := hide rB1; have RB2 := hide rB2; have RB3 := hide rB3; have hKeep : Hid (Keeps (SF F) wr wB) := rB1.st.keep; clear rB1 rB2 rB3)
        | (go_at_call 89; refine HLA.out.mono ?_; rintro e wA ⟨gA, FA, rfl, rA1, _, hgA, rA3⟩; have RA := hide rA1; have RA3 := hide rA3; have hKeep : Hid (Keeps (SF F) wr wA) := rA1.st.keep; clear rA1 rA3)
        | (go_at_call 73; refine (HAN.out _ _ [n, gA, gB] RB.out (by simp) (by intro x hx; simp at hx; rcases hx with rfl | rfl | rfl; exact Nat.lt_of_lt_of_le HI.out.fo.lt RB.out.st.le; exact Nat.lt_of_lt_of_le hgA RB2.out.st.le; exact hgB)).mono ?_; rintro e wZ ⟨c, FZ, rfl, rZ1, _, hc, rZ3⟩; have RZ := hide rZ1; have RZ3 := hide rZ3; have hKeep : Hid (Keeps (SF F) wr wZ) := rZ1.st.keep; clear rZ1 rZ3)
        | (go_at_call 82; refine (HFI.out _ _ _ RZ.out hc).mono ?_; rintro e wY ⟨fv, rfl, hB9, hfv⟩; have HFV := hide hfv; have HBY := hide hB9; have hKeep : Hid (Keeps (SF F) wr wY) := RZ.out.st.keep.trans (Keeps.of_below hB9) (T := fun _ => False) (fun _ _ h => h.elim); clear hB9 hfv))
      (try dsimp only)
      refine hK.out _ _ ?_ (fun hNext => ?_)
      · try dsimp only
        (repeat (first | (with_reducible exact Keeps.refl _ _) | exact hKeep.out | exact hKeepS.out _ | assumption | (with_reducible refine Keeps.drew ?_) | (with_reducible refine Keeps.drewN ?_ _) | (with_reducible refine Keeps.alloc ?_ _) | (with_reducible refine Keeps.setCell ?_ (.inl (by first | exact .inl rfl | exact .inr rfl)) _)))
      clear hK K hHeld
      have hHeld := hNext
      clear hNext
      (try dsimp only at hHeld)
      try simp only [Act.put, List.getElem_toArray, List.getElem_cons_succ, List.getElem_cons_zero, List.setIfInBounds_toArray, List.set_cons_zero, List.set_cons_succ]
      refine wpAnyH_take (i := 14) (v := ?v1_15) rfl (by kernel_rfl) (by kernel_rfl) (by kernel_rfl) (fun _ _ _ h => h) (Or.inl ⟨by rfl, ?y1_15⟩) (by assumption) ?r1_15
      case' y1_15 => (intro w hSw; (try dsimp only at hSw); (try have hlS := HLK.out _ hSw); have hcS := kcell hSw; clear hSw; go_simp; try with_reducible rfl)
      try simp only [Act.put, List.getElem_toArray, List.getElem_cons_succ, List.getElem_cons_zero, List.setIfInBounds_toArray, List.set_cons_zero, List.set_cons_succ]
      refine wpAnyH_done (by kernel_rfl) ?_ _
      have hOP : CovI m w B s fp n (K + 6) L wY FZ (.slice Ao L.length capo) := HI.out.op (RZ.out.then_below HBY.out)
      have HOP := hide hOP
      have hnd := none_node (m := m) (p := hasX ⟨a, b, wa, wb⟩) RZ.out.st.here (RZ.out.st.N.trans HI.out.fo.N) hc (fun y => by rw [RZ3.out (vf y), List.all_cons, List.all_cons, List.all_cons, List.all_nil, RB.out.st.ev HI.out.fo.here.wf HI.out.fo.lt, HI.out.fo.ev, RB2.out.st.ev RA.out.st.here.wf hgA, RA3.out, RB3.out, Bool.and_true]; rfl)
      have hsat : sat FZ.ks FZ.N c [] = (allM m).filter (hasX ⟨a, b, wa, wb⟩) := by
        unfold sat allM
        rw [RZ.out.st.N.trans HI.out.fo.N, List.filter_filter]
        exact List.filter_congr fun y _ => by
          rw [RZ3.out (vf y), List.all_cons, List.all_cons, List.all_cons, List.all_nil, RB.out.st.ev HI.out.fo.here.wf HI.out.fo.lt, HI.out.fo.ev, RB2.out.st.ev RA.out.st.here.wf hgA, RA3.out, RB3.out, Bool.and_true, Bool.and_comm]
          rfl
      have HKY := hide hKeep.out
      have HNZ : Hid (FZ.N = m.opts.length) := RZ.out.st.N.trans HI.out.fo.N
      clear c2 c4 c5 l2 l4 l5 n2 n4 n5 hHeld hKeep hOP hnd
      have hfv := HFV.out
      rcases hfv with ⟨hc0, hfv⟩ | ⟨hc0, x, hfv, hx1, hx2, hx3⟩
      · subst hfv
        have hcs : covS m L ⟨a, b, wa, wb⟩ = L := by
          have h1 : (allM m).find? (hasX ⟨a, b, wa, wb⟩) = none := by
            rw [← List.head?_filter, ← hsat, hc0, sat_zero]; rfl
          unfold covS
          rw [if_neg (by rw [HANY.out]; simp), h1]
        have HCS := hide hcs
        have hq := neq_nil
        clear hcs hsat
        go_wp2_with fail
        refine bodyPost_end (results_none rfl _ _ _) rfl ⟨⟨_, rfl⟩, ?_⟩
        rw [HCS.out]
        exact ⟨FZ, _, HOP.out, HKY.out.mono (fun i _ h => .inl h)⟩
      · subst hfv
        have hfd : (allM m).find? (hasX ⟨a, b, wa, wb⟩) = some x := by
          rw [← List.head?_filter, ← hsat, hx3]
        have hcs : covS m L ⟨a, b, wa, wb⟩ = L ++ [x] := by
          unfold covS
          rw [if_neg (by rw [HANY.out]; simp), hfd]
        have hxm : x ∈ allM m := List.mem_of_find?_eq_some hfd
        obtain ⟨vs, hgs⟩ := HOP.out.row
        have hrv : Bols wY wY.heap.size (.slice (some ⟨wZ.heap.size, 0, none⟩) FZ.N FZ.N) x := by
          rw [← hx2] at hx1 ⊢
          exact hx1.bols
        have hZ : CovI m w B s fp n (K + 6) L wZ FZ (.slice Ao L.length capo) := HI.out.op RZ.out
        have hrx : 0 < x.length → ∀ b', (Value.slice (some ⟨wZ.heap.size, 0, none⟩) FZ.N FZ.N).ownBlock = some b' → ¬ (SF FZ b' ∨ b' = w.heap.size + 1) ∧ (Value.slice Ao L.length capo).ownBlock ≠ some b' := fun _ b' hb' => by
          injection hb' with hb'
          subst hb'
          refine ⟨fun e => ?_, fun e => ?_⟩
          · rcases e with e | e
            · exact absurd (RZ.out.st.here.slt e) (Nat.lt_irrefl _)
            · have h7 : w.heap.size + 1 < wZ.heap.size := box_lt hZ.out
              exact absurd e (Nat.ne_of_gt h7)
          · exact absurd (hZ.row.lt _ e).2 (Nat.lt_irrefl _)
        have HGS := hide hgs
        have HRV := hide hrv
        have HRX := hide hrx
        have HCS := hide hcs
        have HXM := hide hxm
        have hszy := HOP.out.sz
        have hLi : (L.length : Int) ≤ 600 := by omega
        have c2 := cellOf HOP.out.out 0
        have f2 := unfrozenOf HOP.out.out 0
        have l2 := box_lt HOP.out.out
        have hq := neq_nil
        clear hfd hcs hxm hgs hrv hZ hrx hsat hx1 hx2 hx3 hc0
        go_wp2_with (at_builtin; go_must (refine wpList_append_own_at _ rfl (.tmp 51) (.tmp 53) _ rfl (B) 29 i1 _ 1 24 Try.underlying53 hi1 jz0 jz1 jz2 rfl (by omega) _ _ _ rfl ((HGS.out.own).alloc _) ⟨wY.heap.size, 0, none⟩ 1 1 [.slice (some ⟨wZ.heap.size, 0, none⟩) FZ.N FZ.N] rfl rfl (World.news_of_block (heap_alloc_new wY _)) (by simp [Value.oneCell']) (by have h1 := hLi; unfold maxLen; omega) (by have h1 := hLi; omega) (by have h1 := hszy; simp; omega) ?_); intro v1 w3 hown1 hg1 _ hat1; have ho3 : w3.heap[w.heap.size + 1]? = some (.cells #[.slice Ao L.length capo] 53 (0, 0)) := (hg1.block _ (by simp; omega) (fun e => by have := (HGS.out.own.lt _ e.symm).1; omega)).trans ((Below.heap_alloc wY _ _ l2).trans HOP.out.out); have e3 := cellOf ho3 0; have f3 := unfrozenOf ho3 0; obtain ⟨A1, cap1, hv1⟩ := owns_form hown1; subst hv1; have HAP := hide (HOP.out.app HGS.out HRV.out HRX.out HXM.out hown1 hg1 hat1 hs hB); clear hown1 hg1 hat1 ho3)
        refine bodyPost_end (results_none rfl _ _ _) rfl ⟨⟨_, rfl⟩, ?_⟩
        rw [HCS.out]
        refine ⟨FZ, _, HAP.out.1, (HKY.out.mono (fun i _ hi => .inl hi)).trans HAP.out.2 (fun i _ hi => ?_)⟩
        rcases hi with hi | hi
        · exact .inr (.inl hi)
        · exact .inr (.inr hi)
end Go.Proofs.Ytohofcmikfkilaa
/- Variants that have all combinations: walk of the whole. -/
namespace Go.Proofs.Ytohofcmikfkilaa
open Go.RowKit Go.Shelf
attribute [local go_sem] Oper.semAt_some
set_option linter.unusedVariables false
set_option linter.unusedSimpArgs false
theorem WanP.stay {m : Mo} {w W W' : World} {B s fp n K K' b t : Nat} {L L' : List (List Bool)} {F : Fo} {ov : Value} {cs : Array Value} {fr : Nat × Nat} (h : CovI m w B s fp n K L W F ov) (hw : WanP m w B s fp n K' L' F ov W W') (hb : W.heap[b]? = some (.cells cs t fr)) (h1 : t ≠ 99) (h2 : t ≠ 135) (h3 : t ≠ 29) (hne : b ≠ w.heap.size + 1) : W'.heap[b]? = some (.cells cs t fr) := by
  obtain ⟨F', ov', _, hk⟩ := hw
  refine (hk.block b (Array.getElem?_eq_some_iff.1 hb).1 (fun e => ?_)).trans hb
  rcases e with e | e | e
  · exact h.fo.here.notSF hb h1 h2 e
  · obtain ⟨vs, hgs⟩ := h.row
    rcases hgs.own.2 with ⟨h4, _⟩ | ⟨g, cap, cur, h4, _, h5, _⟩
    · rw [h4] at e; cases e
    · rw [h4] at e
      injection e with e
      subst e
      rw [hb] at h5
      injection h5 with h5
      injection h5 with _ h5
      exact h3 h5
  · exact hne e
theorem WanP.from {m : Mo} {w W W' : World} {B s fp n K K' B2 : Nat} {L L' : List (List Bool)} {F : Fo} {ov : Value} (h : CovI m w B s fp n K L W F ov) (hw : WanP m w B s fp n K' L' F ov W W') (hB : B ≤ B2) (hlt : w.heap.size + 1 < B2) : KeepsFrom B2 W W' := by
  obtain ⟨F', ov', _, hk⟩ := hw
  refine KeepsFrom.of_keeps hk fun k o h1 h2 h3 h4 => ?_
  rcases h2 with h2 | h2 | h2
  · exact SF.cells (B := B2) h.fo.here ⟨Nat.lt_of_lt_of_le h.mp.1 hB, Nat.lt_of_lt_of_le h.mp.2 hB⟩ h1 h2 h3 h4
  · obtain ⟨vs, hgs⟩ := h.row
    rcases hgs.own.2 with ⟨h5, _⟩ | ⟨g, cap, cur, h5, _, h6, _⟩
    · rw [h5] at h2; cases h2
    · rw [h5] at h2
      injection h2 with h2
      subst h2
      rw [h3] at h6
      injection h6 with h6
      subst h6
      cases h4
  · omega
set_option maxRecDepth 100000 in
set_option maxHeartbeats 8000000 in
theorem Cover_ok (m : Mo) (ov rv : Value) (w : World) (hs : SizedM m) (h : MoAt w w.heap.size ov rv m) (he : m.err = 0) (hN : m.opts.length ≤ 12) :
    Calls Try.prog 55 #[.agg #[ov, rv]] w (ListP (covL m) 0 w) := by
  obtain ⟨A, cap, hov⟩ := Sl.form h.o
  obtain ⟨Ar, capr, hrv⟩ := h.r.form
  have H := hide h
  have HE := hide he
  have HML := hide (cov_ok he)
  subst hov hrv
  have hB2 : Below w.heap.size w ((w.alloc (.cells #[.slice A m.opts.length cap, .slice Ar m.rules.length capr] 25)).alloc (.cells #[.slice none 0 0] 53)) := (by repeat (first | exact Below.refl _ _ | assumption | refine Below.drew ?_ | refine Below.drewN ?_ _ | refine Below.allocT ?_ (Nat.le_refl _) _ | refine Below.setCell ?_ (by simp <;> omega) _ | refine Below.to ?_ (by assumption) (Nat.le_refl _)))
  have hbe := begin_ok m [] (.slice A m.opts.length cap) (.slice Ar m.rules.length capr) (.slice none 0 0) _ hs sized_nil (h.up hB2) (Forms.none _ _) (by rw [errF_nil]; exact he) hN
  have hbox0 : ((w.alloc (.cells #[.slice A m.opts.length cap, .slice Ar m.rules.length capr] 25)).alloc (.cells #[.slice none 0 0] 53)).heap[w.heap.size]? = some (.cells #[.slice A m.opts.length cap, .slice Ar m.rules.length capr] 25 (0, 0)) := by rw [heap_old _ _ _ (by simp), heap_new _ _ _ rfl]
  have hbox1 : ((w.alloc (.cells #[.slice A m.opts.length cap, .slice Ar m.rules.length capr] 25)).alloc (.cells #[.slice none 0 0] 53)).heap[w.heap.size + 1]? = some (.cells #[.slice none 0 0] 53 (0, 0)) := by rw [heap_new _ _ _ (by simp)]
  have HBX := hide (And.intro hbox0 hbox1)
  have HBE := hide hbe
  clear h he hbe hB2 hbox0 hbox1 hs
  refine (callsIn_wide (n := 5)).1 ?_
  refine callsIn_of_wp_marks Try.func55 rfl trivial ?_ rfl
  simp only [Try.ntmps55, List.size_toArray, List.length_cons, List.length_nil, Nat.reduceAdd, Nat.reduceSub, Array.replicate_succ, Array.replicate_zero, List.push_toArray, List.append_toArray, List.nil_append, List.cons_append]
  gi_wp2_with (first | (refine ⟨trivial, ?_⟩; gi_at_call 60; refine (callsIn_wide.2 HBE.out).mono ?_; rintro e w1 ⟨F, n, rfl, r1⟩; have HX1 : Hid (w1.heap[w.heap.size]? = some (.cells #[.slice A m.opts.length cap, .slice Ar m.rules.length capr] 25 (0, 0))) := (r1.below.block _ (by simp <;> omega)).trans HBX.out.1; have HO1 : Hid (w1.heap[w.heap.size + 1]? = some (.cells #[.slice none 0 0] 53 (0, 0))) := (r1.below.block _ (by simp)).trans HBX.out.2; have HSL1 : Hid (w.heap.size + 2 ≤ F.base) := (by have := r1.base; simp at this; show _ ≤ _; omega); have R1 : Hid (BegR m w w1 F n) := r1.of (by repeat (first | exact Below.refl _ _ | assumption | refine Below.drew ?_ | refine Below.drewN ?_ _ | refine Below.allocT ?_ (Nat.le_refl _) _ | refine Below.setCell ?_ (by simp <;> omega) _ | refine Below.to ?_ (by assumption) (Nat.le_refl _))); have c0 := cellOf HX1.out 0; have hbx1 : w.heap.size < w1.heap.size := box_lt HX1.out; have hbx2 : w.heap.size < w1.heap.size + 1 := (by omega); have hbx3 : w.heap.size < w1.heap.size + 1 + 1 := (by omega); clear r1))
  obtain ⟨W0, hW0⟩ : ∃ W0 : World, ((w1.alloc (.cells #[.pointer (some ⟨F.p, 0, none⟩)] 86)).alloc (.cells #[.int .i64 n] 3)).alloc (.cells #[.func (.func 92) #[] #[.pointer (some ⟨w.heap.size + 1, 0, none⟩), .pointer (some ⟨w1.heap.size, 0, none⟩), .pointer (some ⟨w1.heap.size + 1, 0, none⟩)]] 131) = W0 := ⟨_, rfl⟩
  obtain ⟨q4, q5, q6, hB0, hsz0⟩ := alloc3 hW0
  rw [hW0]
  clear hW0
  have hF0 : FoR m w W0 F n 6120 := R1.out.for.kept (T := fun _ => False) (Keeps.of_below hB0) (fun i h => h.elim) (fun i _ h => h)
  have hmp : F.bk < W0.heap.size ∧ F.bj < W0.heap.size := ⟨hF0.here.slt (.inr (.inl rfl)), hF0.here.slt (.inr (.inr (.inl rfl)))⟩
  have hout : W0.heap[w.heap.size + 1]? = some (.cells #[.slice none 0 0] 53 (0, 0)) := (hB0.block _ (box_lt HO1.out)).trans HO1.out
  have hs1 : w.heap.size + 1 < w1.heap.size := box_lt HO1.out
  have hI0 : CovI m w W0.heap.size w1.heap.size F.p n 6120 [] W0 F (.slice none 0 0) := ⟨hF0, rfl, hmp, hout, q4, q5, GStk.nil _ _, fun y hy => by simp at hy, Nat.le_refl _⟩
  have hn5 : w1.heap.size + 1 < W0.heap.size := by omega
  have hwW : w.heap.size ≤ W0.heap.size := by omega
  have hxb : W0.heap[w.heap.size]? = some (.cells #[.slice A m.opts.length cap, .slice Ar m.rules.length capr] 25 (0, 0)) := (hB0.block _ hbx1).trans HX1.out
  have HI0 := hide hI0
  have HQ6 := hide q6
  have HXB := hide hxb
  clear q4 q5 q6 hB0 hF0 hmp hout hI0 c0 hxb
  gi_loopw [22] (fun i wr => ∃ (k : Nat) (F1 : Fo) (ov1 : Value), k ≤ m.opts.length ∧ i = .int .i64 k ∧ Hid (CovI m w W0.heap.size w1.heap.size F.p n (6120 + 12 * k) ((selfN k).foldl (covS m) []) wr F1 ov1) ∧ Hid (wr.heap[w1.heap.size + 2]? = some (.cells #[.func (.func 92) #[] #[.pointer (some ⟨w.heap.size + 1, 0, none⟩), .pointer (some ⟨w1.heap.size, 0, none⟩), .pointer (some ⟨w1.heap.size + 1, 0, none⟩)]] 131 (0, 0))) ∧ Hid (wr.heap[w.heap.size]? = some (.cells #[.slice A m.opts.length cap, .slice Ar m.rules.length capr] 25 (0, 0)))) (fun i _ => m.opts.length - (intOf i).toNat)
  case atStart => exact ⟨0, F, _, Nat.zero_le _, rfl, HI0.out, HQ6.out, HXB.out⟩
  case round =>
    obtain ⟨k, F1, ov1, hk, rfl, hI, hQ, hX⟩ := hrel
    obtain ⟨L1, hL1⟩ : ∃ x, (selfN k).foldl (covS m) [] = x := ⟨_, rfl⟩
    have hl1 := covF_len m (selfN k) []
    rw [selfN_len, hL1] at hl1
    rw [hL1] at hI
    have HL1 := hide hL1
    have e6 := cellOf hQ.out 0
    have l6 := box_lt hQ.out
    have hll : L1.length ≤ 24 := by simp at hl1; omega
    clear hl1 hL1
    by_cases hlt : k < m.opts.length
    · have hwa := want_any m w W0.heap.size w1.heap.size F.p n _ L1 wr F1 ov1 hI.out hN (by omega) (by omega) hs1 hn5 k k false false hlt hlt
      have hwb := fun W F2 ov2 (h : CovI m w W0.heap.size w1.heap.size F.p n (6120 + 12 * k + 6) (covS m L1 ⟨k, k, false, false⟩) W F2 ov2) => want_any m w W0.heap.size w1.heap.size F.p n _ _ W F2 ov2 h hN (by omega) (by have := covS_len m L1 ⟨k, k, false, false⟩; omega) hs1 hn5 k k true true hlt hlt
      have HWA := hide hwa
      have HWB := hide hwb
      clear hwa hwb
      gi_wp2_with (first
        | (refine ⟨trivial, ?_⟩; gi_at_call 92; refine (callsIn_wide.2 (HWB.out _ _ _ HI2.out)).mono ?_; rintro e w3 ⟨⟨_, rfl⟩, hw3⟩; have HQ3 := hide (hw3.stay HI2.out HQ2.out (by decide) (by decide) (by decide) (by omega)); have HX3 := hide (hw3.stay HI2.out HX2.out (by decide) (by decide) (by decide) (by omega)); have HW3 := hide hw3; clear hw3)
        | (refine ⟨trivial, ?_⟩; gi_at_call 92; refine (callsIn_wide.2 HWA.out).mono ?_; rintro e w2 ⟨⟨_, rfl⟩, hw2⟩; have HQ2 := hide (hw2.stay hI.out hQ.out (by decide) (by decide) (by decide) (by omega)); have HX2 := hide (hw2.stay hI.out hX.out (by decide) (by decide) (by decide) (by omega)); have e6 := cellOf HQ2.out 0; have l6 := box_lt HQ2.out; obtain ⟨F2, ov2, hi2, hk2⟩ := hw2; have HI2 := hide hi2; clear hi2 hk2))
      obtain ⟨F3, ov3, hi3, _⟩ := HW3.out
      go_roundw
      case rel =>
        refine ⟨k + 1, F3, ov3, by omega, by go_num, ?_, HQ3.out, HX3.out⟩
        rw [show selfN (k + 1) = selfN k ++ [⟨k, k, false, false⟩, ⟨k, k, true, true⟩] from rfl, List.foldl_append, HL1.out]
        exact hi3
      case measure => simp [intOf]; omega
    · obtain rfl : k = m.opts.length := by omega
      have g0 : ¬ (m.opts.length : Int) < (m.opts.length : Int) := by omega
      have c0 := cellOf hX.out 0
      have l0 := box_lt hX.out
      gi_wp2_with (refine ⟨trivial, ?_⟩; gi_at_call 88; refine (callsIn_wide.2 (combos_any _ _)).mono ?_; rintro e w' ⟨rfl, rfl⟩)
      obtain ⟨W2, hW2⟩ : ∃ W2 : World, wr.alloc (.cells #[.int .i64 m.opts.length] 3) = W2 := ⟨_, rfl⟩
      obtain ⟨q7, hB2, hs2⟩ := alloc1 hW2
      have hg2 : wr.grownBy W2 none := by rw [← hW2]; exact World.grownBy_alloc _ _ none
      have hI2 := hI.out.turn hg2 (fun r e => by cases e) hwW
      have hQ2 := (hB2.block _ l6).trans hQ.out
      rw [hW2]
      have hsz2 : W0.heap.size ≤ W2.heap.size := hI2.sz
      have hsz3 : W0.heap.size ≤ wr.heap.size := hI.out.sz
      obtain ⟨nb, hnb⟩ : ∃ x, wr.heap.size = x := ⟨_, rfl⟩
      rw [hnb] at q7 hs2 hsz3 ⊢
      have hnb2 : W2.cell? ⟨nb, 0, none⟩ = some (.int .i64 m.opts.length) := cellOf q7 0
      have HI2 := hide hI2
      have HQ2 := hide hQ2
      have HQ7 := hide q7
      clear hW2 q7 hB2 hg2 hI2 hQ2 c0 l0 e6 l6
      refine wpIn_rangeFunc_ownH rfl (by omega) (gf := 108) (lb := #[.pointer (some ⟨nb, 0, none⟩)]) rfl trivial (enters_of Try.func108 (by kernel_rfl) rfl)
        (combos_stops (5 - 1) (by omega) nb m.opts.length (by omega) W2 (by omega) hnb2)
        (fun h k => h.trans k) (fun W l o o' _ h1 h2 _ => KpB.putObj W l o o' h1 h2) (Below.refl _ _) (fun _ => rfl)
        (fun pre W => ∃ F3 ov3, CovI m w W0.heap.size w1.heap.size F.p n (6120 + 12 * m.opts.length + 6 * pre.length) ((lks pre).foldl (covS m) L1) W F3 ov3 ∧ W.heap[w1.heap.size + 2]? = some (.cells #[.func (.func 92) #[] #[.pointer (some ⟨w.heap.size + 1, 0, none⟩), .pointer (some ⟨w1.heap.size, 0, none⟩), .pointer (some ⟨w1.heap.size + 1, 0, none⟩)]] 131 (0, 0)) ∧ W.heap[nb]? = some (.cells #[.int .i64 m.opts.length] 3 (0, 0)) ∧ W2.heap.size ≤ W.heap.size)
        (fun _ _ _ => False)
        (fun s X Y row ⟨F3, ov3, hi, h1, h2, h3⟩ hg hr => by
          have hc : ∀ (b : Nat) (cs : Array Value) (t : Nat) (fr : Nat × Nat), X.heap[b]? = some (Obj.cells cs t fr) → Y.heap[b]? = some (Obj.cells cs t fr) := fun b cs t fr hb => (hg.block b (Array.getElem?_eq_some_iff.1 hb).1 (fun e => by
            obtain ⟨_, o, h2, h3⟩ := hr b e.symm
            rw [hb] at h2
            injection h2 with h2
            subst h2
            cases h3)).trans hb
          exact ⟨F3, ov3, hi.turn hg (fun r e => ⟨Nat.le_trans hsz2 (hr r e).1, (hr r e).2⟩) hwW, hc _ _ _ _ h1, hc _ _ _ _ h2, Nat.le_trans h3 hg.size⟩)
        (fun c s X Y row h _ _ => h.elim)
        ⟨F1, ov1, HI2.out, HQ2.out, HQ7.out, Nat.le_refl _⟩
        (fun x a' W => ∃ Bx : Nat, W2.heap.size ≤ Bx ∧ W.heap[Bx]? = some (.cells #[.int .i64 x.1.a, .int .i64 x.1.b, .bool x.1.wa, .bool x.1.wb] 77 (0, 0)) ∧ a' = { tmps := #[.agg #[.slice A m.opts.length cap, .slice Ar m.rules.length capr], .pointer (some ⟨w.heap.size, 0, none⟩), .pointer (some ⟨w.heap.size + 1, 0, none⟩), .int .i64 0, .pointer (some ⟨w1.heap.size, 0, none⟩), .pointer (some ⟨w1.heap.size + 1, 0, none⟩), .pointer (some ⟨w1.heap.size + 1 + 1, 0, none⟩), u7, .pointer (some ⟨Bx, 0, none⟩), .tuple #[.pointer (some ⟨F.p, 0, none⟩), .int .i64 n, .int .i64 0], .agg #[.slice A m.opts.length cap, .slice Ar m.rules.length capr], .tuple #[.pointer (some ⟨F.p, 0, none⟩), .int .i64 n, .int .i64 0], .pointer (some ⟨F.p, 0, none⟩), .int .i64 n, .int .i64 0, .int .i64 0, .bool false, undef, .func (.func 92) #[] #[.pointer (some ⟨w.heap.size + 1, 0, none⟩), .pointer (some ⟨w1.heap.size, 0, none⟩), .pointer (some ⟨w1.heap.size + 1, 0, none⟩)], .pointer (some ⟨w.heap.size, 0, none⟩), .slice A m.opts.length cap, .int .i64 m.opts.length, .int .i64 m.opts.length, .bool false, u24, u25, u26, u27, u28, u29, u30, u31, u32, u33, .pointer (some ⟨w.heap.size, 0, none⟩), .slice A m.opts.length cap, .int .i64 m.opts.length, .func (.func 108) #[] #[.pointer (some ⟨nb, 0, none⟩)], .agg #[.int .i64 x.1.a, .int .i64 x.1.b, .bool x.1.wa, .bool x.1.wb], undef, undef, undef, undef, undef, undef, undef, undef, undef, undef, undef], defers := [] })
        (fun x a' _ X Y row ⟨Bx, h1, h2, h3⟩ hg hr => ⟨Bx, h1, (hg.block Bx (Array.getElem?_eq_some_iff.1 h2).1 (fun e => by
          obtain ⟨_, o, h4, h5⟩ := hr Bx e.symm
          rw [h2] at h4
          injection h4 with h4
          subst h4
          cases h5)).trans h2, h3⟩) ?assign ?body ?done ?stop
      case assign =>
        rintro l pre ⟨⟨xa, xb, xwa, xwb⟩, hxa, hxb⟩ W K ⟨F3, ov3, hi, h1, h2, h3⟩ hK
        have HK := hide hK
        have HI := hide hi
        have H1 := hide (And.intro h1 (And.intro h2 h3))
        clear hK hi h1 h2 h3
        simp only [lkV]
        gi_wp2
        refine HK.out _ _ ((KeepsOthers.alloc _ _).from _) (KpB.alloc _ _ _) ⟨F3, ov3, HI.out.turn (World.grownBy_alloc _ _ none) (fun r e => by cases e) hwW, (Below.heap_alloc W _ _ (box_lt H1.out.1)).trans H1.out.1, (Below.heap_alloc W _ _ (box_lt H1.out.2.1)).trans H1.out.2.1, by have := H1.out.2.2; simp; omega⟩ ⟨W.heap.size, H1.out.2.2, heap_new _ _ _ rfl, rfl⟩
      case body =>
        rintro l pre ⟨⟨xa, xb, xwa, xwb⟩, hxa, hxb⟩ a' W hl hrec ⟨F3, ov3, hi, h1, h2, h3⟩ ⟨Bx, hBx, hbx, rfl⟩ hlen
        have hbx : W.heap[Bx]? = some (.cells #[.int .i64 xa, .int .i64 xb, .bool xwa, .bool xwb] 77 (0, 0)) := hbx
        dsimp only
        have c6 := cellOf h1 0
        have x0 := cellOf hbx 0
        have x1 := cellOf hbx 1
        have x2 := cellOf hbx 2
        have x3 := cellOf hbx 3
        have l6 := box_lt h1
        have lx := box_lt hbx
        have hxa' : xa < m.opts.length := hxa
        have hxb' : xb < m.opts.length := hxb
        have hlen2 : pre.length ≤ 576 := by have := pairs_len hN; omega
        obtain ⟨L3, hL3⟩ : ∃ x, (lks pre).foldl (covS m) L1 = x := ⟨_, rfl⟩
        have hl3 := covF_len m (lks pre) L1
        rw [lks_len, hL3] at hl3
        rw [hL3] at hi
        have hwa := want_any m w W0.heap.size w1.heap.size F.p n _ L3 W F3 ov3 hi hN (by omega) (by omega) hs1 hn5 xa xb xwa xwb hxa' hxb'
        have HWA := hide hwa
        have HI := hide hi
        have HL3 := hide hL3
        have H1 := hide (And.intro h1 (And.intro h2 h3))
        clear hwa hi hL3 h1 h2 h3 hl3 hbx hrec
        gi_wp2_with (refine ⟨trivial, ?_⟩; gi_at_call 92; refine (CallsIn.inRound l (callsIn_wide.2 HWA.out)).mono ?_; rintro e w4 ⟨⟨_, rfl⟩, hw4⟩; have HW4 := hide hw4; clear hw4)
        obtain ⟨F4, ov4, hi4, hk4⟩ := HW4.out
        have h7 := HW4.out.stay HI.out H1.out.2.1 (by decide) (by decide) (by decide) (by omega)
        refine ⟨HW4.out.from HI.out hsz2 (by omega), fun u hu => ?_, F4, ov4, ?_, HW4.out.stay HI.out H1.out.1 (by decide) (by decide) (by decide) (by omega), h7, Nat.le_trans H1.out.2.2 hk4.size⟩
        · rw [cellOf H1.out.2.1 0] at hu
          exact (cellOf h7 0).trans hu
        · rw [lks_snoc, List.foldl_append, HL3.out, List.length_append, List.length_singleton, Nat.mul_add]
          exact hi4
      case done =>
        rintro D xs W hD hS ⟨F3, ov3, hi, h1, h2, h3⟩ hK
        have c2 := cellOf hi.out 0
        have f2 := unfrozenOf hi.out 0
        have l2 := box_lt hi.out
        obtain ⟨Lz, hLz⟩ : ∃ x, (lks xs).foldl (covS m) L1 = x := ⟨_, rfl⟩
        have hLe : covL m = Lz := by
          rw [HML.out, wantL, List.foldl_append, HL1.out, ← hS]
          exact hLz
        rw [hLz] at hi
        have HI := hide hi
        have HLE := hide hLe
        obtain ⟨A1, cap1, hv1, _, _⟩ := hi.row.form
        subst hv1
        clear hi hLz hLe hS h1 h2 h3
        gi_wp2
        refine ⟨by simp, .inl ⟨_, _, rfl, run_takeDeferred ((KeepsOthers.setCell _ _ _).same D _ hK rfl), ?_⟩⟩
        obtain ⟨vr, hvr⟩ : ∃ vr : Value, Value.slice A1 Lz.length cap1 = vr := ⟨_, rfl⟩
        rw [hvr] at HI ⊢
        have hDw : w.heap.size + 1 ≠ D := by omega
        have ho : ((W.setCell ⟨w.heap.size + 1, 0, none⟩ vr).putObj D (.deferred none)).heap[w.heap.size + 1]? = some (.cells #[vr] 53 (0, 0)) := (World.putObj_heap_other hDw).trans (setCellOf (i := 0) HI.out.out vr)
        have hkp : Keeps (fun i => i = w.heap.size + 1 ∨ i = D) W ((W.setCell ⟨w.heap.size + 1, 0, none⟩ vr).putObj D (.deferred none)) := ((Keeps.refl _ W).setCell (.inl (.inl rfl)) vr).trans (Keeps.of_grown (grownBy_putObj' _ D _) (fun k e => by injection e with e; exact e.symm)) (T := fun i => i = D) (fun i _ e => .inr e)
        have hbl := hkp.below (B := w.heap.size) HI.out.fo.below.size (fun k e => by rcases e with e | e <;> omega)
        have hst : VStk (fun b => SF F3 b ∨ b = w.heap.size + 1) W0.heap.size (W.setCell ⟨w.heap.size + 1, 0, none⟩ vr) vr Lz := HI.out.row.step (Keeps.setCell (S := fun i => i = w.heap.size + 1) (p := ⟨w.heap.size + 1, 0, none⟩) (Keeps.refl _ W) (.inl rfl) vr) (fun b _ e => .inr e) (fun b _ e => e)
        have hfin := hst.cellsStay (w' := (W.setCell ⟨w.heap.size + 1, 0, none⟩ vr).putObj D (.deferred none)) (fun b cs t fr hb => (World.putObj_heap_other (fun e => by
          subst e
          have h8 := (KeepsOthers.setCell W ⟨w.heap.size + 1, 0, none⟩ vr).same _ _ hK rfl
          rw [h8] at hb
          cases hb)).trans hb) (grownBy_putObj' _ D _).size
        have e1 := cellOf ho 0
        have l1 := box_lt ho
        have HFIN := hide (And.intro hfin.rows hbl)
        clear hkp hbl hfin ho hst
        refine ⟨.tuple #[vr, .int .i64 0], ?_, ?_⟩
        · rw [results_cell_tmp rfl]
          go_simp
        · rw [HLE.out]
          refine ⟨_, rfl, HFIN.out.1, ?_⟩
          have hb := HFIN.out.2
          have h0 := HI.out.fo.below
          exact ⟨hb.os.trans h0.os, hb.tape.trans h0.tape, hb.output.trans h0.output, Nat.le_trans h0.size hb.size, fun k hk => (hb.block k hk).trans (h0.block k hk)⟩
      case stop =>
        rintro D c pre W _ _ h
        exact h.elim
set_option maxRecDepth 100000 in
set_option maxHeartbeats 4000000 in
theorem Cover_err (m : Mo) (ov rv : Value) (w : World) (hs : SizedM m) (h : MoAt w w.heap.size ov rv m) (he : m.err ≠ 0) :
    Calls Try.prog 55 #[.agg #[ov, rv]] w (ListP (covL m) m.err w) := by
  obtain ⟨A, cap, hov⟩ := Sl.form h.o
  obtain ⟨Ar, capr, hrv⟩ := h.r.form
  subst hov hrv
  have hB2 : Below w.heap.size w ((w.alloc (.cells #[.slice A m.opts.length cap, .slice Ar m.rules.length capr] 25)).alloc (.cells #[.slice none 0 0] 53)) := (by repeat (first | exact Below.refl _ _ | assumption | refine Below.drew ?_ | refine Below.drewN ?_ _ | refine Below.allocT ?_ (Nat.le_refl _) _ | refine Below.setCell ?_ (by simp <;> omega) _ | refine Below.to ?_ (by assumption) (Nat.le_refl _)))
  have hbe := begin_err m [] (.slice A m.opts.length cap) (.slice Ar m.rules.length capr) (.slice none 0 0) _ hs sized_nil (h.up hB2) (Forms.none _ _) (by rw [errF_nil]; exact he)
  have hbox1 : ((w.alloc (.cells #[.slice A m.opts.length cap, .slice Ar m.rules.length capr] 25)).alloc (.cells #[.slice none 0 0] 53)).heap[w.heap.size + 1]? = some (.cells #[.slice none 0 0] 53 (0, 0)) := by rw [heap_new _ _ _ (by simp)]
  have hne : (m.err != 0) = true := by simpa using he
  rw [errF_nil] at hbe
  have HP := hide (cov_err he)
  obtain ⟨z, hz⟩ : ∃ z, m.err = z := ⟨_, rfl⟩
  rw [hz] at hne hbe
  rw [hz]
  have HBX := hide hbox1
  have HBE := hide hbe
  clear h hz he hbe hB2 hbox1
  go_enter Try.func55, Try.ntmps55
  go_upto_region 2 with (go_at_call 60; refine HBE.out.mono ?_; rintro e w1 ⟨rfl, hB1⟩; have hb1 := box_to HBX.out hB1; have HB1 := hide hb1; have HW1 : Hid (Below w.heap.size w w1) := (by repeat (first | exact Below.refl _ _ | assumption | refine Below.drew ?_ | refine Below.drewN ?_ _ | refine Below.allocT ?_ (Nat.le_refl _) _ | refine Below.setCell ?_ (by simp <;> omega) _ | refine Below.to ?_ (by assumption) (Nat.le_refl _))); clear hb1 hB1)
  generalize hw2 : World.alloc _ _ = w2
  obtain ⟨_, _, hB2, _⟩ := alloc2 hw2
  have hb2 := box_to HB1.out hB2
  have HBL : Hid (Below w.heap.size w w2) := Below.to HW1.out hB2 (Nat.le_refl _)
  have e1 := cellOf hb2 0
  have f1 := unfrozenOf hb2 0
  have l1 := box_lt hb2
  have HB2 := hide hb2
  clear hw2 hB2 hb2
  go_wp2_with fail
  have ho := setCellOf (i := 0) HB2.out (.slice none 0 0)
  have e2 := cellOf ho 0
  have hbl : Below w.heap.size w (w2.setCell ⟨w.heap.size + 1, 0, none⟩ (.slice none 0 0)) := HBL.out.setCell (by simp) _
  have HBLL := hide hbl
  clear hbl ho e1 f1
  rw [HP.out]
  refine bodyPost_ret (v := .tuple #[.slice none 0 0, .int .i64 z]) ?_ rfl (ListP.none z HBLL.out)
  rw [results_cell_tmp rfl]
  go_simp
theorem Cover_any (m : Mo) (ov rv : Value) (w : World) (hs : SizedM m) (h : MoAt w w.heap.size ov rv m) (hN : m.err = 0 → m.opts.length ≤ 12) :
    Calls Try.prog 55 #[.agg #[ov, rv]] w (ListP (covL m) m.err w) := by
  by_cases he : m.err = 0
  · rw [he]
    exact Cover_ok m ov rv w hs h he (hN he)
  · exact Cover_err m ov rv w hs h he
end Go.Proofs.Ytohofcmikfkilaa

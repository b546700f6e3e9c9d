/- Part 11 of this claim's texts: walks and plain laws. -/
import Derived.Test.YtehadoecnmfeoaaRows
import Derived.Test.YtehadoecnmfeoaaGBF6
import Derived.Laws.ShiftsVarLaws
import Derived.Test.YtehadoecnmfeoaaGBF10
import Derived.StringKeys
import Derived.Deep.RegionHeld3
import Derived.Deep.DrawnRows
import Derived.Test.YtehadoecnmfeoaaGBF9
/- How many variants a node holds in: walk. -/
namespace Go.Proofs.Ytehadoecnmfeoaa
open Go.RowKit
open Go.Maps (Keyed)
set_option linter.unusedVariables false
set_option linter.unusedSimpArgs false
def enN (n : Nat) : Value := .int .i64 n
/-- What the map of counts holds is right. -/
def CntOk (ks : List Kn) (N : Nat) (m : Nat → Option Int) : Prop := ∀ n x, m n = some x → n < ks.length ∧ x = (cntK ks N n (topK ks n) : Nat)
structure CntR (F : Fo) (kb d : Nat) (w : World) (cnt : Nat) (w' : World) (m' : Nat → Option Int) (cnt' : Nat) : Prop where
  keep : Keeps (fun k => k = kb) w w'
  map : MapIs Try.prog w' 3 3 kb cnt' enN m'
  ok : CntOk F.ks F.N m'
  cnt : cnt' + 1 ≤ cnt + 2 ^ (d + 1)

end Go.Proofs.Ytehadoecnmfeoaa
/- Count: walk. -/
namespace Go.Proofs.Ytehadoecnmfeoaa
open Go.RowKit
set_option linter.unusedVariables false
set_option linter.unusedSimpArgs false
/-- The buildable variants in which a formula holds. -/
def satM (m : Mo) (p : (Nat → Bool) → Bool) : List (List Bool) := (exts m.opts.length []).filter fun x => allF (vf x) m.rules && p (vf x)
theorem satM_node {m : Mo} {ks : List Kn} {N n : Nat} {p : (Nat → Bool) → Bool} (hN : N = m.opts.length) (h : ∀ v, ev ks v n = (allF v m.rules && p v)) : sat ks N n [] = satM m p := by
  unfold sat satM
  rw [hN]
  exact List.filter_congr fun x _ => h _
/-- One formula in a new block is a list of formulas. -/
theorem forms_one {w : World} {b B : Nat} {fv : Value} {f : List Int} {t : Nat} (hb : w.heap[b]? = some (.cells #[fv] t (0, 0))) (hB : b < B) (h : Ints w B fv f) : Forms w B (.slice (some ⟨b, 0, none⟩) 1 1) [f] :=
  ⟨fun _ => fv, ⟨_, b, 0, 1, rfl, Nat.le_refl _, .inl ⟨rfl, hB⟩, fun i j hi hj => by
    simp at hi
    obtain rfl : j = 0 := by omega
    subst hi
    exact cellOf hb 0⟩, fun i hi => by
    simp at hi
    subst hi
    exact h⟩
theorem sized_one {f : List Int} (h : f.length ≤ maxLen) : Sized [f] := ⟨by unfold maxLen; simp, fun g hg => by simp at hg; rw [hg]; exact h⟩
/-- After begin and further steps all that was there before is as it was. -/
theorem OpR.low {m : Mo} {w w1 w2 : World} {F F2 : Fo} {n k : Nat} (h : BegR m w w1 F n) (r : OpR k w1 F w2 F2) : Below w.heap.size w w2 := by
  have hb := r.st.below h.here h.base2
  exact ⟨hb.os.trans h.below.os, hb.tape.trans h.below.tape, hb.output.trans h.below.output, Nat.le_trans h.below.size hb.size, fun k hk => (hb.block k (Nat.lt_of_lt_of_le hk h.base)).trans (h.below.block k hk)⟩
theorem BegR.of {m : Mo} {w w0 w1 : World} {F : Fo} {n : Nat} (h : BegR m w0 w1 F n) (hb : Below w.heap.size w w0) : BegR m w w1 F n :=
  ⟨h.here, h.N, Nat.le_trans hb.size h.base, Below.to hb h.below (Nat.le_refl _), h.base2, h.lt, h.ev, h.len, h.nj⟩
theorem BegR.op {m : Mo} {w w1 : World} {F : Fo} {n : Nat} (h : BegR m w w1 F n) : OpR 0 w1 F w1 F := OpR.refl h.here 0
theorem grow_beg {m : Mo} {w w1 w2 : World} {F F1 : Fo} {n k : Nat} {f : List Int} {fv : Value} (h : BegR m w w1 F n) (hN : m.opts.length ≤ 12) (r : OpR k w1 F w2 F1) (hk : k + 100 ≤ 200000) (hf : Ints w w.heap.size fv f) (hv : validF m.opts.length f = true) :
    Calls Try.prog 43 #[.pointer (some ⟨F.p, 0, none⟩), fv] w2
      fun e w' => ∃ g F', e = .returned (.int .i64 (g : Nat)) ∧ OpR (k + 100) w1 F w' F' ∧ OpR 100 w2 F1 w' F' ∧ g < F'.ks.length ∧ ∀ v, ev F'.ks v g = evF1 v f := by
  have hl := (validF_pos hv).2
  have hc := grow_any F1 f fv w2 r.st.here (by rw [r.st.ba]; exact Nat.le_trans h.base2 r.st.keep.size) (by rw [r.st.N, h.N]; exact hv) (by
    rw [r.st.ba]
    exact (hf.below (r.low h)).more h.base) ((h.room hN (k := k + 100) hk |>.step r).mono hl)
  rw [r.st.p] at hc
  refine hc.mono ?_
  rintro e w' ⟨g, F', rfl, r1, r2, r3⟩
  exact ⟨g, F', rfl, r.trans (r1.mono hl), r1.mono hl, r2, r3⟩
/-- and of some nodes, in a block that was just made. -/
theorem and_beg {m : Mo} {w w1 w2 : World} {F F1 : Fo} {n k : Nat} {l : List Nat} (h : BegR m w w1 F n) (hN : m.opts.length ≤ 12) (r : OpR k w1 F w2 F1) (hk : k + 4 ≤ 200000) (hl : l.length ≤ 4) (hln : ∀ x ∈ l, x < F1.ks.length) :
    Calls Try.prog 42 #[.pointer (some ⟨F.p, 0, none⟩), .slice (some ⟨w2.heap.size, 0, none⟩) l.length l.length] (w2.alloc (.cells (l.map fun (n : Nat) => Value.int .i64 n).toArray 3))
      fun e w' => ∃ g F', e = .returned (.int .i64 (g : Nat)) ∧ OpR (k + 4) w1 F w' F' ∧ OpR 4 w2 F1 w' F' ∧ g < F'.ks.length ∧ ∀ v, ev F'.ks v g = l.all (fun x => ev F1.ks v x) := by
  have hB : Below w2.heap.size w2 (w2.alloc (.cells (l.map fun (n : Nat) => Value.int .i64 n).toArray 3)) := (Below.refl _ _).alloc (Nat.le_refl _) _
  have hc := and_any F1 w2.heap.size l _ (r.st.here.below hB) hln (heap_new _ _ _ rfl) (fun e => by have := r.st.here.slt e; omega) (by omega) ((h.room hN (k := k + 4) hk |>.step r).mono hl)
  rw [r.st.p] at hc
  refine hc.mono ?_
  rintro e w' ⟨g, F', rfl, r1, r2, r3⟩
  have r4 : OpR 4 w2 F1 w' F' := (OpR.after_below r.st.here hB r1).mono hl
  exact ⟨g, F', rfl, r.trans r4, r4, r2, r3⟩
end Go.Proofs.Ytehadoecnmfeoaa
/- The text of nodes: walk. -/
namespace Go.Proofs.Ytehadoecnmfeoaa
open Go.RowKit
set_option linter.unusedVariables false
set_option linter.unusedSimpArgs false
theorem infoRune : (Try.prog.info? 21).map (fun i => (i.zero, i.size, i.bytes)) = some (some (.int .i32 0), 1, 4) := by kernel_rfl
theorem and15 (x : Int) (h0 : 0 ≤ x) (h1 : x < 9223372036854775808) : bits .and .i64 x 32767 = x % 32768 := by
  have h := bits_mask .i64 63 (by decide) wrap_small 15 (by decide) x h0 (by simpa using h1)
  have e : ((2 : Int) ^ 15 - 1) = 32767 := by decide
  have e2 : ((2 : Int) ^ 15) = 32768 := by decide
  rw [e, e2] at h
  exact h
theorem kyL_snoc (l : List Nat) (x : Nat) : kyL (l ++ [x]) = kyL l ++ [((x % 32768 : Nat) : Int), ((x / 32768 % 32768 : Nat) : Int)] := by simp [kyL]
theorem kyL_len (l : List Nat) : (kyL l).length = 2 * l.length := by
  induction l with
  | nil => rfl
  | cons x r ih =>
    show (kyL r).length + 1 + 1 = 2 * (r.length + 1)
    omega
set_option maxRecDepth 100000 in
set_option maxHeartbeats 2000000 in
theorem key_any (l : List Nat) (v : Value) (B : Nat) (w : World) (hl : l.length ≤ 1000) (hs : ∀ n ∈ l, n < 1073741824) (h : Sl w B 1 v l.length (fun i _ => .int .i64 (l.getD i 0 : Nat))) (hB : B ≤ w.heap.size) :
    Calls Try.prog 113 #[v] w fun e w' => e = .returned (.string (kyS l)) ∧ Below w.heap.size w w' := by
  obtain ⟨i0, hi0, iz0, iz1, iz2⟩ := info_parts infoRune
  obtain ⟨A, b, off, cap, rfl, hnc, hA, hc⟩ := h
  have HC := hide hc
  have HA := hide hA
  have HS := hide hs
  clear hc hA hs
  go_enter Try.func113, Try.ntmps113
  go_wp2
  go_loopw [3, 8] (fun x i wr => ∃ k : Nat, k ≤ l.length ∧ i = .int .i64 k ∧ Hid (wr.ownsRow w.heap.size 21 1 x (2 * k) ((kyL (l.take k)).map (Value.int .i32))) ∧ Hid (Below w.heap.size w wr)) (fun _ i _ => l.length - (intOf i).toNat)
  case atStart => exact ⟨0, Nat.zero_le _, rfl, World.ownsRow_nil w w.heap.size 21 1, Below.refl _ _⟩
  case round =>
    obtain ⟨k, hk, rfl, ho, hBw⟩ := hrel
    by_cases hlt : k < l.length
    · obtain ⟨rfl, hbb⟩ : A = some ⟨b, off, none⟩ ∧ b < B := by
        rcases HA.out with h | h
        · exact h
        · omega
      obtain ⟨x, hx⟩ : ∃ x, l.getD k 0 = x := ⟨_, rfl⟩
      have hx30 : x < 1073741824 := HS.out x (by rw [← hx]; exact getD_mem hlt)
      have c0 : wr.cell? ⟨b, off + k, none⟩ = some (.int .i64 (x : Nat)) := by
        have h1 := HC.out k 0 hlt (by omega)
        rw [Nat.mul_one, Nat.add_zero, hx] at h1
        exact (hBw.out.cell (p := ⟨b, off + k, none⟩) (by show b < w.heap.size; omega)).trans h1
      have HX := hide hx
      clear hx
      have hb1 : bits .and .i64 (x : Int) 32767 = ((x % 32768 : Nat) : Int) := by rw [and15 _ (by omega) (by omega)]; omega
      have hb2 : bits .and .i64 ((x : Int) / 32768) 32767 = ((x / 32768 % 32768 : Nat) : Int) := by rw [and15 _ (by omega) (by omega)]; omega
      obtain ⟨y, hy⟩ : ∃ y, x % 32768 = y := ⟨_, rfl⟩
      obtain ⟨z, hz⟩ : ∃ z, x / 32768 % 32768 = z := ⟨_, rfl⟩
      rw [hy] at hb1
      rw [hz] at hb2
      have hy1 : (y : Int) < 32768 := by omega
      have hz1 : (z : Int) < 32768 := by omega
      have hy0 : (0 : Int) ≤ (y : Int) := by omega
      have hz0 : (0 : Int) ≤ (z : Int) := by omega
      have hx0 : (0 : Int) ≤ (x : Int) := by omega
      have hx1 : (x : Int) < 1073741824 := by omega
      have HY := hide (And.intro hy hz)
      have hsz := hBw.out.size
      clear hy hz
      go_wp2_with (at_builtin; go_must (refine wpList_append_own_at _ rfl (.tmp 12) (.tmp 20) _ rfl w.heap.size 21 i0 _ 1 4 Try.underlying191 hi0 iz0 iz1 iz2 rfl (by omega) _ _ _ rfl (ho.out.alloc _) ⟨wr.heap.size, 0, none⟩ 2 2 [.int .i32 y, .int .i32 z] rfl rfl (World.news_of_block (heap_alloc_new wr _)) (by simp [Value.oneCell']) (by unfold maxLen; omega) (by omega) (by simp; omega) ?_); intro v1 w1 hown1 hg1 _ hat1; have HOWN := hide hown1; have HG1 := hide hg1; clear hown1 hg1 hat1)
      go_roundw
      case rel =>
        refine ⟨k + 1, by omega, by go_num, ?_, ?_⟩
        · have h1 := HOWN.out
          rw [take_getD (z := 0) hlt, HX.out, kyL_snoc, HY.out.1, HY.out.2, List.map_append]
          exact h1
        · exact Below.grown (Below.allocT hBw.out (Nat.le_refl _) _) HG1.out (by simp; omega) (fun j hj => (ho.out.lt j hj).1)
      case measure => simp [intOf]; omega
    · obtain rfl : k = l.length := by omega
      have ho2 := ho.out
      rw [List.take_length] at ho2
      rcases ho2.2 with ⟨h1, h2⟩ | ⟨g, cp, cur, h1, h2, h3, h4, h5, h6, h7⟩
      · subst h1
        have hl0 : l = [] := List.length_eq_zero_iff.1 (by omega)
        have hcv : (convert 191 9 (.slice none 0 0)).run Try.prog wr = .ok (.string .empty) wr := run_convert_runes_nil wr 191 9 21 0 0 Try.underlying191 Try.underlying21 Try.underlying9
        have HL := hide hl0
        clear hl0 ho2
        go_wp2
        go_ret
        exact ⟨by rw [HL.out]; rfl, hBw.out⟩
      · subst h1
        have hcell : ∀ j, j < (kyL l).length → wr.cell? ((⟨g, 0, none⟩ : Addr).add j) = some (.int .i32 ((kyL l).getD j 0)) := fun j hj => ho2.cells (g := g) rfl j _ (by simp [hj])
        have hcv : (convert 191 9 (.slice (some ⟨g, 0, none⟩) (2 * l.length) cp)).run Try.prog wr = .ok (.string (runesBytes ((kyL l).take (2 * l.length)))) wr := run_convert_runes wr 191 9 21 ⟨g, 0, none⟩ (2 * l.length) cp (kyL l) (by rw [kyL_len]; omega) Try.underlying191 Try.underlying21 Try.underlying9 hcell
        rw [List.take_of_length_le (by rw [kyL_len]; omega)] at hcv
        clear hcell ho2 h3 h7
        go_wp2
        go_ret
        exact ⟨rfl, hBw.out⟩
end Go.Proofs.Ytehadoecnmfeoaa
/- The weigher in memory; a step of it: walk. -/
namespace Go.Proofs.Ytehadoecnmfeoaa
open Go.RowKit
open Go.Maps (Keyed)
set_option linter.unusedVariables false
set_option linter.unusedSimpArgs false
/-- The slice v holds the nodes l, below block B. -/
def Nods (w : World) (B : Nat) (v : Value) (l : List Nat) : Prop := Sl w B 1 v l.length (fun i _ => .int .i64 (l.getD i 0 : Nat))
theorem Nods.below {w w' : World} {B : Nat} {v : Value} {l : List Nat} (h : Nods w B v l) (hb : Below B w w') : Nods w' B v l := Sl.below h hb
theorem Nods.up {w w' : World} {v : Value} {l : List Nat} (h : Nods w w.heap.size v l) (hb : Below w.heap.size w w') : Nods w' w'.heap.size v l := Sl.up h hb
theorem Nods.of_own {w : World} {base : Nat} {v : Value} {l : List Nat} (h : w.ownsRow base 3 1 v l.length (l.map fun (n : Nat) => Value.int .i64 n)) : Nods w w.heap.size v l := by
  rcases h.2 with ⟨h1, h2⟩ | ⟨g, cap, cur, h1, h2, h3, h4, h5⟩
  · rw [h1]
    have : l = [] := List.length_eq_zero_iff.1 h2
    subst this
    exact Sl.nil _ _ _ _
  · refine ⟨some ⟨g, 0, none⟩, g, 0, cap, h1, h4, .inl ⟨rfl, box_lt h3⟩, fun i j hi hj => ?_⟩
    have hg : v.ownBlock = some g := by rw [h1]; rfl
    have := h.cells hg i (.int .i64 (l.getD i 0 : Nat)) (by simp [hi])
    have he : (⟨g, 0, none⟩ : Addr).add i = ⟨g, i, none⟩ := by
      unfold Addr.add
      split
      · rename_i h0; rw [h0]
      · rw [Nat.zero_add]
    rw [he] at this
    rw [show 0 + (i * 1 + j) = i by omega]
    exact this
theorem owns_form {w : World} {base e size n : Nat} {v : Value} {xs : List Value} (h : w.ownsRow base e size v n xs) : ∃ A cap, v = .slice A n cap := by
  rcases h.2 with ⟨h1, h2⟩ | ⟨g, cap, cur, h1, _⟩
  · exact ⟨none, 0, by rw [h1, h2]⟩
  · exact ⟨_, _, h1⟩
/-- Lists of small numbers. -/
abbrev SmL := { l : List Nat // ∀ n ∈ l, n < 1073741824 }
def enS (a : SmL) : Value := .string (kyS a.1)
theorem enS_inj (a b : SmL) (h : enS a = enS b) : a = b := by
  unfold enS at h
  injection h with h
  exact Subtype.ext (kyS_inj a.2 b.2 h)
theorem enSKey {a : SmL} (h : a.1.length ≤ 1000) : ∃ l, keyOf Try.prog 9 (enS a) = some l :=
  ⟨_, Go.WideMaps.keyOf_string_mk Try.underlying9 (by have := kyS_size a.1; unfold maxLen; omega)⟩
theorem stLaw : Keyed Try.prog 9 := Maps.string_keyed Try.underlying9
/-- The weigher in memory. -/
structure WgAt (w : World) (F : Fo) (wp : Nat) (wsv : Value) (ws : List Int) (kb cnt : Nat) (m : SmL → Option Int) : Prop where
  box : w.heap[wp]? = some (.cells #[.pointer (some ⟨F.p, 0, none⟩), wsv, .map (some kb)] 171 (0, 0))
  fo : FoAt w F
  wts : Ints w w.heap.size wsv ws
  map : MapIs Try.prog w 9 3 kb cnt enS m
  ok : ∀ a x, m a = some x → x = bestK F.ks F.N a.1 ws []
  nS : ¬ SF F kb
theorem WgAt.ne {w : World} {F : Fo} {wp : Nat} {wsv : Value} {ws : List Int} {kb cnt : Nat} {m : SmL → Option Int} (h : WgAt w F wp wsv ws kb cnt m) : wp ≠ kb := by
  obtain ⟨es, c, h1⟩ := h.map.obj
  intro e
  have h2 := h.box
  rw [e, h1] at h2
  cases h2
theorem WgAt.below {w w' : World} {F : Fo} {wp : Nat} {wsv : Value} {ws : List Int} {kb cnt : Nat} {m : SmL → Option Int} (h : WgAt w F wp wsv ws kb cnt m) (hb : Below w.heap.size w w') : WgAt w' F wp wsv ws kb cnt m :=
  ⟨box_to h.box hb, h.fo.below hb, Ints.up h.wts hb, h.map.same (hb.block _ h.map.lt), h.ok, h.nS⟩
/-- A map that has changed changes no cell. -/
theorem keepsMap {α : Type} {kb cnt cnt' k e : Nat} {enc : α → Value} {m m' : α → Option Int} {w w' : World} (h : Keeps (fun i => i = kb) w w') (h1 : MapIs Try.prog w k e kb cnt enc m) (h2 : MapIs Try.prog w' k e kb cnt' enc m') : ∀ b o, b < w.heap.size → w'.cell? ⟨b, o, none⟩ = w.cell? ⟨b, o, none⟩ := by
  intro b o hb
  by_cases he : b = kb
  · obtain ⟨es, c, q1⟩ := h1.obj
    obtain ⟨es', c', q2⟩ := h2.obj
    subst he
    simp [World.cell?, q1, q2]
  · exact kcell h b o hb he
theorem WgAt.turn {w w' : World} {F : Fo} {wp : Nat} {wsv : Value} {ws : List Int} {kb cnt cnt' : Nat} {m m' : SmL → Option Int} (h : WgAt w F wp wsv ws kb cnt m) (hk : Keeps (fun i => i = kb) w w') (hm : MapIs Try.prog w' 9 3 kb cnt' enS m') (hok : ∀ a x, m' a = some x → x = bestK F.ks F.N a.1 ws []) : WgAt w' F wp wsv ws kb cnt' m' :=
  ⟨(hk.block _ (box_lt h.box) h.ne).trans h.box, h.fo.keeps hk (fun k hs e => h.nS (e ▸ hs)), Sl.more (Sl.keep h.wts (keepsMap hk h.map hm)) hk.size, hm, hok, h.nS⟩
set_option maxRecDepth 100000 in
set_option maxHeartbeats 2000000 in
theorem step_any (F : Fo) (wp : Nat) (wsv : Value) (ws : List Int) (kb cnt : Nat) (m : SmL → Option Int) (l : List Nat) (o : Nat) (b : Bool) (v : Value) (w : World) (h : WgAt w F wp wsv ws kb cnt m) (hl : l.length ≤ 1000) (hs : ∀ n ∈ l, n < F.ks.length) (hn : Nods w w.heap.size v l) :
    Calls Try.prog 103 #[.pointer (some ⟨wp, 0, none⟩), v, .int .i64 o, .bool b] w
      fun e w' => ∃ v', e = .returned v' ∧ Nods w' w'.heap.size v' (l.map fun n => brK F.ks n o b) ∧ Below w.heap.size w w' := by
  obtain ⟨i0, hi0, iz0, iz1, iz2⟩ := info_parts infoInt
  obtain ⟨A, b0, off, cap, rfl, hnc, hA, hc⟩ := hn
  have HC := hide hc
  have HA := hide hA
  have HS := hide hs
  have H := hide h
  clear hc hA hs h
  go_enter Try.func103, Try.ntmps103
  go_wp2
  go_loopw [9, 14] (fun x i wr => ∃ k : Nat, k ≤ l.length ∧ i = .int .i64 k ∧ Hid (wr.ownsRow w.heap.size 3 1 x k (((l.take k).map fun n => brK F.ks n o b).map fun (n : Nat) => Value.int .i64 n)) ∧ Hid (Below w.heap.size w wr)) (fun _ i _ => l.length - (intOf i).toNat)
  case atStart => exact ⟨0, Nat.zero_le _, rfl, World.ownsRow_nil w w.heap.size 3 1, Below.refl _ _⟩
  case round =>
    obtain ⟨k, hk, rfl, ho, hB⟩ := hrel
    by_cases hlt : k < l.length
    · obtain ⟨rfl, hbb⟩ : A = some ⟨b0, off, none⟩ ∧ b0 < w.heap.size := by
        rcases HA.out with h | h
        · exact h
        · omega
      obtain ⟨x, hx⟩ : ∃ x, l.getD k 0 = x := ⟨_, rfl⟩
      have hxl : x < F.ks.length := HS.out x (by rw [← hx]; exact getD_mem hlt)
      have c0 : wr.cell? ⟨b0, off + k, none⟩ = some (.int .i64 (x : Nat)) := by
        have h1 := HC.out k 0 hlt (by omega)
        rw [Nat.mul_one, Nat.add_zero, hx] at h1
        exact (hB.out.cell (p := ⟨b0, off + k, none⟩) hbb).trans h1
      have hwg := H.out.below hB.out
      have d0 := cellOf hwg.box 0
      have hbr := branch_any F x o b wr hwg.fo hxl
      have HBR := hide hbr
      have HX := hide hx
      have hsz := hB.out.size
      clear hx hwg hbr
      go_wp2_with (first | (go_at_call 93; refine HBR.out.mono ?_; rintro e w1 ⟨rfl, hB1⟩; have HB1 := hide hB1; have hsz1 := hB1.size; have ho1 := owns_below ho.out hB1; have HO1 := hide ho1; clear hB1 ho1) | (at_builtin; go_must (refine wpList_append_own_at _ rfl (.tmp 18) (.tmp 27) _ rfl w.heap.size 3 i0 _ 1 8 Try.underlying22 hi0 iz0 iz1 iz2 rfl (by omega) _ _ _ rfl (HO1.out.alloc _) ⟨w1.heap.size, 0, none⟩ 1 1 [.int .i64 (brK F.ks x o b : Nat)] rfl rfl (World.news_of_block (heap_alloc_new w1 _)) (by simp [Value.oneCell']) (by unfold maxLen; omega) (by omega) (by simp; omega) ?_); intro v1 w2 hown1 hg1 _ hat1; have HOWN := hide hown1; have HG1 := hide hg1; clear hown1 hg1 hat1))
      go_roundw
      case rel =>
        refine ⟨k + 1, by omega, by go_num, ?_, ?_⟩
        · have h1 := HOWN.out
          rw [take_getD (z := 0) hlt, HX.out, List.map_append, List.map_append]
          exact h1
        · exact Below.grown (Below.allocT (Below.to hB.out HB1.out (Nat.le_refl _)) (Nat.le_refl _) _) HG1.out (by simp; omega) (fun j hj => (HO1.out.lt j hj).1)
      case measure => simp [intOf]; omega
    · obtain rfl : k = l.length := by omega
      have ho2 := ho.out
      rw [List.take_length] at ho2
      have hf := owns_form ho2
      obtain ⟨A2, cap2, rfl⟩ := hf
      have HO2 := hide ho2
      clear ho2
      go_wp2
      go_ret
      refine ⟨_, rfl, Nods.of_own (base := w.heap.size) ?_, hB.out⟩
      rw [List.length_map]
      exact HO2.out
end Go.Proofs.Ytehadoecnmfeoaa
/- What is reached: walks. -/
namespace Go.Proofs.Ytehadoecnmfeoaa
open Go.RowKit
set_option linter.unusedVariables false
set_option linter.unusedSimpArgs false
set_option maxRecDepth 100000 in
theorem indexN_any (ns : List Nat) (s : Nat) (v : Value) (B : Nat) (w : World) (hm : ns.length ≤ maxLen) (h : Nods w B v ns) :
    Calls Try.prog 100 #[v, .int .i64 s] w fun e w' => e = .returned (.int .i64 (idxI (fun x => x == s) ns)) ∧ w = w' := by
  unfold maxLen at hm
  obtain ⟨A, b, off, cap, rfl, hnc, hA, hc⟩ := h
  have HC := hide hc
  have HA := hide hA
  clear hc hA
  go_enter Try.func100, Try.ntmps100
  go_wp2
  go_loop [8] (fun i => ∃ k : Nat, k ≤ ns.length ∧ i = .int .i64 k ∧ Hid (∀ j, j < k → (ns.getD j 0 == s) = false)) (fun i => ns.length - (intOf i).toNat)
  case atStart => exact ⟨0, Nat.zero_le _, rfl, fun j hj => by omega⟩
  case round =>
    obtain ⟨k, hk, rfl, hall⟩ := hrel
    by_cases hlt : k < ns.length
    · obtain ⟨rfl, hbb⟩ : A = some ⟨b, off, none⟩ ∧ b < B := by
        rcases HA.out with h | h
        · exact h
        · omega
      obtain ⟨x, hx⟩ : ∃ x, ns.getD k 0 = x := ⟨_, rfl⟩
      have c0 : w.cell? ⟨b, off + k, none⟩ = some (.int .i64 x) := by
        have h1 := HC.out k 0 hlt (by omega)
        rw [Nat.mul_one, Nat.add_zero, hx] at h1
        exact h1
      have HX := hide hx
      clear hx
      by_cases he : x = s
      · have he1 : ((s : Int) == (x : Int)) = true := by simp [he]
        have HE := hide he
        clear he
        go_wp2
        go_ret
        exact ⟨ret_int (idxI_at _ 0 ns k hall.out hlt (by rw [HX.out, HE.out]; simp)).symm, rfl⟩
      · have he1 : ((s : Int) == (x : Int)) = false := by simp; omega
        have he2 : ¬ (s : Int) = (x : Int) := by omega
        have HE := hide he
        clear he
        go_wp2
        go_round
        case rel => exact ⟨k + 1, by omega, by go_num, fun j hj => by
            rcases Nat.lt_or_ge j k with h | h
            · exact hall.out j h
            · rw [show j = k from by omega, HX.out]; simpa using HE.out⟩
        case measure => simp [intOf]; omega
    · go_wp2
      go_ret
      exact ⟨ret_int (idxI_none _ 0 ns (fun j hj => hall.out j (by omega))).symm, rfl⟩
set_option maxRecDepth 100000 in
theorem containsN_any (ns : List Nat) (s : Nat) (v : Value) (B : Nat) (w : World) (c : Bool) (hm : ns.length ≤ maxLen) (h : Nods w B v ns) (hc : decide (s ∈ ns) = c) :
    Calls Try.prog 84 #[v, .int .i64 s] w fun e w' => e = .returned (.bool c) ∧ w = w' := by
  have he : c = decide (0 ≤ idxI (fun x => x == s) ns) := by
    rw [idxI_any, ← hc, Bool.eq_iff_iff]
    simp
  have HE := hide he
  have H := hide h
  clear he h hc
  go_enter Try.func84, Try.ntmps84
  go_wp2_with (go_at_call 100; refine (indexN_any ns s v B _ hm H.out).mono ?_; rintro e w1 ⟨rfl, rfl⟩)
  go_ret
  exact ⟨ret_bool HE.out.symm, rfl⟩
theorem ownsNot {w : World} {b1 e1 s1 n1 g t : Nat} {v1 : Value} {x1 : List Value} {C : Array Value} (h1 : w.ownsRow b1 e1 s1 v1 n1 x1) (hg : w.heap[g]? = some (.cells C t (0, 0))) (hne : e1 ≠ t) : v1.ownBlock ≠ some g := by
  intro hb
  obtain ⟨_, ⟨rfl, _⟩ | ⟨g', cap, cur, rfl, _, q1, _⟩⟩ := h1
  · cases hb
  · injection hb with hb
    simp only at hb
    subst hb
    rw [q1] at hg
    injection hg with hg
    injection hg with _ hg
    exact hne hg
/-- A list of numbers in a row of the call's own, beside a boxed loom. -/
structure ReaS (w0 wr : World) (B lb : Nat) (A0 A1 A2 A3 A4 A5 : Option Addr) (q0 q1 q2 q3 q4 q5 : Nat) (l : Lo) (v : Value) (S : List Nat) : Prop where
  below : Below w0.heap.size w0 wr
  box : LoBox wr lb A0 A1 A2 A3 A4 A5 q0 q1 q2 q3 q4 q5 l
  own : wr.ownsRow B 3 1 v S.length (S.map fun (n : Nat) => Value.int .i64 n)
  nd : Nods wr wr.heap.size v S
  lt : w0.heap.size ≤ B ∧ B ≤ wr.heap.size
section
variable {w0 wr w' : World} {B lb : Nat} {A0 A1 A2 A3 A4 A5 : Option Addr} {q0 q1 q2 q3 q4 q5 : Nat} {l : Lo} {v v1 : Value} {S : List Nat} {m : Nat} {o : Obj}
theorem ReaS.mk' (h1 : Below w0.heap.size w0 wr) (h2 : LoBox wr lb A0 A1 A2 A3 A4 A5 q0 q1 q2 q3 q4 q5 l) (h3 : wr.ownsRow B 3 1 v S.length (S.map fun (n : Nat) => Value.int .i64 n)) (h4 : w0.heap.size ≤ B ∧ B ≤ wr.heap.size) : ReaS w0 wr B lb A0 A1 A2 A3 A4 A5 q0 q1 q2 q3 q4 q5 l v S :=
  ⟨h1, h2, h3, Nods.of_own h3, h4⟩
theorem ReaS.to (h : ReaS w0 wr B lb A0 A1 A2 A3 A4 A5 q0 q1 q2 q3 q4 q5 l v S) (hb : Below wr.heap.size wr w') : ReaS w0 w' B lb A0 A1 A2 A3 A4 A5 q0 q1 q2 q3 q4 q5 l v S :=
  ⟨Below.to h.below hb (Nat.le_refl _), box_to h.box hb, owns_below h.own hb, h.nd.up hb, h.lt.1, Nat.le_trans h.lt.2 hb.size⟩
theorem ReaS.push (h : ReaS w0 wr B lb A0 A1 A2 A3 A4 A5 q0 q1 q2 q3 q4 q5 l v S) (hown : w'.ownsRow B 3 1 v1 (S.length + 1) ((S.map fun (n : Nat) => Value.int .i64 n) ++ [.int .i64 (m : Nat)])) (hg : (wr.alloc o).grownBy w' v.ownBlock) : ReaS w0 w' B lb A0 A1 A2 A3 A4 A5 q0 q1 q2 q3 q4 q5 l v1 (S ++ [m]) := by
  have hB : Below wr.heap.size wr (wr.alloc o) := (Below.refl _ _).alloc (Nat.le_refl _) _
  have hlow : ∀ k, v.ownBlock = some k → B ≤ k := fun k hk => (h.own.lt k hk).1
  refine ReaS.mk' ?_ ?_ ?_ ⟨h.lt.1, ?_⟩
  · exact Below.grown (Below.to h.below hB (Nat.le_refl _)) hg (by have := h.below.size; simp; omega) (fun k hk => Nat.le_trans h.lt.1 (hlow k hk))
  · exact (hg.block lb (by have := box_lt h.box; simp; omega) (fun e => ownsNot h.own h.box (by decide) e.symm)).trans (box_to h.box hB)
  · rw [List.length_append, List.length_singleton, List.map_append]; exact hown
  · have := hg.size
    simp at this
    have := h.lt.2
    omega
end
end Go.Proofs.Ytehadoecnmfeoaa
/- Reels: the search for the first list of the fewest; plain laws. -/
namespace Go.Proofs.Ytehadoecnmfeoaa
set_option linter.unusedVariables false
def updL (L : Nat → Int) (r : Nat) (x : Int) : Nat → Int := fun i => if i = r then x else L i
/-- The first way to go on: pieces that are left, what is left of each reel, how many reels are begun. -/
def rlS (most : Nat) : List Int → (Nat → Int) → Nat → Option (List Nat)
  | [], _, _ => some []
  | p :: ps, L, o => (List.range most).findSome? fun r => if r ≤ o ∧ p ≤ L r then (rlS most ps (updL L r (L r - p)) (max o (r + 1))).map (fun l => r :: l) else none
/-- One try. -/
def rlT (most : Nat) (p : Int) (ps : List Int) (L : Nat → Int) (o r : Nat) : Option (List Nat) := if r ≤ o ∧ p ≤ L r then (rlS most ps (updL L r (L r - p)) (max o (r + 1))).map (fun l => r :: l) else none
theorem rlS_cons (most : Nat) (p : Int) (ps : List Int) (L : Nat → Int) (o : Nat) : rlS most (p :: ps) L o = (List.range most).findSome? (rlT most p ps L o) := rfl
theorem findSome_range {α : Type} (f : Nat → Option α) (n : Nat) : (List.range (n + 1)).findSome? f = match (List.range n).findSome? f with | some x => some x | none => f n := by
  rw [List.range_succ, List.findSome?_append]
  cases (List.range n).findSome? f with
  | some x => rfl
  | none =>
    simp only [List.findSome?_cons, List.findSome?_nil]
    cases f n <;> rfl
theorem findSome_none {α : Type} {f : Nat → Option α} {n : Nat} (h : ∀ r, r < n → f r = none) : (List.range n).findSome? f = none := by
  rw [List.findSome?_eq_none_iff]
  intro x hx
  exact h x (by simpa using hx)
theorem findSome_first {α : Type} {f : Nat → Option α} {n k : Nat} {x : α} (h : ∀ r, r < k → f r = none) (hk : f k = some x) (hn : k < n) : (List.range n).findSome? f = some x := by
  induction n with
  | zero => omega
  | succ n ih =>
    rw [findSome_range]
    rcases Nat.lt_or_ge k n with h1 | h1
    · rw [ih h1]
    · have he : k = n := by omega
      subst he
      rw [findSome_none h, hk]
/-- With a reel for each piece there is a way. -/
theorem rlS_enough {most : Nat} : ∀ (ps : List Int) {L : Nat → Int} {o : Nat}, ps.length + o ≤ most → (∀ r, o ≤ r → r < most → ∀ p ∈ ps, p ≤ L r) → (rlS most ps L o).isSome = true
  | [], _, _, _, _ => rfl
  | p :: ps, L, o, hl, h => by
    rw [rlS_cons]
    simp only [List.length_cons] at hl
    have h1 := rlS_enough (most := most) ps (L := updL L o (L o - p)) (o := max o (o + 1)) (by omega) (fun r hr hm q hq => by
      unfold updL
      rw [if_neg (by omega)]
      exact h r (by omega) hm q (by simp [hq]))
    have h2 : (rlT most p ps L o o).isSome = true := by
      unfold rlT
      rw [if_pos ⟨Nat.le_refl _, h o (Nat.le_refl _) (by omega) p (by simp)⟩]
      simpa using h1
    rw [List.findSome?_isSome_iff]
    exact ⟨o, by simp; omega, h2⟩
/-- The reels of some pieces. -/
def relL (ps : List Int) (len : Int) : List Nat := ((List.range (ps.length + 1)).findSome? fun most => rlS most ps (fun _ => len) 0).getD []
def relB (ps : List Int) (len : Int) : Bool := btw len 1 1000000 && decide (ps.length ≤ 12) && ps.all fun p => btw p 1 len
def relE (ps : List Int) (len : Int) : Int := if relB ps len = true then 0 else 121
theorem rel_some {ps : List Int} {len : Int} (h : relB ps len = true) : (rlS ps.length ps (fun _ => len) 0).isSome = true := by
  unfold relB at h
  simp only [Bool.and_eq_true] at h
  exact rlS_enough ps (by omega) fun r _ _ p hp => by
    have := List.all_eq_true.1 h.2 p hp
    rw [btw_iff] at this
    exact this.2
/-- The least number of reels. -/
theorem rel_at {ps : List Int} {len : Int} {k : Nat} {l : List Nat} (h : ∀ r, r < k → rlS r ps (fun _ => len) 0 = none) (hk : rlS k ps (fun _ => len) 0 = some l) (hn : k ≤ ps.length) : relL ps len = l := by
  unfold relL
  rw [findSome_first (f := fun most => rlS most ps (fun _ => len) 0) h hk (by omega)]
  rfl
end Go.Proofs.Ytehadoecnmfeoaa

/- Group E of this claim's texts: walks and plain laws. -/
import Derived.Test.YtohofcmikfkilaaRows
import Derived.Test.YtohofcmikfkilaaTCB
import Derived.Test.YtohofcmikfkilaaTCD
import Derived.StringKeys
import Derived.Laws.MakeOwn
/- The text of nodes: walk. -/
namespace Go.Proofs.Ytohofcmikfkilaa
open Go.RowKit
set_option linter.unusedVariables false
set_option linter.unusedSimpArgs false
theorem infoRune : (Try.prog.info? 21).map (fun i => (i.zero, i.size, i.bytes)) = some (some (.int .i32 0), 1, 4) := by kernel_rfl
theorem and15 (x : Int) (h0 : 0 ≤ x) (h1 : x < 9223372036854775808) : bits .and .i64 x 32767 = x % 32768 := by
  have h := bits_mask .i64 63 (by decide) wrap_small 15 (by decide) x h0 (by simpa using h1)
  have e : ((2 : Int) ^ 15 - 1) = 32767 := by decide
  have e2 : ((2 : Int) ^ 15) = 32768 := by decide
  rw [e, e2] at h
  exact h
theorem kyL_snoc (l : List Nat) (x : Nat) : kyL (l ++ [x]) = kyL l ++ [((x % 32768 : Nat) : Int), ((x / 32768 % 32768 : Nat) : Int)] := by simp [kyL]
theorem kyL_len (l : List Nat) : (kyL l).length = 2 * l.length := by
  induction l with
  | nil => rfl
  | cons x r ih =>
    show (kyL r).length + 1 + 1 = 2 * (r.length + 1)
    omega
set_option maxRecDepth 100000 in
set_option maxHeartbeats 2000000 in
theorem key_any (l : List Nat) (v : Value) (B : Nat) (w : World) (hl : l.length ≤ 1000) (hs : ∀ n ∈ l, n < 1073741824) (h : Sl w B 1 v l.length (fun i _ => .int .i64 (l.getD i 0 : Nat))) (hB : B ≤ w.heap.size) :
    Calls Try.prog 96 #[v] w fun e w' => e = .returned (.string (kyS l)) ∧ Below w.heap.size w w' := by
  obtain ⟨i0, hi0, iz0, iz1, iz2⟩ := info_parts infoRune
  obtain ⟨A, b, off, cap, rfl, hnc, hA, hc⟩ := h
  have HC := hide hc
  have HA := hide hA
  have HS := hide hs
  clear hc hA hs
  go_enter Try.func96, Try.ntmps96
  go_wp2
  go_loopw [3, 8] (fun x i wr => ∃ k : Nat, k ≤ l.length ∧ i = .int .i64 k ∧ Hid (wr.ownsRow w.heap.size 21 1 x (2 * k) ((kyL (l.take k)).map (Value.int .i32))) ∧ Hid (Below w.heap.size w wr)) (fun _ i _ => l.length - (intOf i).toNat)
  case atStart => exact ⟨0, Nat.zero_le _, rfl, World.ownsRow_nil w w.heap.size 21 1, Below.refl _ _⟩
  case round =>
    obtain ⟨k, hk, rfl, ho, hBw⟩ := hrel
    by_cases hlt : k < l.length
    · obtain ⟨rfl, hbb⟩ : A = some ⟨b, off, none⟩ ∧ b < B := by
        rcases HA.out with h | h
        · exact h
        · omega
      obtain ⟨x, hx⟩ : ∃ x, l.getD k 0 = x := ⟨_, rfl⟩
      have hx30 : x < 1073741824 := HS.out x (by rw [← hx]; exact getD_mem hlt)
      have c0 : wr.cell? ⟨b, off + k, none⟩ = some (.int .i64 (x : Nat)) := by
        have h1 := HC.out k 0 hlt (by omega)
        rw [Nat.mul_one, Nat.add_zero, hx] at h1
        exact (hBw.out.cell (p := ⟨b, off + k, none⟩) (by show b < w.heap.size; omega)).trans h1
      have HX := hide hx
      clear hx
      have hb1 : bits .and .i64 (x : Int) 32767 = ((x % 32768 : Nat) : Int) := by rw [and15 _ (by omega) (by omega)]; omega
      have hb2 : bits .and .i64 ((x : Int) / 32768) 32767 = ((x / 32768 % 32768 : Nat) : Int) := by rw [and15 _ (by omega) (by omega)]; omega
      obtain ⟨y, hy⟩ : ∃ y, x % 32768 = y := ⟨_, rfl⟩
      obtain ⟨z, hz⟩ : ∃ z, x / 32768 % 32768 = z := ⟨_, rfl⟩
      rw [hy] at hb1
      rw [hz] at hb2
      have hy1 : (y : Int) < 32768 := by omega
      have hz1 : (z : Int) < 32768 := by omega
      have hy0 : (0 : Int) ≤ (y : Int) := by omega
      have hz0 : (0 : Int) ≤ (z : Int) := by omega
      have hx0 : (0 : Int) ≤ (x : Int) := by omega
      have hx1 : (x : Int) < 1073741824 := by omega
      have HY := hide (And.intro hy hz)
      have hsz := hBw.out.size
      clear hy hz
      go_wp2_with (at_builtin; go_must (refine wpList_append_own_at _ rfl (.tmp 12) (.tmp 20) _ rfl w.heap.size 21 i0 _ 1 4 Try.underlying150 hi0 iz0 iz1 iz2 rfl (by omega) _ _ _ rfl (ho.out.alloc _) ⟨wr.heap.size, 0, none⟩ 2 2 [.int .i32 y, .int .i32 z] rfl rfl (World.news_of_block (heap_alloc_new wr _)) (by simp [Value.oneCell']) (by unfold maxLen; omega) (by omega) (by simp; omega) ?_); intro v1 w1 hown1 hg1 _ hat1; have HOWN := hide hown1; have HG1 := hide hg1; clear hown1 hg1 hat1)
      go_roundw
      case rel =>
        refine ⟨k + 1, by omega, by go_num, ?_, ?_⟩
        · have h1 := HOWN.out
          rw [take_getD (z := 0) hlt, HX.out, kyL_snoc, HY.out.1, HY.out.2, List.map_append]
          exact h1
        · exact Below.grown (Below.allocT hBw.out (Nat.le_refl _) _) HG1.out (by simp; omega) (fun j hj => (ho.out.lt j hj).1)
      case measure => simp [intOf]; omega
    · obtain rfl : k = l.length := by omega
      have ho2 := ho.out
      rw [List.take_length] at ho2
      rcases ho2.2 with ⟨h1, h2⟩ | ⟨g, cp, cur, h1, h2, h3, h4, h5, h6, h7⟩
      · subst h1
        have hl0 : l = [] := List.length_eq_zero_iff.1 (by omega)
        have hcv : (convert 150 9 (.slice none 0 0)).run Try.prog wr = .ok (.string .empty) wr := run_convert_runes_nil wr 150 9 21 0 0 Try.underlying150 Try.underlying21 Try.underlying9
        have HL := hide hl0
        clear hl0 ho2
        go_wp2
        go_ret
        exact ⟨by rw [HL.out]; rfl, hBw.out⟩
      · subst h1
        have hcell : ∀ j, j < (kyL l).length → wr.cell? ((⟨g, 0, none⟩ : Addr).add j) = some (.int .i32 ((kyL l).getD j 0)) := fun j hj => ho2.cells (g := g) rfl j _ (by simp [hj])
        have hcv : (convert 150 9 (.slice (some ⟨g, 0, none⟩) (2 * l.length) cp)).run Try.prog wr = .ok (.string (runesBytes ((kyL l).take (2 * l.length)))) wr := run_convert_runes wr 150 9 21 ⟨g, 0, none⟩ (2 * l.length) cp (kyL l) (by rw [kyL_len]; omega) Try.underlying150 Try.underlying21 Try.underlying9 hcell
        rw [List.take_of_length_le (by rw [kyL_len]; omega)] at hcv
        clear hcell ho2 h3 h7
        go_wp2
        go_ret
        exact ⟨rfl, hBw.out⟩
end Go.Proofs.Ytohofcmikfkilaa
/- The weigher in memory; a step of it: walk. -/
namespace Go.Proofs.Ytohofcmikfkilaa
open Go.RowKit
open Go.Maps (Keyed)
set_option linter.unusedVariables false
set_option linter.unusedSimpArgs false
/-- The slice v holds the nodes l, below block B. -/
def Nods (w : World) (B : Nat) (v : Value) (l : List Nat) : Prop := Sl w B 1 v l.length (fun i _ => .int .i64 (l.getD i 0 : Nat))
theorem Nods.below {w w' : World} {B : Nat} {v : Value} {l : List Nat} (h : Nods w B v l) (hb : Below B w w') : Nods w' B v l := Sl.below h hb
theorem Nods.up {w w' : World} {v : Value} {l : List Nat} (h : Nods w w.heap.size v l) (hb : Below w.heap.size w w') : Nods w' w'.heap.size v l := Sl.up h hb
theorem Nods.of_own {w : World} {base : Nat} {v : Value} {l : List Nat} (h : w.ownsRow base 3 1 v l.length (l.map fun (n : Nat) => Value.int .i64 n)) : Nods w w.heap.size v l := by
  rcases h.2 with ⟨h1, h2⟩ | ⟨g, cap, cur, h1, h2, h3, h4, h5⟩
  · rw [h1]
    have : l = [] := List.length_eq_zero_iff.1 h2
    subst this
    exact Sl.nil _ _ _ _
  · refine ⟨some ⟨g, 0, none⟩, g, 0, cap, h1, h4, .inl ⟨rfl, box_lt h3⟩, fun i j hi hj => ?_⟩
    have hg : v.ownBlock = some g := by rw [h1]; rfl
    have := h.cells hg i (.int .i64 (l.getD i 0 : Nat)) (by simp [hi])
    have he : (⟨g, 0, none⟩ : Addr).add i = ⟨g, i, none⟩ := by
      unfold Addr.add
      split
      · rename_i h0; rw [h0]
      · rw [Nat.zero_add]
    rw [he] at this
    rw [show 0 + (i * 1 + j) = i by omega]
    exact this
theorem owns_form {w : World} {base e size n : Nat} {v : Value} {xs : List Value} (h : w.ownsRow base e size v n xs) : ∃ A cap, v = .slice A n cap := by
  rcases h.2 with ⟨h1, h2⟩ | ⟨g, cap, cur, h1, _⟩
  · exact ⟨none, 0, by rw [h1, h2]⟩
  · exact ⟨_, _, h1⟩
/-- Lists of small numbers. -/
abbrev SmL := { l : List Nat // ∀ n ∈ l, n < 1073741824 }
def enS (a : SmL) : Value := .string (kyS a.1)
theorem enS_inj (a b : SmL) (h : enS a = enS b) : a = b := by
  unfold enS at h
  injection h with h
  exact Subtype.ext (kyS_inj a.2 b.2 h)
theorem enSKey {a : SmL} (h : a.1.length ≤ 1000) : ∃ l, keyOf Try.prog 9 (enS a) = some l :=
  ⟨_, Go.WideMaps.keyOf_string_mk Try.underlying9 (by have := kyS_size a.1; unfold maxLen; omega)⟩
theorem stLaw : Keyed Try.prog 9 := Maps.string_keyed Try.underlying9
/-- The weigher in memory. -/
structure WgAt (w : World) (F : Fo) (wp : Nat) (wsv : Value) (ws : List Int) (kb cnt : Nat) (m : SmL → Option Int) : Prop where
  box : w.heap[wp]? = some (.cells #[.pointer (some ⟨F.p, 0, none⟩), wsv, .map (some kb)] 93 (0, 0))
  fo : FoAt w F
  wts : Ints w w.heap.size wsv ws
  map : MapIs Try.prog w 9 3 kb cnt enS m
  ok : ∀ a x, m a = some x → x = bestK F.ks F.N a.1 ws []
  nS : ¬ SF F kb
theorem WgAt.ne {w : World} {F : Fo} {wp : Nat} {wsv : Value} {ws : List Int} {kb cnt : Nat} {m : SmL → Option Int} (h : WgAt w F wp wsv ws kb cnt m) : wp ≠ kb := by
  obtain ⟨es, c, h1⟩ := h.map.obj
  intro e
  have h2 := h.box
  rw [e, h1] at h2
  cases h2
theorem WgAt.below {w w' : World} {F : Fo} {wp : Nat} {wsv : Value} {ws : List Int} {kb cnt : Nat} {m : SmL → Option Int} (h : WgAt w F wp wsv ws kb cnt m) (hb : Below w.heap.size w w') : WgAt w' F wp wsv ws kb cnt m :=
  ⟨box_to h.box hb, h.fo.below hb, Ints.up h.wts hb, h.map.same (hb.block _ h.map.lt), h.ok, h.nS⟩
/-- A map that has changed changes no cell. -/
theorem keepsMap {α : Type} {kb cnt cnt' k e : Nat} {enc : α → Value} {m m' : α → Option Int} {w w' : World} (h : Keeps (fun i => i = kb) w w') (h1 : MapIs Try.prog w k e kb cnt enc m) (h2 : MapIs Try.prog w' k e kb cnt' enc m') : ∀ b o, b < w.heap.size → w'.cell? ⟨b, o, none⟩ = w.cell? ⟨b, o, none⟩ := by
  intro b o hb
  by_cases he : b = kb
  · obtain ⟨es, c, q1⟩ := h1.obj
    obtain ⟨es', c', q2⟩ := h2.obj
    subst he
    simp [World.cell?, q1, q2]
  · exact kcell h b o hb he
theorem WgAt.turn {w w' : World} {F : Fo} {wp : Nat} {wsv : Value} {ws : List Int} {kb cnt cnt' : Nat} {m m' : SmL → Option Int} (h : WgAt w F wp wsv ws kb cnt m) (hk : Keeps (fun i => i = kb) w w') (hm : MapIs Try.prog w' 9 3 kb cnt' enS m') (hok : ∀ a x, m' a = some x → x = bestK F.ks F.N a.1 ws []) : WgAt w' F wp wsv ws kb cnt' m' :=
  ⟨(hk.block _ (box_lt h.box) h.ne).trans h.box, h.fo.keeps hk (fun k hs e => h.nS (e ▸ hs)), Sl.more (Sl.keep h.wts (keepsMap hk h.map hm)) hk.size, hm, hok, h.nS⟩
set_option maxRecDepth 100000 in
set_option maxHeartbeats 2000000 in
theorem step_any (F : Fo) (wp : Nat) (wsv : Value) (ws : List Int) (kb cnt : Nat) (m : SmL → Option Int) (l : List Nat) (o : Nat) (b : Bool) (v : Value) (w : World) (h : WgAt w F wp wsv ws kb cnt m) (hl : l.length ≤ 1000) (hs : ∀ n ∈ l, n < F.ks.length) (hn : Nods w w.heap.size v l) :
    Calls Try.prog 63 #[.pointer (some ⟨wp, 0, none⟩), v, .int .i64 o, .bool b] w
      fun e w' => ∃ v', e = .returned v' ∧ Nods w' w'.heap.size v' (l.map fun n => brK F.ks n o b) ∧ Below w.heap.size w w' := by
  obtain ⟨i0, hi0, iz0, iz1, iz2⟩ := info_parts infoInt
  obtain ⟨A, b0, off, cap, rfl, hnc, hA, hc⟩ := hn
  have HC := hide hc
  have HA := hide hA
  have HS := hide hs
  have H := hide h
  clear hc hA hs h
  go_enter Try.func63, Try.ntmps63
  go_wp2
  go_loopw [9, 14] (fun x i wr => ∃ k : Nat, k ≤ l.length ∧ i = .int .i64 k ∧ Hid (wr.ownsRow w.heap.size 3 1 x k (((l.take k).map fun n => brK F.ks n o b).map fun (n : Nat) => Value.int .i64 n)) ∧ Hid (Below w.heap.size w wr)) (fun _ i _ => l.length - (intOf i).toNat)
  case atStart => exact ⟨0, Nat.zero_le _, rfl, World.ownsRow_nil w w.heap.size 3 1, Below.refl _ _⟩
  case round =>
    obtain ⟨k, hk, rfl, ho, hB⟩ := hrel
    by_cases hlt : k < l.length
    · obtain ⟨rfl, hbb⟩ : A = some ⟨b0, off, none⟩ ∧ b0 < w.heap.size := by
        rcases HA.out with h | h
        · exact h
        · omega
      obtain ⟨x, hx⟩ : ∃ x, l.getD k 0 = x := ⟨_, rfl⟩
      have hxl : x < F.ks.length := HS.out x (by rw [← hx]; exact getD_mem hlt)
      have c0 : wr.cell? ⟨b0, off + k, none⟩ = some (.int .i64 (x : Nat)) := by
        have h1 := HC.out k 0 hlt (by omega)
        rw [Nat.mul_one, Nat.add_zero, hx] at h1
        exact (hB.out.cell (p := ⟨b0, off + k, none⟩) hbb).trans h1
      have hwg := H.out.below hB.out
      have d0 := cellOf hwg.box 0
      have hbr := branch_any F x o b wr hwg.fo hxl
      have HBR := hide hbr
      have HX := hide hx
      have hsz := hB.out.size
      clear hx hwg hbr
      go_wp2_with (first | (go_at_call 97; refine HBR.out.mono ?_; rintro e w1 ⟨rfl, hB1⟩; have HB1 := hide hB1; have hsz1 := hB1.size; have ho1 := owns_below ho.out hB1; have HO1 := hide ho1; clear hB1 ho1) | (at_builtin; go_must (refine wpList_append_own_at _ rfl (.tmp 18) (.tmp 27) _ rfl w.heap.size 3 i0 _ 1 8 Try.underlying26 hi0 iz0 iz1 iz2 rfl (by omega) _ _ _ rfl (HO1.out.alloc _) ⟨w1.heap.size, 0, none⟩ 1 1 [.int .i64 (brK F.ks x o b : Nat)] rfl rfl (World.news_of_block (heap_alloc_new w1 _)) (by simp [Value.oneCell']) (by unfold maxLen; omega) (by omega) (by simp; omega) ?_); intro v1 w2 hown1 hg1 _ hat1; have HOWN := hide hown1; have HG1 := hide hg1; clear hown1 hg1 hat1))
      go_roundw
      case rel =>
        refine ⟨k + 1, by omega, by go_num, ?_, ?_⟩
        · have h1 := HOWN.out
          rw [take_getD (z := 0) hlt, HX.out, List.map_append, List.map_append]
          exact h1
        · exact Below.grown (Below.allocT (Below.to hB.out HB1.out (Nat.le_refl _)) (Nat.le_refl _) _) HG1.out (by simp; omega) (fun j hj => (HO1.out.lt j hj).1)
      case measure => simp [intOf]; omega
    · obtain rfl : k = l.length := by omega
      have ho2 := ho.out
      rw [List.take_length] at ho2
      have hf := owns_form ho2
      obtain ⟨A2, cap2, rfl⟩ := hf
      have HO2 := hide ho2
      clear ho2
      go_wp2
      go_ret
      refine ⟨_, rfl, Nods.of_own (base := w.heap.size) ?_, hB.out⟩
      rw [List.length_map]
      exact HO2.out
end Go.Proofs.Ytohofcmikfkilaa
/- The greatest sum: walk of best. -/
namespace Go.Proofs.Ytohofcmikfkilaa
open Go.RowKit
open Go.Maps (Keyed)
set_option linter.unusedVariables false
set_option linter.unusedSimpArgs false
def tminK (ks : List Kn) (N : Nat) (l : List Nat) : Nat := l.foldl (fun t n => min t (topK ks n)) N
theorem tminK_snoc (ks : List Kn) (N : Nat) (l : List Nat) (n : Nat) : tminK ks N (l ++ [n]) = min (tminK ks N l) (topK ks n) := by simp [tminK]
theorem tminK_le (ks : List Kn) : ∀ (l : List Nat) (N : Nat), tminK ks N l ≤ N ∧ ∀ n ∈ l, tminK ks N l ≤ topK ks n
  | [], N => ⟨Nat.le_refl _, fun n hn => by cases hn⟩
  | a :: l, N => by
    obtain ⟨h1, h2⟩ := tminK_le ks l (min N (topK ks a))
    have e : tminK ks N (a :: l) = tminK ks (min N (topK ks a)) l := rfl
    rw [e]
    refine ⟨by omega, fun n hn => ?_⟩
    rcases List.mem_cons.1 hn with rfl | hn
    · omega
    · exact h2 n hn
theorem wyes_snoc : ∀ (a : List Nat) (n : Nat) (ws : List Int), a.length < ws.length → wyes (a ++ [n]) ws = wyes a ws + if n = 1 then ws.getD a.length 0 else 0
  | [], n, w :: ws, _ => by cases ws <;> simp [wyes]
  | x :: a, n, w :: ws, h => by
    have := wyes_snoc a n ws (by simpa using h)
    simp only [List.cons_append, wyes, this, List.length_cons, List.getD_cons_succ]
    omega
  | [], n, [], h => by simp at h
  | x :: a, n, [], h => by simp at h
/-- The sum that best has when it has looked at some nodes. -/
def sumP (l : List Nat) (ws : List Int) : Int := wyes (l.drop 1) ws
theorem sumP_snoc {l : List Nat} {n : Nat} {ws : List Int} (hl : l.length ≤ ws.length) : sumP (l ++ [n]) ws = sumP l ws + if 0 < l.length ∧ n = 1 then ws.getD (l.length - 1) 0 else 0 := by
  unfold sumP
  match l with
  | [] => simp [wyes]
  | x :: l =>
    simp only [List.cons_append, List.drop_succ_cons, List.drop_zero, List.length_cons]
    rw [wyes_snoc l n ws (by simp at hl; omega)]
    by_cases h : n = 1 <;> simp [h]
theorem wyes_bd : ∀ (a : List Nat) (ws : List Int), (∀ x ∈ ws, -1000000 ≤ x ∧ x ≤ 1000000) → -1000000 * (a.length : Int) ≤ wyes a ws ∧ wyes a ws ≤ 1000000 * (a.length : Int)
  | [], ws, _ => by cases ws <;> simp [wyes]
  | n :: a, [], _ => by simp [wyes]; omega
  | n :: a, x :: ws, h => by
    have h1 := wyes_bd a ws fun y hy => h y (by simp [hy])
    have h2 := h x (by simp)
    simp only [wyes, List.length_cons]
    split <;> omega
theorem wsum_bd (ks : List Kn) (v : Nat → Bool) : ∀ (a : List Nat) (ws : List Int), (∀ x ∈ ws, -1000000 ≤ x ∧ x ≤ 1000000) → -1000000 * (a.length : Int) ≤ wsum ks v a ws ∧ wsum ks v a ws ≤ 1000000 * (a.length : Int)
  | [], ws, _ => by cases ws <;> simp [wsum]
  | n :: a, [], _ => by simp [wsum]; omega
  | n :: a, x :: ws, h => by
    have h1 := wsum_bd ks v a ws fun y hy => h y (by simp [hy])
    have h2 := h x (by simp)
    simp only [wsum, List.length_cons]
    split <;> omega
theorem bestK_bd {ks : List Kn} {N : Nat} {nodes : List Nat} {ws : List Int} (hw : ∀ x ∈ ws, -1000000 ≤ x ∧ x ≤ 1000000) (hn : nodes.length ≤ 1000) (l : List Bool) : leastI ≤ bestK ks N nodes ws l ∧ bestK ks N nodes ws l ≤ 1000000000 := by
  refine ⟨maxL_least _, ?_⟩
  rcases (by have := maxL_least ((exts (N - l.length) l).map fun x => valI ks (vf x) nodes ws); omega : maxL ((exts (N - l.length) l).map fun x => valI ks (vf x) nodes ws) = leastI ∨ leastI < maxL ((exts (N - l.length) l).map fun x => valI ks (vf x) nodes ws)) with h | h
  · unfold bestK; rw [h]; unfold leastI; omega
  · have := maxL_attained _ h
    rw [List.mem_map] at this
    obtain ⟨x, _, hx⟩ := this
    unfold bestK
    rw [← hx]
    unfold valI
    split
    · unfold leastI; omega
    · rename_i n ns
      have := wsum_bd ks (vf x) ns ws hw
      simp only [List.length_cons] at hn
      split
      · omega
      · unfold leastI; omega
/-- What best leaves. -/
structure BstR (F : Fo) (wp : Nat) (wsv : Value) (ws : List Int) (kb d : Nat) (w : World) (cnt : Nat) (w' : World) (m' : SmL → Option Int) (cnt' : Nat) : Prop where
  keep : Keeps (fun k => k = kb) w w'
  here : WgAt w' F wp wsv ws kb cnt' m'
  cnt : cnt' + 1 ≤ cnt + 2 ^ (d + 1)
theorem BstR.cells {F : Fo} {wp : Nat} {wsv : Value} {ws : List Int} {kb d : Nat} {w : World} {cnt : Nat} {w' : World} {m m' : SmL → Option Int} {cnt' : Nat} (r : BstR F wp wsv ws kb d w cnt w' m' cnt') (h : WgAt w F wp wsv ws kb cnt m) : ∀ b o, b < w.heap.size → w'.cell? ⟨b, o, none⟩ = w.cell? ⟨b, o, none⟩ := keepsMap r.keep h.map r.here.map
set_option maxRecDepth 100000 in
theorem bestNo_any (wp : Nat) (ns : List Nat) (v : Value) (w : World) (hn : Nods w w.heap.size v (0 :: ns)) :
    Calls Try.prog 62 #[.pointer (some ⟨wp, 0, none⟩), v] w fun e w' => e = .returned (.int .i64 leastI) ∧ w = w' := by
  obtain ⟨A, b0, off, cap, rfl, hnc, hA, hc⟩ := hn
  obtain ⟨rfl, hbb⟩ : A = some ⟨b0, off, none⟩ ∧ b0 < w.heap.size := by
    rcases hA with h | h
    · exact h
    · simp at h
  have c0 := hc 0 0 (by simp) (by omega)
  simp only [Nat.zero_mul, Nat.add_zero, List.getD_cons_zero] at c0
  have hlen : 0 < (0 :: ns).length := by simp
  have hlen2 : (0 : Int) < ((0 :: ns).length : Int) := by omega
  obtain ⟨n, hn⟩ : ∃ n, (0 :: ns).length = n := ⟨_, rfl⟩
  rw [hn] at hlen hlen2 ⊢
  clear hc hA hnc hn
  go_enter Try.func62, Try.ntmps62
  go_wp2_with fail
  go_ret
  exact ⟨rfl, rfl⟩
theorem tminK_ge {ks : List Kn} {t : Nat} : ∀ (l : List Nat) (N : Nat), t ≤ N → (∀ n ∈ l, t ≤ topK ks n) → t ≤ tminK ks N l
  | [], N, h, _ => h
  | a :: l, N, h, h2 => tminK_ge l (min N (topK ks a)) (by have := h2 a (by simp); omega) fun n hn => h2 n (by simp [hn])
theorem min_val {a b : Nat} : Value.int .i64 (if b < a then (b : Int) else (a : Int)) = .int .i64 ((min a b : Nat) : Int) := by
  split
  · congr 1; omega
  · congr 1; omega
set_option maxRecDepth 100000 in
set_option maxHeartbeats 8000000 in
theorem best_any (F : Fo) (wp : Nat) (wsv : Value) (ws : List Int) (kb : Nat) (hw : ∀ x ∈ ws, -1000000 ≤ x ∧ x ≤ 1000000) (hws : ws.length ≤ 900) : ∀ (d : Nat) (nodes : List Nat) (v : Value) (w : World) (m : SmL → Option Int) (cnt : Nat), WgAt w F wp wsv ws kb cnt m → nodes.length = ws.length + 1 → (∀ n ∈ nodes, n < F.ks.length) → F.N - tminK F.ks F.N nodes ≤ d → Nods w w.heap.size v nodes → cnt + 2 ^ (d + 1) ≤ 1073741824 →
    Calls Try.prog 62 #[.pointer (some ⟨wp, 0, none⟩), v] w
      fun e w' => ∃ m' cnt', e = .returned (.int .i64 (bestK F.ks F.N nodes ws [])) ∧ BstR F wp wsv ws kb d w cnt w' m' cnt' := by
  intro d
  induction d using Nat.strongRecOn with
  | ind d ih =>
  intro nodes v w m cnt h hlen hlt hd hn hc
  have hpp := pow_pos2 (d + 1)
  obtain ⟨n0, ns, rfl⟩ : ∃ n0 ns, nodes = n0 :: ns := by
    match nodes, hlen with
    | [], hlen => simp at hlen
    | n0 :: ns, _ => exact ⟨n0, ns, rfl⟩
  by_cases h0 : n0 = 0
  · subst h0
    refine (bestNo_any wp ns v w hn).mono ?_
    rintro e w' ⟨rfl, rfl⟩
    exact ⟨m, cnt, by rw [bestK_no], ⟨Keeps.refl _ _, h, by omega⟩⟩
  have h01 : ((n0 : Int) == 0) = false := by simp; omega
  have hn' := hn
  obtain ⟨A, b0, off, cap, rfl, hnc, hA, hcell⟩ := hn'
  obtain ⟨rfl, hbb⟩ : A = some ⟨b0, off, none⟩ ∧ b0 < w.heap.size := by
    rcases hA with h | h
    · exact h
    · simp at h
  have c0 := hcell 0 0 (by simp) (by omega)
  simp only [Nat.zero_mul, Nat.add_zero, List.getD_cons_zero] at c0
  obtain ⟨nodes, hnd⟩ : ∃ nodes, n0 :: ns = nodes := ⟨_, rfl⟩
  have hn0 : nodes.getD 0 0 = n0 := by rw [← hnd]; rfl
  rw [hnd] at hlen hlt hd hn hnc hcell ⊢
  have hl0 : 0 < nodes.length := by omega
  have hl1 : (0 : Int) < (nodes.length : Int) := by omega
  have hl2 : (nodes.length : Int) ≤ 1000 := by omega
  have e0 := cellOf h.box 0
  have e1 := cellOf h.box 1
  have e2 := cellOf h.box 2
  have d0 := h.fo.cellN
  have d1 := h.fo.cellS
  have hsm := h.fo.small
  obtain ⟨Aw, bw, offw, capw, rfl, hncw, hAw, hcw⟩ := h.wts
  have H := hide h
  have HN := hide hn
  have HC := hide hcell
  have HLT := hide hlt
  have HAW := hide hAw
  have HCW := hide hcw
  have HW := hide hw
  have HIH := hide ih
  have HD : Hid (F.N - tminK F.ks F.N nodes ≤ d ∧ cnt + 2 ^ (d + 1) ≤ 1073741824) := ⟨hd, hc⟩
  have HND : Hid (n0 :: ns = nodes ∧ nodes.getD 0 0 = n0 ∧ n0 ≠ 0) := ⟨hnd, hn0, h0⟩
  have HLEN : Hid (nodes.length = ws.length + 1) := hlen
  clear h hn hcell hlt hAw hcw hw ih hd hc hnd hn0 h0 hA hlen hpp
  go_enter Try.func62, Try.ntmps62
  go_wp2_with fail
  go_loop [5, 6, 26] (fun t s i => ∃ k : Nat, k ≤ nodes.length ∧ i = .int .i64 k ∧ t = .int .i64 (tminK F.ks F.N (nodes.take k) : Nat) ∧ s = .int .i64 (sumP (nodes.take k) ws)) (fun _ _ i => nodes.length - (intOf i).toNat)
  case atStart => exact ⟨0, Nat.zero_le _, rfl, rfl, rfl⟩
  case round =>
    obtain ⟨k, hk, rfl, rfl, rfl⟩ := hrel
    by_cases hkl : k < nodes.length
    · obtain ⟨x, hx⟩ : ∃ x, nodes.getD k 0 = x := ⟨_, rfl⟩
      have hxl : x < F.ks.length := HLT.out x (by rw [← hx]; exact getD_mem hkl)
      have c1 : w.cell? ⟨b0, off + k, none⟩ = some (.int .i64 (x : Nat)) := by
        have h1 := HC.out k 0 hkl (by omega)
        rwa [Nat.mul_one, Nat.add_zero, hx] at h1
      obtain ⟨k0, _, _⟩ := H.out.fo.knot hxl
      have hx0 : (0 : Int) ≤ (x : Int) := by omega
      have hx1 : (x : Int) < (F.ks.length : Int) := by omega
      have hts := tminK_snoc F.ks F.N (nodes.take k) x
      have hss := sumP_snoc (l := nodes.take k) (n := x) (ws := ws) (by have := HLEN.out; simp; omega)
      rw [← hx, ← take_getD hkl, hx] at hts hss
      have hlk : (nodes.take k).length = k := by simp; omega
      rw [hlk] at hss
      obtain ⟨t, ht⟩ : ∃ t, tminK F.ks F.N (nodes.take k) = t := ⟨_, rfl⟩
      obtain ⟨s, hs⟩ : ∃ s, sumP (nodes.take k) ws = s := ⟨_, rfl⟩
      have hsb := wyes_bd ((nodes.take k).drop 1) ws HW.out
      have hsb2 : -1000000000 ≤ s ∧ s ≤ 1000000000 := by
        rw [← hs]
        unfold sumP
        have : ((nodes.take k).drop 1).length ≤ 1000 := by simp; omega
        omega
      obtain ⟨hs1, hs2⟩ := hsb2
      rw [ht] at hts ⊢
      rw [hs] at hss ⊢
      have HTS := hide hts
      have HSS := hide hss
      have HX0 := hide hx
      clear hts hss hlk ht hs hsb hx
      by_cases hk0 : k = 0
      · subst hk0
        obtain rfl : n0 = x := HND.out.2.1.symm.trans HX0.out
        have hf : ¬ (0 : Int) < ((0 : Nat) : Int) := by omega
        go_wp2_with fail
        go_round
        case rel => exact ⟨1, by omega, rfl, by rw [HTS.out]; exact min_val, by rw [HSS.out, if_neg (by omega)]; simp⟩
        case measure => simp [intOf]; omega
      · have hf : (0 : Int) < (k : Int) := by omega
        by_cases hx1' : x = 1
        · have hxe : ((x : Int) == 1) = true := by simp [hx1']
          have hkw : k - 1 < ws.length := by have := HLEN.out; omega
          obtain ⟨y, hy⟩ : ∃ y, ws.getD (k - 1) 0 = y := ⟨_, rfl⟩
          have hyb := HW.out y (by rw [← hy]; exact getD_mem hkw)
          obtain ⟨rfl, hbw⟩ : Aw = some ⟨bw, offw, none⟩ ∧ bw < w.heap.size := by
            rcases HAW.out with h | h
            · exact h
            · omega
          have g0 : w.cell? ⟨bw, offw + (k - 1), none⟩ = some (.int .i64 y) := by
            have h1 := HCW.out (k - 1) 0 hkw (by omega)
            rwa [Nat.mul_one, Nat.add_zero, hy] at h1
          have j0 : (1 : Int) ≤ (k : Int) := by omega
          have j1 : ((k : Int) - 1).toNat = k - 1 := by omega
          have j2 : (k : Int) - 1 < (ws.length : Int) := by omega
          obtain ⟨hy1, hy2⟩ := hyb
          have HX := hide hx1'
          have HY := hide hy
          have HK := hide hk0
          clear hx1' hy hk0 hkw
          go_wp2_with fail
          go_round
          case rel => exact ⟨k + 1, by omega, by go_num, by rw [HTS.out]; exact min_val, by rw [HSS.out, if_pos ⟨by have := HK.out; omega, HX.out⟩, HY.out]⟩
          case measure => simp [intOf]; omega
        · have hxe : ((x : Int) == 1) = false := by simp; omega
          have HX := hide hx1'
          clear hx1' hk0
          go_wp2_with fail
          go_round
          case rel => exact ⟨k + 1, by omega, by go_num, by rw [HTS.out]; exact min_val, by rw [HSS.out, if_neg (fun e => HX.out e.2)]; simp⟩
          case measure => simp [intOf]; omega
    · obtain rfl : k = nodes.length := by omega
      rw [List.take_length]
      obtain ⟨hml, hmle⟩ := tminK_le F.ks nodes F.N
      obtain ⟨t, ht⟩ : ∃ t, tminK F.ks F.N nodes = t := ⟨_, rfl⟩
      have hsb := wyes_bd (nodes.drop 1) ws HW.out
      have hsb2 : ((nodes.drop 1).length : Int) ≤ 1000 := by simp; omega
      rw [ht] at hml hmle ⊢
      by_cases htN : t = F.N
      · have hends : ∀ n ∈ nodes, n < 2 := fun n hn => by
          rcases Nat.lt_or_ge n 2 with h2 | h2
          · exact h2
          · have := H.out.fo.wf.opt n h2 (HLT.out n hn)
            have := hmle n hn
            omega
        have hb1 : bestK F.ks F.N nodes ws [] = sumP nodes ws := by
          obtain ⟨q1, q2, q3⟩ := HND.out
          have : n0 = 1 := by have := hends n0 (by rw [← q1]; simp); omega
          rw [← q1, this]
          have h5 : sumP (1 :: ns) ws = wyes ns ws := rfl
          rw [h5]
          refine bestK_ends [] (fun n hn => hends n (by rw [← q1]; simp [hn])) ?_
          have h6 : nodes.drop 1 = ns := by rw [← q1]; rfl
          rw [h6] at hsb hsb2
          unfold leastI
          omega
        have hte : ((t : Int) == (F.N : Int)) = true := by simp [htN]
        have HB1 := hide hb1
        have hpp := pow_pos2 (d + 1)
        have HPP := hide hpp
        clear htN hends hb1 hsb hsb2 ht hml hmle hpp
        go_wp2_with fail
        go_ret
        exact ⟨ret_int HB1.out.symm, m, cnt, ⟨Keeps.refl _ _, H.out, by have := HPP.out; omega⟩⟩
      · have htN2 : t < F.N := by omega
        have hte : ((t : Int) == (F.N : Int)) = false := by simp; omega
        have hsm30 : ∀ n ∈ nodes, n < 1073741824 := fun n hn => by have := HLT.out n hn; omega
        have hkey := key_any nodes (.slice (some ⟨b0, off, none⟩) nodes.length cap) w.heap.size w (by omega) hsm30 HN.out (Nat.le_refl _)
        have HKEY := hide hkey
        obtain ⟨s, hs⟩ : ∃ s, sumP nodes ws = s := ⟨_, rfl⟩
        rw [hs]
        have HS30 := hide hsm30
        have HT := hide ht
        have HMLE := hide hmle
        obtain ⟨kl, hkl⟩ := enSKey (a := ⟨nodes, HS30.out⟩) (by show nodes.length ≤ 1000; omega)
        have HKL := hide hkl
        clear htN hsb hsb2 ht hml hmle hkey hs hsm30 hkl
        cases hmx : m ⟨nodes, HS30.out⟩ with
        | some x =>
          have hxe : x = bestK F.ks F.N nodes ws [] := H.out.ok _ _ hmx
          have HXE := hide hxe
          have HMX := hide hmx
          have hpp := pow_pos2 (d + 1)
          have HPP := hide hpp
          clear hxe hmx hpp
          go_wp2_with (go_at_call 96; refine HKEY.out.mono ?_; rintro e w1 ⟨rfl, hB1⟩; have HB1 := hide hB1; have hwg := H.out.below hB1; have HWG := hide hwg; have f0 := cellOf hwg.box 0; have f1 := cellOf hwg.box 1; have f2 := cellOf hwg.box 2; have hlk : (Instr.lookup 91 (.map (some kb)) (.string (kyS nodes)) true).run Try.prog w1 = .ok (.tuple #[.int .i64 x, .bool true]) w1 := (by have h1 := hwg.map.look stLaw Try.underlying91 Try.underlying3 (zInt w1) HKL.out; rw [HMX.out] at h1; exact h1); clear hB1 hwg)
          go_ret
          first | exact ⟨ret_int HXE.out, m, cnt, ⟨Keeps.of_below HB1.out, HWG.out, by have := HPP.out; omega⟩⟩ | exact ⟨m, cnt, ret_int HXE.out, ⟨Keeps.of_below HB1.out, HWG.out, by have := HPP.out; omega⟩⟩
        | none =>
          have HMX := hide hmx
          clear hmx
          have hd1 : 1 ≤ d := by have := HD.out.1; have := HT.out; omega
          have hp2 : 2 ^ (d + 1) = 2 ^ (d - 1 + 1) + 2 ^ (d - 1 + 1) := by rw [show d - 1 + 1 = d by omega, Nat.pow_succ]; omega
          have HP2 := hide hp2
          have hsl : ∀ b, ∀ n ∈ nodes.map (fun n => brK F.ks n t b), n < F.ks.length := fun b n hn => by
            rw [List.mem_map] at hn
            obtain ⟨x, hx, rfl⟩ := hn
            exact brK_lt H.out.fo.wf (HLT.out x hx) htN2
          have hst : ∀ b, F.N - tminK F.ks F.N (nodes.map fun n => brK F.ks n t b) ≤ d - 1 := fun b => by
            have h1 : t + 1 ≤ tminK F.ks F.N (nodes.map fun n => brK F.ks n t b) := tminK_ge _ _ (by omega) fun n hn => by
              rw [List.mem_map] at hn
              obtain ⟨x, hx, rfl⟩ := hn
              exact brK_top H.out.fo.wf (HLT.out x hx) htN2 (HMLE.out x hx)
            have h2 := HD.out.1
            rw [HT.out] at h2
            omega
          have hbs := bestK_step H.out.fo.wf (ws := ws) HLT.out htN2 HMLE.out
          have hba := bestK_bd (ks := F.ks) (N := F.N) (nodes := nodes.map fun n => brK F.ks n t false) HW.out (by simp; omega) []
          have hbb2 := bestK_bd (ks := F.ks) (N := F.N) (nodes := nodes.map fun n => brK F.ks n t true) HW.out (by simp; omega) []
          obtain ⟨a, ha⟩ : ∃ a, bestK F.ks F.N (nodes.map fun n => brK F.ks n t false) ws [] = a := ⟨_, rfl⟩
          obtain ⟨b, hb⟩ : ∃ b, bestK F.ks F.N (nodes.map fun n => brK F.ks n t true) ws [] = b := ⟨_, rfl⟩
          rw [ha] at hbs hba
          rw [hb] at hbs hbb2
          unfold leastI at hba hbb2
          have hwf : (Lit.int .i64 a).wf = true ∧ (Lit.int .i64 b).wf = true := ⟨wf63 (by unfold I63; omega), wf63 (by unfold I63; omega)⟩
          have HSL := hide hsl
          have HST := hide hst
          have HBS := hide hbs
          have HAB := hide (And.intro ha hb)
          have HWF := hide hwf
          clear hp2 hsl hst hbs hba hbb2 ha hb hwf
          go_wp2_with (go_at_call 96; refine HKEY.out.mono ?_; rintro e w1 ⟨rfl, hB1⟩; have HB1 := hide hB1; have hwg := H.out.below hB1; have HWG := hide hwg; have f0 := cellOf hwg.box 0; have f1 := cellOf hwg.box 1; have f2 := cellOf hwg.box 2; have hlk : (Instr.lookup 91 (.map (some kb)) (.string (kyS nodes)) true).run Try.prog w1 = .ok (.tuple #[.int .i64 0, .bool false]) w1 := (by have h1 := hwg.map.look stLaw Try.underlying91 Try.underlying3 (zInt w1) HKL.out; rw [HMX.out] at h1; exact h1); clear hB1 hwg)
          have hN1 : Nods w1 w1.heap.size (.slice (some ⟨b0, off, none⟩) nodes.length cap) nodes := HN.out.up HB1.out
          have HN1 := hide hN1
          clear hN1 hlk f0 f1 f2
          refine (step_any F wp _ ws kb cnt m nodes t false _ w1 HWG.out (by omega) HLT.out HN1.out).mono ?_
          rintro e w2 ⟨v2, rfl, hn2, hB2⟩
          obtain ⟨A2, cap2, rfl⟩ := Sl.form hn2
          rw [List.length_map] at hn2 ⊢
          have hwg2 := HWG.out.below hB2
          have HB2 := hide hB2
          have HWG2 := hide hwg2
          have HN2 : Hid (Nods w2 w2.heap.size (.slice (some ⟨b0, off, none⟩) nodes.length cap) nodes) := HN1.out.up hB2
          have hbe := HIH.out (d - 1) (by omega) (nodes.map fun n => brK F.ks n t false) _ w2 m cnt hwg2 (by rw [List.length_map]; exact HLEN.out) (HSL.out false) (HST.out false) hn2 (by have := HD.out.2; have := HP2.out; have := pow_pos2 (d - 1 + 1); omega)
          rw [HAB.out.1] at hbe
          have HBE := hide hbe
          clear hn2 hB2 hwg2 hbe
          go_wp2_with fail
          refine HBE.out.mono ?_
          rintro e w3 ⟨m1, cnt1, rfl, r1⟩
          have R1 := hide r1
          have HN3 : Hid (Nods w3 w3.heap.size (.slice (some ⟨b0, off, none⟩) nodes.length cap) nodes) := Sl.more (Sl.keep HN2.out (r1.cells HWG2.out)) r1.keep.size
          clear r1
          go_wp2_with fail
          refine (step_any F wp _ ws kb cnt1 m1 nodes t true _ w3 R1.out.here (by omega) HLT.out HN3.out).mono ?_
          rintro e w4 ⟨v4, rfl, hn4, hB4⟩
          obtain ⟨A4, cap4, rfl⟩ := Sl.form hn4
          rw [List.length_map] at hn4 ⊢
          have hwg4 := R1.out.here.below hB4
          have HB4 := hide hB4
          have hbe := HIH.out (d - 1) (by omega) (nodes.map fun n => brK F.ks n t true) _ w4 m1 cnt1 hwg4 (by rw [List.length_map]; exact HLEN.out) (HSL.out true) (HST.out true) hn4 (by have := HD.out.2; have := HP2.out; have := R1.out.cnt; have := pow_pos2 (d - 1 + 1); omega)
          rw [HAB.out.2] at hbe
          have HBE4 := hide hbe
          clear hn4 hB4 hwg4 hbe
          go_wp2_with fail
          refine HBE4.out.mono ?_
          rintro e w5 ⟨m2, cnt2, rfl, r2⟩
          have R2 := hide r2
          have f0 := cellOf r2.here.box 0
          have f1 := cellOf r2.here.box 1
          have f2 := cellOf r2.here.box 2
          have hcn : cnt2 < maxLen := by
            have h1 := R1.out.cnt
            have h2 := r2.cnt
            have h3 := HD.out.2
            have h4 := HP2.out
            unfold maxLen; omega
          clear r2
          by_cases hab : a < b
          · have HAB2 : Hid (a < b) := hab
            go_wp2_with (at_mapUpdate; go_must (refine wpList_put _ rfl _ _ _ 91 rfl R2.out.here.map stLaw Try.underlying91 Try.underlying3 enS_inj hcn ⟨nodes, HS30.out⟩ ⟨_, HKL.out⟩ b HWF.out.2 rfl rfl rfl ?_); intro w9 hm9 hg9; have HM9 := hide hm9; have HG9 := hide hg9; clear hm9 hg9)
            go_ret
            have hk9 : Keeps (fun i => i = kb) w5 w9 := Keeps.of_grown HG9.out (fun k hk => by injection hk with hk; exact hk.symm)
            have hbest : bestK F.ks F.N nodes ws [] = b := by have := HAB2.out; rw [HBS.out]; omega
            first | refine ⟨ret_int hbest.symm, _, _, ⟨?_, R2.out.here.turn hk9 HM9.out (fun q x hq => ?_), ?_⟩⟩ | refine ⟨_, _, ret_int hbest.symm, ⟨?_, R2.out.here.turn hk9 HM9.out (fun q x hq => ?_), ?_⟩⟩
            · have k1 : Keeps (fun i => i = kb) w w3 := (Keeps.of_below (Below.to HB1.out HB2.out (Nat.le_refl _))).trans R1.out.keep (fun _ _ h => h)
              have k2 : Keeps (fun i => i = kb) w3 w5 := (Keeps.of_below HB4.out).trans R2.out.keep (fun _ _ h => h)
              exact (k1.trans k2 (fun _ _ h => h)).trans hk9 (fun _ _ h => h)
            · unfold putM at hq
              split at hq
              · rename_i e
                injection hq with hq
                rw [e, ← hq]
                exact hbest.symm
              · exact R2.out.here.ok q x hq
            · have h1 := R1.out.cnt
              have h2 := R2.out.cnt
              have h4 := HP2.out
              omega
          · have HAB2 : Hid (¬ a < b) := hab
            go_wp2_with (at_mapUpdate; go_must (refine wpList_put _ rfl _ _ _ 91 rfl R2.out.here.map stLaw Try.underlying91 Try.underlying3 enS_inj hcn ⟨nodes, HS30.out⟩ ⟨_, HKL.out⟩ a HWF.out.1 rfl rfl rfl ?_); intro w9 hm9 hg9; have HM9 := hide hm9; have HG9 := hide hg9; clear hm9 hg9)
            go_ret
            have hk9 : Keeps (fun i => i = kb) w5 w9 := Keeps.of_grown HG9.out (fun k hk => by injection hk with hk; exact hk.symm)
            have hbest : bestK F.ks F.N nodes ws [] = a := by have := HAB2.out; rw [HBS.out]; omega
            first | refine ⟨ret_int hbest.symm, _, _, ⟨?_, R2.out.here.turn hk9 HM9.out (fun q x hq => ?_), ?_⟩⟩ | refine ⟨_, _, ret_int hbest.symm, ⟨?_, R2.out.here.turn hk9 HM9.out (fun q x hq => ?_), ?_⟩⟩
            · have k1 : Keeps (fun i => i = kb) w w3 := (Keeps.of_below (Below.to HB1.out HB2.out (Nat.le_refl _))).trans R1.out.keep (fun _ _ h => h)
              have k2 : Keeps (fun i => i = kb) w3 w5 := (Keeps.of_below HB4.out).trans R2.out.keep (fun _ _ h => h)
              exact (k1.trans k2 (fun _ _ h => h)).trans hk9 (fun _ _ h => h)
            · unfold putM at hq
              split at hq
              · rename_i e
                injection hq with hq
                rw [e, ← hq]
                exact hbest.symm
              · exact R2.out.here.ok q x hq
            · have h1 := R1.out.cnt
              have h2 := R2.out.cnt
              have h4 := HP2.out
              omega
end Go.Proofs.Ytohofcmikfkilaa
/- Most: walk. -/
namespace Go.Proofs.Ytohofcmikfkilaa
open Go.RowKit
open Go.Maps (Keyed)
set_option linter.unusedVariables false
set_option linter.unusedSimpArgs false
theorem Stk.push {B : Nat} {w w1 : World} {F : Fo} {A : Option Addr} {n cap m : Nat} {S : List Nat} {v1 : Value} {o : Obj} (h : Stk B w F (.slice A n cap) S) (hF : FoAt w F) (hown : w1.ownsRow B 3 1 v1 (S.length + 1) ((S.map fun (n : Nat) => Value.int .i64 n) ++ [.int .i64 (m : Nat)])) (hg : (w.alloc o).grownBy w1 (Value.slice A n cap).ownBlock)
    (hat : v1.ownBlock = (Value.slice A n cap).ownBlock ∨ v1.ownBlock = some (w.alloc o).heap.size) : Stk B w1 F v1 (S ++ [m]) ∧ Keeps (fun i => (Value.slice A n cap).ownBlock = some i) w w1 := by
  refine ⟨⟨?_, fun b hb hs => ?_⟩, Keeps.trans ((Keeps.refl _ w).alloc _) (Keeps.of_grown hg (fun k hk => hk)) (fun _ _ h => h)⟩
  · rw [List.length_append, List.length_singleton, List.map_append]; exact hown
  · rcases hat with e | e
    · exact h.2 b (by rw [← hb, e]) hs
    · rw [hb] at e
      injection e with e
      have := hF.slt hs
      simp at e
      omega
def Bols (w : World) (B : Nat) (v : Value) (l : List Bool) : Prop := Sl w B 1 v l.length (fun i _ => .bool (l.getD i false))
/-- A variant being made: the first choices, and then none. -/
def VarAt (w : World) (b N : Nat) (l : List Bool) : Prop := w.heap[b]? = some (.cells ((l ++ List.replicate (N - l.length) false).map Value.bool).toArray 4 (0, 0))
theorem VarAt.cell {w : World} {b N : Nat} {l : List Bool} (h : VarAt w b N l) (hl : l.length < N) : w.cell? ⟨b, l.length, none⟩ = some (.bool false) := by
  rw [cellOf h]
  simp only [List.getElem?_toArray, List.getElem?_map]
  rw [List.getElem?_append_right (Nat.le_refl _), Nat.sub_self, List.getElem?_replicate, if_pos (by omega)]
  rfl
theorem VarAt.set {w : World} {b N : Nat} {l : List Bool} (h : VarAt w b N l) (hl : l.length < N) (x : Bool) : VarAt (w.setCell ⟨b, l.length, none⟩ (.bool x)) b N (l ++ [x]) := by
  unfold VarAt
  rw [setCellOf h]
  congr 2
  rw [List.setIfInBounds_toArray]
  congr 1
  have e : N - l.length = (N - (l ++ [x]).length) + 1 := by simp; omega
  rw [e, List.replicate_succ]
  simp
theorem VarAt.bols {w : World} {b : Nat} {l : List Bool} (h : VarAt w b l.length l) : Bols w w.heap.size (.slice (some ⟨b, 0, none⟩) l.length l.length) l :=
  ⟨_, b, 0, _, rfl, Nat.le_refl _, .inl ⟨rfl, box_lt h⟩, fun i j hi hj => by
    obtain rfl : j = 0 := by omega
    rw [Nat.mul_one, Nat.add_zero, Nat.zero_add, cellOf h]
    simp [hi]⟩
theorem made_bools (N : Nat) : madeCells #[.bool false] N = (((List.replicate N false).map Value.bool).toArray) := by
  apply Array.ext
  · simp [madeCells]
  · intro i h1 h2
    simp [madeCells, Nat.mod_one]
theorem infoBool : (Try.prog.info? 4).map (fun i => (i.zero, i.size, i.bytes)) = some (some (.bool false), 1, 1) := by kernel_rfl
/-- What Most gives where nothing is wrong. -/
def MostR (m : Mo) (l : List (List Int)) (ws : List Int) (w : World) (e : Ending) (w' : World) : Prop :=
  ∃ v x, e = .returned (.tuple #[.int .i64 (bestF m l ws), v, .int .i64 0]) ∧ (exts m.opts.length []).find? (fun y => valF m l ws y == bestF m l ws) = some x ∧ x.length = m.opts.length ∧ Bols w' w'.heap.size v x ∧ Below w.heap.size w w'
theorem fsum_bd (v : Nat → Bool) : ∀ (a : List (List Int)) (ws : List Int), (∀ x ∈ ws, -1000000 ≤ x ∧ x ≤ 1000000) → -1000000 * (a.length : Int) ≤ fsum v a ws ∧ fsum v a ws ≤ 1000000 * (a.length : Int)
  | [], ws, _ => by cases ws <;> simp [fsum]
  | n :: a, [], _ => by simp [fsum]; omega
  | n :: a, x :: ws, h => by
    have h1 := fsum_bd v a ws fun y hy => h y (by simp [hy])
    have h2 := h x (by simp)
    simp only [fsum, List.length_cons]
    split <;> omega
theorem bestF_big {m : Mo} {l : List (List Int)} {ws : List Int} (hw : ∀ x ∈ ws, -1000000 ≤ x ∧ x ≤ 1000000) (hl : l.length ≤ 1000) (hs : satM m (fun _ => true) ≠ []) : leastI < bestF m l ws := by
  obtain ⟨x, hx⟩ := List.exists_mem_of_ne_nil _ hs
  unfold satM at hx
  rw [List.mem_filter] at hx
  have h1 := maxL_mem ((exts m.opts.length []).map (valF m l ws)) (valF m l ws x) (List.mem_map.2 ⟨x, hx.1, rfl⟩)
  have h2 : valF m l ws x = fsum (vf x) l ws := by
    unfold valF; rw [if_pos]; simpa using hx.2
  have h3 := fsum_bd (vf x) l ws hw
  unfold bestF
  unfold leastI at *
  omega
theorem WgAt.setOther {w : World} {F : Fo} {wp : Nat} {wsv : Value} {ws : List Int} {kb cnt : Nat} {m : SmL → Option Int} (h : WgAt w F wp wsv ws kb cnt m) {p : Addr} {u : Value} (h1 : p.block ≠ wp) (h2 : p.block ≠ kb) (h3 : ¬ SF F p.block) (hw : Ints (w.setCell p u) (w.setCell p u).heap.size wsv ws) : WgAt (w.setCell p u) F wp wsv ws kb cnt m :=
  ⟨(Below.heap_setCell _ _ _ _ (fun e => h1 e.symm)).trans h.box, h.fo.same (fun k hk => Below.heap_setCell _ _ _ _ (fun e => h3 (e ▸ hk))), hw, h.map.same (Below.heap_setCell _ _ _ _ (fun e => h2 e.symm)), h.ok, h.nS⟩
theorem Nods.setBool {w : World} {B b N k : Nat} {v : Value} {ns : List Nat} {ls : List Bool} {u : Value} (h : Nods w B v ns) (hv : VarAt w b N ls) : Nods (w.setCell ⟨b, k, none⟩ u) B v ns := by
  obtain ⟨A, b0, off, cap, h1, h2, h3, h4⟩ := h
  refine ⟨A, b0, off, cap, h1, h2, h3, fun i j hi hj => ?_⟩
  rw [← h4 i j hi hj]
  have hne : b0 ≠ b := by
    intro e
    have h5 := h4 i j hi hj
    rw [e, cellOf hv] at h5
    simp only [List.getElem?_toArray, List.getElem?_map] at h5
    generalize (ls ++ List.replicate (N - ls.length) false)[off + (i * 1 + j)]? = q at h5
    cases q with
    | none => simp at h5
    | some x => simp at h5
  exact World.cell?_of_block (Below.heap_setCell _ _ _ _ hne)
theorem VarAt.below {w w' : World} {b N : Nat} {ls : List Bool} (h : VarAt w b N ls) (hb : Below w.heap.size w w') : VarAt w' b N ls := box_to h hb
set_option maxRecDepth 100000 in
set_option maxHeartbeats 16000000 in
theorem Most_ok (m : Mo) (l : List (List Int)) (ws : List Int) (ov rv lv wv : Value) (w : World) (hs : SizedM m) (hl : Sized l) (h : MoAt w w.heap.size ov rv m) (hf : Forms w w.heap.size lv l) (hws : Ints w w.heap.size wv ws) (he : m.errF l = 0) (hN : m.opts.length ≤ 12) (hl200 : l.length ≤ 200) (hlw : ws.length = l.length) (hw : ∀ x ∈ ws, -1000000 ≤ x ∧ x ≤ 1000000) (hsat : satM m (fun _ => true) ≠ []) :
    Calls Try.prog 21 #[.agg #[ov, rv], lv, wv] w (MostR m l ws w) := by
  have hmm := @run_makeMap Try.prog
  obtain ⟨i0, hi0, iz0, iz1, iz2⟩ := info_parts infoInt
  obtain ⟨i1, hi1, jz0, jz1, jz2⟩ := info_parts infoBool
  obtain ⟨A, cap, hov⟩ := Sl.form h.o
  obtain ⟨Ar, capr, hrv⟩ := h.r.form
  have H := hide h
  have HF := hide hf
  have HS := hide hs
  have HL := hide hl
  have HW := hide hw
  have HSAT := hide hsat
  have HOK := hide (Mo.okF he)
  have HE := hide he
  have HWS := hide hws
  have HLW : Hid (ws.length = l.length) := hlw
  obtain ⟨fvs, ⟨Al, bl, offl, capl, rfl, hncl, hAl, hcl⟩, hfi⟩ := hf
  obtain ⟨Aw, bw, offw, capw, rfl, hncw, hAw, hcw⟩ := hws
  have HAL := hide hAl
  have HCL := hide hcl
  have HFI := hide hfi
  have HAW := hide hAw
  have HCW := hide hcw
  have hz1 : ¬ (200 : Int) < (l.length : Int) := by omega
  have hz2 : ((ws.length : Int) != (l.length : Int)) = false := by rw [hlw]; simp
  have hz3 : (l.length : Int) ≤ 200 := by omega
  have hz4 : (ws.length : Int) ≤ 200 := by omega
  subst hov hrv
  clear h hs hl hw hsat he hlw hAl hcl hfi hAw hcw
  go_enter Try.func21, Try.ntmps21
  go_upto_region 1 with (fail)
  generalize hw0 : World.alloc _ _ = w0
  obtain ⟨hb0, hB0, hs0⟩ := alloc1 hw0
  clear hw0
  have c0 := cellOf hb0 0
  have c1 := cellOf hb0 1
  have HX0 : Hid (MoBox w0 w.heap.size (.slice A m.opts.length cap) (.slice Ar m.rules.length capr)) := hb0
  have HB0 := hide hB0
  have hck := CheckModel_any m (.slice A m.opts.length cap) (.slice Ar m.rules.length capr) w0 HS.out (H.out.up hB0)
  rw [HOK.out.1] at hck
  have HCK := hide hck
  clear hb0 hB0 hs0 hck
  go_wp2_with (go_at_call 24; refine HCK.out.mono ?_; rintro e w1 ⟨rfl, hB1⟩; have hbx := box_to HX0.out hB1; have d0 := cellOf hbx 0; have d1 := cellOf hbx 1; have HB1 : Hid (Below w.heap.size w w1) := Below.to HB0.out hB1 (Nat.le_refl _); clear hbx hB1 c0 c1)
  have hbe := begin_ok m l (.slice A m.opts.length cap) (.slice Ar m.rules.length capr) (.slice Al l.length capl) w1 HS.out HL.out (H.out.up HB1.out) (HF.out.up HB1.out) HE.out hN
  have HBE := hide hbe
  clear hbe
  refine HBE.out.mono ?_
  rintro e w2 ⟨F, n, rfl, r1⟩
  have R1 : Hid (BegR m w w2 F n) := r1.of HB1.out
  have hn0 : n ≠ 0 := by
    intro e
    subst e
    apply HSAT.out
    rw [← satM_node (ks := F.ks) (n := 0) r1.N (fun v => by rw [r1.ev v, Bool.and_true]), sat_zero]
  have hn1 : ((n : Int) == 0) = false := by simp; omega
  have hnl := r1.lt
  clear r1 hn0 d0 d1
  go_wp2_with fail
  go_loop [44] (fun i => ∃ k : Nat, k ≤ ws.length ∧ i = .int .i64 k) (fun i => ws.length - (intOf i).toNat)
  case atStart => exact ⟨0, Nat.zero_le _, rfl⟩
  case round =>
    obtain ⟨k, hk, rfl⟩ := hrel
    by_cases hkl : k < ws.length
    · obtain ⟨rfl, hbb⟩ : Aw = some ⟨bw, offw, none⟩ ∧ bw < w.heap.size := by
        rcases HAW.out with h | h
        · exact h
        · omega
      obtain ⟨x, hx⟩ : ∃ x, ws.getD k 0 = x := ⟨_, rfl⟩
      have hxb := HW.out x (by rw [← hx]; exact getD_mem hkl)
      have c0 : w2.cell? ⟨bw, offw + k, none⟩ = some (.int .i64 x) := by
        have h1 := HCW.out k 0 hkl (by omega)
        rw [Nat.mul_one, Nat.add_zero, hx] at h1
        exact (R1.out.below.cell (p := ⟨bw, offw + k, none⟩) hbb).trans h1
      have hx1 : ¬ x < -1000000 := by omega
      have hx2 : ¬ (1000000 : Int) < x := by omega
      clear hx hxb
      go_wp2_with fail
      go_round
      case rel => exact ⟨k + 1, by omega, by go_num⟩
      case measure => simp [intOf]; omega
    · clear hk
      go_wp2_with fail
      generalize hw0 : World.alloc _ _ = w3
      obtain ⟨hb0, hB0, hs0⟩ := alloc1 hw0
      clear hw0
      have HR3 : Hid (OpR 0 w2 F w3 F) := R1.out.op.then_below hB0
      have hst : Stk w2.heap.size w3 F (.slice (some ⟨w2.heap.size, 0, none⟩) 1 1) [n] := ⟨⟨rfl, .inr ⟨w2.heap.size, 1, _, rfl, Nat.le_refl _, hb0, Nat.le_refl _, by unfold maxLen; omega, rfl, rfl⟩⟩, fun b hb hsf => by
        have := R1.out.here.slt hsf
        simp [Value.ownBlock] at hb
        omega⟩
      have HST := hide hst
      have hB2 : Below w.heap.size w w2 := R1.out.below
      have HB2 := hide hB2
      have h2 := R1.out.here.wf.two
      clear hb0 hB0 hs0 hst hB2
      go_loopw [14, 61] (fun nv i wr => ∃ (k : Nat) (S : List Nat) (F1 : Fo), k ≤ l.length ∧ S.length = k + 1 ∧ i = .int .i64 k ∧ Hid (Stk w2.heap.size wr F1 nv S) ∧ Hid (OpR (100 * k) w2 F wr F1) ∧ Hid (∀ x ∈ S, x < F1.ks.length) ∧ Hid (∀ v, ev F1.ks v (S.getD 0 0) = allF v m.rules) ∧ Hid (∀ v i, i < k → ev F1.ks v (S.getD (i + 1) 0) = evF1 v (l.getD i []))) (fun _ i _ => l.length - (intOf i).toNat)
      case atStart => exact ⟨0, [n], F, Nat.zero_le _, rfl, rfl, HST.out, HR3.out, (fun x hx => by simp at hx; rw [hx]; exact hnl : ∀ x ∈ [n], x < F.ks.length), (fun v => by simpa using R1.out.ev v : ∀ v, ev F.ks v ([n].getD 0 0) = allF v m.rules), (fun v i hi => absurd hi (by omega) : ∀ v i, i < 0 → ev F.ks v ([n].getD (i + 1) 0) = evF1 v (l.getD i []))⟩
      case round =>
        obtain ⟨k, S, F1, hk, hSl, rfl, hS, hop, hSm, hev0, hevs⟩ := hrel
        have hbw := hop.out.low R1.out
        by_cases hkl : k < l.length
        · obtain ⟨rfl, hbb⟩ : Al = some ⟨bl, offl, none⟩ ∧ bl < w.heap.size := by
            rcases HAL.out with h | h
            · exact h
            · omega
          obtain ⟨f, hfe⟩ : ∃ f, l.getD k [] = f := ⟨_, rfl⟩
          have hfm : f ∈ l := by rw [← hfe]; exact getD_mem hkl
          have hfv := HOK.out.2 f hfm
          have hin : Ints w w.heap.size (fvs k) f := by have := HFI.out k hkl; rwa [hfe] at this
          obtain ⟨Af, capf, hff⟩ := Sl.form hin
          have c0 : wr.cell? ⟨bl, offl + k, none⟩ = some (.slice Af f.length capf) := by
            have h1 := HCL.out k 0 hkl (by omega)
            rw [Nat.mul_one, Nat.add_zero, hff] at h1
            exact (hbw.cell (p := ⟨bl, offl + k, none⟩) hbb).trans h1
          obtain ⟨A1, cap1, rfl, hcap1, hcap2⟩ := hS.out.shape
          have hgr := grow_beg R1.out hN hop.out (by omega) hin hfv
          rw [hff] at hgr
          have HGR := hide hgr
          have HFE := hide hfe
          have HSL : Hid (S.length = k + 1) := hSl
          have hS300 : S.length ≤ 300 := by omega
          clear hbw hfe hfm hfv hin hff hgr hSl
          go_wp2_with (first | (go_at_call 61; refine HGR.out.mono ?_; rintro e w4 ⟨g, F2, rfl, r1, r2, hg, r4⟩; have R2 := hide r1; have R3 := hide r2; have R4 := hide r4; have hs4 := hS.out.step r2.st; have HS4 := hide hs4; have hsz4 := r1.st.keep.size; clear r1 r2 r4 hs4) | (at_builtin; go_must (refine wpList_append_own_at _ rfl (.tmp 65) (.tmp 69) _ rfl w2.heap.size 3 i0 _ 1 8 Try.underlying26 hi0 iz0 iz1 iz2 rfl (by omega) _ _ _ rfl (HS4.out.1.alloc _) ⟨w4.heap.size, 0, none⟩ 1 1 [.int .i64 (g : Nat)] rfl rfl (World.news_of_block (heap_alloc_new w4 _)) (by simp [Value.oneCell']) (by unfold maxLen; omega) (by omega) (by simp; omega) ?_); intro v1 w5 hown1 hg1 _ hat1; have HP := hide (HS4.out.push R2.out.st.here hown1 hg1 hat1); clear hown1 hg1 hat1))
          go_roundw
          case rel =>
            refine ⟨k + 1, S ++ [g], F2, by omega, by have := HSL.out; simp; omega, by go_num, HP.out.1, ?_, fun x hx => ?_, fun v => ?_, fun v i hi => ?_⟩
            · exact (R2.out.mono (l := 100 * (k + 1)) (by omega)).own HP.out.2 (fun i hi => (HS4.out.1.lt i hi).1) (fun i hs hi => HS4.out.2 i hi hs)
            · rcases List.mem_append.1 hx with h1 | h1
              · have := hSm.out x h1
                have := R3.out.st.le
                omega
              · rw [List.mem_singleton] at h1
                rw [h1]; exact hg
            · have hS0 : 0 < S.length := by have := HSL.out; omega
              rw [List.getD_eq_getElem?_getD, List.getElem?_append_left hS0, ← List.getD_eq_getElem?_getD, R3.out.st.ev hop.out.st.here.wf (hSm.out _ (getD_mem hS0))]
              exact hev0.out v
            · have hSk := HSL.out
              rcases Nat.lt_or_ge i k with h1 | h1
              · have hSi : i + 1 < S.length := by omega
                rw [List.getD_eq_getElem?_getD, List.getElem?_append_left hSi, ← List.getD_eq_getElem?_getD, R3.out.st.ev hop.out.st.here.wf (hSm.out _ (getD_mem hSi))]
                exact hevs.out v i h1
              · obtain rfl : i = k := by omega
                rw [List.getD_eq_getElem?_getD, List.getElem?_append_right (by omega), show i + 1 - S.length = 0 by omega]
                simp only [List.getElem?_cons_zero, Option.getD_some]
                rw [R4.out v, HFE.out]
          case measure => simp [intOf]; omega
        · obtain rfl : k = l.length := by omega
          obtain ⟨A1, cap1, rfl, hcap1, hcap2⟩ := hS.out.shape
          obtain ⟨wo, hwo⟩ : ∃ wo : World, wo = wr := ⟨_, rfl⟩
          subst hwo
          have hN1 : F1.N = m.opts.length := hop.out.st.N.trans R1.out.N
          obtain ⟨s0, sr, hSe⟩ : ∃ s0 sr, S = s0 :: sr := by
            match S, hSl with
            | [], hSl => simp at hSl
            | s0 :: sr, _ => exact ⟨s0, sr, rfl⟩
          have hval : ∀ x, valI F1.ks (vf x) S ws = valF m l ws x := fun x => by
            have q0 := hev0.out (vf x)
            have q1 := hevs.out (vf x)
            subst hSe
            simp only [List.getD_cons_zero, List.getD_cons_succ] at q0 q1
            have q2 : sr.length = l.length := by simpa using hSl
            exact valI_valF q0 q2 (fun i hi => q1 i (by omega))
          have hbest : bestK F1.ks F1.N S ws [] = bestF m l ws := by
            unfold bestK bestF
            rw [hN1]
            congr 1
            exact List.map_congr_left fun x _ => hval x
          have hbig := bestF_big (m := m) HW.out (show l.length ≤ 1000 by omega) HSAT.out
          have hbd := bestK_bd (ks := F1.ks) (N := F1.N) (nodes := S) HW.out (show S.length ≤ 1000 by omega) []
          obtain ⟨M, hM⟩ : ∃ M, bestF m l ws = M := ⟨_, rfl⟩
          rw [hM] at hbest hbig
          rw [hbest] at hbd
          have HVAL := hide hval
          have HBEST := hide hbest
          have HBIG := hide hbig
          have HM := hide hM
          have HN1 := hide hN1
          have HSL : Hid (S.length = l.length + 1) := hSl
          have hnods : Nods wo wo.heap.size (.slice A1 S.length cap1) S := Nods.of_own hS.out.1
          have HNODS := hide hnods
          have HBW := hide hbw
          have hslt : ∀ b, SF F1 b → b < wo.heap.size := fun b hb => hop.out.st.here.slt hb
          have HSLT := hide hslt
          have hS300 : S.length ≤ 300 := by omega
          obtain ⟨hbd1, hbd2⟩ := hbd
          unfold leastI at hbd1
          clear hk hval hbest hbig hM hN1 hSl hnods hbw hslt hSe
          go_wp2_with fail
          generalize hw4 : World.alloc _ _ = w4
          obtain ⟨hb0, hb1, hB4, hs4⟩ := alloc2 hw4
          clear hw4
          have hwg : WgAt w4 F1 (wo.heap.size + 1) (.slice Aw ws.length capw) ws wo.heap.size 0 (fun _ => none) :=
            ⟨by rw [hop.out.st.p]; exact hb1, hop.out.st.here.below hB4, Sl.more (Ints.below HWS.out (Below.to HBW.out hB4 (Nat.le_refl _))) (by have := HBW.out.size; omega), ⟨.map [], ⟨#[], 0, hb0, ⟨by simp, MapKept.stamped_empty 0, by simp⟩, Nat.le_refl _, rfl⟩, fun a l _ => ⟨fun _ => rfl, fun x h => (by cases h)⟩⟩, fun a x h => (by cases h), fun e => by have := HSLT.out _ e; omega⟩
          have hp13 : 2 ^ (F1.N + 1) ≤ 2 ^ 13 := Nat.pow_le_pow_right (by omega) (by rw [HN1.out]; omega)
          have hbt := best_any F1 (wo.heap.size + 1) _ ws wo.heap.size HW.out (by omega) F1.N S _ w4 (fun _ => none) 0 hwg (by have := HSL.out; have := HLW.out; omega) hSm.out (by omega) (HNODS.out.up hB4) (by omega)
          rw [HBEST.out] at hbt
          have HBT := hide hbt
          have HP13 := hide hp13
          have HB4 : Hid (Below w.heap.size w w4) := Below.to HBW.out hB4 (Nat.le_refl _)
          have HS4 : Hid (wo.heap.size + 2 = w4.heap.size) := hs4.symm
          have HN4 : Hid (Nods w4 w4.heap.size (.slice A1 S.length cap1) S) := HNODS.out.up hB4
          have HWG4 := hide hwg
          clear hb0 hb1 hB4 hs4 hwg hp13 hbt
          refine HBT.out.mono ?_
          rintro e w5 ⟨m5, cnt5, rfl, r5⟩
          have R5 := hide r5
          have d0 := r5.here.fo.cellN
          rw [hop.out.st.p] at d0
          have hB5 : Below w.heap.size w w5 := HB4.out.trans (r5.keep.below (by have := HB4.out.size; omega) (fun k hk => by have := HBW.out.size; omega))
          have HB5 := hide hB5
          have HN5 : Hid (Nods w5 w5.heap.size (.slice A1 S.length cap1) S) := Sl.more (Sl.keep HN4.out (r5.cells HWG4.out)) r5.keep.size
          have hN13 : F1.N ≤ 12 := by rw [HN1.out]; exact hN
          have hmk : ∀ W : World, (Instr.makeSlice 29 (.int .i64 F1.N) (.int .i64 F1.N)).run Try.prog W = .ok (.slice (some ⟨W.heap.size, 0, none⟩) F1.N F1.N) (W.alloc (.cells (madeCells #[.bool false] (F1.N * 1)) 4)) := fun W => by
            have h1 := run_make (P := Try.prog) W 29 4 i1 (.bool false) Try.underlying29 hi1 jz0 .i64 .i64 F1.N F1.N (by omega) (Int.le_refl _) (by rw [jz2]; omega) (by omega)
            rw [jz1] at h1
            simpa [Value.cells] using h1
          clear r5 hB5
          go_wp2_with fail
          generalize hw0 : World.alloc _ _ = w6
          obtain ⟨hb0, hB0, hs0⟩ := alloc1 hw0
          clear hw0
          have hva : VarAt w6 w5.heap.size F1.N [] := by
            unfold VarAt
            rw [hb0, made_bools]
            rfl
          have HVA := hide hva
          have HB6 : Hid (Below w.heap.size w w6) := Below.to HB5.out hB0 (Nat.le_refl _)
          have HWG6 := hide (R5.out.here.below hB0)
          have HN6 : Hid (Nods w6 w6.heap.size (.slice A1 S.length cap1) S) := HN5.out.up hB0
          have hsz5 : wo.heap.size + 2 ≤ w5.heap.size := by have := R5.out.keep.size; have := HS4.out; omega
          have hcnt5 := R5.out.cnt
          clear hb0 hB0 hs0 hva hmk d0
          go_loopw [14, 87] (fun nv i wq => ∃ (k : Nat) (ls : List Bool) (ns : List Nat) (cnt : Nat) (mm : SmL → Option Int), k ≤ F1.N ∧ ls.length = k ∧ i = .int .i64 k ∧ Hid (Pick F1.ks F1.N ws S M ls ns) ∧ Hid (WgAt wq F1 (wo.heap.size + 1) (.slice Aw ws.length capw) ws wo.heap.size cnt mm) ∧ cnt ≤ (k + 1) * 8192 ∧ Hid (Nods wq wq.heap.size nv ns) ∧ Hid (VarAt wq w5.heap.size F1.N ls) ∧ Hid (Below w.heap.size w wq)) (fun _ i _ => F1.N - (intOf i).toNat)
          case atStart => exact ⟨0, [], S, cnt5, m5, Nat.zero_le _, rfl, rfl, Pick.start hSm.out HBEST.out, HWG6.out, by have := HP13.out; omega, HN6.out, HVA.out, HB6.out⟩
          case round =>
            obtain ⟨k, ls, ns, cnt, mm, hk, hls, rfl, hP, hWG, hcnt, hNn, hV, hBq⟩ := hrel
            obtain ⟨A7, cap7, hA7⟩ := Sl.form hNn.out
            subst hA7
            have hPl := hP.out.len
            have hsz : wo.heap.size + 2 ≤ w5.heap.size := hsz5
            have hvl : w5.heap.size < wr.heap.size := box_lt hV.out
            by_cases hkl : k < F1.N
            · have hcq : cnt + 2 ^ (F1.N + 1) ≤ 1073741824 := by
                have h1 := HP13.out
                have h2 : (k + 1) * 8192 ≤ 13 * 8192 := Nat.mul_le_mul_right _ (by omega)
                omega
              have hlsN : ls.length < F1.N := by omega
              have hahead := hP.out.ahead hop.out.st.here.wf hlsN false
              rw [hls] at hahead
              obtain ⟨a, ha⟩ : ∃ a, bestK F1.ks F1.N S ws (ls ++ [false]) = a := ⟨_, rfl⟩
              obtain ⟨b, hb⟩ : ∃ b, decide (a < M) = b := ⟨_, rfl⟩
              rw [ha] at hahead
              have hnx := hP.out.next hop.out.st.here.wf hlsN HBIG.out (b := b) (by rw [ha, hb])
              rw [hls] at hnx
              have hsta := step_any F1 (wo.heap.size + 1) _ ws wo.heap.size cnt mm ns k false _ wr hWG.out (by omega) hP.out.lt hNn.out
              have HSTA := hide hsta
              have HAH := hide hahead
              have HNX := hide hnx
              have HCQ := hide hcq
              have HLS : Hid (ls.length = k) := hls
              have HPL : Hid (ns.length = S.length) := hPl
              have HCNT := hide hcnt
              have v0 : wr.cell? ⟨w5.heap.size, k, none⟩ = some (.bool false) := by rw [← hls]; exact hV.out.cell hlsN
              have j1 : (k : Int) < (F1.N : Int) := by omega
              clear hcq hlsN hahead ha hnx hsta hls hPl hcnt
              go_wp2_with fail
              refine HSTA.out.mono ?_
              rintro e w7 ⟨v7, rfl, hn7, hB7⟩
              obtain ⟨A8, cap8, rfl⟩ := Sl.form hn7
              rw [List.length_map] at hn7 ⊢
              have hwg7 := hWG.out.below hB7
              have hV7 := hV.out.below hB7
              have hbt := best_any F1 (wo.heap.size + 1) _ ws wo.heap.size HW.out (by omega) F1.N (ns.map fun n => brK F1.ks n k false) _ w7 mm cnt hwg7 (by rw [List.length_map]; have := HPL.out; have := HSL.out; have := HLW.out; omega) (fun n hn => by
                rw [List.mem_map] at hn
                obtain ⟨x, hx, rfl⟩ := hn
                exact brK_lt hop.out.st.here.wf (hP.out.lt x hx) hkl) (by omega) hn7 HCQ.out
              rw [HAH.out] at hbt
              have HBT7 := hide hbt
              have HB7 := hide hB7
              have HV7 := hide hV7
              have HWG7 := hide hwg7
              have HN7 : Hid (Nods w7 w7.heap.size (.slice A7 ns.length cap7) ns) := hNn.out.up hB7
              have HBq7 : Hid (Below w.heap.size w w7) := Below.to hBq.out hB7 (Nat.le_refl _)
              clear hn7 hwg7 hV7 hbt hB7
              go_wp2_with fail
              refine HBT7.out.mono ?_
              rintro e w8 ⟨m8, cnt8, rfl, r8⟩
              have hV8 : VarAt w8 w5.heap.size F1.N ls := (r8.keep.block _ (box_lt HV7.out) (by omega)).trans HV7.out
              have HV8 := hide hV8
              have R8 := hide r8
              have HN8 : Hid (Nods w8 w8.heap.size (.slice A7 ns.length cap7) ns) := Sl.more (Sl.keep HN7.out (r8.cells HWG7.out)) r8.keep.size
              have HB8 : Hid (Below w.heap.size w w8) := HBq7.out.trans (r8.keep.below (by have := HBq7.out.size; omega) (fun k hk => by have := HBW.out.size; omega))
              have x0 : w8.cell? ⟨w5.heap.size, k, none⟩ = some (.bool false) := by rw [← HLS.out]; exact hV8.cell (by rw [HLS.out]; exact hkl)
              have x1 : w8.frozen? ⟨w5.heap.size, k, none⟩ = false := unfrozenOf hV8 _
              clear r8 hV8 v0
              go_wp2_with fail
              generalize hw9 : World.setCell _ _ _ = w9
              have hV9 : VarAt w9 w5.heap.size F1.N (ls ++ [b]) := by
                rw [← hw9]
                have h1 := HV8.out.set (by rw [HLS.out]; exact hkl) b
                rw [HLS.out] at h1
                exact h1
              have hs9 : w9.heap.size = w8.heap.size := by rw [← hw9]; simp [World.setCell]
              have hB9 : Below w.heap.size w w9 := by
                rw [← hw9]
                exact HB8.out.setCell (show w.heap.size ≤ w5.heap.size from HB5.out.size) _
              have hN9 : Nods w9 w9.heap.size (.slice A7 ns.length cap7) ns := by
                rw [hs9, ← hw9]
                exact HN8.out.setBool HV8.out
              have hWG9 : WgAt w9 F1 (wo.heap.size + 1) (.slice Aw ws.length capw) ws wo.heap.size cnt8 m8 := by
                have hi9 : Ints w9 w9.heap.size (.slice Aw ws.length capw) ws := Sl.more (Ints.below HWS.out hB9) hB9.size
                rw [← hw9] at hi9 ⊢
                exact R8.out.here.setOther (show w5.heap.size ≠ wo.heap.size + 1 by omega) (show w5.heap.size ≠ wo.heap.size by omega) (fun e => by have := HSLT.out _ e; simp at this; omega) hi9
              have HV9 := hide hV9
              have HB9 := hide hB9
              clear hw9 hs9 hV9 hB9 x0 x1
              refine (step_any F1 (wo.heap.size + 1) _ ws wo.heap.size cnt8 m8 ns k b _ w9 hWG9 (by have := HPL.out; omega) hP.out.lt hN9).mono ?_
              rintro e w10 ⟨v10, rfl, hn10, hB10⟩
              obtain ⟨A10, cap10, hA10⟩ := Sl.form hn10
              subst hA10
              rw [List.length_map] at hn10 ⊢
              have HN10 := hide hn10
              have HWG10 := hide (hWG9.below hB10)
              have HV10 := hide (HV9.out.below hB10)
              have HB10 : Hid (Below w.heap.size w w10) := Below.to HB9.out hB10 (Nat.le_refl _)
              clear hn10 hB10 hWG9 hN9
              go_wp2_with fail
              go_roundw
              case rel =>
                exact ⟨k + 1, ls ++ [b], _, cnt8, m8, by omega, by simp [HLS.out], by go_num, HNX.out, HWG10.out, by have h1 := R8.out.cnt; have h2 := HP13.out; have h3 := HCNT.out; omega, HN10.out, HV10.out, HB10.out⟩
              case measure => simp [intOf]; omega
            · obtain rfl : k = F1.N := by omega
              have hfin := hP.out.finish hls HBIG.out
              have hb := VarAt.bols (l := ls) (by rw [hls]; exact hV.out)
              rw [hls] at hb
              have HFIN := hide hfin
              have HBO := hide hb
              have HLS : Hid (ls.length = F1.N) := hls
              clear hfin hb hls hkl hk
              go_wp2_with fail
              go_ret3
              refine ⟨_, ls, ?_, ?_, ?_, HBO.out, hBq.out⟩
              · rw [HM.out]; rfl
              · have h1 := HFIN.out
                rw [HN1.out] at h1
                rw [HM.out, ← h1]
                congr 1
                funext x
                rw [HVAL.out x]
              · rw [HLS.out, HN1.out]
end Go.Proofs.Ytohofcmikfkilaa

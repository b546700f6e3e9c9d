/- Part 13 of this claim's texts: walks and plain laws. -/
import Derived.Test.YtehadoecnmfeoaaGreatRows
import Derived.Test.YtehadoecnmfeoaaGreatGBY12
import Derived.StringKeys
/- The weigher in memory; a step of it: walk. -/
namespace Go.Proofs.YtehadoecnmfeoaaGreat
open Go.RowKit
open Go.Maps (Keyed)
set_option linter.unusedVariables false
set_option linter.unusedSimpArgs false
/-- The slice v holds the nodes l, below block B. -/
def Nods (w : World) (B : Nat) (v : Value) (l : List Nat) : Prop := Sl w B 1 v l.length (fun i _ => .int .i64 (l.getD i 0 : Nat))
theorem Nods.below {w w' : World} {B : Nat} {v : Value} {l : List Nat} (h : Nods w B v l) (hb : Below B w w') : Nods w' B v l := Sl.below h hb
theorem Nods.up {w w' : World} {v : Value} {l : List Nat} (h : Nods w w.heap.size v l) (hb : Below w.heap.size w w') : Nods w' w'.heap.size v l := Sl.up h hb
theorem Nods.of_own {w : World} {base : Nat} {v : Value} {l : List Nat} (h : w.ownsRow base 3 1 v l.length (l.map fun (n : Nat) => Value.int .i64 n)) : Nods w w.heap.size v l := by
  rcases h.2 with ⟨h1, h2⟩ | ⟨g, cap, cur, h1, h2, h3, h4, h5⟩
  · rw [h1]
    have : l = [] := List.length_eq_zero_iff.1 h2
    subst this
    exact Sl.nil _ _ _ _
  · refine ⟨some ⟨g, 0, none⟩, g, 0, cap, h1, h4, .inl ⟨rfl, box_lt h3⟩, fun i j hi hj => ?_⟩
    have hg : v.ownBlock = some g := by rw [h1]; rfl
    have := h.cells hg i (.int .i64 (l.getD i 0 : Nat)) (by simp [hi])
    have he : (⟨g, 0, none⟩ : Addr).add i = ⟨g, i, none⟩ := by
      unfold Addr.add
      split
      · rename_i h0; rw [h0]
      · rw [Nat.zero_add]
    rw [he] at this
    rw [show 0 + (i * 1 + j) = i by omega]
    exact this
theorem owns_form {w : World} {base e size n : Nat} {v : Value} {xs : List Value} (h : w.ownsRow base e size v n xs) : ∃ A cap, v = .slice A n cap := by
  rcases h.2 with ⟨h1, h2⟩ | ⟨g, cap, cur, h1, _⟩
  · exact ⟨none, 0, by rw [h1, h2]⟩
  · exact ⟨_, _, h1⟩
/-- Lists of small numbers. -/
abbrev SmL := { l : List Nat // ∀ n ∈ l, n < 1073741824 }
def enS (a : SmL) : Value := .string (kyS a.1)
theorem enS_inj (a b : SmL) (h : enS a = enS b) : a = b := by
  unfold enS at h
  injection h with h
  exact Subtype.ext (kyS_inj a.2 b.2 h)
theorem enSKey {a : SmL} (h : a.1.length ≤ 1000) : ∃ l, keyOf Tryz.prog 9 (enS a) = some l :=
  ⟨_, Go.WideMaps.keyOf_string_mk Tryz.underlying9 (by have := kyS_size a.1; unfold maxLen; omega)⟩
theorem stLaw : Keyed Tryz.prog 9 := Maps.string_keyed Tryz.underlying9
/-- The weigher in memory. -/
structure WgAt (w : World) (F : Fo) (wp : Nat) (wsv : Value) (ws : List Int) (kb cnt : Nat) (m : SmL → Option Int) : Prop where
  box : w.heap[wp]? = some (.cells #[.pointer (some ⟨F.p, 0, none⟩), wsv, .map (some kb)] 238 (0, 0))
  fo : FoAt w F
  wts : Ints w w.heap.size wsv ws
  map : MapIs Tryz.prog w 9 3 kb cnt enS m
  ok : ∀ a x, m a = some x → x = bestK F.ks F.N a.1 ws []
  nS : ¬ SF F kb
theorem WgAt.ne {w : World} {F : Fo} {wp : Nat} {wsv : Value} {ws : List Int} {kb cnt : Nat} {m : SmL → Option Int} (h : WgAt w F wp wsv ws kb cnt m) : wp ≠ kb := by
  obtain ⟨es, c, h1⟩ := h.map.obj
  intro e
  have h2 := h.box
  rw [e, h1] at h2
  cases h2
theorem WgAt.below {w w' : World} {F : Fo} {wp : Nat} {wsv : Value} {ws : List Int} {kb cnt : Nat} {m : SmL → Option Int} (h : WgAt w F wp wsv ws kb cnt m) (hb : Below w.heap.size w w') : WgAt w' F wp wsv ws kb cnt m :=
  ⟨box_to h.box hb, h.fo.below hb, Ints.up h.wts hb, h.map.same (hb.block _ h.map.lt), h.ok, h.nS⟩
/-- A map that has changed changes no cell. -/
theorem keepsMap {α : Type} {kb cnt cnt' k e : Nat} {enc : α → Value} {m m' : α → Option Int} {w w' : World} (h : Keeps (fun i => i = kb) w w') (h1 : MapIs Tryz.prog w k e kb cnt enc m) (h2 : MapIs Tryz.prog w' k e kb cnt' enc m') : ∀ b o, b < w.heap.size → w'.cell? ⟨b, o, none⟩ = w.cell? ⟨b, o, none⟩ := by
  intro b o hb
  by_cases he : b = kb
  · obtain ⟨es, c, q1⟩ := h1.obj
    obtain ⟨es', c', q2⟩ := h2.obj
    subst he
    simp [World.cell?, q1, q2]
  · exact kcell h b o hb he
theorem WgAt.turn {w w' : World} {F : Fo} {wp : Nat} {wsv : Value} {ws : List Int} {kb cnt cnt' : Nat} {m m' : SmL → Option Int} (h : WgAt w F wp wsv ws kb cnt m) (hk : Keeps (fun i => i = kb) w w') (hm : MapIs Tryz.prog w' 9 3 kb cnt' enS m') (hok : ∀ a x, m' a = some x → x = bestK F.ks F.N a.1 ws []) : WgAt w' F wp wsv ws kb cnt' m' :=
  ⟨(hk.block _ (box_lt h.box) h.ne).trans h.box, h.fo.keeps hk (fun k hs e => h.nS (e ▸ hs)), Sl.more (Sl.keep h.wts (keepsMap hk h.map hm)) hk.size, hm, hok, h.nS⟩
set_option maxRecDepth 100000 in
set_option maxHeartbeats 2000000 in
theorem step_any (F : Fo) (wp : Nat) (wsv : Value) (ws : List Int) (kb cnt : Nat) (m : SmL → Option Int) (l : List Nat) (o : Nat) (b : Bool) (v : Value) (w : World) (h : WgAt w F wp wsv ws kb cnt m) (hl : l.length ≤ 1000) (hs : ∀ n ∈ l, n < F.ks.length) (hn : Nods w w.heap.size v l) :
    Calls Tryz.prog 197 #[.pointer (some ⟨wp, 0, none⟩), v, .int .i64 o, .bool b] w
      fun e w' => ∃ v', e = .returned v' ∧ Nods w' w'.heap.size v' (l.map fun n => brK F.ks n o b) ∧ Below w.heap.size w w' := by
  obtain ⟨i0, hi0, iz0, iz1, iz2⟩ := info_parts infoInt
  obtain ⟨A, b0, off, cap, rfl, hnc, hA, hc⟩ := hn
  have HC := hide hc
  have HA := hide hA
  have HS := hide hs
  have H := hide h
  clear hc hA hs h
  go_enter Tryz.func197, Tryz.ntmps197
  go_wp2
  go_loopw [9, 14] (fun x i wr => ∃ k : Nat, k ≤ l.length ∧ i = .int .i64 k ∧ Hid (wr.ownsRow w.heap.size 3 1 x k (((l.take k).map fun n => brK F.ks n o b).map fun (n : Nat) => Value.int .i64 n)) ∧ Hid (Below w.heap.size w wr)) (fun _ i _ => l.length - (intOf i).toNat)
  case atStart => exact ⟨0, Nat.zero_le _, rfl, World.ownsRow_nil w w.heap.size 3 1, Below.refl _ _⟩
  case round =>
    obtain ⟨k, hk, rfl, ho, hB⟩ := hrel
    by_cases hlt : k < l.length
    · obtain ⟨rfl, hbb⟩ : A = some ⟨b0, off, none⟩ ∧ b0 < w.heap.size := by
        rcases HA.out with h | h
        · exact h
        · omega
      obtain ⟨x, hx⟩ : ∃ x, l.getD k 0 = x := ⟨_, rfl⟩
      have hxl : x < F.ks.length := HS.out x (by rw [← hx]; exact getD_mem hlt)
      have c0 : wr.cell? ⟨b0, off + k, none⟩ = some (.int .i64 (x : Nat)) := by
        have h1 := HC.out k 0 hlt (by omega)
        rw [Nat.mul_one, Nat.add_zero, hx] at h1
        exact (hB.out.cell (p := ⟨b0, off + k, none⟩) hbb).trans h1
      have hwg := H.out.below hB.out
      have d0 := cellOf hwg.box 0
      have hbr := branch_any F x o b wr hwg.fo hxl
      have HBR := hide hbr
      have HX := hide hx
      have hsz := hB.out.size
      clear hx hwg hbr
      go_wp2_with (first | (go_at_call 193; refine HBR.out.mono ?_; rintro e w1 ⟨rfl, hB1⟩; have HB1 := hide hB1; have hsz1 := hB1.size; have ho1 := owns_below ho.out hB1; have HO1 := hide ho1; clear hB1 ho1) | (at_builtin; go_must (refine wpList_append_own_at _ rfl (.tmp 18) (.tmp 27) _ rfl w.heap.size 3 i0 _ 1 8 Tryz.underlying45 hi0 iz0 iz1 iz2 rfl (by omega) _ _ _ rfl (HO1.out.alloc _) ⟨w1.heap.size, 0, none⟩ 1 1 [.int .i64 (brK F.ks x o b : Nat)] rfl rfl (World.news_of_block (heap_alloc_new w1 _)) (by simp [Value.oneCell']) (by unfold maxLen; omega) (by omega) (by simp; omega) ?_); intro v1 w2 hown1 hg1 _ hat1; have HOWN := hide hown1; have HG1 := hide hg1; clear hown1 hg1 hat1))
      go_roundw
      case rel =>
        refine ⟨k + 1, by omega, by go_num, ?_, ?_⟩
        · have h1 := HOWN.out
          rw [take_getD (z := 0) hlt, HX.out, List.map_append, List.map_append]
          exact h1
        · exact Below.grown (Below.allocT (Below.to hB.out HB1.out (Nat.le_refl _)) (Nat.le_refl _) _) HG1.out (by simp; omega) (fun j hj => (HO1.out.lt j hj).1)
      case measure => simp [intOf]; omega
    · obtain rfl : k = l.length := by omega
      have ho2 := ho.out
      rw [List.take_length] at ho2
      have hf := owns_form ho2
      obtain ⟨A2, cap2, rfl⟩ := hf
      have HO2 := hide ho2
      clear ho2
      go_wp2
      go_ret
      refine ⟨_, rfl, Nods.of_own (base := w.heap.size) ?_, hB.out⟩
      rw [List.length_map]
      exact HO2.out
end Go.Proofs.YtehadoecnmfeoaaGreat
/- The greatest sum: walk of best. -/
namespace Go.Proofs.YtehadoecnmfeoaaGreat
open Go.RowKit
open Go.Maps (Keyed)
set_option linter.unusedVariables false
set_option linter.unusedSimpArgs false
def tminK (ks : List Kn) (N : Nat) (l : List Nat) : Nat := l.foldl (fun t n => min t (topK ks n)) N
theorem tminK_snoc (ks : List Kn) (N : Nat) (l : List Nat) (n : Nat) : tminK ks N (l ++ [n]) = min (tminK ks N l) (topK ks n) := by simp [tminK]
theorem tminK_le (ks : List Kn) : ∀ (l : List Nat) (N : Nat), tminK ks N l ≤ N ∧ ∀ n ∈ l, tminK ks N l ≤ topK ks n
  | [], N => ⟨Nat.le_refl _, fun n hn => by cases hn⟩
  | a :: l, N => by
    obtain ⟨h1, h2⟩ := tminK_le ks l (min N (topK ks a))
    have e : tminK ks N (a :: l) = tminK ks (min N (topK ks a)) l := rfl
    rw [e]
    refine ⟨by omega, fun n hn => ?_⟩
    rcases List.mem_cons.1 hn with rfl | hn
    · omega
    · exact h2 n hn
theorem wyes_snoc : ∀ (a : List Nat) (n : Nat) (ws : List Int), a.length < ws.length → wyes (a ++ [n]) ws = wyes a ws + if n = 1 then ws.getD a.length 0 else 0
  | [], n, w :: ws, _ => by cases ws <;> simp [wyes]
  | x :: a, n, w :: ws, h => by
    have := wyes_snoc a n ws (by simpa using h)
    simp only [List.cons_append, wyes, this, List.length_cons, List.getD_cons_succ]
    omega
  | [], n, [], h => by simp at h
  | x :: a, n, [], h => by simp at h
/-- The sum that best has when it has looked at some nodes. -/
def sumP (l : List Nat) (ws : List Int) : Int := wyes (l.drop 1) ws
theorem sumP_snoc {l : List Nat} {n : Nat} {ws : List Int} (hl : l.length ≤ ws.length) : sumP (l ++ [n]) ws = sumP l ws + if 0 < l.length ∧ n = 1 then ws.getD (l.length - 1) 0 else 0 := by
  unfold sumP
  match l with
  | [] => simp [wyes]
  | x :: l =>
    simp only [List.cons_append, List.drop_succ_cons, List.drop_zero, List.length_cons]
    rw [wyes_snoc l n ws (by simp at hl; omega)]
    by_cases h : n = 1 <;> simp [h]
theorem wyes_bd : ∀ (a : List Nat) (ws : List Int), (∀ x ∈ ws, -1000000 ≤ x ∧ x ≤ 1000000) → -1000000 * (a.length : Int) ≤ wyes a ws ∧ wyes a ws ≤ 1000000 * (a.length : Int)
  | [], ws, _ => by cases ws <;> simp [wyes]
  | n :: a, [], _ => by simp [wyes]; omega
  | n :: a, x :: ws, h => by
    have h1 := wyes_bd a ws fun y hy => h y (by simp [hy])
    have h2 := h x (by simp)
    simp only [wyes, List.length_cons]
    split <;> omega
theorem wsum_bd (ks : List Kn) (v : Nat → Bool) : ∀ (a : List Nat) (ws : List Int), (∀ x ∈ ws, -1000000 ≤ x ∧ x ≤ 1000000) → -1000000 * (a.length : Int) ≤ wsum ks v a ws ∧ wsum ks v a ws ≤ 1000000 * (a.length : Int)
  | [], ws, _ => by cases ws <;> simp [wsum]
  | n :: a, [], _ => by simp [wsum]; omega
  | n :: a, x :: ws, h => by
    have h1 := wsum_bd ks v a ws fun y hy => h y (by simp [hy])
    have h2 := h x (by simp)
    simp only [wsum, List.length_cons]
    split <;> omega
theorem bestK_bd {ks : List Kn} {N : Nat} {nodes : List Nat} {ws : List Int} (hw : ∀ x ∈ ws, -1000000 ≤ x ∧ x ≤ 1000000) (hn : nodes.length ≤ 1000) (l : List Bool) : leastI ≤ bestK ks N nodes ws l ∧ bestK ks N nodes ws l ≤ 1000000000 := by
  refine ⟨maxL_least _, ?_⟩
  rcases (by have := maxL_least ((exts (N - l.length) l).map fun x => valI ks (vf x) nodes ws); omega : maxL ((exts (N - l.length) l).map fun x => valI ks (vf x) nodes ws) = leastI ∨ leastI < maxL ((exts (N - l.length) l).map fun x => valI ks (vf x) nodes ws)) with h | h
  · unfold bestK; rw [h]; unfold leastI; omega
  · have := maxL_attained _ h
    rw [List.mem_map] at this
    obtain ⟨x, _, hx⟩ := this
    unfold bestK
    rw [← hx]
    unfold valI
    split
    · unfold leastI; omega
    · rename_i n ns
      have := wsum_bd ks (vf x) ns ws hw
      simp only [List.length_cons] at hn
      split
      · omega
      · unfold leastI; omega
/-- What best leaves. -/
structure BstR (F : Fo) (wp : Nat) (wsv : Value) (ws : List Int) (kb d : Nat) (w : World) (cnt : Nat) (w' : World) (m' : SmL → Option Int) (cnt' : Nat) : Prop where
  keep : Keeps (fun k => k = kb) w w'
  here : WgAt w' F wp wsv ws kb cnt' m'
  cnt : cnt' + 1 ≤ cnt + 2 ^ (d + 1)
theorem BstR.cells {F : Fo} {wp : Nat} {wsv : Value} {ws : List Int} {kb d : Nat} {w : World} {cnt : Nat} {w' : World} {m m' : SmL → Option Int} {cnt' : Nat} (r : BstR F wp wsv ws kb d w cnt w' m' cnt') (h : WgAt w F wp wsv ws kb cnt m) : ∀ b o, b < w.heap.size → w'.cell? ⟨b, o, none⟩ = w.cell? ⟨b, o, none⟩ := keepsMap r.keep h.map r.here.map
set_option maxRecDepth 100000 in
theorem bestNo_any (wp : Nat) (ns : List Nat) (v : Value) (w : World) (hn : Nods w w.heap.size v (0 :: ns)) :
    Calls Tryz.prog 196 #[.pointer (some ⟨wp, 0, none⟩), v] w fun e w' => e = .returned (.int .i64 leastI) ∧ w = w' := by
  obtain ⟨A, b0, off, cap, rfl, hnc, hA, hc⟩ := hn
  obtain ⟨rfl, hbb⟩ : A = some ⟨b0, off, none⟩ ∧ b0 < w.heap.size := by
    rcases hA with h | h
    · exact h
    · simp at h
  have c0 := hc 0 0 (by simp) (by omega)
  simp only [Nat.zero_mul, Nat.add_zero, List.getD_cons_zero] at c0
  have hlen : 0 < (0 :: ns).length := by simp
  have hlen2 : (0 : Int) < ((0 :: ns).length : Int) := by omega
  obtain ⟨n, hn⟩ : ∃ n, (0 :: ns).length = n := ⟨_, rfl⟩
  rw [hn] at hlen hlen2 ⊢
  clear hc hA hnc hn
  go_enter Tryz.func196, Tryz.ntmps196
  go_wp2_with fail
  go_ret
  exact ⟨rfl, rfl⟩
theorem tminK_ge {ks : List Kn} {t : Nat} : ∀ (l : List Nat) (N : Nat), t ≤ N → (∀ n ∈ l, t ≤ topK ks n) → t ≤ tminK ks N l
  | [], N, h, _ => h
  | a :: l, N, h, h2 => tminK_ge l (min N (topK ks a)) (by have := h2 a (by simp); omega) fun n hn => h2 n (by simp [hn])
theorem min_val {a b : Nat} : Value.int .i64 (if b < a then (b : Int) else (a : Int)) = .int .i64 ((min a b : Nat) : Int) := by
  split
  · congr 1; omega
  · congr 1; omega
set_option maxRecDepth 100000 in
set_option maxHeartbeats 8000000 in
theorem best_any (F : Fo) (wp : Nat) (wsv : Value) (ws : List Int) (kb : Nat) (hw : ∀ x ∈ ws, -1000000 ≤ x ∧ x ≤ 1000000) (hws : ws.length ≤ 900) : ∀ (d : Nat) (nodes : List Nat) (v : Value) (w : World) (m : SmL → Option Int) (cnt : Nat), WgAt w F wp wsv ws kb cnt m → nodes.length = ws.length + 1 → (∀ n ∈ nodes, n < F.ks.length) → F.N - tminK F.ks F.N nodes ≤ d → Nods w w.heap.size v nodes → cnt + 2 ^ (d + 1) ≤ 1073741824 →
    Calls Tryz.prog 196 #[.pointer (some ⟨wp, 0, none⟩), v] w
      fun e w' => ∃ m' cnt', e = .returned (.int .i64 (bestK F.ks F.N nodes ws [])) ∧ BstR F wp wsv ws kb d w cnt w' m' cnt' := by
  intro d
  induction d using Nat.strongRecOn with
  | ind d ih =>
  intro nodes v w m cnt h hlen hlt hd hn hc
  have hpp := pow_pos2 (d + 1)
  obtain ⟨n0, ns, rfl⟩ : ∃ n0 ns, nodes = n0 :: ns := by
    match nodes, hlen with
    | [], hlen => simp at hlen
    | n0 :: ns, _ => exact ⟨n0, ns, rfl⟩
  by_cases h0 : n0 = 0
  · subst h0
    refine (bestNo_any wp ns v w hn).mono ?_
    rintro e w' ⟨rfl, rfl⟩
    exact ⟨m, cnt, by rw [bestK_no], ⟨Keeps.refl _ _, h, by omega⟩⟩
  have h01 : ((n0 : Int) == 0) = false := by simp; omega
  have hn' := hn
  obtain ⟨A, b0, off, cap, rfl, hnc, hA, hcell⟩ := hn'
  obtain ⟨rfl, hbb⟩ : A = some ⟨b0, off, none⟩ ∧ b0 < w.heap.size := by
    rcases hA with h | h
    · exact h
    · simp at h
  have c0 := hcell 0 0 (by simp) (by omega)
  simp only [Nat.zero_mul, Nat.add_zero, List.getD_cons_zero] at c0
  obtain ⟨nodes, hnd⟩ : ∃ nodes, n0 :: ns = nodes := ⟨_, rfl⟩
  have hn0 : nodes.getD 0 0 = n0 := by rw [← hnd]; rfl
  rw [hnd] at hlen hlt hd hn hnc hcell ⊢
  have hl0 : 0 < nodes.length := by omega
  have hl1 : (0 : Int) < (nodes.length : Int) := by omega
  have hl2 : (nodes.length : Int) ≤ 1000 := by omega
  have e0 := cellOf h.box 0
  have e1 := cellOf h.box 1
  have e2 := cellOf h.box 2
  have d0 := h.fo.cellN
  have d1 := h.fo.cellS
  have hsm := h.fo.small
  obtain ⟨Aw, bw, offw, capw, rfl, hncw, hAw, hcw⟩ := h.wts
  have H := hide h
  have HN := hide hn
  have HC := hide hcell
  have HLT := hide hlt
  have HAW := hide hAw
  have HCW := hide hcw
  have HW := hide hw
  have HIH := hide ih
  have HD : Hid (F.N - tminK F.ks F.N nodes ≤ d ∧ cnt + 2 ^ (d + 1) ≤ 1073741824) := ⟨hd, hc⟩
  have HND : Hid (n0 :: ns = nodes ∧ nodes.getD 0 0 = n0 ∧ n0 ≠ 0) := ⟨hnd, hn0, h0⟩
  have HLEN : Hid (nodes.length = ws.length + 1) := hlen
  clear h hn hcell hlt hAw hcw hw ih hd hc hnd hn0 h0 hA hlen hpp
  go_enter Tryz.func196, Tryz.ntmps196
  go_wp2_with fail
  go_loop [5, 6, 26] (fun t s i => ∃ k : Nat, k ≤ nodes.length ∧ i = .int .i64 k ∧ t = .int .i64 (tminK F.ks F.N (nodes.take k) : Nat) ∧ s = .int .i64 (sumP (nodes.take k) ws)) (fun _ _ i => nodes.length - (intOf i).toNat)
  case atStart => exact ⟨0, Nat.zero_le _, rfl, rfl, rfl⟩
  case round =>
    obtain ⟨k, hk, rfl, rfl, rfl⟩ := hrel
    by_cases hkl : k < nodes.length
    · obtain ⟨x, hx⟩ : ∃ x, nodes.getD k 0 = x := ⟨_, rfl⟩
      have hxl : x < F.ks.length := HLT.out x (by rw [← hx]; exact getD_mem hkl)
      have c1 : w.cell? ⟨b0, off + k, none⟩ = some (.int .i64 (x : Nat)) := by
        have h1 := HC.out k 0 hkl (by omega)
        rwa [Nat.mul_one, Nat.add_zero, hx] at h1
      obtain ⟨k0, _, _⟩ := H.out.fo.knot hxl
      have hx0 : (0 : Int) ≤ (x : Int) := by omega
      have hx1 : (x : Int) < (F.ks.length : Int) := by omega
      have hts := tminK_snoc F.ks F.N (nodes.take k) x
      have hss := sumP_snoc (l := nodes.take k) (n := x) (ws := ws) (by have := HLEN.out; simp; omega)
      rw [← hx, ← take_getD hkl, hx] at hts hss
      have hlk : (nodes.take k).length = k := by simp; omega
      rw [hlk] at hss
      obtain ⟨t, ht⟩ : ∃ t, tminK F.ks F.N (nodes.take k) = t := ⟨_, rfl⟩
      obtain ⟨s, hs⟩ : ∃ s, sumP (nodes.take k) ws = s := ⟨_, rfl⟩
      have hsb := wyes_bd ((nodes.take k).drop 1) ws HW.out
      have hsb2 : -1000000000 ≤ s ∧ s ≤ 1000000000 := by
        rw [← hs]
        unfold sumP
        have : ((nodes.take k).drop 1).length ≤ 1000 := by simp; omega
        omega
      obtain ⟨hs1, hs2⟩ := hsb2
      rw [ht] at hts ⊢
      rw [hs] at hss ⊢
      have HTS := hide hts
      have HSS := hide hss
      have HX0 := hide hx
      clear hts hss hlk ht hs hsb hx
      by_cases hk0 : k = 0
      · subst hk0
        obtain rfl : n0 = x := HND.out.2.1.symm.trans HX0.out
        have hf : ¬ (0 : Int) < ((0 : Nat) : Int) := by omega
        go_wp2_with fail
        go_round
        case rel => exact ⟨1, by omega, rfl, by rw [HTS.out]; exact min_val, by rw [HSS.out, if_neg (by omega)]; simp⟩
        case measure => simp [intOf]; omega
      · have hf : (0 : Int) < (k : Int) := by omega
        by_cases hx1' : x = 1
        · have hxe : ((x : Int) == 1) = true := by simp [hx1']
          have hkw : k - 1 < ws.length := by have := HLEN.out; omega
          obtain ⟨y, hy⟩ : ∃ y, ws.getD (k - 1) 0 = y := ⟨_, rfl⟩
          have hyb := HW.out y (by rw [← hy]; exact getD_mem hkw)
          obtain ⟨rfl, hbw⟩ : Aw = some ⟨bw, offw, none⟩ ∧ bw < w.heap.size := by
            rcases HAW.out with h | h
            · exact h
            · omega
          have g0 : w.cell? ⟨bw, offw + (k - 1), none⟩ = some (.int .i64 y) := by
            have h1 := HCW.out (k - 1) 0 hkw (by omega)
            rwa [Nat.mul_one, Nat.add_zero, hy] at h1
          have j0 : (1 : Int) ≤ (k : Int) := by omega
          have j1 : ((k : Int) - 1).toNat = k - 1 := by omega
          have j2 : (k : Int) - 1 < (ws.length : Int) := by omega
          obtain ⟨hy1, hy2⟩ := hyb
          have HX := hide hx1'
          have HY := hide hy
          have HK := hide hk0
          clear hx1' hy hk0 hkw
          go_wp2_with fail
          go_round
          case rel => exact ⟨k + 1, by omega, by go_num, by rw [HTS.out]; exact min_val, by rw [HSS.out, if_pos ⟨by have := HK.out; omega, HX.out⟩, HY.out]⟩
          case measure => simp [intOf]; omega
        · have hxe : ((x : Int) == 1) = false := by simp; omega
          have HX := hide hx1'
          clear hx1' hk0
          go_wp2_with fail
          go_round
          case rel => exact ⟨k + 1, by omega, by go_num, by rw [HTS.out]; exact min_val, by rw [HSS.out, if_neg (fun e => HX.out e.2)]; simp⟩
          case measure => simp [intOf]; omega
    · obtain rfl : k = nodes.length := by omega
      rw [List.take_length]
      obtain ⟨hml, hmle⟩ := tminK_le F.ks nodes F.N
      obtain ⟨t, ht⟩ : ∃ t, tminK F.ks F.N nodes = t := ⟨_, rfl⟩
      have hsb := wyes_bd (nodes.drop 1) ws HW.out
      have hsb2 : ((nodes.drop 1).length : Int) ≤ 1000 := by simp; omega
      rw [ht] at hml hmle ⊢
      by_cases htN : t = F.N
      · have hends : ∀ n ∈ nodes, n < 2 := fun n hn => by
          rcases Nat.lt_or_ge n 2 with h2 | h2
          · exact h2
          · have := H.out.fo.wf.opt n h2 (HLT.out n hn)
            have := hmle n hn
            omega
        have hb1 : bestK F.ks F.N nodes ws [] = sumP nodes ws := by
          obtain ⟨q1, q2, q3⟩ := HND.out
          have : n0 = 1 := by have := hends n0 (by rw [← q1]; simp); omega
          rw [← q1, this]
          have h5 : sumP (1 :: ns) ws = wyes ns ws := rfl
          rw [h5]
          refine bestK_ends [] (fun n hn => hends n (by rw [← q1]; simp [hn])) ?_
          have h6 : nodes.drop 1 = ns := by rw [← q1]; rfl
          rw [h6] at hsb hsb2
          unfold leastI
          omega
        have hte : ((t : Int) == (F.N : Int)) = true := by simp [htN]
        have HB1 := hide hb1
        have hpp := pow_pos2 (d + 1)
        have HPP := hide hpp
        clear htN hends hb1 hsb hsb2 ht hml hmle hpp
        go_wp2_with fail
        go_ret
        exact ⟨ret_int HB1.out.symm, m, cnt, ⟨Keeps.refl _ _, H.out, by have := HPP.out; omega⟩⟩
      · have htN2 : t < F.N := by omega
        have hte : ((t : Int) == (F.N : Int)) = false := by simp; omega
        have hsm30 : ∀ n ∈ nodes, n < 1073741824 := fun n hn => by have := HLT.out n hn; omega
        have hkey := key_any nodes (.slice (some ⟨b0, off, none⟩) nodes.length cap) w.heap.size w (by omega) hsm30 HN.out (Nat.le_refl _)
        have HKEY := hide hkey
        obtain ⟨s, hs⟩ : ∃ s, sumP nodes ws = s := ⟨_, rfl⟩
        rw [hs]
        have HS30 := hide hsm30
        have HT := hide ht
        have HMLE := hide hmle
        obtain ⟨kl, hkl⟩ := enSKey (a := ⟨nodes, HS30.out⟩) (by show nodes.length ≤ 1000; omega)
        have HKL := hide hkl
        clear htN hsb hsb2 ht hml hmle hkey hs hsm30 hkl
        cases hmx : m ⟨nodes, HS30.out⟩ with
        | some x =>
          have hxe : x = bestK F.ks F.N nodes ws [] := H.out.ok _ _ hmx
          have HXE := hide hxe
          have HMX := hide hmx
          have hpp := pow_pos2 (d + 1)
          have HPP := hide hpp
          clear hxe hmx hpp
          go_wp2_with (go_at_call 241; refine HKEY.out.mono ?_; rintro e w1 ⟨rfl, hB1⟩; have HB1 := hide hB1; have hwg := H.out.below hB1; have HWG := hide hwg; have f0 := cellOf hwg.box 0; have f1 := cellOf hwg.box 1; have f2 := cellOf hwg.box 2; have hlk : (Instr.lookup 236 (.map (some kb)) (.string (kyS nodes)) true).run Tryz.prog w1 = .ok (.tuple #[.int .i64 x, .bool true]) w1 := (by have h1 := hwg.map.look stLaw Tryz.underlying236 Tryz.underlying3 (zInt w1) HKL.out; rw [HMX.out] at h1; exact h1); clear hB1 hwg)
          go_ret
          first | exact ⟨ret_int HXE.out, m, cnt, ⟨Keeps.of_below HB1.out, HWG.out, by have := HPP.out; omega⟩⟩ | exact ⟨m, cnt, ret_int HXE.out, ⟨Keeps.of_below HB1.out, HWG.out, by have := HPP.out; omega⟩⟩
        | none =>
          have HMX := hide hmx
          clear hmx
          have hd1 : 1 ≤ d := by have := HD.out.1; have := HT.out; omega
          have hp2 : 2 ^ (d + 1) = 2 ^ (d - 1 + 1) + 2 ^ (d - 1 + 1) := by rw [show d - 1 + 1 = d by omega, Nat.pow_succ]; omega
          have HP2 := hide hp2
          have hsl : ∀ b, ∀ n ∈ nodes.map (fun n => brK F.ks n t b), n < F.ks.length := fun b n hn => by
            rw [List.mem_map] at hn
            obtain ⟨x, hx, rfl⟩ := hn
            exact brK_lt H.out.fo.wf (HLT.out x hx) htN2
          have hst : ∀ b, F.N - tminK F.ks F.N (nodes.map fun n => brK F.ks n t b) ≤ d - 1 := fun b => by
            have h1 : t + 1 ≤ tminK F.ks F.N (nodes.map fun n => brK F.ks n t b) := tminK_ge _ _ (by omega) fun n hn => by
              rw [List.mem_map] at hn
              obtain ⟨x, hx, rfl⟩ := hn
              exact brK_top H.out.fo.wf (HLT.out x hx) htN2 (HMLE.out x hx)
            have h2 := HD.out.1
            rw [HT.out] at h2
            omega
          have hbs := bestK_step H.out.fo.wf (ws := ws) HLT.out htN2 HMLE.out
          have hba := bestK_bd (ks := F.ks) (N := F.N) (nodes := nodes.map fun n => brK F.ks n t false) HW.out (by simp; omega) []
          have hbb2 := bestK_bd (ks := F.ks) (N := F.N) (nodes := nodes.map fun n => brK F.ks n t true) HW.out (by simp; omega) []
          obtain ⟨a, ha⟩ : ∃ a, bestK F.ks F.N (nodes.map fun n => brK F.ks n t false) ws [] = a := ⟨_, rfl⟩
          obtain ⟨b, hb⟩ : ∃ b, bestK F.ks F.N (nodes.map fun n => brK F.ks n t true) ws [] = b := ⟨_, rfl⟩
          rw [ha] at hbs hba
          rw [hb] at hbs hbb2
          unfold leastI at hba hbb2
          have hwf : (Lit.int .i64 a).wf = true ∧ (Lit.int .i64 b).wf = true := ⟨wf63 (by unfold I63; omega), wf63 (by unfold I63; omega)⟩
          have HSL := hide hsl
          have HST := hide hst
          have HBS := hide hbs
          have HAB := hide (And.intro ha hb)
          have HWF := hide hwf
          clear hp2 hsl hst hbs hba hbb2 ha hb hwf
          go_wp2_with (go_at_call 241; refine HKEY.out.mono ?_; rintro e w1 ⟨rfl, hB1⟩; have HB1 := hide hB1; have hwg := H.out.below hB1; have HWG := hide hwg; have f0 := cellOf hwg.box 0; have f1 := cellOf hwg.box 1; have f2 := cellOf hwg.box 2; have hlk : (Instr.lookup 236 (.map (some kb)) (.string (kyS nodes)) true).run Tryz.prog w1 = .ok (.tuple #[.int .i64 0, .bool false]) w1 := (by have h1 := hwg.map.look stLaw Tryz.underlying236 Tryz.underlying3 (zInt w1) HKL.out; rw [HMX.out] at h1; exact h1); clear hB1 hwg)
          have hN1 : Nods w1 w1.heap.size (.slice (some ⟨b0, off, none⟩) nodes.length cap) nodes := HN.out.up HB1.out
          have HN1 := hide hN1
          clear hN1 hlk f0 f1 f2
          refine (step_any F wp _ ws kb cnt m nodes t false _ w1 HWG.out (by omega) HLT.out HN1.out).mono ?_
          rintro e w2 ⟨v2, rfl, hn2, hB2⟩
          obtain ⟨A2, cap2, rfl⟩ := Sl.form hn2
          rw [List.length_map] at hn2 ⊢
          have hwg2 := HWG.out.below hB2
          have HB2 := hide hB2
          have HWG2 := hide hwg2
          have HN2 : Hid (Nods w2 w2.heap.size (.slice (some ⟨b0, off, none⟩) nodes.length cap) nodes) := HN1.out.up hB2
          have hbe := HIH.out (d - 1) (by omega) (nodes.map fun n => brK F.ks n t false) _ w2 m cnt hwg2 (by rw [List.length_map]; exact HLEN.out) (HSL.out false) (HST.out false) hn2 (by have := HD.out.2; have := HP2.out; have := pow_pos2 (d - 1 + 1); omega)
          rw [HAB.out.1] at hbe
          have HBE := hide hbe
          clear hn2 hB2 hwg2 hbe
          go_wp2_with fail
          refine HBE.out.mono ?_
          rintro e w3 ⟨m1, cnt1, rfl, r1⟩
          have R1 := hide r1
          have HN3 : Hid (Nods w3 w3.heap.size (.slice (some ⟨b0, off, none⟩) nodes.length cap) nodes) := Sl.more (Sl.keep HN2.out (r1.cells HWG2.out)) r1.keep.size
          clear r1
          go_wp2_with fail
          refine (step_any F wp _ ws kb cnt1 m1 nodes t true _ w3 R1.out.here (by omega) HLT.out HN3.out).mono ?_
          rintro e w4 ⟨v4, rfl, hn4, hB4⟩
          obtain ⟨A4, cap4, rfl⟩ := Sl.form hn4
          rw [List.length_map] at hn4 ⊢
          have hwg4 := R1.out.here.below hB4
          have HB4 := hide hB4
          have hbe := HIH.out (d - 1) (by omega) (nodes.map fun n => brK F.ks n t true) _ w4 m1 cnt1 hwg4 (by rw [List.length_map]; exact HLEN.out) (HSL.out true) (HST.out true) hn4 (by have := HD.out.2; have := HP2.out; have := R1.out.cnt; have := pow_pos2 (d - 1 + 1); omega)
          rw [HAB.out.2] at hbe
          have HBE4 := hide hbe
          clear hn4 hB4 hwg4 hbe
          go_wp2_with fail
          refine HBE4.out.mono ?_
          rintro e w5 ⟨m2, cnt2, rfl, r2⟩
          have R2 := hide r2
          have f0 := cellOf r2.here.box 0
          have f1 := cellOf r2.here.box 1
          have f2 := cellOf r2.here.box 2
          have hcn : cnt2 < maxLen := by
            have h1 := R1.out.cnt
            have h2 := r2.cnt
            have h3 := HD.out.2
            have h4 := HP2.out
            unfold maxLen; omega
          clear r2
          by_cases hab : a < b
          · have HAB2 : Hid (a < b) := hab
            go_wp2_with (at_mapUpdate; go_must (refine wpList_put _ rfl _ _ _ 236 rfl R2.out.here.map stLaw Tryz.underlying236 Tryz.underlying3 enS_inj hcn ⟨nodes, HS30.out⟩ ⟨_, HKL.out⟩ b HWF.out.2 rfl rfl rfl ?_); intro w9 hm9 hg9; have HM9 := hide hm9; have HG9 := hide hg9; clear hm9 hg9)
            go_ret
            have hk9 : Keeps (fun i => i = kb) w5 w9 := Keeps.of_grown HG9.out (fun k hk => by injection hk with hk; exact hk.symm)
            have hbest : bestK F.ks F.N nodes ws [] = b := by have := HAB2.out; rw [HBS.out]; omega
            first | refine ⟨ret_int hbest.symm, _, _, ⟨?_, R2.out.here.turn hk9 HM9.out (fun q x hq => ?_), ?_⟩⟩ | refine ⟨_, _, ret_int hbest.symm, ⟨?_, R2.out.here.turn hk9 HM9.out (fun q x hq => ?_), ?_⟩⟩
            · have k1 : Keeps (fun i => i = kb) w w3 := (Keeps.of_below (Below.to HB1.out HB2.out (Nat.le_refl _))).trans R1.out.keep (fun _ _ h => h)
              have k2 : Keeps (fun i => i = kb) w3 w5 := (Keeps.of_below HB4.out).trans R2.out.keep (fun _ _ h => h)
              exact (k1.trans k2 (fun _ _ h => h)).trans hk9 (fun _ _ h => h)
            · unfold putM at hq
              split at hq
              · rename_i e
                injection hq with hq
                rw [e, ← hq]
                exact hbest.symm
              · exact R2.out.here.ok q x hq
            · have h1 := R1.out.cnt
              have h2 := R2.out.cnt
              have h4 := HP2.out
              omega
          · have HAB2 : Hid (¬ a < b) := hab
            go_wp2_with (at_mapUpdate; go_must (refine wpList_put _ rfl _ _ _ 236 rfl R2.out.here.map stLaw Tryz.underlying236 Tryz.underlying3 enS_inj hcn ⟨nodes, HS30.out⟩ ⟨_, HKL.out⟩ a HWF.out.1 rfl rfl rfl ?_); intro w9 hm9 hg9; have HM9 := hide hm9; have HG9 := hide hg9; clear hm9 hg9)
            go_ret
            have hk9 : Keeps (fun i => i = kb) w5 w9 := Keeps.of_grown HG9.out (fun k hk => by injection hk with hk; exact hk.symm)
            have hbest : bestK F.ks F.N nodes ws [] = a := by have := HAB2.out; rw [HBS.out]; omega
            first | refine ⟨ret_int hbest.symm, _, _, ⟨?_, R2.out.here.turn hk9 HM9.out (fun q x hq => ?_), ?_⟩⟩ | refine ⟨_, _, ret_int hbest.symm, ⟨?_, R2.out.here.turn hk9 HM9.out (fun q x hq => ?_), ?_⟩⟩
            · have k1 : Keeps (fun i => i = kb) w w3 := (Keeps.of_below (Below.to HB1.out HB2.out (Nat.le_refl _))).trans R1.out.keep (fun _ _ h => h)
              have k2 : Keeps (fun i => i = kb) w3 w5 := (Keeps.of_below HB4.out).trans R2.out.keep (fun _ _ h => h)
              exact (k1.trans k2 (fun _ _ h => h)).trans hk9 (fun _ _ h => h)
            · unfold putM at hq
              split at hq
              · rename_i e
                injection hq with hq
                rw [e, ← hq]
                exact hbest.symm
              · exact R2.out.here.ok q x hq
            · have h1 := R1.out.cnt
              have h2 := R2.out.cnt
              have h4 := HP2.out
              omega
end Go.Proofs.YtehadoecnmfeoaaGreat

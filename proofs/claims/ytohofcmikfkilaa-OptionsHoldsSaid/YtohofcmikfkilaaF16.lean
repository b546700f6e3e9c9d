/- The weigher in memory; a step of it: walk. -/
import Derived.Test.YtohofcmikfkilaaRows
import Derived.Test.YtohofcmikfkilaaP5
import Derived.Test.YtohofcmikfkilaaF15
import Derived.StringKeys
namespace Go.Proofs.Ytohofcmikfkilaa
open Go.RowKit
open Go.Maps (Keyed)
set_option linter.unusedVariables false
set_option linter.unusedSimpArgs false
/-- The slice v holds the nodes l, below block B. -/
def Nods (w : World) (B : Nat) (v : Value) (l : List Nat) : Prop := Sl w B 1 v l.length (fun i _ => .int .i64 (l.getD i 0 : Nat))
theorem Nods.below {w w' : World} {B : Nat} {v : Value} {l : List Nat} (h : Nods w B v l) (hb : Below B w w') : Nods w' B v l := Sl.below h hb
theorem Nods.up {w w' : World} {v : Value} {l : List Nat} (h : Nods w w.heap.size v l) (hb : Below w.heap.size w w') : Nods w' w'.heap.size v l := Sl.up h hb
theorem Nods.of_own {w : World} {base : Nat} {v : Value} {l : List Nat} (h : w.ownsRow base 3 1 v l.length (l.map fun (n : Nat) => Value.int .i64 n)) : Nods w w.heap.size v l := by
  rcases h.2 with ⟨h1, h2⟩ | ⟨g, cap, cur, h1, h2, h3, h4, h5⟩
  · rw [h1]
    have : l = [] := List.length_eq_zero_iff.1 h2
    subst this
    exact Sl.nil _ _ _ _
  · refine ⟨some ⟨g, 0, none⟩, g, 0, cap, h1, h4, .inl ⟨rfl, box_lt h3⟩, fun i j hi hj => ?_⟩
    have hg : v.ownBlock = some g := by rw [h1]; rfl
    have := h.cells hg i (.int .i64 (l.getD i 0 : Nat)) (by simp [hi])
    have he : (⟨g, 0, none⟩ : Addr).add i = ⟨g, i, none⟩ := by
      unfold Addr.add
      split
      · rename_i h0; rw [h0]
      · rw [Nat.zero_add]
    rw [he] at this
    rw [show 0 + (i * 1 + j) = i by omega]
    exact this
theorem owns_form {w : World} {base e size n : Nat} {v : Value} {xs : List Value} (h : w.ownsRow base e size v n xs) : ∃ A cap, v = .slice A n cap := by
  rcases h.2 with ⟨h1, h2⟩ | ⟨g, cap, cur, h1, _⟩
  · exact ⟨none, 0, by rw [h1, h2]⟩
  · exact ⟨_, _, h1⟩
/-- Lists of small numbers. -/
abbrev SmL := { l : List Nat // ∀ n ∈ l, n < 1073741824 }
def enS (a : SmL) : Value := .string (kyS a.1)
theorem enS_inj (a b : SmL) (h : enS a = enS b) : a = b := by
  unfold enS at h
  injection h with h
  exact Subtype.ext (kyS_inj a.2 b.2 h)
theorem enSKey {a : SmL} (h : a.1.length ≤ 1000) : ∃ l, keyOf Try.prog 9 (enS a) = some l :=
  ⟨_, Go.WideMaps.keyOf_string_mk Try.underlying9 (by have := kyS_size a.1; unfold maxLen; omega)⟩
theorem stLaw : Keyed Try.prog 9 := Maps.string_keyed Try.underlying9
/-- The weigher in memory. -/
structure WgAt (w : World) (F : Fo) (wp : Nat) (wsv : Value) (ws : List Int) (kb cnt : Nat) (m : SmL → Option Int) : Prop where
  box : w.heap[wp]? = some (.cells #[.pointer (some ⟨F.p, 0, none⟩), wsv, .map (some kb)] 93 (0, 0))
  fo : FoAt w F
  wts : Ints w w.heap.size wsv ws
  map : MapIs Try.prog w 9 3 kb cnt enS m
  ok : ∀ a x, m a = some x → x = bestK F.ks F.N a.1 ws []
  nS : ¬ SF F kb
theorem WgAt.ne {w : World} {F : Fo} {wp : Nat} {wsv : Value} {ws : List Int} {kb cnt : Nat} {m : SmL → Option Int} (h : WgAt w F wp wsv ws kb cnt m) : wp ≠ kb := by
  obtain ⟨es, c, h1⟩ := h.map.obj
  intro e
  have h2 := h.box
  rw [e, h1] at h2
  cases h2
theorem WgAt.below {w w' : World} {F : Fo} {wp : Nat} {wsv : Value} {ws : List Int} {kb cnt : Nat} {m : SmL → Option Int} (h : WgAt w F wp wsv ws kb cnt m) (hb : Below w.heap.size w w') : WgAt w' F wp wsv ws kb cnt m :=
  ⟨box_to h.box hb, h.fo.below hb, Ints.up h.wts hb, h.map.same (hb.block _ h.map.lt), h.ok, h.nS⟩
/-- A map that has changed changes no cell. -/
theorem keepsMap {α : Type} {kb cnt cnt' k e : Nat} {enc : α → Value} {m m' : α → Option Int} {w w' : World} (h : Keeps (fun i => i = kb) w w') (h1 : MapIs Try.prog w k e kb cnt enc m) (h2 : MapIs Try.prog w' k e kb cnt' enc m') : ∀ b o, b < w.heap.size → w'.cell? ⟨b, o, none⟩ = w.cell? ⟨b, o, none⟩ := by
  intro b o hb
  by_cases he : b = kb
  · obtain ⟨es, c, q1⟩ := h1.obj
    obtain ⟨es', c', q2⟩ := h2.obj
    subst he
    simp [World.cell?, q1, q2]
  · exact kcell h b o hb he
theorem WgAt.turn {w w' : World} {F : Fo} {wp : Nat} {wsv : Value} {ws : List Int} {kb cnt cnt' : Nat} {m m' : SmL → Option Int} (h : WgAt w F wp wsv ws kb cnt m) (hk : Keeps (fun i => i = kb) w w') (hm : MapIs Try.prog w' 9 3 kb cnt' enS m') (hok : ∀ a x, m' a = some x → x = bestK F.ks F.N a.1 ws []) : WgAt w' F wp wsv ws kb cnt' m' :=
  ⟨(hk.block _ (box_lt h.box) h.ne).trans h.box, h.fo.keeps hk (fun k hs e => h.nS (e ▸ hs)), Sl.more (Sl.keep h.wts (keepsMap hk h.map hm)) hk.size, hm, hok, h.nS⟩
set_option maxRecDepth 100000 in
set_option maxHeartbeats 2000000 in
theorem step_any (F : Fo) (wp : Nat) (wsv : Value) (ws : List Int) (kb cnt : Nat) (m : SmL → Option Int) (l : List Nat) (o : Nat) (b : Bool) (v : Value) (w : World) (h : WgAt w F wp wsv ws kb cnt m) (hl : l.length ≤ 1000) (hs : ∀ n ∈ l, n < F.ks.length) (hn : Nods w w.heap.size v l) :
    Calls Try.prog 63 #[.pointer (some ⟨wp, 0, none⟩), v, .int .i64 o, .bool b] w
      fun e w' => ∃ v', e = .returned v' ∧ Nods w' w'.heap.size v' (l.map fun n => brK F.ks n o b) ∧ Below w.heap.size w w' := by
  obtain ⟨i0, hi0, iz0, iz1, iz2⟩ := info_parts infoInt
  obtain ⟨A, b0, off, cap, rfl, hnc, hA, hc⟩ := hn
  have HC := hide hc
  have HA := hide hA
  have HS := hide hs
  have H := hide h
  clear hc hA hs h
  go_enter Try.func63, Try.ntmps63
  go_wp2
  go_loopw [9, 14] (fun x i wr => ∃ k : Nat, k ≤ l.length ∧ i = .int .i64 k ∧ Hid (wr.ownsRow w.heap.size 3 1 x k (((l.take k).map fun n => brK F.ks n o b).map fun (n : Nat) => Value.int .i64 n)) ∧ Hid (Below w.heap.size w wr)) (fun _ i _ => l.length - (intOf i).toNat)
  case atStart => exact ⟨0, Nat.zero_le _, rfl, World.ownsRow_nil w w.heap.size 3 1, Below.refl _ _⟩
  case round =>
    obtain ⟨k, hk, rfl, ho, hB⟩ := hrel
    by_cases hlt : k < l.length
    · obtain ⟨rfl, hbb⟩ : A = some ⟨b0, off, none⟩ ∧ b0 < w.heap.size := by
        rcases HA.out with h | h
        · exact h
        · omega
      obtain ⟨x, hx⟩ : ∃ x, l.getD k 0 = x := ⟨_, rfl⟩
      have hxl : x < F.ks.length := HS.out x (by rw [← hx]; exact getD_mem hlt)
      have c0 : wr.cell? ⟨b0, off + k, none⟩ = some (.int .i64 (x : Nat)) := by
        have h1 := HC.out k 0 hlt (by omega)
        rw [Nat.mul_one, Nat.add_zero, hx] at h1
        exact (hB.out.cell (p := ⟨b0, off + k, none⟩) hbb).trans h1
      have hwg := H.out.below hB.out
      have d0 := cellOf hwg.box 0
      have hbr := branch_any F x o b wr hwg.fo hxl
      have HBR := hide hbr
      have HX := hide hx
      have hsz := hB.out.size
      clear hx hwg hbr
      go_wp2_with (first | (go_at_call 97; refine HBR.out.mono ?_; rintro e w1 ⟨rfl, hB1⟩; have HB1 := hide hB1; have hsz1 := hB1.size; have ho1 := owns_below ho.out hB1; have HO1 := hide ho1; clear hB1 ho1) | (at_builtin; go_must (refine wpList_append_own_at _ rfl (.tmp 18) (.tmp 27) _ rfl w.heap.size 3 i0 _ 1 8 Try.underlying26 hi0 iz0 iz1 iz2 rfl (by omega) _ _ _ rfl (HO1.out.alloc _) ⟨w1.heap.size, 0, none⟩ 1 1 [.int .i64 (brK F.ks x o b : Nat)] rfl rfl (World.news_of_block (heap_alloc_new w1 _)) (by simp [Value.oneCell']) (by unfold maxLen; omega) (by omega) (by simp; omega) ?_); intro v1 w2 hown1 hg1 _ hat1; have HOWN := hide hown1; have HG1 := hide hg1; clear hown1 hg1 hat1))
      go_roundw
      case rel =>
        refine ⟨k + 1, by omega, by go_num, ?_, ?_⟩
        · have h1 := HOWN.out
          rw [take_getD (z := 0) hlt, HX.out, List.map_append, List.map_append]
          exact h1
        · exact Below.grown (Below.allocT (Below.to hB.out HB1.out (Nat.le_refl _)) (Nat.le_refl _) _) HG1.out (by simp; omega) (fun j hj => (HO1.out.lt j hj).1)
      case measure => simp [intOf]; omega
    · obtain rfl : k = l.length := by omega
      have ho2 := ho.out
      rw [List.take_length] at ho2
      have hf := owns_form ho2
      obtain ⟨A2, cap2, rfl⟩ := hf
      have HO2 := hide ho2
      clear ho2
      go_wp2
      go_ret
      refine ⟨_, rfl, Nods.of_own (base := w.heap.size) ?_, hB.out⟩
      rw [List.length_map]
      exact HO2.out
end Go.Proofs.Ytohofcmikfkilaa

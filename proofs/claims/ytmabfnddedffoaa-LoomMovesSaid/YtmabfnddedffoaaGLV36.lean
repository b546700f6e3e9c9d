/- Part 36 of this claim's texts: walks and plain laws. -/
import Derived.Test.YtmabfnddedffoaaRows
import Derived.Test.YtmabfnddedffoaaGLV33
import Derived.WalkSpells
import Derived.Lib.SliceRun
import Derived.Deep.RegionHeld3
import Derived.Deep.DrawnRows
import Derived.Test.YtmabfnddedffoaaGLV20
/- Slices cloned: walks. -/
namespace Go.Proofs.Ytmabfnddedffoaa
open Go.RowKit
set_option linter.unusedVariables false
set_option linter.unusedSimpArgs false
theorem Reads.none6 {w : World} {B sz n : Nat} {xs : List Value} (h : Reads w B sz none n xs) : n = 0 ∧ xs = [] := by
  rcases Nat.eq_zero_or_pos n with h0 | h0
  · subst h0
    have := h.1
    rw [Nat.zero_mul] at this
    exact ⟨rfl, List.eq_nil_of_length_eq_zero this⟩
  · obtain ⟨ad, h1, _⟩ := h.2 h0
    cases h1
set_option maxRecDepth 100000 in
set_option maxHeartbeats 2000000 in
theorem cloneSp_any (A : Option Addr) (n q : Nat) (xs : List Value) (w : World) (h : Reads w w.heap.size 3 A n xs) (h1 : ∀ u ∈ xs, u.oneCell' = true) (hl : n ≤ 1000) :
    Calls Try.prog 117 #[.slice A n q] w fun e w' => ∃ v, e = .returned v ∧ w'.ownsRow w.heap.size 97 3 v n xs ∧ Below w.heap.size w w' := by
  obtain ⟨i1, hi1, jz0, jz1, jz2⟩ := info_parts infoSpot
  have q22 : ∀ (w : World) (a : Option Addr) (n c n' c' : Nat), (binOp .eql 26 (.slice a n c) (.slice none n' c')).run Try.prog w = .ok (.bool a.isNone) w := fun w a n c n' c' => Lib.run_eql_slice_nil w _ _ a n c n' c' Try.underlying26
  cases A with
  | none =>
    obtain ⟨hn, hx⟩ := Reads.none6 h
    subst hn hx
    clear h h1
    go_enter Try.func117, Try.ntmps117
    go_wp2_with fail
    go_ret
    exact ⟨_, rfl, World.ownsRow_nil _ _ _ _, Below.refl _ _⟩
  | some ad =>
    have HR := hide h
    have H1 := hide h1
    clear h h1
    go_enter Try.func117, Try.ntmps117
    go_wp2_with (at_builtin; refine wpList_append_any _ rfl (.tmp 5) (.tmp 6) _ rfl w.heap.size 97 i1 _ 3 24 Try.underlying26 hi1 jz0 jz1 jz2 rfl (by decide) _ 0 [] rfl (World.ownsRow_made w #[] 0 (Nat.le_refl _) (by unfold maxLen; omega) rfl) w.heap.size (some ad) n q xs rfl (HR.out.alloc (Nat.le_refl _) _) H1.out (by unfold maxLen; omega) (by omega) (by simp) ?_; intro v1 w1 hown1 hg1 _; rw [Nat.zero_add, List.nil_append] at hown1; have HO := hide hown1; have HG := hide hg1; clear hown1 hg1)
    go_ret
    exact ⟨v1, rfl, HO.out, Below.grown (Below.allocT (Below.refl _ _) (Nat.le_refl _) _) HG.out (by simp) (fun j hj => by injection hj with hj; exact Nat.le_of_eq hj)⟩

set_option maxRecDepth 100000 in
set_option maxHeartbeats 2000000 in
theorem cloneRu_any (A : Option Addr) (n q : Nat) (xs : List Value) (w : World) (h : Reads w w.heap.size 4 A n xs) (h1 : ∀ u ∈ xs, u.oneCell' = true) (hl : n ≤ 1000) :
    Calls Try.prog 118 #[.slice A n q] w fun e w' => ∃ v, e = .returned v ∧ w'.ownsRow w.heap.size 85 4 v n xs ∧ Below w.heap.size w w' := by
  obtain ⟨i1, hi1, jz0, jz1, jz2⟩ := info_parts infoRun
  have q22 : ∀ (w : World) (a : Option Addr) (n c n' c' : Nat), (binOp .eql 27 (.slice a n c) (.slice none n' c')).run Try.prog w = .ok (.bool a.isNone) w := fun w a n c n' c' => Lib.run_eql_slice_nil w _ _ a n c n' c' Try.underlying27
  cases A with
  | none =>
    obtain ⟨hn, hx⟩ := Reads.none6 h
    subst hn hx
    clear h h1
    go_enter Try.func118, Try.ntmps118
    go_wp2_with fail
    go_ret
    exact ⟨_, rfl, World.ownsRow_nil _ _ _ _, Below.refl _ _⟩
  | some ad =>
    have HR := hide h
    have H1 := hide h1
    clear h h1
    go_enter Try.func118, Try.ntmps118
    go_wp2_with (at_builtin; refine wpList_append_any _ rfl (.tmp 5) (.tmp 6) _ rfl w.heap.size 85 i1 _ 4 32 Try.underlying27 hi1 jz0 jz1 jz2 rfl (by decide) _ 0 [] rfl (World.ownsRow_made w #[] 0 (Nat.le_refl _) (by unfold maxLen; omega) rfl) w.heap.size (some ad) n q xs rfl (HR.out.alloc (Nat.le_refl _) _) H1.out (by unfold maxLen; omega) (by omega) (by simp) ?_; intro v1 w1 hown1 hg1 _; rw [Nat.zero_add, List.nil_append] at hown1; have HO := hide hown1; have HG := hide hg1; clear hown1 hg1)
    go_ret
    exact ⟨v1, rfl, HO.out, Below.grown (Below.allocT (Below.refl _ _) (Nat.le_refl _) _) HG.out (by simp) (fun j hj => by injection hj with hj; exact Nat.le_of_eq hj)⟩

set_option maxRecDepth 100000 in
set_option maxHeartbeats 2000000 in
theorem clonePl_any (A : Option Addr) (n q : Nat) (xs : List Value) (w : World) (h : Reads w w.heap.size 3 A n xs) (h1 : ∀ u ∈ xs, u.oneCell' = true) (hl : n ≤ 1000) :
    Calls Try.prog 119 #[.slice A n q] w fun e w' => ∃ v, e = .returned v ∧ w'.ownsRow w.heap.size 63 3 v n xs ∧ Below w.heap.size w w' := by
  obtain ⟨i1, hi1, jz0, jz1, jz2⟩ := info_parts infoPlug
  have q22 : ∀ (w : World) (a : Option Addr) (n c n' c' : Nat), (binOp .eql 28 (.slice a n c) (.slice none n' c')).run Try.prog w = .ok (.bool a.isNone) w := fun w a n c n' c' => Lib.run_eql_slice_nil w _ _ a n c n' c' Try.underlying28
  cases A with
  | none =>
    obtain ⟨hn, hx⟩ := Reads.none6 h
    subst hn hx
    clear h h1
    go_enter Try.func119, Try.ntmps119
    go_wp2_with fail
    go_ret
    exact ⟨_, rfl, World.ownsRow_nil _ _ _ _, Below.refl _ _⟩
  | some ad =>
    have HR := hide h
    have H1 := hide h1
    clear h h1
    go_enter Try.func119, Try.ntmps119
    go_wp2_with (at_builtin; refine wpList_append_any _ rfl (.tmp 5) (.tmp 6) _ rfl w.heap.size 63 i1 _ 3 32 Try.underlying28 hi1 jz0 jz1 jz2 rfl (by decide) _ 0 [] rfl (World.ownsRow_made w #[] 0 (Nat.le_refl _) (by unfold maxLen; omega) rfl) w.heap.size (some ad) n q xs rfl (HR.out.alloc (Nat.le_refl _) _) H1.out (by unfold maxLen; omega) (by omega) (by simp) ?_; intro v1 w1 hown1 hg1 _; rw [Nat.zero_add, List.nil_append] at hown1; have HO := hide hown1; have HG := hide hg1; clear hown1 hg1)
    go_ret
    exact ⟨v1, rfl, HO.out, Below.grown (Below.allocT (Below.refl _ _) (Nat.le_refl _) _) HG.out (by simp) (fun j hj => by injection hj with hj; exact Nat.le_of_eq hj)⟩

set_option maxRecDepth 100000 in
set_option maxHeartbeats 2000000 in
theorem cloneWi_any (A : Option Addr) (n q : Nat) (xs : List Value) (w : World) (h : Reads w w.heap.size 7 A n xs) (h1 : ∀ u ∈ xs, u.oneCell' = true) (hl : n ≤ 1000) :
    Calls Try.prog 120 #[.slice A n q] w fun e w' => ∃ v, e = .returned v ∧ w'.ownsRow w.heap.size 68 7 v n xs ∧ Below w.heap.size w w' := by
  obtain ⟨i1, hi1, jz0, jz1, jz2⟩ := info_parts infoWire
  have q22 : ∀ (w : World) (a : Option Addr) (n c n' c' : Nat), (binOp .eql 29 (.slice a n c) (.slice none n' c')).run Try.prog w = .ok (.bool a.isNone) w := fun w a n c n' c' => Lib.run_eql_slice_nil w _ _ a n c n' c' Try.underlying29
  cases A with
  | none =>
    obtain ⟨hn, hx⟩ := Reads.none6 h
    subst hn hx
    clear h h1
    go_enter Try.func120, Try.ntmps120
    go_wp2_with fail
    go_ret
    exact ⟨_, rfl, World.ownsRow_nil _ _ _ _, Below.refl _ _⟩
  | some ad =>
    have HR := hide h
    have H1 := hide h1
    clear h h1
    go_enter Try.func120, Try.ntmps120
    go_wp2_with (at_builtin; refine wpList_append_any _ rfl (.tmp 5) (.tmp 6) _ rfl w.heap.size 68 i1 _ 7 80 Try.underlying29 hi1 jz0 jz1 jz2 rfl (by decide) _ 0 [] rfl (World.ownsRow_made w #[] 0 (Nat.le_refl _) (by unfold maxLen; omega) rfl) w.heap.size (some ad) n q xs rfl (HR.out.alloc (Nat.le_refl _) _) H1.out (by unfold maxLen; omega) (by omega) (by simp) ?_; intro v1 w1 hown1 hg1 _; rw [Nat.zero_add, List.nil_append] at hown1; have HO := hide hown1; have HG := hide hg1; clear hown1 hg1)
    go_ret
    exact ⟨v1, rfl, HO.out, Below.grown (Below.allocT (Below.refl _ _) (Nat.le_refl _) _) HG.out (by simp) (fun j hj => by injection hj with hj; exact Nat.le_of_eq hj)⟩

set_option maxRecDepth 100000 in
set_option maxHeartbeats 2000000 in
theorem cloneNm_any (A : Option Addr) (n q : Nat) (xs : List Value) (w : World) (h : Reads w w.heap.size 1 A n xs) (h1 : ∀ u ∈ xs, u.oneCell' = true) (hl : n ≤ 1000) :
    Calls Try.prog 121 #[.slice A n q] w fun e w' => ∃ v, e = .returned v ∧ w'.ownsRow w.heap.size 9 1 v n xs ∧ Below w.heap.size w w' := by
  obtain ⟨i1, hi1, jz0, jz1, jz2⟩ := info_parts infoStr
  have q22 : ∀ (w : World) (a : Option Addr) (n c n' c' : Nat), (binOp .eql 22 (.slice a n c) (.slice none n' c')).run Try.prog w = .ok (.bool a.isNone) w := fun w a n c n' c' => Lib.run_eql_slice_nil w _ _ a n c n' c' Try.underlying22
  cases A with
  | none =>
    obtain ⟨hn, hx⟩ := Reads.none6 h
    subst hn hx
    clear h h1
    go_enter Try.func121, Try.ntmps121
    go_wp2_with fail
    go_ret
    exact ⟨_, rfl, World.ownsRow_nil _ _ _ _, Below.refl _ _⟩
  | some ad =>
    have HR := hide h
    have H1 := hide h1
    clear h h1
    go_enter Try.func121, Try.ntmps121
    go_wp2_with (at_builtin; refine wpList_append_any _ rfl (.tmp 5) (.tmp 6) _ rfl w.heap.size 9 i1 _ 1 16 Try.underlying22 hi1 jz0 jz1 jz2 rfl (by decide) _ 0 [] rfl (World.ownsRow_made w #[] 0 (Nat.le_refl _) (by unfold maxLen; omega) rfl) w.heap.size (some ad) n q xs rfl (HR.out.alloc (Nat.le_refl _) _) H1.out (by unfold maxLen; omega) (by omega) (by simp) ?_; intro v1 w1 hown1 hg1 _; rw [Nat.zero_add, List.nil_append] at hown1; have HO := hide hown1; have HG := hide hg1; clear hown1 hg1)
    go_ret
    exact ⟨v1, rfl, HO.out, Below.grown (Below.allocT (Below.refl _ _) (Nat.le_refl _) _) HG.out (by simp) (fun j hj => by injection hj with hj; exact Nat.le_of_eq hj)⟩

set_option maxRecDepth 100000 in
set_option maxHeartbeats 2000000 in
theorem cloneFm_any (A : Option Addr) (n q : Nat) (xs : List Value) (w : World) (h : Reads w w.heap.size 1 A n xs) (h1 : ∀ u ∈ xs, u.oneCell' = true) (hl : n ≤ 1000) :
    Calls Try.prog 116 #[.slice A n q] w fun e w' => ∃ v, e = .returned v ∧ w'.ownsRow w.heap.size 3 1 v n xs ∧ Below w.heap.size w w' := by
  obtain ⟨i1, hi1, jz0, jz1, jz2⟩ := info_parts infoInt
  have q22 : ∀ (w : World) (a : Option Addr) (n c n' c' : Nat), (binOp .eql 66 (.slice a n c) (.slice none n' c')).run Try.prog w = .ok (.bool a.isNone) w := fun w a n c n' c' => Lib.run_eql_slice_nil w _ _ a n c n' c' Try.underlying66
  cases A with
  | none =>
    obtain ⟨hn, hx⟩ := Reads.none6 h
    subst hn hx
    clear h h1
    go_enter Try.func116, Try.ntmps116
    go_wp2_with fail
    go_ret
    exact ⟨_, rfl, World.ownsRow_nil _ _ _ _, Below.refl _ _⟩
  | some ad =>
    have HR := hide h
    have H1 := hide h1
    clear h h1
    go_enter Try.func116, Try.ntmps116
    go_wp2_with (at_builtin; refine wpList_append_any _ rfl (.tmp 5) (.tmp 6) _ rfl w.heap.size 3 i1 _ 1 8 Try.underlying66 hi1 jz0 jz1 jz2 rfl (by decide) _ 0 [] rfl (World.ownsRow_made w #[] 0 (Nat.le_refl _) (by unfold maxLen; omega) rfl) w.heap.size (some ad) n q xs rfl (HR.out.alloc (Nat.le_refl _) _) H1.out (by unfold maxLen; omega) (by omega) (by simp) ?_; intro v1 w1 hown1 hg1 _; rw [Nat.zero_add, List.nil_append] at hown1; have HO := hide hown1; have HG := hide hg1; clear hown1 hg1)
    go_ret
    exact ⟨v1, rfl, HO.out, Below.grown (Below.allocT (Below.refl _ _) (Nat.le_refl _) _) HG.out (by simp) (fun j hj => by injection hj with hj; exact Nat.le_of_eq hj)⟩

end Go.Proofs.Ytmabfnddedffoaa
/- A plug moved: plain laws. -/
namespace Go.Proofs.Ytmabfnddedffoaa
set_option linter.unusedVariables false
/-- The loom with a plug at another spot. -/
def movL (l : Lo) (k : Nat) (s : Int) : Lo := { l with ps := l.ps.set k { l.ps.getD k Pl.o with spot := s } }
theorem movL_len (l : Lo) (k : Nat) (s : Int) : (movL l k s).ps.length = l.ps.length := by simp [movL]
theorem movL_at (l : Lo) (k : Nat) (s : Int) {i : Nat} (hi : i < l.ps.length) : (movL l k s).ps.getD i Pl.o = if i = k then { l.ps.getD k Pl.o with spot := s } else l.ps.getD i Pl.o := by
  unfold movL
  simp only [List.getD_eq_getElem?_getD, List.getElem?_set]
  by_cases h : i = k
  · subst h
    simp [hi]
  · rw [if_neg (fun e => h e.symm), if_neg h]
end Go.Proofs.Ytmabfnddedffoaa
/- A loom in rows of its own: what may be written to it. -/
namespace Go.Proofs.Ytmabfnddedffoaa
open Go.RowKit
set_option linter.unusedVariables false
set_option linter.unusedSimpArgs false
/-- The six rows of a loom, all of the call's own; rules R. -/
structure Row6 (wr : World) (B : Nat) (C0 C1 C2 C3 C4 C5 : Option Addr) (r0 r1 r2 r3 r4 r5 : Nat) (l : Lo) (R : List (List Int)) (cv : Nat → Value) (vs : List Value) : Prop where
  n : wr.ownsRow B 9 1 (.slice C0 l.m.opts.length r0) l.m.opts.length (flat l.m.opts.length 1 (nmF l.m.opts))
  f : FoO wr B (.slice C1 R.length r1) R vs
  s : wr.ownsRow B 97 3 (.slice C2 l.ss.length r2) l.ss.length (flat l.ss.length 3 (spF l.ss))
  u : wr.ownsRow B 85 4 (.slice C3 l.us.length r3) l.us.length (flat l.us.length 4 (ruF l.us))
  p : wr.ownsRow B 63 3 (.slice C4 l.ps.length r4) l.ps.length (flat l.ps.length 3 (plF l.ps))
  w : wr.ownsRow B 68 7 (.slice C5 l.ws.length r5) l.ws.length (flat l.ws.length 7 (wiF l.ws cv))
section
variable {wr w' : World} {B g t : Nat} {C0 C1 C2 C3 C4 C5 : Option Addr} {r0 r1 r2 r3 r4 r5 : Nat} {l : Lo} {R : List (List Int)} {cv : Nat → Value} {vs : List Value} {C : Array Value}
theorem Row6.to (h : Row6 wr B C0 C1 C2 C3 C4 C5 r0 r1 r2 r3 r4 r5 l R cv vs) (hb : Below wr.heap.size wr w') : Row6 w' B C0 C1 C2 C3 C4 C5 r0 r1 r2 r3 r4 r5 l R cv vs := ⟨owns_below h.n hb, h.f.below hb, owns_below h.s hb, owns_below h.u hb, owns_below h.p hb, owns_below h.w hb⟩
theorem Row6.kept (h : Row6 wr B C0 C1 C2 C3 C4 C5 r0 r1 r2 r3 r4 r5 l R cv vs) (hg : wr.grownBy w' (some g)) (hB : g < B) : Row6 w' B C0 C1 C2 C3 C4 C5 r0 r1 r2 r3 r4 r5 l R cv vs := by
  have hk : ∀ {e sz n : Nat} {v : Value} {xs : List Value}, wr.ownsRow B e sz v n xs → w'.ownsRow B e sz v n xs := fun q => q.kept hg (.inr fun e => by have := (q.lt g e).1; omega)
  exact ⟨hk h.n, ⟨h.f.len, hk h.f.own, fun i hi => hk (h.f.row i hi)⟩, hk h.s, hk h.u, hk h.p, hk h.w⟩
theorem Row6.grown (h : Row6 wr B C0 C1 C2 C3 C4 C5 r0 r1 r2 r3 r4 r5 l R cv vs) (hg : wr.grownBy w' (some g)) (ht : wr.heap[g]? = some (.cells C 31 (0, 0))) : Row6 w' B C0 C1 C2 C3 C4 C5 r0 r1 r2 r3 r4 r5 l R cv vs :=
  ⟨owns_grown h.n hg ht (by decide), h.f.grown hg ht (by decide) (by decide), owns_grown h.s hg ht (by decide), owns_grown h.u hg ht (by decide), owns_grown h.p hg ht (by decide), owns_grown h.w hg ht (by decide)⟩
theorem own_cells {e sz n g : Nat} {xs : List Value} {cap : Nat} (h : wr.ownsRow B e sz (.slice (some ⟨g, 0, none⟩) n cap) n xs) : ∃ cur, B ≤ g ∧ wr.heap[g]? = some (.cells cur e (0, 0)) := by
  rcases h.2 with ⟨h1, _⟩ | ⟨g', cap, cur, h1, h2, h3, _⟩
  · cases h1
  · injection h1 with e1
    injection e1 with e1
    injection e1 with e1
    subst e1
    exact ⟨cur, h2, h3⟩
theorem Row6.wire {k : Nat} {v : Value} (h : Row6 wr B C0 C1 C2 C3 C4 (some ⟨g, 0, none⟩) r0 r1 r2 r3 r4 r5 l R cv vs) (hk : k < l.ws.length) : Row6 (wr.setCell ⟨g, k * 7 + 6, none⟩ v) B C0 C1 C2 C3 C4 (some ⟨g, 0, none⟩) r0 r1 r2 r3 r4 r5 l R (fun i => if i = k then v else cv i) vs := by
  obtain ⟨cur, hgb, hgh⟩ := own_cells h.w
  obtain ⟨h1, hg⟩ := h.w.stored (k * 7 + 6) v
  refine ⟨owns_grown h.n hg hgh (by decide), h.f.grown hg hgh (by decide) (by decide), owns_grown h.s hg hgh (by decide), owns_grown h.u hg hgh (by decide), owns_grown h.p hg hgh (by decide), ?_⟩
  rw [flat_set (g := wiF l.ws (fun i => if i = k then v else cv i)) (by omega) hk (by omega) (by unfold wiF wiC; simp) (fun i j hi hj hne => by
    unfold wiF wiC
    by_cases e : i = k
    · subst e
      have : j ≠ 6 := by omega
      match j, hj with
      | 0, _ => rfl
      | 1, _ => rfl
      | 2, _ => rfl
      | 3, _ => rfl
      | 4, _ => rfl
      | 5, _ => rfl
      | 6, _ => exact absurd rfl this
    · simp [e])] at h1
  exact h1
theorem Row6.plug {k : Nat} {s : Int} (h : Row6 wr B C0 C1 C2 C3 (some ⟨g, 0, none⟩) C5 r0 r1 r2 r3 r4 r5 l R cv vs) (hk : k < l.ps.length) : Row6 (wr.setCell ⟨g, k * 3 + 1, none⟩ (.int .i64 s)) B C0 C1 C2 C3 (some ⟨g, 0, none⟩) C5 r0 r1 r2 r3 r4 r5 (movL l k s) R cv vs := by
  obtain ⟨cur, hgb, hgh⟩ := own_cells h.p
  obtain ⟨h1, hg⟩ := h.p.stored (k * 3 + 1) (.int .i64 s)
  refine ⟨owns_grown h.n hg hgh (by decide), h.f.grown hg hgh (by decide) (by decide), owns_grown h.s hg hgh (by decide), owns_grown h.u hg hgh (by decide), ?_, owns_grown h.w hg hgh (by decide)⟩
  rw [flat_set (g := plF (movL l k s).ps) (by omega) hk (by omega) (by unfold plF plC; rw [movL_at l k s hk, if_pos rfl]; rfl) (fun i j hi hj hne => by
    unfold plF plC
    rw [movL_at l k s hi]
    by_cases e : i = k
    · subst e
      have : j ≠ 1 := by omega
      rw [if_pos rfl]
      match j, hj with
      | 0, _ => rfl
      | 1, _ => exact absurd rfl this
      | 2, _ => rfl
    · rw [if_neg e])] at h1
  rw [movL_len]
  exact h1
theorem Row6.loom (h : Row6 wr B C0 C1 C2 C3 C4 C5 r0 r1 r2 r3 r4 r5 l l.m.rules cv vs) (hx : ∀ i, i < l.ws.length → Ints wr wr.heap.size (cv i) (l.ws.getD i Wi.o).form) : LoA wr wr.heap.size C0 C1 C2 C3 C4 C5 r0 r1 r2 r3 r4 r5 l :=
  ⟨⟨Sl.of_owns h.n fun i j hi hj => (flat_get hi hj).trans rfl, h.f.forms⟩, Sl.of_owns h.s fun i j hi hj => flat_get hi hj, Sl.of_owns h.u fun i j hi hj => flat_get hi hj, Sl.of_owns h.p fun i j hi hj => flat_get hi hj, cv, Sl.of_owns h.w fun i j hi hj => flat_get hi hj, hx⟩
end
/-- The formula of a wire in a row of its own. -/
def XOwn (wr : World) (B : Nat) (l : Lo) (cv : Nat → Value) (i : Nat) : Prop := wr.ownsRow B 3 1 (cv i) (l.ws.getD i Wi.o).form.length ((l.ws.getD i Wi.o).form.map (Value.int .i64))
/-- A loom of the call's own. -/
structure LoO (wr : World) (B : Nat) (C0 C1 C2 C3 C4 C5 : Option Addr) (r0 r1 r2 r3 r4 r5 : Nat) (l : Lo) (cv : Nat → Value) (vs : List Value) : Prop where
  r : Row6 wr B C0 C1 C2 C3 C4 C5 r0 r1 r2 r3 r4 r5 l l.m.rules cv vs
  x : ∀ i, i < l.ws.length → XOwn wr B l cv i
section
variable {wr w' : World} {B g : Nat} {C0 C1 C2 C3 C4 C5 : Option Addr} {r0 r1 r2 r3 r4 r5 : Nat} {l : Lo} {cv : Nat → Value} {vs : List Value}
theorem LoO.loom (h : LoO wr B C0 C1 C2 C3 C4 C5 r0 r1 r2 r3 r4 r5 l cv vs) : LoA wr wr.heap.size C0 C1 C2 C3 C4 C5 r0 r1 r2 r3 r4 r5 l := h.r.loom fun i hi => ints_own6 (h.x i hi)
theorem LoO.to (h : LoO wr B C0 C1 C2 C3 C4 C5 r0 r1 r2 r3 r4 r5 l cv vs) (hb : Below wr.heap.size wr w') : LoO w' B C0 C1 C2 C3 C4 C5 r0 r1 r2 r3 r4 r5 l cv vs := ⟨h.r.to hb, fun i hi => owns_below (h.x i hi) hb⟩
theorem LoO.kept (h : LoO wr B C0 C1 C2 C3 C4 C5 r0 r1 r2 r3 r4 r5 l cv vs) (hg : wr.grownBy w' (some g)) (hB : g < B) : LoO w' B C0 C1 C2 C3 C4 C5 r0 r1 r2 r3 r4 r5 l cv vs :=
  ⟨h.r.kept hg hB, fun i hi => (h.x i hi).kept hg (.inr fun e => by have := (World.ownsRow.lt (h.x i hi) g e).1; omega)⟩
theorem LoO.plug {k : Nat} {s : Int} (h : LoO wr B C0 C1 C2 C3 (some ⟨g, 0, none⟩) C5 r0 r1 r2 r3 r4 r5 l cv vs) (hk : k < l.ps.length) : LoO (wr.setCell ⟨g, k * 3 + 1, none⟩ (.int .i64 s)) B C0 C1 C2 C3 (some ⟨g, 0, none⟩) C5 r0 r1 r2 r3 r4 r5 (movL l k s) cv vs := by
  obtain ⟨cur, hgb, hgh⟩ := own_cells h.r.p
  obtain ⟨h1, hg⟩ := h.r.p.stored (k * 3 + 1) (.int .i64 s)
  exact ⟨h.r.plug hk, fun i hi => owns_grown (h.x i hi) hg hgh (by decide)⟩
end
/-- A copy in the making: rules R, the formulas of k wires; block p the loom itself, rb the result's. -/
structure CpN (w0 wr : World) (e rb p : Nat) (C0 C1 C2 C3 C4 C5 : Option Addr) (r0 r1 r2 r3 r4 r5 : Nat) (l : Lo) (R : List (List Int)) (cv : Nat → Value) (vs : List Value) (k : Nat) : Prop where
  below : Below w0.heap.size w0 wr
  pw : w0.heap.size ≤ p
  er : e ≤ w0.heap.size
  rb : rb < w0.heap.size
  box : wr.heap[p]? = some (.cells #[.slice C0 l.m.opts.length r0, .slice C1 R.length r1, .slice C2 l.ss.length r2, .slice C3 l.us.length r3, .slice C4 l.ps.length r4, .slice C5 l.ws.length r5] 31 (0, 0))
  r : Row6 wr w0.heap.size C0 C1 C2 C3 C4 C5 r0 r1 r2 r3 r4 r5 l R cv vs
  xo : ∀ i, i < l.ws.length → i < k → XOwn wr w0.heap.size l cv i
  xi : ∀ i, i < l.ws.length → k ≤ i → Ints wr e (cv i) (l.ws.getD i Wi.o).form
section
variable {w0 wr w' : World} {e rb p g : Nat} {C0 C1 C2 C3 C4 C5 : Option Addr} {r0 r1 r2 r3 r4 r5 : Nat} {l : Lo} {R : List (List Int)} {cv : Nat → Value} {vs : List Value} {k : Nat} {v : Value}
theorem CpN.le (h : CpN w0 wr e rb p C0 C1 C2 C3 C4 C5 r0 r1 r2 r3 r4 r5 l R cv vs k) : e ≤ wr.heap.size := Nat.le_trans h.er h.below.size
theorem CpN.ints (h : CpN w0 wr e rb p C0 C1 C2 C3 C4 C5 r0 r1 r2 r3 r4 r5 l R cv vs k) {i : Nat} (hi : i < l.ws.length) : Ints wr wr.heap.size (cv i) (l.ws.getD i Wi.o).form := by
  rcases Nat.lt_or_ge i k with h1 | h1
  · exact ints_own6 (h.xo i hi h1)
  · exact (h.xi i hi h1).more h.le
theorem CpN.to (h : CpN w0 wr e rb p C0 C1 C2 C3 C4 C5 r0 r1 r2 r3 r4 r5 l R cv vs k) (hb : Below wr.heap.size wr w') : CpN w0 w' e rb p C0 C1 C2 C3 C4 C5 r0 r1 r2 r3 r4 r5 l R cv vs k :=
  ⟨Below.to h.below hb (Nat.le_refl _), h.pw, h.er, h.rb, heap_below h.box hb, h.r.to hb, fun i hi hk => owns_below (h.xo i hi hk) hb, fun i hi hk => (h.xi i hi hk).below (hb.mono h.le)⟩
theorem CpN.ne (h : CpN w0 wr e rb p C0 C1 C2 C3 C4 C5 r0 r1 r2 r3 r4 r5 l R cv vs k) {cur : Array Value} {t : Nat} (hg : wr.heap[g]? = some (.cells cur t (0, 0))) (ht : t ≠ 31) : p ≠ g := fun e => by
  have := h.box
  rw [e, hg] at this
  injection this with this
  injection this with _ this
  exact ht this
theorem CpN.store (h : CpN w0 wr e rb p C0 C1 C2 C3 C4 (some ⟨g, 0, none⟩) r0 r1 r2 r3 r4 r5 l R cv vs k) (hk : k < l.ws.length)
    (hv : wr.ownsRow w0.heap.size 3 1 v (l.ws.getD k Wi.o).form.length ((l.ws.getD k Wi.o).form.map (Value.int .i64))) : CpN w0 (wr.setCell ⟨g, k * 7 + 6, none⟩ v) e rb p C0 C1 C2 C3 C4 (some ⟨g, 0, none⟩) r0 r1 r2 r3 r4 r5 l R (fun i => if i = k then v else cv i) vs (k + 1) := by
  obtain ⟨cur, hgb, hgh⟩ := own_cells h.r.w
  obtain ⟨h1, hg⟩ := h.r.w.stored (k * 7 + 6) v
  refine ⟨Below.setCell h.below hgb _, h.pw, h.er, h.rb, (Below.heap_setCell _ _ _ _ (h.ne hgh (by decide))).trans h.box, h.r.wire hk, fun i hi hik => ?_, fun i hi hik => ?_⟩
  · unfold XOwn
    by_cases e : i = k
    · subst e
      have := owns_grown hv hg hgh (by decide)
      simpa using this
    · have := owns_grown (h.xo i hi (by omega)) hg hgh (by decide)
      simpa [e] using this
  · simp only [show ¬ i = k by omega, if_false]
    exact (h.xi i hi (by omega)).below (Below.setCell (Below.refl _ _) (Nat.le_trans h.er hgb) _)
theorem CpN.plug {j : Nat} {s : Int} (h : CpN w0 wr e rb p C0 C1 C2 C3 (some ⟨g, 0, none⟩) C5 r0 r1 r2 r3 r4 r5 l R cv vs k) (hj : j < l.ps.length) : CpN w0 (wr.setCell ⟨g, j * 3 + 1, none⟩ (.int .i64 s)) e rb p C0 C1 C2 C3 (some ⟨g, 0, none⟩) C5 r0 r1 r2 r3 r4 r5 (movL l j s) R cv vs k := by
  obtain ⟨cur, hgb, hgh⟩ := own_cells h.r.p
  obtain ⟨h1, hg⟩ := h.r.p.stored (j * 3 + 1) (.int .i64 s)
  refine ⟨Below.setCell h.below hgb _, h.pw, h.er, h.rb, ?_, h.r.plug hj, fun i hi hik => owns_grown (h.xo i hi hik) hg hgh (by decide), fun i hi hik => (h.xi i hi hik).below (Below.setCell (Below.refl _ _) (Nat.le_trans h.er hgb) _)⟩
  rw [movL_len]
  exact (Below.heap_setCell _ _ _ _ (h.ne hgh (by decide))).trans h.box
theorem CpN.fin (h : CpN w0 wr e rb p C0 C1 C2 C3 C4 C5 r0 r1 r2 r3 r4 r5 l l.m.rules cv vs k) (hk : l.ws.length ≤ k) (hg : wr.grownBy w' (some rb)) : LoO w' w0.heap.size C0 C1 C2 C3 C4 C5 r0 r1 r2 r3 r4 r5 l cv vs :=
  LoO.kept (wr := wr) ⟨h.r, fun i hi => h.xo i hi (by omega)⟩ hg h.rb
/-- One more rule. -/
theorem CpN.push {w2 w3 wz : World} {o : Obj} {f : List Int} {x : Value} {D : Option Addr} {d : Nat} (h : CpN w0 w2 e rb p C0 C1 C2 C3 C4 C5 r0 r1 r2 r3 r4 r5 l R cv vs 0)
    (hx : w2.ownsRow w0.heap.size 3 1 x f.length (f.map (Value.int .i64))) (hown : w3.ownsRow w0.heap.size 66 1 (.slice D (R.length + 1) d) (R.length + 1) (vs ++ [x]))
    (hg : (w2.alloc o).grownBy w3 (Value.slice C1 R.length r1).ownBlock) (hz : w3.setCell ⟨p, 1, none⟩ (.slice D (R.length + 1) d) = wz) : CpN w0 wz e rb p C0 D C2 C3 C4 C5 r0 d r2 r3 r4 r5 l (R ++ [f]) cv (vs ++ [x]) 0 := by
  have hl := h.r.f.len
  have hb3 : w3.heap[p]? = w2.heap[p]? := by
    refine (hg.block p (by have := box_lt h.box; simp; omega) (fun e => ownsNot h.r.f.own h.box (by decide) e.symm)).trans ?_
    exact heap_old _ _ _ (box_lt h.box)
  have hbx := hb3.trans h.box
  have hB3 : Below w0.heap.size w0 w3 := own_low h.below h.r.f.own (Nat.le_refl _) hg
  have hs2 := h.below.size
  have hB23 : Below w0.heap.size w2 w3 := Below.grown ((Below.refl w0.heap.size w2).alloc hs2 o) hg (by simp; omega) (fun k hk => (h.r.f.own.lt k hk).1)
  obtain ⟨hz1, hgz⟩ : wz.heap[p]? = some (.cells #[.slice C0 l.m.opts.length r0, .slice D (R.length + 1) d, .slice C2 l.ss.length r2, .slice C3 l.us.length r3, .slice C4 l.ps.length r4, .slice C5 l.ws.length r5] 31 (0, 0)) ∧ w3.grownBy wz (some p) := by
    subst hz
    refine ⟨setCellOf hbx _, ?_⟩
    refine only_setCell (only_refl _ _) ?_ _
    exact .inl rfl
  have hk : ∀ {b e sz n : Nat} {v : Value} {xs : List Value}, w2.ownsRow b e sz v n xs → e ≠ 66 → e ≠ 31 → wz.ownsRow b e sz v n xs := fun q q1 q2 => owns_grown (ownsKeep q h.r.f.own q1 hg) hgz hbx q2
  have hB2z : Below w0.heap.size w2 wz := Below.grown hB23 hgz (by have := hB3.size; omega) (fun k hk => by injection hk with hk; have := h.pw; omega)
  refine ⟨Below.grown hB3 hgz hB3.size (fun k hk => by injection hk with hk; have := h.pw; omega), h.pw, h.er, h.rb, ?_, ⟨hk h.r.n (by decide) (by decide), ?_, hk h.r.s (by decide) (by decide), hk h.r.u (by decide) (by decide), hk h.r.p (by decide) (by decide), hk h.r.w (by decide) (by decide)⟩, fun i hi hik => by omega, fun i hi hik => (h.xi i hi hik).below (hB2z.mono h.er)⟩
  · rw [List.length_append, List.length_singleton]; exact hz1
  · refine ⟨by simp [hl], ?_, fun i hi => ?_⟩
    · rw [List.length_append, List.length_singleton]
      exact owns_grown hown hgz hbx (by decide)
    · rcases Nat.lt_or_ge i R.length with h1 | h1
      · rw [List.getD_eq_getElem?_getD, List.getElem?_append_left (by omega), ← List.getD_eq_getElem?_getD, List.getD_eq_getElem?_getD (l := R ++ [f]), List.getElem?_append_left h1, ← List.getD_eq_getElem?_getD]
        exact hk (h.r.f.row i h1) (by decide) (by decide)
      · have he : i = R.length := by simp at hi; omega
        subst he
        rw [List.getD_eq_getElem?_getD, List.getElem?_append_right (by omega), List.getD_eq_getElem?_getD (l := R ++ [f]), List.getElem?_append_right (Nat.le_refl _), hl, Nat.sub_self]
        exact hk hx (by decide) (by decide)
end
end Go.Proofs.Ytmabfnddedffoaa

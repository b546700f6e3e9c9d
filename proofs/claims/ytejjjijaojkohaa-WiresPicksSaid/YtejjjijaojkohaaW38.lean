/- A weakness put into the list, by a function that shares two variables: a walk; what a round of Weak holds. -/
import Derived.Test.YtejjjijaojkohaaRows
import Derived.Test.YtejjjijaojkohaaW37
import Derived.Test.YtejjjijaojkohaaW36
import Derived.Test.YtejjjijaojkohaaW22
import Derived.Test.YtejjjijaojkohaaW18
import Derived.Test.YtejjjijaojkohaaW12
import Derived.Deep.AppendLies
namespace Go.Proofs.Ytejjjijaojkohaa
open Go.RowKit
set_option linter.unusedVariables false
set_option linter.unusedSimpArgs false

theorem infoWk : (Try.prog.info? 71).map (fun i => (i.zero, i.size, i.bytes)) = some (some (.agg #[.int .i64 0, .int .i64 0]), 2, 16) := by kernel_rfl
def weakV (l : List (Int × Int)) : List Value := l.flatMap fun p => [.int .i64 p.1, .int .i64 p.2]
theorem weakV_snoc (l : List (Int × Int)) (a b : Int) : weakV (l ++ [(a, b)]) = weakV l ++ [.int .i64 a, .int .i64 b] := by simp [weakV]
theorem weakV_get : ∀ (l : List (Int × Int)) (i : Nat), i < l.length → (weakV l)[i * 2]? = some (.int .i64 (l.getD i (0, 0)).1) ∧ (weakV l)[i * 2 + 1]? = some (.int .i64 (l.getD i (0, 0)).2)
  | [], i, h => by simp at h
  | p :: r, 0, _ => by simp [weakV]
  | p :: r, i + 1, h => by
    have := weakV_get r i (by simpa using h)
    rw [show (i + 1) * 2 = i * 2 + 1 + 1 by omega]
    simpa [weakV] using this
/-- The list of weaknesses in its variable, block ob. -/
structure WkOut (ob : Nat) (v : Value) (l : List (Int × Int)) (W : World) : Prop where
  box : W.heap[ob]? = some (.cells #[v] 65 (0, 0))
  own : W.ownsRow (ob + 1) 71 2 v l.length (weakV l)
/-- Nothing has changed but the list of weaknesses and its variable. -/
structure KeepW (ob : Nat) (W w' : World) : Prop where
  os : w'.os = W.os
  tape : w'.tape = W.tape
  output : w'.output = W.output
  size : W.heap.size ≤ w'.heap.size
  low : ∀ k, k < ob → w'.heap[k]? = W.heap[k]?
  high : ∀ k cs t fr, W.heap[k]? = some (.cells cs t fr) → k ≠ ob → t ≠ 71 → w'.heap[k]? = some (.cells cs t fr)
theorem KeepW.refl (ob : Nat) (W : World) : KeepW ob W W := ⟨rfl, rfl, rfl, Nat.le_refl _, fun _ _ => rfl, fun _ _ _ _ h _ _ => h⟩
theorem KeepW.trans {ob : Nat} {a b c : World} (h : KeepW ob a b) (k : KeepW ob b c) : KeepW ob a c :=
  ⟨k.os.trans h.os, k.tape.trans h.tape, k.output.trans h.output, Nat.le_trans h.size k.size, fun i hi => (k.low i hi).trans (h.low i hi), fun i cs t fr hh hne ht => k.high i cs t fr (h.high i cs t fr hh hne ht) hne ht⟩
theorem KeepW.of {ob : Nat} {a b : World} (h : Below a.heap.size a b) (ho : ob < a.heap.size) : KeepW ob a b :=
  ⟨h.os, h.tape, h.output, h.size, fun i hi => h.block i (by omega), fun i cs t fr hh _ _ => (h.block i (box_lt hh)).trans hh⟩
theorem KeepW.drew {ob : Nat} {a b : World} (h : KeepW ob a b) : KeepW ob a b.drew := ⟨h.os, h.tape, h.output, h.size, h.low, h.high⟩
theorem KeepW.below {ob : Nat} {a b : World} (h : KeepW ob a b) (hs : ob ≤ a.heap.size) : Below ob a b := ⟨h.os, h.tape, h.output, h.size, h.low⟩
theorem WkOut.below {ob : Nat} {v : Value} {l : List (Int × Int)} {W w' : World} (h : WkOut ob v l W) (hb : Below W.heap.size W w') : WkOut ob v l w' :=
  ⟨heap_below h.box hb, owns_below h.own hb⟩
def putL (b : Bool) (i kind : Int) : List (Int × Int) := if b then [(i, kind)] else []

set_option maxRecDepth 100000 in
theorem put_any (kind i : Int) (b : Bool) (ob ib : Nat) (v : Value) (l : List (Int × Int)) (W : World) (ho : WkOut ob v l W) (hi : W.heap[ib]? = some (.cells #[.int .i64 i] 3 (0, 0))) (hn : l.length ≤ 200) :
    Calls Try.prog 81 #[.int .i64 kind, .bool b, .pointer (some ⟨ob, 0, none⟩), .pointer (some ⟨ib, 0, none⟩)] W
      fun e w' => e = .returned (.tuple #[]) ∧ (∃ v', WkOut ob v' (l ++ putL b i kind) w') ∧ KeepW ob W w' := by
  obtain ⟨i0, hi0, hz0, hz1, hz2⟩ := info_parts infoWk
  obtain ⟨A, cap, rfl⟩ := owns_form ho.own
  have hlo := box_lt ho.box
  have hli := box_lt hi
  have c0 : W.cell? ⟨ob, 0, none⟩ = some (.slice A l.length cap) := cellOf ho.box 0
  have c1 : W.cell? ⟨ib, 0, none⟩ = some (.int .i64 i) := cellOf hi 0
  have HO := hide ho
  clear ho hi
  cases b with
  | false =>
    go_enter Try.func81, Try.ntmps81
    go_wp2
    go_end0
    exact ⟨rfl, ⟨_, by simpa [putL] using HO.out⟩, KeepW.refl _ _⟩
  | true =>
    go_enter Try.func81, Try.ntmps81
    go_wp2_with (at_builtin; refine wpList_append_own_at _ rfl (.tmp 7) (.tmp 11) _ rfl (ob + 1) 71 i0 _ 2 16 Try.underlying65 hi0 hz0 hz1 hz2 rfl (by omega) _ _ _ rfl (HO.out.own.alloc _) ⟨W.heap.size, 0, none⟩ 1 1 [.int .i64 i, .int .i64 kind] rfl rfl (World.news_of_block (heap_alloc_new W _)) (by simp [Value.oneCell']) (by unfold maxLen; omega) (by omega) (by simp; omega) ?_; intro v1 w1 hown1 hg1 _ hat1; have hne : ¬ (Value.slice A l.length cap).ownBlock = some ob := (fun e => by have := HO.out.own.lt ob e; omega); have hbx : w1.heap[ob]? = some (.cells #[.slice A l.length cap] 65 (0, 0)) := (hg1.block ob (by simp; omega) (fun e => hne e.symm)).trans ((Below.heap_alloc _ _ _ hlo).trans HO.out.box); obtain ⟨A1, cap1, rfl⟩ := owns_form hown1; have d0 := cellOf hbx 0; have f0 := unfrozenOf hbx 0; have HBX := hide hbx; have HOW := hide hown1; have HG := hide hg1; clear hbx hown1 hg1 hat1 hne)
    go_end0
    have hset := setCellOf (i := 0) HBX.out (.slice A1 (l.length + 1) cap1)
    have hl1 : (l ++ putL true i kind).length = l.length + 1 := by simp [putL]
    have hwv : weakV (l ++ putL true i kind) = weakV l ++ [.int .i64 i, .int .i64 kind] := weakV_snoc l i kind
    have hs : (W.alloc (.cells #[.int .i64 i, .int .i64 kind] 71)).heap.size = W.heap.size + 1 := by simp
    refine ⟨rfl, ⟨_, hset, ?_⟩, ?_⟩
    · rw [hl1, hwv]
      obtain ⟨h1, ⟨h2, h3⟩ | ⟨g, cp, cur, h3, h4, h5, h6⟩⟩ := HOW.out
      · exact absurd h3 (by omega)
      · exact ⟨h1, .inr ⟨g, cp, cur, h3, h4, (Below.heap_setCell _ _ _ _ (show g ≠ ob by omega)).trans h5, h6⟩⟩
    · refine ⟨HG.out.os, HG.out.tape, HG.out.output, ?_, fun k hk => ?_, fun k cs t fr hk hne ht => ?_⟩
      · have := HG.out.size
        rw [hs] at this
        simpa [World.setCell] using Nat.le_of_succ_le this
      · rw [Below.heap_setCell _ _ _ _ (show k ≠ ob by omega), HG.out.block k (by rw [hs]; omega) (fun e => by have := HO.out.own.lt k e.symm; omega), Below.heap_alloc _ _ _ (by omega)]
      · have hkl := box_lt hk
        rw [Below.heap_setCell _ _ _ _ hne, HG.out.block k (by rw [hs]; omega) (fun e => ?_), Below.heap_alloc _ _ _ hkl]
        · exact hk
        · replace e : some k = (Value.slice A l.length cap).ownBlock := e
          obtain ⟨_, ⟨h2, _⟩ | ⟨g, cp, cur, h3, _, h5, _⟩⟩ := HO.out.own
          · rw [h2] at e; simp [Value.ownBlock] at e
          · rw [h3] at e
            simp only [Value.ownBlock, Option.some.injEq] at e
            subst e
            rw [h5] at hk
            injection hk with hk
            injection hk with _ hk
            exact ht hk.symm
end Go.Proofs.Ytejjjijaojkohaa

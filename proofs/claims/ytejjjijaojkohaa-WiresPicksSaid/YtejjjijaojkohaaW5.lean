/- A wire and the link of a fuse: one second, and how warm: walks. -/
import Derived.Test.YtejjjijaojkohaaRows
import Derived.Test.YtejjjijaojkohaaW4
import Derived.StillTailTactics
import Derived.OneCell
import Derived.RangeFuncFrom
namespace Go.Proofs.Ytejjjijaojkohaa
open Go.RowKit

def warmI (g : Ga) (r i : Int) : Int := r + (i * i * g.heat / 4096 - r * g.cool / 1024)
def heatI (f : Fu) (h i : Int) : Int := max 0 (h + i * i - f.rating * f.rating)

/-- Block b is a wire with its rise. -/
def WireAt (w : World) (b : Nat) (g : Ga) (r : Int) : Prop := w.heap[b]? = some (.cells #[.int .i64 g.area, .int .i64 g.ohm, .int .i64 g.heat, .int .i64 g.cool, .int .i64 g.limit, .int .i64 r] 94 (0, 0))
/-- Block b is the link of a fuse with its heat. -/
def LinkAt (w : World) (b : Nat) (f : Fu) (h : Int) : Prop := w.heap[b]? = some (.cells #[.int .i64 f.rating, .int .i64 f.melt, .int .i64 h] 119 (0, 0))

theorem heap_new (w : World) (o : Obj) (k : Nat) (hk : k = w.heap.size) : (w.alloc o).heap[k]? = some o := by subst hk; exact World.alloc_heap_new w o
theorem heap_old (w : World) (o : Obj) (k : Nat) (hk : k < w.heap.size) : (w.alloc o).heap[k]? = w.heap[k]? := Below.heap_alloc w o k hk
theorem box_at {w w1 : World} {o : Obj} (hB : Below (w.alloc o).heap.size (w.alloc o) w1) : w1.heap[w.heap.size]? = some o := (hB.block _ (by simp)).trans (heap_new _ _ _ rfl)
theorem box_lt {w : World} {k : Nat} {o : Obj} (h : w.heap[k]? = some o) : k < w.heap.size := (Array.getElem?_eq_some_iff.1 h).1
theorem box_to {w w1 : World} {k : Nat} {o : Obj} (h : w.heap[k]? = some o) (hB : Below w.heap.size w w1) : w1.heap[k]? = some o := (hB.block _ (box_lt h)).trans h
theorem cellOf {w : World} {g : Nat} {cs : Array Value} {t : TypeId} {fr : Nat × Nat} (h : w.heap[g]? = some (.cells cs t fr)) (i : Nat) : w.cell? ⟨g, i, none⟩ = cs[i]? := by simp [World.cell?, h]
theorem unfrozenOf {w : World} {g : Nat} {cs : Array Value} {t : TypeId} (h : w.heap[g]? = some (.cells cs t (0, 0))) (i : Nat) : w.frozen? ⟨g, i, none⟩ = false := by simp [World.frozen?, h]
theorem setCellOf {w : World} {g i : Nat} {cs : Array Value} {t : TypeId} {fr : Nat × Nat} (h : w.heap[g]? = some (.cells cs t fr)) (v : Value) : (w.setCell ⟨g, i, none⟩ v).heap[g]? = some (.cells (cs.setIfInBounds i v) t fr) := by
  simp [World.setCell, Array.getElem?_modify, h]

theorem wireWarm_any (b : Nat) (g : Ga) (r : Int) (w : World) (h : WireAt w b g r) :
    Calls Try.prog 144 #[.pointer (some ⟨b, 0, none⟩)] w fun e w' => e = .returned (.int .i64 r) ∧ w = w' := by
  have h5 : w.cell? ⟨b, 5, none⟩ = some (.int .i64 r) := cellOf h 5
  clear h
  go_enter Try.func144, Try.ntmps144
  go_wp2
  go_ret
  exact ⟨rfl, rfl⟩

theorem linkWarm_any (b : Nat) (f : Fu) (r : Int) (w : World) (h : LinkAt w b f r) :
    Calls Try.prog 146 #[.pointer (some ⟨b, 0, none⟩)] w fun e w' => e = .returned (.int .i64 r) ∧ w = w' := by
  have h5 : w.cell? ⟨b, 2, none⟩ = some (.int .i64 r) := cellOf h 2
  clear h
  go_enter Try.func146, Try.ntmps146
  go_wp2
  go_ret
  exact ⟨rfl, rfl⟩

set_option maxRecDepth 100000 in
theorem wireSecond_any (b : Nat) (g : Ga) (r i : Int) (w : World) (h : WireAt w b g r) (hh0 : 0 ≤ g.heat) (hh1 : g.heat ≤ 1000) (hc0 : 0 ≤ g.cool) (hc1 : g.cool ≤ 1024) (hr0 : 0 ≤ r) (hr1 : r ≤ 1000000000) (hi0 : 0 ≤ i) (hi1 : i ≤ 500) :
    Calls Try.prog 110 #[.pointer (some ⟨b, 0, none⟩), .int .i64 i] w fun e w' => e = .returned (.tuple #[]) ∧ WireAt w' b g (warmI g r i) ∧ w.grownBy w' (some b) := by
  have c2 : w.cell? ⟨b, 2, none⟩ = some (.int .i64 g.heat) := cellOf h 2
  have c3 : w.cell? ⟨b, 3, none⟩ = some (.int .i64 g.cool) := cellOf h 3
  have c5 : w.cell? ⟨b, 5, none⟩ = some (.int .i64 r) := cellOf h 5
  have f5 : w.frozen? ⟨b, 5, none⟩ = false := unfrozenOf h 5
  have H := hide h; clear h
  obtain ⟨p1, p2⟩ := mul_range hi0 hi1 hi0 hi1
  obtain ⟨p3, p4⟩ := mul_range p1 p2 hh0 hh1
  obtain ⟨p5, p6⟩ := mul_range hr0 hr1 hc0 hc1
  go_enter Try.func110, Try.ntmps110
  go_wp2
  go_still_tail 29, (by kernel_rfl)
  change wpList _ _ _ _ _ w.drew
  go_wp2
  go_end0
  exact ⟨rfl, setCellOf H.out _, only_drew (only_setCell (only_refl w _) (.inl rfl) _)⟩

set_option maxRecDepth 100000 in
theorem linkSecond_any (b : Nat) (f : Fu) (r i : Int) (w : World) (h : LinkAt w b f r) (hh0 : 0 ≤ f.rating) (hh1 : f.rating ≤ 500) (hr0 : 0 ≤ r) (hr1 : r ≤ 1000000000) (hi0 : 0 ≤ i) (hi1 : i ≤ 500) :
    Calls Try.prog 145 #[.pointer (some ⟨b, 0, none⟩), .int .i64 i] w fun e w' => e = .returned (.tuple #[]) ∧ LinkAt w' b f (heatI f r i) ∧ w.grownBy w' (some b) := by
  have c0 : w.cell? ⟨b, 0, none⟩ = some (.int .i64 f.rating) := cellOf h 0
  have c2 : w.cell? ⟨b, 2, none⟩ = some (.int .i64 r) := cellOf h 2
  have f2 : w.frozen? ⟨b, 2, none⟩ = false := unfrozenOf h 2
  have H := hide h; clear h
  obtain ⟨p1, p2⟩ := mul_range hi0 hi1 hi0 hi1
  obtain ⟨p3, p4⟩ := mul_range hh0 hh1 hh0 hh1
  have e1 : IntKind.i64.wrap (i * i) = i * i := IntWalk.i64_in _ (by omega)
  have e2 : IntKind.i64.wrap (f.rating * f.rating) = f.rating * f.rating := IntWalk.i64_in _ (by omega)
  have e3 : IntKind.i64.wrap (r + i * i) = r + i * i := IntWalk.i64_in _ (by omega)
  have e4 : IntKind.i64.wrap (r + i * i - f.rating * f.rating) = r + i * i - f.rating * f.rating := IntWalk.i64_in _ (by omega)
  by_cases hc : 0 < r + i * i - f.rating * f.rating
  all_goals
    go_enter Try.func145, Try.ntmps145
    go_wp2
    go_still_tail 24, (by kernel_rfl)
    change wpList _ _ _ _ _ w.drew
    go_wp2
  all_goals
    go_end0
    refine ⟨rfl, ?_, only_drew (only_setCell (only_refl w _) (.inl rfl) _)⟩
    rw [show heatI f r i = _ from by unfold heatI; first | exact Int.max_eq_right (by omega) | exact Int.max_eq_left (by omega)]
    exact setCellOf H.out _
end Go.Proofs.Ytejjjijaojkohaa

/- What Pick picks makes a feeder without a weakness: the plain law. -/
import Derived.Test.YtejjjijaojkohaaRows
import Derived.Test.YtejjjijaojkohaaW39
import Derived.Test.YtejjjijaojkohaaW41
namespace Go.Proofs.Ytejjjijaojkohaa
open Go.RowKit

theorem idxI_spec {α : Type} (p : α → Bool) (z : α) : ∀ (l : List α), 0 ≤ idxI p l → ∃ k : Nat, idxI p l = k ∧ k < l.length ∧ p (l.getD k z) = true
  | [], h => by simp [idxI] at h
  | a :: r, h => by
    cases ha : p a with
    | true => exact ⟨0, by simp [idxI, ha], by simp, by simpa using ha⟩
    | false =>
      by_cases h0 : idxI p r < 0
      · simp [idxI, ha, h0] at h
      · obtain ⟨k, h1, h2, h3⟩ := idxI_spec p z r (by omega)
        refine ⟨k + 1, ?_, by simpa using h2, by simpa using h3⟩
        simp only [idxI, ha, Bool.false_eq_true, if_false]
        rw [if_neg h0, h1]
        omega

theorem pick_weak {gs : List Ga} {fs : List Fu} {n : Ne} {cs : List Cu} (h : pickErr gs fs n cs = 0) :
    chkErr gs fs [⟨-1, pickV gs fs n cs, pickW gs fs n cs, n, cs⟩] = 0 ∧ weakLs gs fs [⟨-1, pickV gs fs n cs, pickW gs fs n cs, n, cs⟩] = [] := by
  have h' := h
  unfold pickErr at h'
  cases hb : pickB gs fs
  case true => simp [hb] at h'
  cases h1 : tableB gs
  case false => simp [hb, h1] at h'
  cases h2 : fusB fs
  case false => simp [hb, h1, h2] at h'
  cases h3 : needOk n cs
  case false => simp [hb, h1, h2, h3] at h'
  simp only [hb, h1, h2, h3, Bool.false_eq_true, if_false, if_true] at h'
  have hpg : 0 ≤ pickG gs fs n cs := by
    by_cases h0 : pickG gs fs n cs < 0
    · simp [h0] at h'
    · omega
  obtain ⟨k, hk1, hk2, hk3⟩ := idxI_spec (pickA fs n cs) Ga.z gs hpg
  unfold pickA at hk3
  rw [Bool.and_eq_true, decide_eq_true_eq] at hk3
  obtain ⟨hfit, hpk⟩ := hk3
  obtain ⟨m, hm1, hm2, hm3⟩ := idxI_spec (pickU (gs.getD k Ga.z) n cs) Fu.z fs hpk
  unfold pickU at hm3
  rw [Bool.and_eq_true, decide_eq_true_eq] at hm3
  obtain ⟨hhold, hung⟩ := hm3
  simp only [pickB, Bool.or_eq_false_iff, decide_eq_false_iff_not] at hb
  have hpo : PickOk gs fs n cs := ⟨by omega, by omega, h1, h2, needOk_iff.1 h3⟩
  obtain ⟨_, hv, hw⟩ := pick_some hpo hk1
  rw [hv, hw, show pickK fs n cs (gs.getD k Ga.z) = m from hm1]
  have hchk : chkErr gs fs [⟨-1, k, m, n, cs⟩] = 0 := by
    refine chk_iff.2 ⟨by omega, by omega, by simp, h1, h2, fesB_all fun j hj => ?_⟩
    have hj0 : j = 0 := by simpa using hj
    subst hj0
    unfold feOk
    simp only [List.getD_cons_zero, Bool.and_eq_true, fromB_iff]
    exact ⟨⟨⟨⟨by omega, by omega⟩, by omega, by omega⟩, by omega, by omega⟩, h3⟩
  refine ⟨hchk, ?_⟩
  unfold weakLs
  rw [if_pos hchk]
  show wkAll gs fs _ 0 ++ wkL gs fs _ 0 = []
  unfold wkL
  simp only [List.getD_cons_zero, Int.toNat_natCast]
  rw [hfit, hhold, if_pos (by omega), show decide (0 ≤ leastI (ungB (fs.getD m Fu.z) (gs.getD k Ga.z) n.amb)) = false by simpa using hung]
  simp [wkAll, putL]

/-- What each operation of the law's call of Pick leaves. -/
def pickR (w0 : World) (gs : List Ga) (fs : List Fu) (n : Ne) (cs : List Cu) (a b c : Int) (j : Nat) (v : Value) (w : World) : Prop :=
  match j with
  | 0 => w0.heap.size ≤ w.heap.size ∧ ∃ g, v = .slice (some ⟨g, 0, none⟩) 0 0 ∧ w.ownsRow w0.heap.size 23 5 v 0 []
  | 3 => w0.heap.size ≤ w.heap.size ∧ ∃ g, v = .slice (some ⟨g, 0, none⟩) 0 0 ∧ w.ownsRow w0.heap.size 30 2 v 0 []
  | 2 => w.ownsRow w0.heap.size 23 5 v gs.length (flat gs.length 5 (gaF gs))
  | 5 => w.ownsRow w0.heap.size 30 2 v fs.length (flat fs.length 2 (fuF fs))
  | 7 => ∃ v', v = .agg #[v', .int .i64 n.len, .int .i64 n.drop, .int .i64 n.amb] ∧ Cyc w w.heap.size v' cs
  | 8 => v = .tuple #[.int .i64 a, .int .i64 b, .int .i64 c]
  | 9 => v = .tuple #[.int .i64 a, .int .i64 b, .int .i64 c]
  | 10 => v = .int .i64 a
  | 11 => v = .int .i64 b
  | 12 => v = .int .i64 c
  | 13 => v = .int .i64 a
  | 14 => v = .int .i64 b
  | _ => True
theorem pickR_keep {w0 : World} {gs : List Ga} {fs : List Fu} {n : Ne} {cs : List Cu} {a b c : Int} (j : Nat) {v : Value} {w w' : World} (hb : Below w.heap.size w w') (h : pickR w0 gs fs n cs a b c j v w) : pickR w0 gs fs n cs a b c j v w' := by
  unfold pickR at *
  split at h
  · obtain ⟨h0, g, h1, h2⟩ := h; exact ⟨Nat.le_trans h0 hb.size, g, h1, owns_below h2 hb⟩
  · obtain ⟨h0, g, h1, h2⟩ := h; exact ⟨Nat.le_trans h0 hb.size, g, h1, owns_below h2 hb⟩
  · exact owns_below h hb
  · exact owns_below h hb
  · obtain ⟨v', h1, h2⟩ := h; exact ⟨v', h1, Sl.up h2 hb⟩
  all_goals exact h
/-- What each operation of the law's wiring leaves. -/
def pickQ (w0 : World) (gs : List Ga) (fs : List Fu) (n : Ne) (cs : List Cu) (a b : Int) (j : Nat) (v : Value) (w : World) : Prop :=
  match j with
  | 0 => w0.heap.size ≤ w.heap.size ∧ ∃ g, v = .slice (some ⟨g, 0, none⟩) 0 0 ∧ w.ownsRow w0.heap.size 23 5 v 0 []
  | 3 => w0.heap.size ≤ w.heap.size ∧ ∃ g, v = .slice (some ⟨g, 0, none⟩) 0 0 ∧ w.ownsRow w0.heap.size 30 2 v 0 []
  | 2 => w.ownsRow w0.heap.size 23 5 v gs.length (flat gs.length 5 (gaF gs))
  | 5 => w.ownsRow w0.heap.size 30 2 v fs.length (flat fs.length 2 (fuF fs))
  | 9 => ∃ v', v = .agg #[v', .int .i64 n.len, .int .i64 n.drop, .int .i64 n.amb] ∧ w.ownsRow w0.heap.size 54 2 v' cs.length (flat cs.length 2 (cyF cs))
  | 10 => ∃ v', v = .agg #[.int .i64 (-1), .int .i64 a, .int .i64 b, v', .int .i64 n.len, .int .i64 n.drop, .int .i64 n.amb] ∧ w.ownsRow w0.heap.size 54 2 v' cs.length (flat cs.length 2 (cyF cs))
  | 11 => ∃ v' g, v = .slice (some ⟨g, 0, none⟩) 1 1 ∧ w0.heap.size ≤ g ∧ w.heap[g]? = some (.cells #[.int .i64 (-1), .int .i64 a, .int .i64 b, v', .int .i64 n.len, .int .i64 n.drop, .int .i64 n.amb] 74 (0, 0)) ∧ w.ownsRow w0.heap.size 54 2 v' cs.length (flat cs.length 2 (cyF cs))
  | 12 => ∃ x y v' g, v = .agg #[x, y, .slice (some ⟨g, 0, none⟩) 1 1] ∧ w.ownsRow w0.heap.size 23 5 x gs.length (flat gs.length 5 (gaF gs)) ∧ w.ownsRow w0.heap.size 30 2 y fs.length (flat fs.length 2 (fuF fs)) ∧ w0.heap.size ≤ g ∧ w.heap[g]? = some (.cells #[.int .i64 (-1), .int .i64 a, .int .i64 b, v', .int .i64 n.len, .int .i64 n.drop, .int .i64 n.amb] 74 (0, 0)) ∧ w.ownsRow w0.heap.size 54 2 v' cs.length (flat cs.length 2 (cyF cs))
  | 13 => ∃ p, v = .pointer (some ⟨p, 0, none⟩) ∧ w0.heap.size ≤ p ∧ w.heap[p]? = some (.cells #[.slice none 0 0, .slice none 0 0, .slice none 0 0] 63 (0, 0))
  | _ => True
theorem pickQ_keep {w0 : World} {gs : List Ga} {fs : List Fu} {n : Ne} {cs : List Cu} {a b : Int} (j : Nat) {v : Value} {w w' : World} (hb : Below w.heap.size w w') (h : pickQ w0 gs fs n cs a b j v w) : pickQ w0 gs fs n cs a b j v w' := by
  unfold pickQ at *
  split at h
  · obtain ⟨h0, g, h1, h2⟩ := h; exact ⟨Nat.le_trans h0 hb.size, g, h1, owns_below h2 hb⟩
  · obtain ⟨h0, g, h1, h2⟩ := h; exact ⟨Nat.le_trans h0 hb.size, g, h1, owns_below h2 hb⟩
  · exact owns_below h hb
  · exact owns_below h hb
  · obtain ⟨v', h1, h2⟩ := h; exact ⟨v', h1, owns_below h2 hb⟩
  · obtain ⟨v', h1, h2⟩ := h; exact ⟨v', h1, owns_below h2 hb⟩
  · obtain ⟨v', g, h1, h2, h3, h4⟩ := h; exact ⟨v', g, h1, h2, heap_below h3 hb, owns_below h4 hb⟩
  · obtain ⟨x, y, v', g, h1, h2, h3, h4, h5, h6⟩ := h; exact ⟨x, y, v', g, h1, owns_below h2 hb, owns_below h3 hb, h4, heap_below h5 hb, owns_below h6 hb⟩
  · obtain ⟨p, h1, h2, h3⟩ := h; exact ⟨p, h1, h2, heap_below h3 hb⟩
  · trivial
end Go.Proofs.Ytejjjijaojkohaa

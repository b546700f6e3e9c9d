/- A need: both checks: walks. -/
import Derived.Test.YtejjjijaojkohaaRows
import Derived.Test.YtejjjijaojkohaaW23
import Derived.Deep.RegionHeld3
namespace Go.Proofs.Ytejjjijaojkohaa
open Go.RowKit
set_option linter.unusedVariables false
set_option linter.unusedSimpArgs false

/-- What a need says beside its cycle. -/
structure Ne where
  len : Int
  drop : Int
  amb : Int
def needOk (n : Ne) (cs : List Cu) : Bool := cycOk cs && fromB n.len 0 1000000 && fromB n.drop 0 100000 && fromB n.amb 0 1000
def needErr (n : Ne) (cs : List Cu) : Int := if needOk n cs then 0 else 71
structure NeOk (n : Ne) (cs : List Cu) : Prop where
  cyc : cycOk cs = true
  len0 : 0 ≤ n.len
  len1 : n.len ≤ 1000000
  drop0 : 0 ≤ n.drop
  drop1 : n.drop ≤ 100000
  amb0 : 0 ≤ n.amb
  amb1 : n.amb ≤ 1000
theorem needOk_iff {n : Ne} {cs : List Cu} : needOk n cs = true ↔ NeOk n cs := by
  unfold needOk
  simp only [Bool.and_eq_true, fromB_iff]
  constructor
  · rintro ⟨⟨⟨h1, h2⟩, h3⟩, h4⟩
    exact ⟨h1, h2.1, h2.2, h3.1, h3.2, h4.1, h4.2⟩
  · intro h
    exact ⟨⟨⟨h.cyc, h.len0, h.len1⟩, h.drop0, h.drop1⟩, h.amb0, h.amb1⟩

/-- Block b holds a need. -/
def NeedAt (w : World) (b : Nat) (v : Value) (n : Ne) : Prop := w.heap[b]? = some (.cells #[v, .int .i64 n.len, .int .i64 n.drop, .int .i64 n.amb] 48 (0, 0))
theorem need4 {w0 w1 : World} {b : Nat} {v : Value} {n : Ne} (h : NeedAt w0 b v n) (hB : Below w0.heap.size w0 w1) :
    w1.cell? ⟨b, 0, none⟩ = some v ∧ w1.cell? ⟨b, 1, none⟩ = some (.int .i64 n.len) ∧ w1.cell? ⟨b, 2, none⟩ = some (.int .i64 n.drop) ∧ w1.cell? ⟨b, 3, none⟩ = some (.int .i64 n.amb) ∧ Below w0.heap.size w0 w1 :=
  ⟨cellOf (box_to h hB) 0, cellOf (box_to h hB) 1, cellOf (box_to h hB) 2, cellOf (box_to h hB) 3, hB⟩

theorem checkNeed_any (n : Ne) (v : Value) (cs : List Cu) (w : World) (hn : cs.length ≤ 20) (h : Cyc w w.heap.size v cs) :
    Calls Try.prog 72 #[.agg #[v, .int .i64 n.len, .int .i64 n.drop, .int .i64 n.amb]] w fun e w' => e = .returned (.int .i64 (needErr n cs)) ∧ Below w.heap.size w w' := by
  have H := hide h
  obtain ⟨A0, cap0, rfl⟩ := h.form
  clear h
  obtain ⟨l, hl⟩ : ∃ x, fromB n.len 0 1000000 = x := ⟨_, rfl⟩
  obtain ⟨d, hd⟩ : ∃ x, fromB n.drop 0 100000 = x := ⟨_, rfl⟩
  obtain ⟨a, ha⟩ : ∃ x, fromB n.amb 0 1000 = x := ⟨_, rfl⟩
  obtain ⟨c, hc⟩ : ∃ x, cycOk cs = x := ⟨_, rfl⟩
  have HR : Hid (needErr n cs = if c && l && d && a then 0 else 71) := by
    show _ = _
    rw [← hl, ← hd, ← ha, ← hc]
    rfl
  have HL := hide hl
  have HD := hide hd
  have HA := hide ha
  have HC : Hid (cycErr cs = if c then 0 else 71) := by show _ = _; rw [← hc]; rfl
  clear hl hd ha hc
  go_enter Try.func72, Try.ntmps72
  go_wp2_with fail
  refine (checkCycle_any _ cs _ hn ((H.out.below (by repeat (first | exact Below.refl _ _ | assumption | refine Below.drew ?_ | refine Below.drewN ?_ _ | refine Below.allocT ?_ (Nat.le_refl _) _ | refine Below.setCell ?_ (by simp <;> omega) _ | refine Below.to ?_ (by assumption) (Nat.le_refl _)))).more (by simp))).mono ?_
  rw [HC.out]
  rintro e w1 ⟨rfl, hB1⟩
  have hN : NeedAt w1 w.heap.size (.slice A0 cs.length cap0) n := box_at hB1
  have hW1 : Below w.heap.size w w1 := (by repeat (first | exact Below.refl _ _ | assumption | refine Below.drew ?_ | refine Below.drewN ?_ _ | refine Below.allocT ?_ (Nat.le_refl _) _ | refine Below.setCell ?_ (by simp <;> omega) _ | refine Below.to ?_ (by assumption) (Nat.le_refl _)))
  obtain ⟨k0, k1, k2, k3, _⟩ := need4 hN (Below.refl _ w1)
  clear hN hB1
  have HW1 := hide hW1
  clear hW1
  cases c
  · go_wp2_with fail
    go_ret
    exact ⟨ret_int (by rw [HR.out]; rfl), HW1.out⟩
  · cases l <;> cases d <;> cases a
    all_goals
      go_wp2_with (go_at_call 49; refine (within_any _ _ _ _).mono ?_; (first | rw [HL.out] | rw [HD.out] | rw [HA.out]); rintro e w' ⟨rfl, rfl⟩)
      go_ret
      exact ⟨ret_int (by rw [HR.out]; rfl), HW1.out⟩

theorem rneed_any (n : Ne) (v : Value) (cs : List Cu) (w : World) (hn : cs.length ≤ 20) (h : Cyc w w.heap.size v cs) :
    Calls Try.prog 74 #[.agg #[v, .int .i64 n.len, .int .i64 n.drop, .int .i64 n.amb]] w fun e w' => e = .returned (.bool (needOk n cs)) ∧ Below w.heap.size w w' := by
  have H := hide h
  obtain ⟨A0, cap0, rfl⟩ := h.form
  clear h
  obtain ⟨l, hl⟩ : ∃ x, fromB n.len 0 1000000 = x := ⟨_, rfl⟩
  obtain ⟨d, hd⟩ : ∃ x, fromB n.drop 0 100000 = x := ⟨_, rfl⟩
  obtain ⟨a, ha⟩ : ∃ x, fromB n.amb 0 1000 = x := ⟨_, rfl⟩
  obtain ⟨c, hc⟩ : ∃ x, cycOk cs = x := ⟨_, rfl⟩
  have HR : Hid (needOk n cs = (c && l && d && a)) := by
    show _ = _
    rw [← hl, ← hd, ← ha, ← hc]
    rfl
  have HL := hide hl
  have HD := hide hd
  have HA := hide ha
  have HC := hide hc
  clear hl hd ha hc
  go_enter Try.func74, Try.ntmps74
  go_wp2_with fail
  refine (cycled_any _ cs _ hn ((H.out.below (by repeat (first | exact Below.refl _ _ | assumption | refine Below.drew ?_ | refine Below.drewN ?_ _ | refine Below.allocT ?_ (Nat.le_refl _) _ | refine Below.setCell ?_ (by simp <;> omega) _ | refine Below.to ?_ (by assumption) (Nat.le_refl _)))).more (by simp))).mono ?_
  rw [HC.out]
  rintro e w1 ⟨rfl, hB1⟩
  have hN : NeedAt w1 w.heap.size (.slice A0 cs.length cap0) n := box_at hB1
  have hW1 : Below w.heap.size w w1 := (by repeat (first | exact Below.refl _ _ | assumption | refine Below.drew ?_ | refine Below.drewN ?_ _ | refine Below.allocT ?_ (Nat.le_refl _) _ | refine Below.setCell ?_ (by simp <;> omega) _ | refine Below.to ?_ (by assumption) (Nat.le_refl _)))
  obtain ⟨k0, k1, k2, k3, _⟩ := need4 hN (Below.refl _ w1)
  clear hN hB1
  have HW1 := hide hW1
  clear hW1
  cases c
  · go_wp2_with fail
    go_ret
    exact ⟨ret_bool (by rw [HR.out]; rfl), HW1.out⟩
  · cases l <;> cases d <;> cases a
    all_goals
      go_wp2_with (go_at_call 52; refine (from_any _ _ _ _).mono ?_; (first | rw [HL.out] | rw [HD.out] | rw [HA.out]); rintro e w' ⟨rfl, rfl⟩)
      go_ret
      exact ⟨ret_bool (by rw [HR.out]; rfl), HW1.out⟩
end Go.Proofs.Ytejjjijaojkohaa

/- Part 45 of this claim's texts: walks and plain laws. -/
import Derived.Test.YtehadoecnmfeoaaGreatRows
import Derived.Test.YtehadoecnmfeoaaGreatGBS44
import Derived.Test.YtehadoecnmfeoaaGreatGBS32
import Derived.Deep.DeepMust
import Derived.Deep.RegionHeld3
import Derived.Deep.DrawnRows
set_option linter.unusedVariables false
set_option linter.unusedSimpArgs false
set_option linter.unusedSectionVars false
namespace Go.Proofs.YtehadoecnmfeoaaGreat
open Go.RowKit
theorem Bols.other9 {w w' : World} {C : Array Value} {v : Value} {x : List Bool} {b t : Nat} (h : Bols w w.heap.size v x) (hb : w.heap[b]? = some (.cells C t (0, 0))) (hC : ∀ (j : Nat) z, C[j]? ≠ some (.bool z)) (hg : w.grownBy w' (some b)) : Bols w' w'.heap.size v x := by
 obtain ⟨A, b1, off, cap, h1, h2, h3, h4⟩ := h
 refine ⟨A, b1, off, cap, h1, h2, h3.imp (fun q => ⟨q.1, Nat.lt_of_lt_of_le q.2 hg.size⟩) id, fun i j hi hj => ?_⟩
 have h5 := h4 i j hi hj
 have hb1 : b1 < w.heap.size := by
  rcases h3 with h3 | h3
  ·
   exact h3.2
  ·
   omega
 refine (World.cell?_of_block (hg.block b1 hb1 (fun e => ?_))).trans h5
 injection e with e
 subst e
 rw [cellOf hb] at h5
 exact hC _ _ h5
def wayC (A0 A1 A2 A3 A4 A5 : Option Addr) (q0 q1 q2 q3 q4 q5 : Nat) (l : Lo) (a b : Pn) (cv : Value) : Array Value := #[.slice A0 l.m.opts.length q0, .slice A1 l.m.rules.length q1, .slice A2 l.ss.length q2, .slice A3 l.us.length q3, .slice A4 l.ps.length q4, .slice A5 l.ws.length q5, .int .i64 b.1, .int .i64 b.2, .int .i64 a.1, .int .i64 a.2, cv]
theorem wayC_no (A0 A1 A2 A3 A4 A5 : Option Addr) (q0 q1 q2 q3 q4 q5 : Nat) (l : Lo) (a b : Pn) {cv : Value} {A : Option Addr} {n q : Nat} (h : cv = .slice A n q) : ∀ (j : Nat) z, (wayC A0 A1 A2 A3 A4 A5 q0 q1 q2 q3 q4 q5 l a b cv)[j]? ≠ some (.bool z) := by
 subst h
 intro j z e
 unfold wayC at e
 match j, e with
 | 0, e => cases e
 | 1, e => cases e
 | 2, e => cases e
 | 3, e => cases e
 | 4, e => cases e
 | 5, e => cases e
 | 6, e => cases e
 | 7, e => cases e
 | 8, e => cases e
 | 9, e => cases e
 | 10, e => cases e
 | j + 11, e => rw [Array.getElem?_eq_none (by simp)] at e; cases e
def WayAt (w : World) (g : Nat) (A0 A1 A2 A3 A4 A5 : Option Addr) (q0 q1 q2 q3 q4 q5 : Nat) (l : Lo) (a b : Pn) (N : Nat) (cur : Option (List Bool)) : Prop :=
 ∃ cv, w.heap[g]? = some (.cells (wayC A0 A1 A2 A3 A4 A5 q0 q1 q2 q3 q4 q5 l a b cv) 147 (0, 0)) ∧ OptV w w.heap.size cv cur ∧ ∀ x, cur = some x → x.length = N
theorem WayAt.up {w w' : World} {g : Nat} {A0 A1 A2 A3 A4 A5 : Option Addr} {q0 q1 q2 q3 q4 q5 : Nat} {l : Lo} {a b : Pn} {N : Nat} {cur : Option (List Bool)} (h : WayAt w g A0 A1 A2 A3 A4 A5 q0 q1 q2 q3 q4 q5 l a b N cur) (hb : Below w.heap.size w w') : WayAt w' g A0 A1 A2 A3 A4 A5 q0 q1 q2 q3 q4 q5 l a b N cur := by
 obtain ⟨cv, h1, h2, h3⟩ := h
 exact ⟨cv, box_to h1 hb, h2.up hb, h3⟩
set_option maxRecDepth 100000 in
set_option maxHeartbeats 2000000 in
theorem showW_any (g N : Nat) (A0 A1 A2 A3 A4 A5 : Option Addr) (q0 q1 q2 q3 q4 q5 : Nat) (l : Lo) (a b : Pn) (cur : Option (List Bool)) (y : List Bool) (v : Value) (w : World) (hN : N ≤ 1000) (h : WayAt w g A0 A1 A2 A3 A4 A5 q0 q1 q2 q3 q4 q5 l a b N cur) (hv : OptV w w.heap.size v (some y)) (ho : y.length = N) :
  Calls Tryz.prog 127 #[.pointer (some ⟨g, 10, none⟩), v] w fun e w' => e = .returned (.tuple #[]) ∧ WayAt w' g A0 A1 A2 A3 A4 A5 q0 q1 q2 q3 q4 q5 l a b N (soon cur (some y)) ∧ w.grownBy w' (some g) := by
 have qn1 : ∀ (W : World) (a : Option Addr) (n c : Nat), (binOp .neq 35 (.slice a n c) (.slice none 0 0)).run Tryz.prog W = .ok (.bool (!a.isNone)) W := fun W a n c => run_neq_slice_nil W _ _ a n c Tryz.underlying35
 have qn2 : ∀ (W : World) (a : Option Addr) (n c n' c' : Nat), (binOp .eql 35 (.slice a n c) (.slice none n' c')).run Tryz.prog W = .ok (.bool a.isNone) W := fun W a n c n' c' => Lib.run_eql_slice_nil W _ _ a n c n' c' Tryz.underlying35
 obtain ⟨cv, hb, hc, hcN⟩ := h
 obtain ⟨⟨ad, q, rfl⟩, hy⟩ := hv
 cases cur with
 | none =>
  have hcn : cv = .slice none 0 0 := hc
  subst hcn
  have x0 := cellOf hb 10
  have x1 := unfrozenOf hb 10
  have lx := box_lt hb
  have HB := hide hb
  have HY := hide hy
  have HYN := hide ho
  have HNO := hide (wayC_no A0 A1 A2 A3 A4 A5 q0 q1 q2 q3 q4 q5 l a b (cv := .slice none 0 0) rfl)
  have x2 : w.cell? ⟨g, 10, none⟩ = some (.slice none 0 0) := x0
  clear hb hc hy ho hcN x0
  go_enter Tryz.func127, Tryz.ntmps127
  go_wp2_with fail
  generalize hwz : World.setCell _ _ _ = wz
  have hg : w.grownBy wz (some g) := by rw [← hwz]; exact only_setCell (only_refl _ _) (.inl rfl) _
  have hz : wz.heap[g]? = some (.cells (wayC A0 A1 A2 A3 A4 A5 q0 q1 q2 q3 q4 q5 l a b (.slice (some ad) y.length q)) 147 (0, 0)) := by rw [← hwz]; exact setCellOf HB.out (i := 10) _
  have hE : WayAt wz g A0 A1 A2 A3 A4 A5 q0 q1 q2 q3 q4 q5 l a b N (soon none (some y)) := ⟨_, hz, ⟨⟨ad, q, rfl⟩, HY.out.other9 HB.out HNO.out hg⟩, fun x hx => by injection hx with hx; rw [← hx]; exact HYN.out⟩
  clear hwz
  go_end0
  exact ⟨rfl, hE, hg⟩
 | some x =>
  obtain ⟨⟨ad2, q2', rfl⟩, hx⟩ := hc
  have hxN := hcN x rfl
  have hcm := compare_any y x (some ad) (some ad2) q q2' w (by omega) (by omega) hy hx
  have hlaw := (cmpI_bef y x)
  obtain ⟨c, hce⟩ : ∃ c, cmpI y x = c := ⟨_, rfl⟩
  rw [hce] at hcm hlaw
  have x0 : w.cell? ⟨g, 10, none⟩ = some (.slice (some ad2) x.length q2') := cellOf hb 10
  have x1 := unfrozenOf hb 10
  have lx := box_lt hb
  have HB := hide hb
  have HY := hide hy
  have HX := hide hx
  have HYN := hide ho
  have HXN := hide hxN
  have HCM := hide hcm
  have HNO := hide (wayC_no A0 A1 A2 A3 A4 A5 q0 q1 q2 q3 q4 q5 l a b (cv := .slice (some ad2) x.length q2') rfl)
  obtain ⟨hlw, hl1, hl2⟩ := hlaw
  have HLW := hide hlw
  clear hb hx hy ho hcN hxN hcm hce hlw
  by_cases hc0 : c < 0
  ·
   have hso : soon (some x) (some y) = some y := by show (if befB y x = true then _ else _) = _; rw [if_pos (HLW.out.1 hc0)]
   have HSO := hide hso
   clear hso
   go_enter Tryz.func127, Tryz.ntmps127
   go_wp2_with (go_at_call 172; refine HCM.out.mono ?_; rintro e w1 ⟨rfl, rfl⟩)
   generalize hwz : World.setCell _ _ _ = wz
   have hg : w.grownBy wz (some g) := by rw [← hwz]; exact only_setCell (only_refl _ _) (.inl rfl) _
   have hz : wz.heap[g]? = some (.cells (wayC A0 A1 A2 A3 A4 A5 q0 q1 q2 q3 q4 q5 l a b (.slice (some ad) y.length q)) 147 (0, 0)) := by rw [← hwz]; exact setCellOf HB.out (i := 10) _
   have hE : WayAt wz g A0 A1 A2 A3 A4 A5 q0 q1 q2 q3 q4 q5 l a b N (soon (some x) (some y)) := by
    rw [HSO.out]
    exact ⟨_, hz, ⟨⟨ad, q, rfl⟩, HY.out.other9 HB.out HNO.out hg⟩, fun x hx => by injection hx with hx; rw [← hx]; exact HYN.out⟩
   clear hwz
   go_end0
   exact ⟨rfl, hE, hg⟩
  ·
   have hso : soon (some x) (some y) = some x := by
    show (if befB y x = true then _ else _) = _
    rw [if_neg (fun h => hc0 (HLW.out.2 h))]
   have HSO := hide hso
   clear hso
   go_enter Tryz.func127, Tryz.ntmps127
   go_wp2_with (go_at_call 172; refine HCM.out.mono ?_; rintro e w1 ⟨rfl, rfl⟩)
   have hE : WayAt w g A0 A1 A2 A3 A4 A5 q0 q1 q2 q3 q4 q5 l a b N (soon (some x) (some y)) := by
    rw [HSO.out]
    exact ⟨_, HB.out, ⟨⟨ad2, q2', rfl⟩, HX.out⟩, fun z hz => by injection hz with hz; rw [← hz]; exact HXN.out⟩
   go_end0
   exact ⟨rfl, hE, only_refl _ _⟩
end Go.Proofs.YtehadoecnmfeoaaGreat

/- Part 16 of this claim's texts: walks and plain laws. -/
import Derived.Test.YtehadoecnmfeoaaGreatRows
import Derived.Test.YtehadoecnmfeoaaGreatGBT13
import Derived.Test.YtehadoecnmfeoaaGreatGBT15
import Derived.WalkSpells
import Derived.Lib.SliceRun
import Derived.Deep.DeepMust
import Derived.Deep.RegionHeld3
import Derived.Deep.DrawnRows
import Derived.Test.YtehadoecnmfeoaaGreatGBT12
import Derived.Test.YtehadoecnmfeoaaGreatGBT8
import Derived.Laws.EntriesVeiled
/- Variants compared, and the earliest one kept: walks. -/
namespace Go.Proofs.YtehadoecnmfeoaaGreat
open Go.RowKit
set_option linter.unusedVariables false
set_option linter.unusedSimpArgs false
/-- Which of two variants comes first. -/
def cmpI : List Bool → List Bool → Int
  | a :: x, b :: y => if a = b then cmpI x y else if b then -1 else 1
  | _, _ => 0
theorem cmpI_bef : ∀ x y, (cmpI x y < 0 ↔ befB x y = true) ∧ -1 ≤ cmpI x y ∧ cmpI x y ≤ 1
  | [], _ => by simp [cmpI, befB]
  | _ :: _, [] => by simp [cmpI, befB]
  | a :: x, b :: y => by
    have ih := cmpI_bef x y
    unfold cmpI befB
    by_cases h : a = b
    · rw [if_pos h, if_pos h]; exact ih
    · rw [if_neg h, if_neg h]
      cases b <;> simp
theorem cmpI_at : ∀ (x y : List Bool) (k : Nat), k < x.length → k < y.length → (∀ j, j < k → x.getD j false = y.getD j false) → x.getD k false ≠ y.getD k false → cmpI x y = if y.getD k false then -1 else 1
  | [], _, k, h, _, _, _ => by simp at h
  | _ :: _, [], k, _, h, _, _ => by simp at h
  | a :: x, b :: y, 0, _, _, _, h => by
    simp only [List.getD_cons_zero] at h ⊢
    unfold cmpI
    rw [if_neg h]
  | a :: x, b :: y, k + 1, h1, h2, hj, h => by
    have h0 := hj 0 (by omega)
    simp only [List.getD_cons_zero] at h0
    simp only [List.getD_cons_succ] at h ⊢
    unfold cmpI
    rw [if_pos h0]
    exact cmpI_at x y k (by simpa using h1) (by simpa using h2) (fun j hj2 => by have := hj (j + 1) (by omega); simpa using this) h
theorem cmpI_none : ∀ (x y : List Bool), (∀ j, j < x.length → j < y.length → x.getD j false = y.getD j false) → cmpI x y = 0
  | [], _, _ => rfl
  | _ :: _, [], _ => rfl
  | a :: x, b :: y, hj => by
    have h0 := hj 0 (by simp) (by simp)
    simp only [List.getD_cons_zero] at h0
    unfold cmpI
    rw [if_pos h0]
    exact cmpI_none x y fun j h1 h2 => by have := hj (j + 1) (by simpa using h1) (by simpa using h2); simpa using this
set_option maxRecDepth 100000 in
theorem cmp1_any (a b : Bool) (w : World) : Calls Tryz.prog 232 #[.bool a, .bool b] w fun e w' => e = .returned (.int .i64 (if a = b then 0 else if b then -1 else 1)) ∧ w = w' := by
  cases a <;> cases b
  all_goals
    go_enter Tryz.func232, Tryz.ntmps232
    go_wp2_with fail
    go_ret
    exact ⟨rfl, rfl⟩
theorem Bols.at7 {w : World} {B : Nat} {A : Option Addr} {m q : Nat} {S : List Bool} (h : Bols w B (.slice A m q) S) {k : Nat} (hk : k < S.length) : ∃ b off x, Hid (S.getD k false = x) ∧ A = some ⟨b, off, none⟩ ∧ b < B ∧ S.length ≤ q ∧ w.cell? ⟨b, off + k, none⟩ = some (.bool x) := by
  obtain ⟨h1, h2, b, off, h3, h4, h5⟩ := sl_at h hk
  have h6 := h5 0 (by omega)
  rw [Nat.mul_one, Nat.add_zero] at h6
  exact ⟨b, off, _, rfl, h3, h4, by omega, h6⟩
set_option maxRecDepth 100000 in
set_option maxHeartbeats 2000000 in
theorem cmpf_any (x y : List Bool) (Ax Ay : Option Addr) (qx qy : Nat) (w : World) (hl : x.length = y.length) (h40 : x.length ≤ 1000) (hx : Bols w w.heap.size (.slice Ax x.length qx) x) (hy : Bols w w.heap.size (.slice Ay y.length qy) y) :
    Calls Tryz.prog 231 #[.slice Ax x.length qx, .slice Ay y.length qy, .func (.func 232) #[] #[]] w fun e w' => e = .returned (.int .i64 (cmpI x y)) ∧ w = w' := by
  have HX := hide hx
  have HY := hide hy
  obtain ⟨c, hc⟩ : ∃ c, cmpI x y = c := ⟨_, rfl⟩
  rw [hc]
  have HC := hide hc
  have HLL := hide hl
  clear hx hy hc hl
  go_enter Tryz.func231, Tryz.ntmps231
  go_wp2_with fail
  go_loop [7, 8, 9, 10, 13] (fun _ _ _ _ i => ∃ k : Nat, i = .int .i64 k ∧ k ≤ x.length ∧ Hid (∀ j, j < k → x.getD j false = y.getD j false)) (fun _ _ _ _ i => x.length - (intOf i).toNat)
  case atStart => exact ⟨0, rfl, Nat.zero_le _, fun j hj => absurd hj (by omega)⟩
  case round =>
    obtain ⟨k, rfl, hk, HNO⟩ := hrel
    by_cases hkl : k < x.length
    · obtain ⟨bx, ox, a, HA, rfl, hbx, hqx, ex⟩ := HX.out.at7 hkl
      obtain ⟨by1, oy, b, HB, rfl, hby, hqy, ey⟩ := HY.out.at7 (show k < y.length by have := HLL.out; omega)
      have i0 : (0 : Int) ≤ (k : Int) := by omega
      have i1 : (k : Int) < (x.length : Int) := by omega
      have i2 : (k : Int) < (y.length : Int) := by have := HLL.out; omega
      have i3 : (x.length : Int) ≤ (qx : Int) := by omega
      have i4 : (y.length : Int) ≤ (qy : Int) := by omega
      have i5 : ¬ (y.length : Int) ≤ (k : Int) := by have := HLL.out; omega
      clear hqx hqy
      by_cases hab : a = b
      · subst hab
        have hz : (if a = a then (0 : Int) else if a then -1 else 1) = 0 := by rw [if_pos rfl]
        have HZ := hide hz
        clear hz
        go_wp2_with (go_at_call 232; refine (cmp1_any _ _ _).mono ?_; rw [HZ.out]; rintro e w1 ⟨rfl, rfl⟩)
        go_round
        case rel => exact ⟨k + 1, by go_num, by omega, fun j hj => by
            rcases Nat.lt_or_ge j k with h1 | h1
            · exact HNO.out j h1
            · rw [show j = k by omega, HA.out, HB.out]⟩
        case measure => simp [intOf]; omega
      · obtain ⟨z, hz⟩ : ∃ z, (if a = b then (0 : Int) else if b then -1 else 1) = z := ⟨_, rfl⟩
        have hcz : c = z := by
          rw [← HC.out, cmpI_at x y k hkl (by have := HLL.out; omega) HNO.out (by rw [HA.out, HB.out]; exact hab), HB.out, ← hz, if_neg hab]
        have hz0 : (z != 0) = true := by
          rw [← hz, if_neg hab]
          cases b <;> simp
        subst hcz
        have HZ := hide hz
        clear hz
        go_wp2_with (go_at_call 232; refine (cmp1_any _ _ _).mono ?_; rw [HZ.out]; rintro e w1 ⟨rfl, rfl⟩)
        go_ret
        exact ⟨rfl, rfl⟩
    · have hc0 : c = 0 := by
        rw [← HC.out]
        exact cmpI_none x y fun j h1 h2 => HNO.out j (by have := HLL.out; omega)
      subst hc0
      have i1 : ¬ (k : Int) < (x.length : Int) := by omega
      have i2 : ¬ (x.length : Int) < (y.length : Int) := by have := HLL.out; omega
      go_wp2_with fail
      go_ret
      exact ⟨rfl, rfl⟩
set_option maxRecDepth 100000 in
theorem compare_any (x y : List Bool) (Ax Ay : Option Addr) (qx qy : Nat) (w : World) (hl : x.length = y.length) (h40 : x.length ≤ 1000) (hx : Bols w w.heap.size (.slice Ax x.length qx) x) (hy : Bols w w.heap.size (.slice Ay y.length qy) y) :
    Calls Tryz.prog 172 #[.slice Ax x.length qx, .slice Ay y.length qy] w fun e w' => e = .returned (.int .i64 (cmpI x y)) ∧ w = w' := by
  have hcf := cmpf_any x y Ax Ay qx qy w hl h40 hx hy
  obtain ⟨c, hc⟩ : ∃ c, cmpI x y = c := ⟨_, rfl⟩
  rw [hc] at hcf ⊢
  have HCF := hide hcf
  clear hcf hc hx hy hl
  go_enter Tryz.func172, Tryz.ntmps172
  go_wp2_with (go_at_call 231; refine HCF.out.mono ?_; rintro e w1 ⟨rfl, rfl⟩)
  go_ret
  exact ⟨rfl, rfl⟩
end Go.Proofs.YtehadoecnmfeoaaGreat
/- The wires through a run; the example of the laws: plain. -/
namespace Go.Proofs.YtehadoecnmfeoaaGreat
set_option linter.unusedVariables false
set_option linter.unusedSimpArgs false
set_option linter.unusedSectionVars false
/-- The spots of a wire's plugs. -/
def endF (l : Lo) (i : Nat) : Nat := (l.ps.getD (l.ws.getD i Wi.o).fp.toNat Pl.o).spot.toNat
def endT (l : Lo) (i : Nat) : Nat := (l.ps.getD (l.ws.getD i Wi.o).tp.toNat Pl.o).spot.toNat
def sideL (l : Lo) (run : Nat) : List Nat := stR l.rs run (l.rs.getD run (0, 0)).1 l.ss.length
def thruB (l : Lo) (run i : Nat) : Bool := decide (endF l i ∈ sideL l run) != decide (endT l i ∈ sideL l run)
def thruL (l : Lo) (run : Nat) : List Nat := (List.range l.ws.length).filter (thruB l run)
def runLen (l : Lo) (k : Nat) : Int := (l.us.getD k Ru.o).len
section
variable {l : Lo} (h : LoOk l)
include h
theorem LoOk.wi {i : Nat} (hi : i < l.ws.length) : wiOk l i = true ∧ validF l.m.opts.length (l.ws.getD i Wi.o).form = true := by
  have h1 := h.ws i hi
  unfold wiErr at h1
  by_cases h2 : wiOk l i = false
  · rw [if_pos h2] at h1; omega
  · rw [if_neg h2] at h1
    by_cases h3 : validF l.m.opts.length (l.ws.getD i Wi.o).form = false
    · rw [if_pos h3] at h1; omega
    · exact ⟨by simpa using h2, by simpa using h3⟩
theorem LoOk.pin {p c : Int} (hp : pinOk l p c = true) : 0 ≤ p ∧ p.toNat < l.ps.length ∧ 0 ≤ (l.ps.getD p.toNat Pl.o).spot ∧ (l.ps.getD p.toNat Pl.o).spot.toNat < l.ss.length := by
  unfold pinOk at hp
  simp only [Bool.and_eq_true, btw_iff] at hp
  obtain ⟨⟨h1, h2⟩, _⟩ := hp
  have h3 := h.ps p.toNat (by omega)
  unfold plOk at h3
  simp only [Bool.and_eq_true, btw_iff] at h3
  obtain ⟨⟨_, h4, h5⟩, _⟩ := h3
  exact ⟨h1, by omega, h4, by omega⟩
theorem LoOk.len {k : Nat} (hk : k < l.us.length) : 1 ≤ runLen l k ∧ runLen l k ≤ 1000000 := by
  have h1 := h.us (l.us.getD k Ru.o) (by rw [List.getD_eq_getElem?_getD, List.getElem?_eq_getElem hk]; exact List.getElem_mem hk)
  unfold Ru.ok at h1
  simp only [Bool.and_eq_true, btw_iff] at h1
  obtain ⟨⟨⟨_, h2⟩, _⟩, _⟩ := h1
  exact h2
end
end Go.Proofs.YtehadoecnmfeoaaGreat
/- Modules: their check, what is picked, an audit; plain laws. -/
namespace Go.Proofs.YtehadoecnmfeoaaGreat
set_option linter.unusedVariables false
/-- Wire k of a module: one of n, behind the one before it. -/
def wireOk (n : Nat) (ws : List Int) (k : Nat) : Bool := btw (ws.getD k 0) 0 ((n : Int) - 1) && (decide (k = 0) || decide (ws.getD (k - 1) 0 < ws.getD k 0))
def wiresB (n : Nat) (ws : List Int) : Bool := (List.range ws.length).all (wireOk n ws)
def rightB (l : Lo) (d : Md) : Bool := wiresB l.ws.length d.ws && validF l.m.opts.length d.f
/-- What Check answers. -/
def bldE (l : Lo) (ms : List Md) : Int := if l.err ≠ 0 then l.err else if (decide (60 < ms.length) || !ms.all (rightB l)) = true then 120 else 0
structure BldOkM (l : Lo) (ms : List Md) : Prop where
  lo : LoOk l
  err : l.err = 0
  n : ms.length ≤ 60
  ok : ∀ d ∈ ms, rightB l d = true
theorem bldE_ok {l : Lo} {ms : List Md} (h : bldE l ms = 0) : BldOkM l ms := by
  unfold bldE at h
  by_cases h1 : l.err = 0
  · rw [if_neg (by simp [h1])] at h
    by_cases h2 : (decide (60 < ms.length) || !ms.all (rightB l)) = true
    · rw [if_pos h2] at h; omega
    · simp only [Bool.or_eq_true, decide_eq_true_eq, Bool.not_eq_true', not_or, Bool.not_eq_false] at h2
      exact ⟨Lo.err_ok h1, h1, by omega, List.all_eq_true.1 h2.2⟩
  · rw [if_pos h1] at h
    exact absurd h h1
theorem bldE_err {l : Lo} {ms : List Md} (h : l.err ≠ 0) : bldE l ms = l.err := by unfold bldE; rw [if_pos h]
/-- How often a wire is in a module. -/
def occ (d : Md) (w : Nat) : Nat := (d.ws.filter fun x => x == (w : Int)).length
/-- What is picked for a variant; how often a wire is in it. -/
def pckB (x : List Bool) (d : Md) : Bool := evF1 (vf x) d.f
def manyN (ms : List Md) (x : List Bool) (w : Nat) : Nat := ((ms.filter (pckB x)).map fun d => occ d w).sum
/-- The first kind of defect of a wire. -/
def audK (m : Mo) (f : List Int) (fs : List (List Int)) : Nat → Option (Nat × List Bool)
  | 0 => none
  | k + 1 => match audK m f fs k with
    | some r => some r
    | none => (frstV m f fs (k + 1)).map fun x => (k + 1, x)
/-- The first defect of the first wires. -/
def audN (l : Lo) (ms : List Md) : Nat → Option (Nat × Nat × List Bool)
  | 0 => none
  | n + 1 => match audN l ms n with
    | some r => some r
    | none => (audK l.m (l.ws.getD n Wi.o).form (withL ms n) 3).map fun r => (n, r.1, r.2)
def audA (l : Lo) (ms : List Md) : Option (Nat × Nat × List Bool) := if bldE l ms = 0 then audN l ms l.ws.length else none
theorem audN_stays {l : Lo} {ms : List Md} {k n : Nat} {r : Nat × Nat × List Bool} (h : audN l ms k = some r) (hn : k ≤ n) : audN l ms n = some r := by
  induction n with
  | zero => rw [show k = 0 by omega] at h; exact h
  | succ n ih =>
    rcases Nat.lt_or_ge k (n + 1) with h1 | h1
    · show (match audN l ms n with | some r => some r | none => _) = _
      rw [ih (by omega)]
    · rw [show k = n + 1 by omega] at h; exact h
theorem audN_next {l : Lo} {ms : List Md} {k : Nat} (h : audN l ms k = none) : audN l ms (k + 1) = (audK l.m (l.ws.getD k Wi.o).form (withL ms k) 3).map fun r => (k, r.1, r.2) := by
  show (match audN l ms k with | some r => some r | none => _) = _
  rw [h]
theorem audK_stays {m : Mo} {f : List Int} {fs : List (List Int)} {k n : Nat} {r : Nat × List Bool} (h : audK m f fs k = some r) (hn : k ≤ n) : audK m f fs n = some r := by
  induction n with
  | zero => rw [show k = 0 by omega] at h; exact h
  | succ n ih =>
    rcases Nat.lt_or_ge k (n + 1) with h1 | h1
    · show (match audK m f fs n with | some r => some r | none => _) = _
      rw [ih (by omega)]
    · rw [show k = n + 1 by omega] at h; exact h
theorem audK_next {m : Mo} {f : List Int} {fs : List (List Int)} {k : Nat} (h : audK m f fs k = none) : audK m f fs (k + 1) = (frstV m f fs (k + 1)).map fun x => (k + 1, x) := by
  show (match audK m f fs k with | some r => some r | none => _) = _
  rw [h]
/-- Without a buildable variant there is no defect. -/
theorem audN_none {l : Lo} {ms : List Md} (h : allM l.m = []) : ∀ n, audN l ms n = none
  | 0 => rfl
  | n + 1 => by
    have hf : ∀ f fs k, frstV l.m f fs k = none := fun f fs k => by unfold frstV; rw [h]; rfl
    have hk : ∀ f fs k, audK l.m f fs k = none := by
      intro f fs k
      induction k with
      | zero => rfl
      | succ k ih => rw [audK_next ih, hf]; rfl
    rw [audN_next (audN_none h n), hk]
    rfl
end Go.Proofs.YtehadoecnmfeoaaGreat
/- Modules in memory. -/
namespace Go.Proofs.YtehadoecnmfeoaaGreat
open Go.Joins Go.ChangeShapes Go.WideShapes Go.ChangeAt Go.RowKit Go.Deep
set_option maxRecDepth 100000
set_option linter.unusedVariables false
set_option linter.unusedSimpArgs false
def mdC (fv gv : Value) (j : Nat) : Value :=
  match j with
  | 0 => fv
  | _ => gv
/-- A list of modules. -/
def Mods (w : World) (B : Nat) (v : Value) (l : List Md) : Prop := ∃ fv gv : Nat → Value, Sl w B 2 v l.length (fun i j => mdC (fv i) (gv i) j) ∧ ∀ i, i < l.length → Ints w B (fv i) (l.getD i Md.o).f ∧ Ints w B (gv i) (l.getD i Md.o).ws
structure SizedD (l : List Md) : Prop where
  n : l.length ≤ maxLen
  f : ∀ x ∈ l, x.f.length ≤ maxLen ∧ x.ws.length ≤ maxLen
section
variable {w w' : World} {B B' : Nat} {v : Value} {l : List Md}
theorem Mods.below (h : Mods w B v l) (hb : Below B w w') : Mods w' B v l := by
  obtain ⟨fv, gv, h1, h2⟩ := h
  exact ⟨fv, gv, Sl.below h1 hb, fun i hi => ⟨(h2 i hi).1.below hb, (h2 i hi).2.below hb⟩⟩
theorem Mods.more (h : Mods w B v l) (hB : B ≤ B') : Mods w B' v l := by
  obtain ⟨fv, gv, h1, h2⟩ := h
  exact ⟨fv, gv, Sl.more h1 hB, fun i hi => ⟨(h2 i hi).1.more hB, (h2 i hi).2.more hB⟩⟩
theorem Mods.up (h : Mods w w.heap.size v l) (hb : Below w.heap.size w w') : Mods w' w'.heap.size v l := (h.below hb).more hb.size
theorem Mods.form (h : Mods w B v l) : ∃ A q, v = .slice A l.length q := by
  obtain ⟨fv, gv, h1, _⟩ := h
  exact Sl.form h1
/-- One module. -/
theorem Mods.at {A : Option Addr} {n q : Nat} (h : Mods w B (.slice A n q) l) {k : Nat} (hk : k < l.length) : ∃ b off d Af qf Aw qw, Hid (l.getD k Md.o = d) ∧ A = some ⟨b, off, none⟩ ∧ b < B ∧ l.length ≤ q ∧ Hid (Ints w B (.slice Af d.f.length qf) d.f) ∧ Hid (Ints w B (.slice Aw d.ws.length qw) d.ws) ∧
    w.cell? ⟨b, off + k * 2, none⟩ = some (.slice Af d.f.length qf) ∧ w.cell? ⟨b, off + k * 2 + 1, none⟩ = some (.slice Aw d.ws.length qw) := by
  obtain ⟨fv, gv, hs, hf⟩ := h
  obtain ⟨h1, h2, b, off, h3, h4, h5⟩ := sl_at hs hk
  obtain ⟨h6, h7⟩ := hf k hk
  obtain ⟨Af, qf, e⟩ := Sl.form h6
  obtain ⟨Aw, qw, e2⟩ := Sl.form h7
  rw [e] at h6
  rw [e2] at h7
  have c0 := h5 0 (by omega)
  have c1 := h5 1 (by omega)
  rw [show mdC (fv k) (gv k) 0 = fv k from rfl, e] at c0
  rw [show mdC (fv k) (gv k) 1 = gv k from rfl, e2] at c1
  exact ⟨b, off, _, Af, qf, Aw, qw, rfl, h3, h4, by omega, h6, h7, c0, c1⟩
end
section
variable {H : Type} {enc : TypeId × Value → H} {W : World} {base b0 : Nat} {r : Reach} {spare : Nat → Bool} {held : Bool} {v : Value} {d : DataW H} {p : List MemPlace}
end
end Go.Proofs.YtehadoecnmfeoaaGreat
/- What is reached: walks. -/
namespace Go.Proofs.YtehadoecnmfeoaaGreat
open Go.RowKit
set_option linter.unusedVariables false
set_option linter.unusedSimpArgs false
set_option maxRecDepth 100000 in
theorem indexN_any (ns : List Nat) (s : Nat) (v : Value) (B : Nat) (w : World) (hm : ns.length ≤ maxLen) (h : Nods w B v ns) :
    Calls Tryz.prog 194 #[v, .int .i64 s] w fun e w' => e = .returned (.int .i64 (idxI (fun x => x == s) ns)) ∧ w = w' := by
  unfold maxLen at hm
  obtain ⟨A, b, off, cap, rfl, hnc, hA, hc⟩ := h
  have HC := hide hc
  have HA := hide hA
  clear hc hA
  go_enter Tryz.func194, Tryz.ntmps194
  go_wp2
  go_loop [8] (fun i => ∃ k : Nat, k ≤ ns.length ∧ i = .int .i64 k ∧ Hid (∀ j, j < k → (ns.getD j 0 == s) = false)) (fun i => ns.length - (intOf i).toNat)
  case atStart => exact ⟨0, Nat.zero_le _, rfl, fun j hj => by omega⟩
  case round =>
    obtain ⟨k, hk, rfl, hall⟩ := hrel
    by_cases hlt : k < ns.length
    · obtain ⟨rfl, hbb⟩ : A = some ⟨b, off, none⟩ ∧ b < B := by
        rcases HA.out with h | h
        · exact h
        · omega
      obtain ⟨x, hx⟩ : ∃ x, ns.getD k 0 = x := ⟨_, rfl⟩
      have c0 : w.cell? ⟨b, off + k, none⟩ = some (.int .i64 x) := by
        have h1 := HC.out k 0 hlt (by omega)
        rw [Nat.mul_one, Nat.add_zero, hx] at h1
        exact h1
      have HX := hide hx
      clear hx
      by_cases he : x = s
      · have he1 : ((s : Int) == (x : Int)) = true := by simp [he]
        have HE := hide he
        clear he
        go_wp2
        go_ret
        exact ⟨ret_int (idxI_at _ 0 ns k hall.out hlt (by rw [HX.out, HE.out]; simp)).symm, rfl⟩
      · have he1 : ((s : Int) == (x : Int)) = false := by simp; omega
        have he2 : ¬ (s : Int) = (x : Int) := by omega
        have HE := hide he
        clear he
        go_wp2
        go_round
        case rel => exact ⟨k + 1, by omega, by go_num, fun j hj => by
            rcases Nat.lt_or_ge j k with h | h
            · exact hall.out j h
            · rw [show j = k from by omega, HX.out]; simpa using HE.out⟩
        case measure => simp [intOf]; omega
    · go_wp2
      go_ret
      exact ⟨ret_int (idxI_none _ 0 ns (fun j hj => hall.out j (by omega))).symm, rfl⟩
set_option maxRecDepth 100000 in
theorem containsN_any (ns : List Nat) (s : Nat) (v : Value) (B : Nat) (w : World) (c : Bool) (hm : ns.length ≤ maxLen) (h : Nods w B v ns) (hc : decide (s ∈ ns) = c) :
    Calls Tryz.prog 123 #[v, .int .i64 s] w fun e w' => e = .returned (.bool c) ∧ w = w' := by
  have he : c = decide (0 ≤ idxI (fun x => x == s) ns) := by
    rw [idxI_any, ← hc, Bool.eq_iff_iff]
    simp
  have HE := hide he
  have H := hide h
  clear he h hc
  go_enter Tryz.func123, Tryz.ntmps123
  go_wp2_with (go_at_call 194; refine (indexN_any ns s v B _ hm H.out).mono ?_; rintro e w1 ⟨rfl, rfl⟩)
  go_ret
  exact ⟨ret_bool HE.out.symm, rfl⟩
theorem ownsNot {w : World} {b1 e1 s1 n1 g t : Nat} {v1 : Value} {x1 : List Value} {C : Array Value} (h1 : w.ownsRow b1 e1 s1 v1 n1 x1) (hg : w.heap[g]? = some (.cells C t (0, 0))) (hne : e1 ≠ t) : v1.ownBlock ≠ some g := by
  intro hb
  obtain ⟨_, ⟨rfl, _⟩ | ⟨g', cap, cur, rfl, _, q1, _⟩⟩ := h1
  · cases hb
  · injection hb with hb
    simp only at hb
    subst hb
    rw [q1] at hg
    injection hg with hg
    injection hg with _ hg
    exact hne hg
/-- A list of numbers in a row of the call's own, beside a boxed loom. -/
structure ReaS (w0 wr : World) (B lb : Nat) (A0 A1 A2 A3 A4 A5 : Option Addr) (q0 q1 q2 q3 q4 q5 : Nat) (l : Lo) (v : Value) (S : List Nat) : Prop where
  below : Below w0.heap.size w0 wr
  box : LoBox wr lb A0 A1 A2 A3 A4 A5 q0 q1 q2 q3 q4 q5 l
  own : wr.ownsRow B 3 1 v S.length (S.map fun (n : Nat) => Value.int .i64 n)
  nd : Nods wr wr.heap.size v S
  lt : w0.heap.size ≤ B ∧ B ≤ wr.heap.size
section
variable {w0 wr w' : World} {B lb : Nat} {A0 A1 A2 A3 A4 A5 : Option Addr} {q0 q1 q2 q3 q4 q5 : Nat} {l : Lo} {v v1 : Value} {S : List Nat} {m : Nat} {o : Obj}
theorem ReaS.mk' (h1 : Below w0.heap.size w0 wr) (h2 : LoBox wr lb A0 A1 A2 A3 A4 A5 q0 q1 q2 q3 q4 q5 l) (h3 : wr.ownsRow B 3 1 v S.length (S.map fun (n : Nat) => Value.int .i64 n)) (h4 : w0.heap.size ≤ B ∧ B ≤ wr.heap.size) : ReaS w0 wr B lb A0 A1 A2 A3 A4 A5 q0 q1 q2 q3 q4 q5 l v S :=
  ⟨h1, h2, h3, Nods.of_own h3, h4⟩
theorem ReaS.to (h : ReaS w0 wr B lb A0 A1 A2 A3 A4 A5 q0 q1 q2 q3 q4 q5 l v S) (hb : Below wr.heap.size wr w') : ReaS w0 w' B lb A0 A1 A2 A3 A4 A5 q0 q1 q2 q3 q4 q5 l v S :=
  ⟨Below.to h.below hb (Nat.le_refl _), box_to h.box hb, owns_below h.own hb, h.nd.up hb, h.lt.1, Nat.le_trans h.lt.2 hb.size⟩
theorem ReaS.push (h : ReaS w0 wr B lb A0 A1 A2 A3 A4 A5 q0 q1 q2 q3 q4 q5 l v S) (hown : w'.ownsRow B 3 1 v1 (S.length + 1) ((S.map fun (n : Nat) => Value.int .i64 n) ++ [.int .i64 (m : Nat)])) (hg : (wr.alloc o).grownBy w' v.ownBlock) : ReaS w0 w' B lb A0 A1 A2 A3 A4 A5 q0 q1 q2 q3 q4 q5 l v1 (S ++ [m]) := by
  have hB : Below wr.heap.size wr (wr.alloc o) := (Below.refl _ _).alloc (Nat.le_refl _) _
  have hlow : ∀ k, v.ownBlock = some k → B ≤ k := fun k hk => (h.own.lt k hk).1
  refine ReaS.mk' ?_ ?_ ?_ ⟨h.lt.1, ?_⟩
  · exact Below.grown (Below.to h.below hB (Nat.le_refl _)) hg (by have := h.below.size; simp; omega) (fun k hk => Nat.le_trans h.lt.1 (hlow k hk))
  · exact (hg.block lb (by have := box_lt h.box; simp; omega) (fun e => ownsNot h.own h.box (by decide) e.symm)).trans (box_to h.box hB)
  · rw [List.length_append, List.length_singleton, List.map_append]; exact hown
  · have := hg.size
    simp at this
    have := h.lt.2
    omega
end
end Go.Proofs.YtehadoecnmfeoaaGreat
/- Reels: the search for the first list of the fewest; plain laws. -/
namespace Go.Proofs.YtehadoecnmfeoaaGreat
set_option linter.unusedVariables false
def updL (L : Nat → Int) (r : Nat) (x : Int) : Nat → Int := fun i => if i = r then x else L i
/-- The first way to go on: pieces that are left, what is left of each reel, how many reels are begun. -/
def rlS (most : Nat) : List Int → (Nat → Int) → Nat → Option (List Nat)
  | [], _, _ => some []
  | p :: ps, L, o => (List.range most).findSome? fun r => if r ≤ o ∧ p ≤ L r then (rlS most ps (updL L r (L r - p)) (max o (r + 1))).map (fun l => r :: l) else none
/-- One try. -/
def rlT (most : Nat) (p : Int) (ps : List Int) (L : Nat → Int) (o r : Nat) : Option (List Nat) := if r ≤ o ∧ p ≤ L r then (rlS most ps (updL L r (L r - p)) (max o (r + 1))).map (fun l => r :: l) else none
theorem rlS_cons (most : Nat) (p : Int) (ps : List Int) (L : Nat → Int) (o : Nat) : rlS most (p :: ps) L o = (List.range most).findSome? (rlT most p ps L o) := rfl
theorem findSome_range {α : Type} (f : Nat → Option α) (n : Nat) : (List.range (n + 1)).findSome? f = match (List.range n).findSome? f with | some x => some x | none => f n := by
  rw [List.range_succ, List.findSome?_append]
  cases (List.range n).findSome? f with
  | some x => rfl
  | none =>
    simp only [List.findSome?_cons, List.findSome?_nil]
    cases f n <;> rfl
theorem findSome_none {α : Type} {f : Nat → Option α} {n : Nat} (h : ∀ r, r < n → f r = none) : (List.range n).findSome? f = none := by
  rw [List.findSome?_eq_none_iff]
  intro x hx
  exact h x (by simpa using hx)
theorem findSome_first {α : Type} {f : Nat → Option α} {n k : Nat} {x : α} (h : ∀ r, r < k → f r = none) (hk : f k = some x) (hn : k < n) : (List.range n).findSome? f = some x := by
  induction n with
  | zero => omega
  | succ n ih =>
    rw [findSome_range]
    rcases Nat.lt_or_ge k n with h1 | h1
    · rw [ih h1]
    · have he : k = n := by omega
      subst he
      rw [findSome_none h, hk]
/-- With a reel for each piece there is a way. -/
theorem rlS_enough {most : Nat} : ∀ (ps : List Int) {L : Nat → Int} {o : Nat}, ps.length + o ≤ most → (∀ r, o ≤ r → r < most → ∀ p ∈ ps, p ≤ L r) → (rlS most ps L o).isSome = true
  | [], _, _, _, _ => rfl
  | p :: ps, L, o, hl, h => by
    rw [rlS_cons]
    simp only [List.length_cons] at hl
    have h1 := rlS_enough (most := most) ps (L := updL L o (L o - p)) (o := max o (o + 1)) (by omega) (fun r hr hm q hq => by
      unfold updL
      rw [if_neg (by omega)]
      exact h r (by omega) hm q (by simp [hq]))
    have h2 : (rlT most p ps L o o).isSome = true := by
      unfold rlT
      rw [if_pos ⟨Nat.le_refl _, h o (Nat.le_refl _) (by omega) p (by simp)⟩]
      simpa using h1
    rw [List.findSome?_isSome_iff]
    exact ⟨o, by simp; omega, h2⟩
/-- The reels of some pieces. -/
def relL (ps : List Int) (len : Int) : List Nat := ((List.range (ps.length + 1)).findSome? fun most => rlS most ps (fun _ => len) 0).getD []
def relB (ps : List Int) (len : Int) : Bool := btw len 1 1000000 && decide (ps.length ≤ 12) && ps.all fun p => btw p 1 len
def relE (ps : List Int) (len : Int) : Int := if relB ps len = true then 0 else 121
theorem rel_some {ps : List Int} {len : Int} (h : relB ps len = true) : (rlS ps.length ps (fun _ => len) 0).isSome = true := by
  unfold relB at h
  simp only [Bool.and_eq_true] at h
  exact rlS_enough ps (by omega) fun r _ _ p hp => by
    have := List.all_eq_true.1 h.2 p hp
    rw [btw_iff] at this
    exact this.2
/-- The least number of reels. -/
theorem rel_at {ps : List Int} {len : Int} {k : Nat} {l : List Nat} (h : ∀ r, r < k → rlS r ps (fun _ => len) 0 = none) (hk : rlS k ps (fun _ => len) 0 = some l) (hn : k ≤ ps.length) : relL ps len = l := by
  unfold relL
  rw [findSome_first (f := fun most => rlS most ps (fun _ => len) 0) h hk (by omega)]
  rfl
end Go.Proofs.YtehadoecnmfeoaaGreat
/- The program's search for reels: what its closure has captured. -/
namespace Go.Proofs.YtehadoecnmfeoaaGreat
open Go.RowKit
set_option linter.unusedVariables false
set_option linter.unusedSimpArgs false
theorem ownsRow_same7 {w w' : World} {base e size n : Nat} {v : Value} {xs : List Value} (h : w.ownsRow base e size v n xs) (hs : ∀ b, v.ownBlock = some b → w'.heap[b]? = w.heap[b]?) : w'.ownsRow base e size v n xs := by
  obtain ⟨h1, h2 | ⟨g, cap, cur, rfl, h4, h5, h6⟩⟩ := h
  · exact ⟨h1, .inl h2⟩
  · exact ⟨h1, .inr ⟨g, cap, cur, rfl, h4, (hs g rfl).trans h5, h6⟩⟩
theorem Ints.at7 {w : World} {B : Nat} {A : Option Addr} {m q : Nat} {S : List Int} (h : Ints w B (.slice A m q) S) {k : Nat} (hk : k < S.length) : ∃ b off x, Hid (S.getD k 0 = x) ∧ A = some ⟨b, off, none⟩ ∧ b < B ∧ S.length ≤ q ∧ w.cell? ⟨b, off + k, none⟩ = some (.int .i64 x) := by
  obtain ⟨h1, h2, b, off, h3, h4, h5⟩ := sl_at h hk
  have h6 := h5 0 (by omega)
  rw [Nat.mul_one, Nat.add_zero] at h6
  exact ⟨b, off, _, rfl, h3, h4, by omega, h6⟩
theorem getD_mem7 {α : Type} {l : List α} {z : α} {k : Nat} (h : k < l.length) : l.getD k z ∈ l := by
  rw [List.getD_eq_getElem?_getD, List.getElem?_eq_getElem h]
  exact List.getElem_mem h
/-- Numbers as values. -/
def nvL (S : List Nat) : List Value := S.map fun (n : Nat) => Value.int .i64 n
theorem nvL_snoc (S : List Nat) (k : Nat) : nvL (S ++ [k]) = nvL S ++ [.int .i64 k] := by simp [nvL]
section
variable {w : World}
theorem own_cut {e B : Nat} {A : Option Addr} {m cap : Nat} {xs : List Value} (h : w.ownsRow B e 1 (.slice A m cap) m xs) {r : Nat} (hr : r ≤ m) : w.ownsRow B e 1 (.slice A r cap) r (xs.take r) := by
  obtain ⟨h1, ⟨h2, h3⟩ | ⟨g, cap', cur, h2, h3, h4, h5, h6, h7, h8⟩⟩ := h
  · injection h2 with e1 e2 e3
    subst e1 e3
    obtain rfl : r = 0 := by omega
    exact ⟨by simp, .inl ⟨rfl, rfl⟩⟩
  · injection h2 with e1 e2 e3
    subst e1 e3
    refine ⟨by simp; omega, .inr ⟨g, cap, cur, rfl, h3, h4, by omega, h6, h7, ?_⟩⟩
    rw [← h8, List.take_take, Nat.mul_one, Nat.mul_one, Nat.min_eq_left hr]
theorem nvL_take (S : List Nat) (a : Nat) : (nvL (S ++ [a])).take S.length = nvL S := by
  rw [nvL_snoc, List.take_append_of_le_length (by simp [nvL])]
  rw [List.take_of_length_le (by simp [nvL])]
end
/-- What is left of the twelve reels, in a block of its own. -/
def LefAt (w : World) (b t : Nat) (L : Nat → Int) : Prop := ∃ C : Array Value, w.heap[b]? = some (.cells C t (0, 0)) ∧ C.size = 12 ∧ ∀ i, i < 12 → C[i]? = some (.int .i64 (L i))
theorem LefAt.cell {w : World} {b t : Nat} {L : Nat → Int} (h : LefAt w b t L) {i : Nat} (hi : i < 12) : w.cell? ⟨b, i, none⟩ = some (.int .i64 (L i)) ∧ w.frozen? ⟨b, i, none⟩ = false ∧ b < w.heap.size := by
  obtain ⟨C, h1, _, h3⟩ := h
  exact ⟨(cellOf h1 i).trans (h3 i hi), unfrozenOf h1 i, box_lt h1⟩
theorem LefAt.of {w w' : World} {b t : Nat} {L : Nat → Int} (h : LefAt w b t L) (hb : w'.heap[b]? = w.heap[b]?) : LefAt w' b t L := by
  obtain ⟨C, h1, h2, h3⟩ := h
  exact ⟨C, hb.trans h1, h2, h3⟩
theorem LefAt.set {w : World} {b t : Nat} {L : Nat → Int} (h : LefAt w b t L) {r : Nat} (hr : r < 12) (x : Int) : LefAt (w.setCell ⟨b, r, none⟩ (.int .i64 x)) b t (updL L r x) := by
  obtain ⟨C, h1, h2, h3⟩ := h
  refine ⟨C.setIfInBounds r (.int .i64 x), setCellOf h1 _, by simpa using h2, fun i hi => ?_⟩
  rw [Array.getElem?_setIfInBounds]
  unfold updL
  by_cases e : r = i
  · subst e
    rw [if_pos rfl, if_pos rfl, if_pos (by omega)]
  · rw [if_neg e, if_neg (fun q => e q.symm)]
    exact h3 i hi
theorem LefAt.same {w : World} {b t : Nat} {L L' : Nat → Int} (h : LefAt w b t L) (hL : ∀ i, L i = L' i) : LefAt w b t L' := by
  obtain ⟨C, h1, h2, h3⟩ := h
  exact ⟨C, h1, h2, fun i hi => by rw [← hL i]; exact h3 i hi⟩
theorem updL_back (L : Nat → Int) (r : Nat) (x : Int) : ∀ i, updL (updL L r x) r (L r) i = L i := by
  intro i
  unfold updL
  by_cases e : i = r
  · subst e; simp
  · rw [if_neg e, if_neg e]
/-- The search's closure, its list and what it has captured. -/
structure RlAt (w0 w : World) (n op pp lp np : Nat) (pv : Value) (L : Nat → Int) (ov : Value) (S : List Nat) : Prop where
  below : Below w0.heap.size w0 w
  pc : w.heap[pp]? = some (.cells #[pv] 45 (0, 0))
  lf : LefAt w lp 160 L
  oc : w.heap[op]? = some (.cells #[ov] 45 (0, 0))
  nc : w.heap[np]? = some (.cells #[.func (.func 118) #[] #[.pointer (some ⟨op, 0, none⟩), .pointer (some ⟨pp, 0, none⟩), .pointer (some ⟨lp, 0, none⟩), .pointer (some ⟨np, 0, none⟩)]] 161 (0, 0))
  own : w.ownsRow n 3 1 ov S.length (nvL S)
  lo : w0.heap.size ≤ op ∧ w0.heap.size ≤ lp ∧ w0.heap.size ≤ n
  hi : op < n ∧ pp < n ∧ lp < n ∧ np < n
  ne : op ≠ pp ∧ op ≠ lp ∧ op ≠ np ∧ lp ≠ pp ∧ lp ≠ np
  sz : n ≤ w.heap.size
section
variable {w0 w w' : World} {n op pp lp np : Nat} {pv ov v1 : Value} {L : Nat → Int} {S : List Nat} {o : Obj} {a : Nat}
theorem RlAt.setL (h : RlAt w0 w n op pp lp np pv L ov S) {r : Nat} (hr : r < 12) (x : Int) : RlAt w0 (w.setCell ⟨lp, r, none⟩ (.int .i64 x)) n op pp lp np pv (updL L r x) ov S := by
  obtain ⟨n1, n2, n3, n4, n5⟩ := h.ne
  exact ⟨Below.setCell h.below h.lo.2.1 _, (Below.heap_setCell _ _ _ _ (fun e => n4 e.symm)).trans h.pc, h.lf.set hr x, (Below.heap_setCell _ _ _ _ n2).trans h.oc, (Below.heap_setCell _ _ _ _ (fun e => n5 e.symm)).trans h.nc, ownsRow_same7 h.own fun k hk => Below.heap_setCell _ _ _ _ (by have := (h.own.lt k hk).1; have := h.hi.2.2.1; show k ≠ lp; omega), h.lo, h.hi, h.ne, by simpa [World.setCell] using h.sz⟩
theorem RlAt.drew (h : RlAt w0 w n op pp lp np pv L ov S) : RlAt w0 w.drew n op pp lp np pv L ov S := ⟨Below.drew h.below, h.pc, h.lf, h.oc, h.nc, h.own, h.lo, h.hi, h.ne, h.sz⟩
theorem RlAt.same {L' : Nat → Int} (h : RlAt w0 w n op pp lp np pv L ov S) (hL : ∀ i, L i = L' i) : RlAt w0 w n op pp lp np pv L' ov S := ⟨h.below, h.pc, h.lf.same hL, h.oc, h.nc, h.own, h.lo, h.hi, h.ne, h.sz⟩
theorem RlAt.sno (h : RlAt w0 w n op pp lp np pv L ov S) (hown : w'.ownsRow n 3 1 v1 (S.length + 1) (nvL S ++ [.int .i64 a])) (hg : (w.alloc o).grownBy w' ov.ownBlock) : RlAt w0 (w'.setCell ⟨op, 0, none⟩ v1) n op pp lp np pv L v1 (S ++ [a]) := by
  obtain ⟨n1, n2, n3, n4, n5⟩ := h.ne
  obtain ⟨h1, h2, h3, h4⟩ := h.hi
  have hlow : ∀ k, k < n → ov.ownBlock ≠ some k := fun k hk e => by have := (h.own.lt k e).1; omega
  have hk : ∀ k, k < w.heap.size → k < n → w'.heap[k]? = w.heap[k]? := fun k q1 q2 => (hg.block k (by simp; omega) (fun e => hlow k q2 e.symm)).trans (Below.heap_alloc _ _ _ q1)
  have hs := hk op (box_lt h.oc) h1
  have hv1 : ∀ k, v1.ownBlock = some k → n ≤ k := fun k q => (hown.lt k q).1
  have hsz := h.below.size
  refine ⟨?_, (Below.heap_setCell _ _ _ _ (fun e => n1 e.symm)).trans ((hk pp (box_lt h.pc) h2).trans h.pc), ?_, setCellOf (hs.trans h.oc) v1, (Below.heap_setCell _ _ _ _ (fun e => n3 e.symm)).trans ((hk np (box_lt h.nc) h4).trans h.nc), ?_, h.lo, h.hi, h.ne, by have := h.sz; have := hg.size; simp at this; simp [World.setCell]; omega⟩
  · exact Below.setCell (Below.grown (h.below.alloc hsz o) hg (by simp; omega) (fun k q => by have := (h.own.lt k q).1; have := h.lo.2.2; omega)) h.lo.1 v1
  · have hlf := h.lf
    obtain ⟨C, c1, _⟩ := hlf
    exact h.lf.of ((Below.heap_setCell _ _ _ _ (fun e => n2 e.symm)).trans (hk lp (box_lt c1) h3))
  · rw [List.length_append, List.length_singleton, nvL_snoc]
    exact ownsRow_same7 hown fun k q => Below.heap_setCell _ _ _ _ (by have := hv1 k q; show k ≠ op; omega)
theorem RlAt.pop {A : Option Addr} {cap : Nat} (h : RlAt w0 w n op pp lp np pv L (.slice A (S.length + 1) cap) (S ++ [a])) : RlAt w0 (w.setCell ⟨op, 0, none⟩ (.slice A S.length cap)) n op pp lp np pv L (.slice A S.length cap) S := by
  obtain ⟨n1, n2, n3, n4, n5⟩ := h.ne
  have hc := h.own
  rw [List.length_append, List.length_singleton] at hc
  have hc := own_cut hc (r := S.length) (by omega)
  rw [nvL_take] at hc
  exact ⟨Below.setCell h.below h.lo.1 _, (Below.heap_setCell _ _ _ _ (fun e => n1 e.symm)).trans h.pc, h.lf.of (Below.heap_setCell _ _ _ _ (fun e => n2 e.symm)), setCellOf h.oc _, (Below.heap_setCell _ _ _ _ (fun e => n3 e.symm)).trans h.nc, ownsRow_same7 hc fun k q => Below.heap_setCell _ _ _ _ (by have := (hc.lt k q).1; have := h.hi.1; show k ≠ op; omega), h.lo, h.hi, h.ne, by simpa [World.setCell] using h.sz⟩
theorem RlAt.form (h : RlAt w0 w n op pp lp np pv L ov (S ++ [a])) : ∃ A cap, ov = .slice A (S.length + 1) cap ∧ (S.length : Int) + 1 ≤ (cap : Int) := by
  have h1 := h.own
  rw [List.length_append, List.length_singleton] at h1
  rcases h1.2 with ⟨h2, h3⟩ | ⟨g, cap, cur, h2, _, _, h3, _⟩
  · omega
  · exact ⟨_, cap, h2, by omega⟩
end
/-- What the search leaves. -/
def NxP (w0 : World) (n op pp lp np : Nat) (pv : Value) (L : Nat → Int) (S : List Nat) (res : Option (List Nat)) (e : Ending) (w' : World) : Prop :=
  match res with
  | some R => ∃ (ov : Value) (L' : Nat → Int), e = .returned (.bool true) ∧ RlAt w0 w' n op pp lp np pv L' ov (S ++ R)
  | none => ∃ ov : Value, e = .returned (.bool false) ∧ RlAt w0 w' n op pp lp np pv L ov S
end Go.Proofs.YtehadoecnmfeoaaGreat

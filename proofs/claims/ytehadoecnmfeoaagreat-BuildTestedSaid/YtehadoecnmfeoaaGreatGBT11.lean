/- Part 11 of this claim's texts: walks and plain laws. -/
import Derived.Test.YtehadoecnmfeoaaGreatRows
import Derived.Test.YtehadoecnmfeoaaGreatGBT10
import Derived.Test.YtehadoecnmfeoaaGreatGBT8
import Derived.Test.YtehadoecnmfeoaaGreatGBT9
import Derived.Test.YtehadoecnmfeoaaGreatGBT3
import Derived.Deep.RegionHeld3
import Derived.Deep.DrawnRows
import Derived.BigQuiet
import Derived.WalkSpells
import Derived.Lib.SliceRun
/- Holds: walk. -/
namespace Go.Proofs.YtehadoecnmfeoaaGreat
open Go.RowKit
set_option linter.unusedVariables false
set_option linter.unusedSimpArgs false
set_option maxRecDepth 100000 in
set_option maxHeartbeats 4000000 in
theorem Holds_any (m : Mo) (f : List Int) (vs : List Bool) (ov rv fv vv : Value) (w : World) (hs : SizedM m) (hl : f.length ≤ maxLen) (h : MoAt w w.heap.size ov rv m) (hf : Ints w w.heap.size fv f) (hv : Bols w w.heap.size vv vs) :
    Calls Tryz.prog 37 #[.agg #[ov, rv], fv, vv] w fun e w' => e = .returned (.tuple #[.bool (holB m f vs), .int .i64 (holE m f vs)]) ∧ Below w.heap.size w w' := by
  obtain ⟨A, cap, hov⟩ := Sl.form h.o
  obtain ⟨Ar, capr, hrv⟩ := h.r.form
  obtain ⟨Al, capl, hlv⟩ := Sl.form hf
  obtain ⟨Av, capv, hvv⟩ := Sl.form hv
  have H := hide h
  have HF := hide hf
  have HV := hide hv
  have HS := hide hs
  subst hov hrv hlv hvv
  clear h hf hv hs
  go_enter Tryz.func37, Tryz.ntmps37
  go_upto_region 1 with (fail)
  generalize hw0 : World.alloc _ _ = w0
  obtain ⟨hb0, hB0, hs0⟩ := alloc1 hw0
  clear hw0
  have HX0 : Hid (MoBox w0 w.heap.size (.slice A m.opts.length cap) (.slice Ar m.rules.length capr)) := hb0
  have HB0 := hide hB0
  have c0 := cellOf hb0 0
  have c1 := cellOf hb0 1
  have hB2 : Below w.heap.size w (w0.alloc (.cells #[.slice Al f.length capl] 46 (0, 0))) := Below.allocT hB0 (Nat.le_refl _) _
  have hX2 : MoBox (w0.alloc (.cells #[.slice Al f.length capl] 46 (0, 0))) w.heap.size (.slice A m.opts.length cap) (.slice Ar m.rules.length capr) := box_to hb0 (Below.allocT (Below.refl _ _) (Nat.le_refl _) _)
  have hck := check_any m [f] (.slice A m.opts.length cap) (.slice Ar m.rules.length capr) (.slice (some ⟨w0.heap.size, 0, none⟩) 1 1) _ HS.out (sized_one hl) (H.out.up hB2) (forms_one (heap_new _ _ _ rfl) (by simp) (HF.out.up hB2))
  have HCK := hide hck
  have HB2 := hide hB2
  have HX2 := hide hX2
  clear hb0 hB0 hs0 hck hB2 hX2
  by_cases he : m.errF [f] = 0
  · have HE := hide he
    go_upto_region 4 with (go_at_call 104; refine HCK.out.mono ?_; rw [HE.out]; rintro e w1 ⟨rfl, hB1⟩; have hbx := box_to HX2.out hB1; have d0 := cellOf hbx 0; have d1 := cellOf hbx 1; have HB1 : Hid (Below w.heap.size w w1) := Below.to HB2.out hB1 (Nat.le_refl _); clear hbx hB1 c0 c1)
    by_cases hn : vs.length = m.opts.length
    · obtain ⟨h1, h2⟩ := hol_ok he hn
      have e1 : ((vs.length : Int) != (m.opts.length : Int)) = false := by simp; omega
      have ht := holds_any f m.opts.length vs (.slice Al f.length capl) (.slice Av vs.length capv) w1 ((Mo.okF he).2 f (by simp)) (HF.out.up HB1.out) (Sl.up HV.out HB1.out) hn
      have HT := hide ht
      have H1 := hide h1
      have H2 := hide h2
      clear ht h1 h2 he hn
      go_wp2_with (go_at_call 92; refine HT.out.mono ?_; rintro e w2 ⟨rfl, hB3⟩)
      go_ret2
      exact ⟨by rw [H1.out, H2.out]; rfl, Below.to HB1.out hB3 (Nat.le_refl _)⟩
    · obtain ⟨h1, h2⟩ := hol_arg he hn
      have e1 : ((vs.length : Int) != (m.opts.length : Int)) = true := by simp; omega
      have H1 := hide h1
      have H2 := hide h2
      clear h1 h2 he hn
      go_wp2_with fail
      go_ret2
      exact ⟨by rw [H1.out, H2.out]; rfl, HB1.out⟩
  · obtain ⟨h1, h2⟩ := hol_err (vs := vs) he
    obtain ⟨z, hz⟩ : ∃ z, m.errF [f] = z := ⟨_, rfl⟩
    rw [hz] at he h1
    have hz1 : (z != 0) = true := by simpa using he
    have HZ := hide hz
    have H1 := hide h1
    have H2 := hide h2
    clear he hz h1 h2
    go_wp2_with (go_at_call 104; refine HCK.out.mono ?_; rw [HZ.out]; rintro e w1 ⟨rfl, hB1⟩)
    go_ret2
    exact ⟨by rw [H1.out, H2.out]; rfl, Below.to HB2.out hB1 (Nat.le_refl _)⟩
end Go.Proofs.YtehadoecnmfeoaaGreat
/- Buildable: walk. -/
namespace Go.Proofs.YtehadoecnmfeoaaGreat
open Go.RowKit
set_option linter.unusedVariables false
set_option linter.unusedSimpArgs false
end Go.Proofs.YtehadoecnmfeoaaGreat
/- The variants of a model in order, by number. Plain laws. -/
namespace Go.Proofs.YtehadoecnmfeoaaGreat
set_option linter.unusedVariables false
/-- The variant with a number. -/
def bitsN : Nat → Nat → List Bool
  | 0, _ => []
  | k + 1, n => decide (n / 2 ^ k % 2 = 1) :: bitsN k n
/-- The buildable ones of the first n variants. -/
def varsN (m : Mo) (n : Nat) : List (List Bool) := ((List.range n).map (bitsN m.opts.length)).filter fun x => allF (vf x) m.rules
/-- The buildable variants. -/
def allM (m : Mo) : List (List Bool) := (exts m.opts.length []).filter fun x => allF (vf x) m.rules
theorem satM_all (m : Mo) (p : (Nat → Bool) → Bool) : satM m p = (allM m).filter fun x => p (vf x) := by
  unfold satM allM
  rw [List.filter_filter]
  exact List.filter_congr fun x _ => by rw [Bool.and_comm]
theorem satM_true (m : Mo) : satM m (fun _ => true) = allM m := by
  unfold satM allM
  exact List.filter_congr fun x _ => by simp
/-- Those of some variants in which a formula holds. -/
def whereF (l : List (List Bool)) (f : List Int) : List (List Bool) := l.filter fun x => evF1 (vf x) f
end Go.Proofs.YtehadoecnmfeoaaGreat
/- Lists of rows in memory, and a list of rows that is being made. -/
namespace Go.Proofs.YtehadoecnmfeoaaGreat
open Go.RowKit
set_option linter.unusedVariables false
set_option linter.unusedSimpArgs false
section
variable {α : Type} (enc : α → Value) (z : α)
/-- The slice v holds the list l, below block B. -/
def GRow (w : World) (B : Nat) (v : Value) (l : List α) : Prop := Sl w B 1 v l.length (fun j _ => enc (l.getD j z))
/-- The slice v holds rows, below block B. -/
def GRows (w : World) (B : Nat) (v : Value) (L : List (List α)) : Prop := ∃ fv : Nat → Value, Sl w B 1 v L.length (fun i _ => fv i) ∧ ∀ i, i < L.length → GRow enc z w B (fv i) (L.getD i [])
/-- A list of rows that is being made: its own block lies from block B on, no row lies in it, and none in X. -/
structure GS (e : Nat) (X : Nat → Prop) (B : Nat) (w : World) (sv : Value) (L : List (List α)) (vs : List Value) : Prop where
  len : vs.length = L.length
  own : w.ownsRow B e 1 sv L.length vs
  nx : ∀ b, sv.ownBlock = some b → ¬ X b
  row : ∀ i, i < L.length → GRow enc z w w.heap.size (vs.getD i undef) (L.getD i [])
  ap : ∀ i, i < L.length → 0 < (L.getD i []).length → ∀ b, (vs.getD i undef).ownBlock = some b → ¬ X b ∧ sv.ownBlock ≠ some b
def GStk (e : Nat) (X : Nat → Prop) (B : Nat) (w : World) (sv : Value) (L : List (List α)) : Prop := ∃ vs, GS enc z e X B w sv L vs
variable {enc z}
end
/-- Variants. -/
abbrev Vars (w : World) (B : Nat) (v : Value) (L : List (List Bool)) : Prop := GRows Value.bool false w B v L
abbrev VStk (X : Nat → Prop) (B : Nat) (w : World) (sv : Value) (L : List (List Bool)) : Prop := GStk Value.bool false 35 X B w sv L
theorem infoForm : (Tryz.prog.info? 46).map (fun i => (i.zero, i.size, i.bytes)) = some (some (.slice none 0 0), 1, 24) := by kernel_rfl
end Go.Proofs.YtehadoecnmfeoaaGreat
/- The variant with a number: walk. -/
namespace Go.Proofs.YtehadoecnmfeoaaGreat
open Go.RowKit
set_option linter.unusedVariables false
set_option linter.unusedSimpArgs false
end Go.Proofs.YtehadoecnmfeoaaGreat
/- All buildable variants, and those in which a formula holds, as the elder program has them: walks. -/
namespace Go.Proofs.YtehadoecnmfeoaaGreat
open Go.RowKit
set_option linter.unusedVariables false
set_option linter.unusedSimpArgs false
end Go.Proofs.YtehadoecnmfeoaaGreat
/- Those of some variants in which a formula holds, as the elder program has them: walk. -/
namespace Go.Proofs.YtehadoecnmfeoaaGreat
open Go.RowKit
set_option linter.unusedVariables false
set_option linter.unusedSimpArgs false
end Go.Proofs.YtehadoecnmfeoaaGreat
/- Count and List as the elder program has them: walks. -/
namespace Go.Proofs.YtehadoecnmfeoaaGreat
open Go.RowKit
set_option linter.unusedVariables false
set_option linter.unusedSimpArgs false
/-- What Count returns. -/
def cntE (m : Mo) (f : List Int) : Nat := if m.errF [f] ≠ 0 then 0 else (whereF (allM m) f).length
end Go.Proofs.YtehadoecnmfeoaaGreat
/- List as the elder program has it: walk. -/
namespace Go.Proofs.YtehadoecnmfeoaaGreat
open Go.RowKit
set_option linter.unusedVariables false
set_option linter.unusedSimpArgs false
/-- What List returns. -/
def lisE (m : Mo) (f : List Int) (most : Int) : Int := if m.errF [f] ≠ 0 then m.errF [f] else if most < 1 ∨ 64 < most then 1 else 0
def lisL (m : Mo) (f : List Int) (most : Int) : List (List Bool) := if lisE m f most = 0 then (whereF (allM m) f).take most.toNat else []
/-- A list of variants and an error. -/
def ListP (L : List (List Bool)) (x : Int) (w : World) (e : Ending) (w' : World) : Prop := ∃ v, e = .returned (.tuple #[v, .int .i64 x]) ∧ Vars w' w'.heap.size v L ∧ Below w.heap.size w w'
end Go.Proofs.YtehadoecnmfeoaaGreat
/- The model of the examples; equal variants: walks. -/
namespace Go.Proofs.YtehadoecnmfeoaaGreat
open Go.RowKit
set_option linter.unusedVariables false
set_option linter.unusedSimpArgs false
theorem results_cell1 {P : Program} {fn : Func} {p : Tmp} {ty : TypeId} (h : fn.results = #[.cell p ty]) (tmps : Array Value) (w : World) :
    (results fn tmps).run P w = ((asAddr (tmps.getD p undef)).run P w).andThen fun a w₁ => (loadVar ty a).run P w₁ := by
  simp only [results, h]
  simp [Sem.run_bind, Result.andThen]
  try (congr; done)
theorem sl_box {w : World} {b B n t : Nat} {C : Array Value} {f : Nat → Nat → Value} (hb : w.heap[b]? = some (.cells C t (0, 0))) (hB : b < B) (h : ∀ i, i < n → C[i]? = some (f i 0)) : Sl w B 1 (.slice (some ⟨b, 0, none⟩) n n) n f :=
  ⟨_, b, 0, n, rfl, Nat.le_refl _, .inl ⟨rfl, hB⟩, fun i j hi hj => by
    obtain rfl : j = 0 := by omega
    rw [Nat.mul_one, Nat.add_zero, Nat.zero_add, cellOf hb]
    exact h i hi⟩
theorem ints_box {w : World} {b B t : Nat} {l : List Int} (hb : w.heap[b]? = some (.cells (l.map (Value.int .i64)).toArray t (0, 0))) (hB : b < B) : Ints w B (.slice (some ⟨b, 0, none⟩) l.length l.length) l :=
  sl_box hb hB fun i hi => by simp [hi]
theorem names_box {w : World} {b B t : Nat} {l : List ByteArray} (hb : w.heap[b]? = some (.cells (l.map Value.string).toArray t (0, 0))) (hB : b < B) : Names w B (.slice (some ⟨b, 0, none⟩) l.length l.length) l :=
  sl_box hb hB fun i hi => by simp [hi]
theorem bols_box {w : World} {b B t : Nat} {l : List Bool} (hb : w.heap[b]? = some (.cells (l.map Value.bool).toArray t (0, 0))) (hB : b < B) : Bols w B (.slice (some ⟨b, 0, none⟩) l.length l.length) l :=
  sl_box hb hB fun i hi => by simp [hi]
/-- The model of the examples. -/
def exM : Mo := ⟨[⟨#[116, 111, 119]⟩, ⟨#[104, 101, 97, 116]⟩, ⟨#[108, 101, 100]⟩], [[-5, 1, 2], [-3, -4, 0, 2]]⟩
set_option maxRecDepth 100000 in
set_option maxHeartbeats 1000000 in
theorem SameVariant_any (a b : List Bool) (u v : Value) (w : World) (ha : Bols w w.heap.size u a) (hb : Bols w w.heap.size v b) (hal : a.length ≤ 1000) (hbl : b.length ≤ maxLen) :
    Calls Tryz.prog 41 #[u, v] w fun e w' => e = .returned (.bool (decide (a = b))) ∧ Below w.heap.size w w' := by
  obtain ⟨A, b0, off, cap, rfl, hnc, hA, hc⟩ := ha
  obtain ⟨A', b1, off1, cap1, rfl, hnc1, hA1, hc1⟩ := hb
  unfold maxLen at hbl
  by_cases hl : a.length = b.length
  · have hl1 : ((a.length : Int) != (b.length : Int)) = false := by simp [hl]
    have HL := hide hl
    have HC := hide hc
    have HC1 := hide hc1
    have HA := hide hA
    have HA1 := hide hA1
    clear hl hc hc1 hA hA1
    go_enter Tryz.func41, Tryz.ntmps41
    go_wp2
    go_loopw [5] (fun i wr => ∃ k : Nat, k ≤ a.length ∧ i = .int .i64 k ∧ Hid (∀ j, j < k → a.getD j false = b.getD j false) ∧ Below w.heap.size w wr) (fun i _ => a.length - (intOf i).toNat)
    case atStart => exact ⟨0, Nat.zero_le _, rfl, fun j hj => by omega, Below.refl _ _⟩
    case round =>
      obtain ⟨k, hk, rfl, hall, hB⟩ := hrel
      by_cases hkl : k < a.length
      · have hkb : k < b.length := by have := HL.out; omega
        obtain ⟨rfl, hbb⟩ : A = some ⟨b0, off, none⟩ ∧ b0 < w.heap.size := by
          rcases HA.out with h | h
          · exact h
          · omega
        obtain ⟨rfl, hbb1⟩ : A' = some ⟨b1, off1, none⟩ ∧ b1 < w.heap.size := by
          rcases HA1.out with h | h
          · exact h
          · omega
        obtain ⟨x, hx⟩ : ∃ x, a.getD k false = x := ⟨_, rfl⟩
        obtain ⟨y, hy⟩ : ∃ y, b.getD k false = y := ⟨_, rfl⟩
        have c0 : wr.cell? ⟨b0, off + k, none⟩ = some (.bool x) := by
          have h1 := HC.out k 0 hkl (by omega)
          rw [Nat.mul_one, Nat.add_zero, hx] at h1
          exact (hB.cell (p := ⟨b0, off + k, none⟩) hbb).trans h1
        have c1 : wr.cell? ⟨b1, off1 + k, none⟩ = some (.bool y) := by
          have h1 := HC1.out k 0 hkb (by omega)
          rw [Nat.mul_one, Nat.add_zero, hy] at h1
          exact (hB.cell (p := ⟨b1, off1 + k, none⟩) hbb1).trans h1
        have hsz := hB.size
        have l0 : b0 < wr.heap.size := by omega
        have l1 : b1 < wr.heap.size := by omega
        have j0 : (0 : Int) ≤ (k : Int) := by omega
        have j1 : (k : Int) < (a.length : Int) := by omega
        have j2 : (k : Int) < (b.length : Int) := by omega
        have HXY := hide (And.intro hx hy)
        clear hx hy
        by_cases hxy : x = y
        · have hne : (!(x == y)) = false := by simp [hxy]
          have HE := hide hxy
          clear hxy
          go_wp2_with fail
          refine wp_region_held_drew (S := (fun w' => Below wr.heap.size wr w')) (by kernel_rfl) ?_ (fun hHeld => ?_)
          · try dsimp only
            exact (by repeat (first | exact Below.refl _ _ | assumption | refine Below.drew ?_ | refine Below.drewN ?_ _ | refine Below.allocT ?_ (Nat.le_refl _) _ | refine Below.setCell ?_ (by simp <;> omega) _ | refine Below.to ?_ (by assumption) (Nat.le_refl _)))
          refine zT 0 rfl ?_
          refine zT 1 rfl ?_
          refine zT 2 rfl ?_
          refine zT 3 rfl ?_
          refine zT 4 rfl ?_
          refine zT 5 rfl ?_
          refine zT 6 rfl ?_
          refine zT 7 rfl ?_
          refine zT 8 rfl ?_
          refine wpAnyH_done (by kernel_rfl) ?_ _
          go_wp2_with fail
          go_roundw
          case rel => exact ⟨k + 1, by omega, by go_num, fun j hj => by
              rcases Nat.lt_or_ge j k with h | h
              · exact hall.out j h
              · rw [show j = k from by omega, HXY.out.1, HXY.out.2, HE.out], Below.to hB hHeld (Nat.le_refl _)⟩
          case measure => simp [intOf]; omega
        · have hne : (!(x == y)) = true := by simpa using hxy
          have HE := hide hxy
          clear hxy
          go_wp2_with fail
          refine wp_region_held_drew (S := (fun w' => Below wr.heap.size wr w')) (by kernel_rfl) ?_ (fun hHeld => ?_)
          · try dsimp only
            exact (by repeat (first | exact Below.refl _ _ | assumption | refine Below.drew ?_ | refine Below.drewN ?_ _ | refine Below.allocT ?_ (Nat.le_refl _) _ | refine Below.setCell ?_ (by simp <;> omega) _ | refine Below.to ?_ (by assumption) (Nat.le_refl _)))
          refine zT 0 rfl ?_
          refine zT 1 rfl ?_
          refine zT 2 rfl ?_
          refine zT 3 rfl ?_
          refine zT 4 rfl ?_
          refine zT 5 rfl ?_
          refine zT 6 rfl ?_
          refine zT 7 rfl ?_
          refine zT 8 rfl ?_
          refine wpAnyH_done (by kernel_rfl) ?_ _
          go_wp2_with fail
          go_ret
          refine ⟨ret_bool (Eq.symm (decide_eq_false fun e => HE.out ?_)), (by repeat (first | exact Below.refl _ _ | assumption | refine Below.drew ?_ | refine Below.drewN ?_ _ | refine Below.allocT ?_ (Nat.le_refl _) _ | refine Below.setCell ?_ (by simp <;> omega) _ | refine Below.to ?_ (by assumption) (Nat.le_refl _)))⟩
          rw [← HXY.out.1, ← HXY.out.2, e]
      · obtain rfl : k = a.length := by omega
        go_wp2
        go_ret
        refine ⟨ret_bool (Eq.symm (decide_eq_true ?_)), hB⟩
        apply List.ext_getElem HL.out
        intro i h1 h2
        have := hall.out i h1
        simpa [List.getD_eq_getElem?_getD, h1, h2] using this
  · have hl1 : ((a.length : Int) != (b.length : Int)) = true := by simp; omega
    have HL := hide hl
    clear hl hc hc1 hA hA1
    go_enter Tryz.func41, Tryz.ntmps41
    go_wp2
    go_ret
    exact ⟨ret_bool (Eq.symm (decide_eq_false fun e => HL.out (by rw [e]))), (by repeat (first | exact Below.refl _ _ | assumption | refine Below.drew ?_ | refine Below.drewN ?_ _ | refine Below.allocT ?_ (Nat.le_refl _) _ | refine Below.setCell ?_ (by simp <;> omega) _ | refine Below.to ?_ (by assumption) (Nat.le_refl _)))⟩
end Go.Proofs.YtehadoecnmfeoaaGreat
/- The examples of the laws: walk. -/
namespace Go.Proofs.YtehadoecnmfeoaaGreat
open Go.RowKit
set_option linter.unusedVariables false
set_option linter.unusedSimpArgs false
end Go.Proofs.YtehadoecnmfeoaaGreat
/- Whether two lists of variants are equal; a copy of a variant: walks. -/
namespace Go.Proofs.YtehadoecnmfeoaaGreat
open Go.RowKit
set_option linter.unusedVariables false
set_option linter.unusedSimpArgs false
end Go.Proofs.YtehadoecnmfeoaaGreat
/- A copy of a variant: walk. -/
namespace Go.Proofs.YtehadoecnmfeoaaGreat
open Go.RowKit
set_option linter.unusedVariables false
set_option linter.unusedSimpArgs false
end Go.Proofs.YtehadoecnmfeoaaGreat
/- The first variants in which a node holds: walk. -/
namespace Go.Proofs.YtehadoecnmfeoaaGreat
open Go.RowKit
set_option linter.unusedVariables false
set_option linter.unusedSimpArgs false
/-- What list leaves. -/
def ListR (F : Fo) (B : Nat) (L' : List (List Bool)) (out : Value) (w : World) (e : Ending) (w' : World) : Prop :=
  ∃ v', e = .returned v' ∧ VStk (SF F) B w' v' L' ∧ Keeps (fun k => out.ownBlock = some k) w w' ∧ (v'.ownBlock = out.ownBlock ∨ ∀ k, v'.ownBlock = some k → w.heap.size ≤ k)
/-- What has been listed when k of the two ways have been gone. -/
def lstK (ks : List Kn) (N n : Nat) (l : List Bool) (k : Nat) : List (List Bool) := if k = 0 then [] else if k = 1 then sat ks N n (l ++ [false]) else sat ks N n l
end Go.Proofs.YtehadoecnmfeoaaGreat
/- List: walk. -/
namespace Go.Proofs.YtehadoecnmfeoaaGreat
open Go.RowKit
set_option linter.unusedVariables false
set_option linter.unusedSimpArgs false
end Go.Proofs.YtehadoecnmfeoaaGreat
/- How large a model is; Count in one: walks. -/
namespace Go.Proofs.YtehadoecnmfeoaaGreat
open Go.RowKit
set_option linter.unusedVariables false
set_option linter.unusedSimpArgs false
/-- Whether a model has more than a statement looks at. -/
def largeB (m : Mo) : Bool := (decide (9 < m.opts.length) && decide (m.opts.length ≤ 40)) || (decide (12 < m.rules.length) && decide (m.rules.length ≤ 60))
set_option maxRecDepth 100000 in
set_option maxHeartbeats 2000000 in
theorem Large_any (m : Mo) (ov rv : Value) (w : World) (h : MoAt w w.heap.size ov rv m) :
    Calls Tryz.prog 51 #[.agg #[ov, rv]] w fun e w' => e = .returned (.bool (largeB m)) ∧ Below w.heap.size w w' := by
  obtain ⟨A, cap, hov⟩ := Sl.form h.o
  obtain ⟨Ar, capr, hrv⟩ := h.r.form
  subst hov hrv
  clear h
  by_cases h1 : (9 : Int) < (m.opts.length : Int)
  · by_cases h2 : (m.opts.length : Int) ≤ 40
    · have hr : largeB m = true := by simp [largeB]; omega
      have HR := hide hr
      clear hr
      go_enter Tryz.func51, Tryz.ntmps51
      go_wp2_with fail
      go_ret
      exact ⟨ret_bool HR.out.symm, (by repeat (first | exact Below.refl _ _ | assumption | refine Below.drew ?_ | refine Below.drewN ?_ _ | refine Below.allocT ?_ (Nat.le_refl _) _ | refine Below.setCell ?_ (by simp <;> omega) _ | refine Below.to ?_ (by assumption) (Nat.le_refl _)))⟩
    · by_cases h3 : (12 : Int) < (m.rules.length : Int)
      · have hr : largeB m = decide ((m.rules.length : Int) ≤ 60) := by
          unfold largeB
          rw [show decide (m.opts.length ≤ 40) = false from decide_eq_false (by omega), show decide (12 < m.rules.length) = true from decide_eq_true (by omega), Bool.and_false, Bool.false_or, Bool.true_and]
          exact decide_eq_decide.2 (by omega)
        have HR := hide hr
        clear hr
        go_enter Tryz.func51, Tryz.ntmps51
        go_wp2_with fail
        go_ret
        exact ⟨ret_bool HR.out.symm, (by repeat (first | exact Below.refl _ _ | assumption | refine Below.drew ?_ | refine Below.drewN ?_ _ | refine Below.allocT ?_ (Nat.le_refl _) _ | refine Below.setCell ?_ (by simp <;> omega) _ | refine Below.to ?_ (by assumption) (Nat.le_refl _)))⟩
      · have hr : largeB m = false := by simp [largeB]; omega
        have HR := hide hr
        clear hr
        go_enter Tryz.func51, Tryz.ntmps51
        go_wp2_with fail
        go_ret
        exact ⟨ret_bool HR.out.symm, (by repeat (first | exact Below.refl _ _ | assumption | refine Below.drew ?_ | refine Below.drewN ?_ _ | refine Below.allocT ?_ (Nat.le_refl _) _ | refine Below.setCell ?_ (by simp <;> omega) _ | refine Below.to ?_ (by assumption) (Nat.le_refl _)))⟩
  · by_cases h3 : (12 : Int) < (m.rules.length : Int)
    · have hr : largeB m = decide ((m.rules.length : Int) ≤ 60) := by
        unfold largeB
        rw [show decide (9 < m.opts.length) = false from decide_eq_false (by omega), show decide (12 < m.rules.length) = true from decide_eq_true (by omega), Bool.false_and, Bool.false_or, Bool.true_and]
        exact decide_eq_decide.2 (by omega)
      have HR := hide hr
      clear hr
      go_enter Tryz.func51, Tryz.ntmps51
      go_wp2_with fail
      go_ret
      exact ⟨ret_bool HR.out.symm, (by repeat (first | exact Below.refl _ _ | assumption | refine Below.drew ?_ | refine Below.drewN ?_ _ | refine Below.allocT ?_ (Nat.le_refl _) _ | refine Below.setCell ?_ (by simp <;> omega) _ | refine Below.to ?_ (by assumption) (Nat.le_refl _)))⟩
    · have hr : largeB m = false := by simp [largeB]; omega
      have HR := hide hr
      clear hr
      go_enter Tryz.func51, Tryz.ntmps51
      go_wp2_with fail
      go_ret
      exact ⟨ret_bool HR.out.symm, (by repeat (first | exact Below.refl _ _ | assumption | refine Below.drew ?_ | refine Below.drewN ?_ _ | refine Below.allocT ?_ (Nat.le_refl _) _ | refine Below.setCell ?_ (by simp <;> omega) _ | refine Below.to ?_ (by assumption) (Nat.le_refl _)))⟩
end Go.Proofs.YtehadoecnmfeoaaGreat
/- The errors of a model and a list of formulas, as the elder program has them: walk. -/
namespace Go.Proofs.YtehadoecnmfeoaaGreat
open Go.RowKit
set_option linter.unusedVariables false
set_option linter.unusedSimpArgs false
/-- The error of a model and a list of formulas. -/
def frmE (m : Mo) (l : List (List Int)) : Int := if m.err ≠ 0 then m.err else if 200 < l.length then 2 else if l.all (validF m.opts.length) = false then 11 else 0
theorem frm_rest {m : Mo} {l : List (List Int)} (h : m.err = 0) (h2 : l.length ≤ 200) : frmE m l = m.errF l := by unfold frmE; rw [if_neg (by simp [h]), if_neg (by omega), Mo.errF_ok h]
end Go.Proofs.YtehadoecnmfeoaaGreat
/- The first variant of the greatest sum, found by going through all. Plain laws. -/
namespace Go.Proofs.YtehadoecnmfeoaaGreat
set_option linter.unusedVariables false
/-- What has been found of the greatest sum when k variants have been gone through. -/
def FirstMax (vals : Nat → Int) (k : Nat) (best at_ : Int) : Prop :=
  (k = 0 ∧ best = 0 ∧ at_ = -1) ∨ ∃ a : Nat, at_ = a ∧ a < k ∧ vals a = best ∧ (∀ j, j < k → vals j ≤ best) ∧ ∀ j, j < a → vals j < best
end Go.Proofs.YtehadoecnmfeoaaGreat
/- The order of variants. Plain laws. -/
namespace Go.Proofs.YtehadoecnmfeoaaGreat
set_option linter.unusedVariables false
/-- Whether a variant comes before another one. -/
def befB : List Bool → List Bool → Bool
  | a :: x, b :: y => if a = b then befB x y else b
  | _, _ => false
theorem befB_self : ∀ x, befB x x = false
  | [] => rfl
  | a :: x => by simp [befB, befB_self x]
theorem befB_asym : ∀ x y, befB x y = true → befB y x = false
  | [], _, h => by simp [befB] at h
  | _ :: _, [], h => by simp [befB] at h
  | a :: x, b :: y, h => by
    unfold befB at h ⊢
    by_cases hab : a = b
    · rw [if_pos hab] at h
      rw [if_pos hab.symm]
      exact befB_asym x y h
    · rw [if_neg hab] at h
      rw [if_neg (fun e => hab e.symm)]
      cases a <;> cases b <;> simp_all
theorem befB_app (l : List Bool) : ∀ x y, befB (l ++ x) (l ++ y) = befB x y := by
  intro x y
  induction l with
  | nil => rfl
  | cons a l ih => simp only [List.cons_append, befB, if_true, ih]
theorem exts_sorted : ∀ (k : Nat) (l : List Bool), (exts k l).Pairwise fun x y => befB x y = true
  | 0, l => by simp [exts]
  | k + 1, l => by
    have h1 : exts (k + 1) l = exts k (l ++ [false]) ++ exts k (l ++ [true]) := rfl
    rw [h1, List.pairwise_append]
    refine ⟨exts_sorted k _, exts_sorted k _, fun x hx y hy => ?_⟩
    obtain ⟨x', rfl, _⟩ := exts_prefix hx
    obtain ⟨y', rfl, _⟩ := exts_prefix hy
    rw [List.append_assoc, List.append_assoc, befB_app]
    rfl
theorem allM_sorted (m : Mo) : (allM m).Pairwise fun x y => befB x y = true := (exts_sorted _ _).filter _
end Go.Proofs.YtehadoecnmfeoaaGreat
/- The first variant in which a node holds. Plain laws. -/
namespace Go.Proofs.YtehadoecnmfeoaaGreat
set_option linter.unusedVariables false
structure HeadI (ks : List Kn) (N n : Nat) (l : List Bool) (m : Nat) : Prop where
  head : (sat ks N n []).head? = (sat ks N m l).head?
  ne : m ≠ 0
  lt : m < ks.length
  top : l.length ≤ topK ks m
theorem HeadI.start {ks : List Kn} {N n : Nat} (hn : n < ks.length) (h0 : n ≠ 0) : HeadI ks N n [] n := ⟨rfl, h0, hn, Nat.zero_le _⟩
theorem HeadI.next {ks : List Kn} {N n m : Nat} {l : List Bool} (hw : WF N ks) (h : HeadI ks N n l m) (hl : l.length < N) : HeadI ks N n (l ++ [decide (brK ks m l.length false = 0)]) (brK ks m l.length (decide (brK ks m l.length false = 0))) := by
  have hst := sat_step hw h.lt hl
  have hne := sat_ne hw h.lt h.ne h.top
  by_cases h0 : brK ks m l.length false = 0
  · have hd : decide (brK ks m l.length false = 0) = true := decide_eq_true h0
    rw [hd]
    rw [h0, sat_zero, List.nil_append] at hst
    refine ⟨h.head.trans (by rw [hst]), fun e => ?_, brK_lt hw h.lt hl, ?_⟩
    · rw [e, sat_zero] at hst
      exact hne hst
    · rw [List.length_append]; exact brK_top hw h.lt hl h.top
  · have hd : decide (brK ks m l.length false = 0) = false := decide_eq_false h0
    rw [hd]
    have hb := brK_lt hw (b := false) h.lt hl
    have htop : (l ++ [false]).length ≤ topK ks (brK ks m l.length false) := by rw [List.length_append]; exact brK_top hw h.lt hl h.top
    refine ⟨h.head.trans ?_, h0, hb, htop⟩
    rw [hst]
    have h5 := sat_ne hw hb h0 htop
    match sat ks N (brK ks m l.length false) (l ++ [false]), h5 with
    | [], h5 => exact absurd rfl h5
    | x :: r, _ => rfl
theorem HeadI.finish {ks : List Kn} {N n m : Nat} {l : List Bool} (hw : WF N ks) (h : HeadI ks N n l m) (hl : l.length = N) : (sat ks N n []).head? = some l := by
  have h1 : m = 1 := by
    rcases Nat.lt_or_ge m 2 with h2 | h2
    · have := h.ne; omega
    · have h3 := hw.opt m h2 h.lt
      have h4 := h.top
      omega
  rw [h.head, h1, sat_one, hl, Nat.sub_self]
  rfl
end Go.Proofs.YtehadoecnmfeoaaGreat
/- The first variant in which a node holds: walk. -/
namespace Go.Proofs.YtehadoecnmfeoaaGreat
open Go.RowKit
set_option linter.unusedVariables false
set_option linter.unusedSimpArgs false
set_option maxRecDepth 100000 in
theorem firstNo_any (F : Fo) (w : World) :
    Calls Tryz.prog 122 #[.pointer (some ⟨F.p, 0, none⟩), .int .i64 0] w fun e w' => e = .returned (.slice none 0 0) ∧ w = w' := by
  go_enter Tryz.func122, Tryz.ntmps122
  go_wp2_with fail
  go_ret
  exact ⟨rfl, rfl⟩
def FirR (F : Fo) (n : Nat) (w : World) (e : Ending) (w' : World) : Prop := ∃ x : List Bool, e = .returned (.slice (some ⟨w.heap.size, 0, none⟩) F.N F.N) ∧ VarAt w' w.heap.size F.N x ∧ x.length = F.N ∧ (sat F.ks F.N n []).head? = some x ∧ Below w.heap.size w w'
set_option maxRecDepth 100000 in
set_option maxHeartbeats 4000000 in
theorem firstYes_any (F : Fo) (n : Nat) (w : World) (h : FoAt w F) (hn : n < F.ks.length) (h0 : n ≠ 0) (hN : F.N ≤ 12) :
    Calls Tryz.prog 122 #[.pointer (some ⟨F.p, 0, none⟩), .int .i64 n] w (FirR F n w) := by
  obtain ⟨i1, hi1, jz0, jz1, jz2⟩ := info_parts infoBool
  have hmk : ∀ W : World, (Instr.makeSlice 35 (.int .i64 F.N) (.int .i64 F.N)).run Tryz.prog W = .ok (.slice (some ⟨W.heap.size, 0, none⟩) F.N F.N) (W.alloc (.cells (madeCells #[.bool false] (F.N * 1)) 4)) := fun W => by
    have h1 := run_make (P := Tryz.prog) W 35 4 i1 (.bool false) Tryz.underlying35 hi1 jz0 .i64 .i64 F.N F.N (by omega) (Int.le_refl _) (by rw [jz2]; omega) (by omega)
    rw [jz1] at h1
    simpa [Value.cells] using h1
  have d0 := h.cellN
  have h01 : ((n : Int) == 0) = false := by simp; omega
  have HS := hide (HeadI.start (N := F.N) hn h0)
  have H := hide h
  clear h hn h0
  go_enter Tryz.func122, Tryz.ntmps122
  go_wp2_with fail
  generalize hw0 : World.alloc _ _ = w0
  obtain ⟨hb0, hB0, hs0⟩ := alloc1 hw0
  clear hw0
  have hva : VarAt w0 w.heap.size F.N [] := by
    unfold VarAt
    rw [hb0, made_bools]
    rfl
  have HVA := hide hva
  have HB0 := hide hB0
  clear hb0 hB0 hs0 hva hmk
  go_loopw [1, 16] (fun nv i wr => ∃ (k : Nat) (l : List Bool) (m : Nat), k ≤ F.N ∧ l.length = k ∧ i = .int .i64 k ∧ nv = .int .i64 m ∧ Hid (HeadI F.ks F.N n l m) ∧ Hid (VarAt wr w.heap.size F.N l) ∧ Hid (Below w.heap.size w wr)) (fun _ i _ => F.N - (intOf i).toNat)
  case atStart => exact ⟨0, [], n, Nat.zero_le _, rfl, rfl, rfl, HS.out, HVA.out, HB0.out⟩
  case round =>
    obtain ⟨k, l, m, hk, hll, rfl, rfl, hI, hV, hB⟩ := hrel
    by_cases hlt : k < F.N
    · have hF := H.out.below hB.out
      have e0 := hF.cellN
      have hb1 := branch_any F m k false wr hF hI.out.lt
      have HF := hide hF
      have hnx := hI.out.next hF.wf (by omega)
      rw [hll] at hnx
      obtain ⟨c, hc⟩ : ∃ c, brK F.ks m k false = c := ⟨_, rfl⟩
      obtain ⟨b, hb⟩ : ∃ b, decide (c = 0) = b := ⟨_, rfl⟩
      rw [hc, hb] at hnx
      rw [hc] at hb1
      have hcb : ((c : Int) == 0) = b := by
        rw [← hb]
        by_cases h0 : c = 0
        · simp [h0]
        · simp [h0]
      have HB1 := hide hb1
      have HNX := hide hnx
      have HLL := hide hll
      have j0 : (k : Int) < (F.N : Int) := by omega
      have v0 : wr.cell? ⟨w.heap.size, k, none⟩ = some (.bool false) := by rw [← hll]; exact hV.out.cell (by omega)
      clear hF hb1 hnx hll hc hb
      go_wp2_with fail
      refine HB1.out.mono ?_
      rintro e w1 ⟨rfl, hB1⟩
      have hV1 := hV.out.below hB1
      have x0 : w1.cell? ⟨w.heap.size, k, none⟩ = some (.bool false) := by rw [← HLL.out]; exact hV1.cell (by rw [HLL.out]; exact hlt)
      have x1 : w1.frozen? ⟨w.heap.size, k, none⟩ = false := unfrozenOf hV1 _
      have HV1 := hide hV1
      have HB1' := hide hB1
      clear hV1 hB1 v0
      go_wp2_with fail
      generalize hw9 : World.setCell _ _ _ = w9
      have hV9 : VarAt w9 w.heap.size F.N (l ++ [b]) := by
        rw [← hw9]
        have h1 := HV1.out.set (by rw [HLL.out]; exact hlt) b
        rw [HLL.out] at h1
        exact h1
      have hB9 : Below w.heap.size w w9 := by
        rw [← hw9]
        exact (Below.to hB.out HB1'.out (Nat.le_refl _)).setCell (Nat.le_refl _) _
      have y0 : w9.cell? ⟨w.heap.size, k, none⟩ = some (.bool b) := by
        rw [cellOf hV9]
        have hk1 : k < (l ++ [b]).length := by simp [HLL.out]
        simp [List.getElem?_append, HLL.out]
      have hb2 := branch_any F m k b w9 (H.out.below hB9) hI.out.lt
      have HB2 := hide hb2
      have HV9 := hide hV9
      have HB9 := hide hB9
      clear hw9 hV9 hB9 x0 x1 hb2
      go_wp2_with fail
      refine HB2.out.mono ?_
      rintro e w10 ⟨rfl, hB10⟩
      have HB10 := hide hB10
      clear hB10 y0
      go_wp2_with fail
      go_roundw
      case rel => exact ⟨k + 1, l ++ [b], _, by omega, by simp [HLL.out], by go_num, rfl, HNX.out, HV9.out.below HB10.out, Below.to HB9.out HB10.out (Nat.le_refl _)⟩
      case measure => simp [intOf]; omega
    · obtain rfl : k = F.N := by omega
      have hfin := hI.out.finish H.out.wf hll
      have HFIN := hide hfin
      have HLL := hide hll
      clear hfin hll
      go_wp2_with fail
      go_ret
      exact ⟨l, rfl, hV.out, HLL.out, HFIN.out, hB.out⟩
end Go.Proofs.YtehadoecnmfeoaaGreat

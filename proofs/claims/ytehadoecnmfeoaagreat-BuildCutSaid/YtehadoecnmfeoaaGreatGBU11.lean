/- Part 11 of this claim's texts: walks and plain laws. -/
import Derived.Test.YtehadoecnmfeoaaGreatRows
import Derived.Test.YtehadoecnmfeoaaGreatGBU10
import Derived.Test.YtehadoecnmfeoaaGreatGBU8
import Derived.Test.YtehadoecnmfeoaaGreatGBU9
import Derived.Test.YtehadoecnmfeoaaGreatGBU3
import Derived.Deep.RegionHeld3
import Derived.Deep.DrawnRows
import Derived.BigQuiet
import Derived.WalkSpells
import Derived.Lib.SliceRun
/- Holds: walk. -/
namespace Go.Proofs.YtehadoecnmfeoaaGreat
open Go.RowKit
set_option linter.unusedVariables false
set_option linter.unusedSimpArgs false
set_option maxRecDepth 100000 in
set_option maxHeartbeats 4000000 in
theorem Holds_any (m : Mo) (f : List Int) (vs : List Bool) (ov rv fv vv : Value) (w : World) (hs : SizedM m) (hl : f.length ≤ maxLen) (h : MoAt w w.heap.size ov rv m) (hf : Ints w w.heap.size fv f) (hv : Bols w w.heap.size vv vs) :
    Calls Tryz.prog 37 #[.agg #[ov, rv], fv, vv] w fun e w' => e = .returned (.tuple #[.bool (holB m f vs), .int .i64 (holE m f vs)]) ∧ Below w.heap.size w w' := by
  obtain ⟨A, cap, hov⟩ := Sl.form h.o
  obtain ⟨Ar, capr, hrv⟩ := h.r.form
  obtain ⟨Al, capl, hlv⟩ := Sl.form hf
  obtain ⟨Av, capv, hvv⟩ := Sl.form hv
  have H := hide h
  have HF := hide hf
  have HV := hide hv
  have HS := hide hs
  subst hov hrv hlv hvv
  clear h hf hv hs
  go_enter Tryz.func37, Tryz.ntmps37
  go_upto_region 1 with (fail)
  generalize hw0 : World.alloc _ _ = w0
  obtain ⟨hb0, hB0, hs0⟩ := alloc1 hw0
  clear hw0
  have HX0 : Hid (MoBox w0 w.heap.size (.slice A m.opts.length cap) (.slice Ar m.rules.length capr)) := hb0
  have HB0 := hide hB0
  have c0 := cellOf hb0 0
  have c1 := cellOf hb0 1
  have hB2 : Below w.heap.size w (w0.alloc (.cells #[.slice Al f.length capl] 46 (0, 0))) := Below.allocT hB0 (Nat.le_refl _) _
  have hX2 : MoBox (w0.alloc (.cells #[.slice Al f.length capl] 46 (0, 0))) w.heap.size (.slice A m.opts.length cap) (.slice Ar m.rules.length capr) := box_to hb0 (Below.allocT (Below.refl _ _) (Nat.le_refl _) _)
  have hck := check_any m [f] (.slice A m.opts.length cap) (.slice Ar m.rules.length capr) (.slice (some ⟨w0.heap.size, 0, none⟩) 1 1) _ HS.out (sized_one hl) (H.out.up hB2) (forms_one (heap_new _ _ _ rfl) (by simp) (HF.out.up hB2))
  have HCK := hide hck
  have HB2 := hide hB2
  have HX2 := hide hX2
  clear hb0 hB0 hs0 hck hB2 hX2
  by_cases he : m.errF [f] = 0
  · have HE := hide he
    go_upto_region 4 with (go_at_call 104; refine HCK.out.mono ?_; rw [HE.out]; rintro e w1 ⟨rfl, hB1⟩; have hbx := box_to HX2.out hB1; have d0 := cellOf hbx 0; have d1 := cellOf hbx 1; have HB1 : Hid (Below w.heap.size w w1) := Below.to HB2.out hB1 (Nat.le_refl _); clear hbx hB1 c0 c1)
    by_cases hn : vs.length = m.opts.length
    · obtain ⟨h1, h2⟩ := hol_ok he hn
      have e1 : ((vs.length : Int) != (m.opts.length : Int)) = false := by simp; omega
      have ht := holds_any f m.opts.length vs (.slice Al f.length capl) (.slice Av vs.length capv) w1 ((Mo.okF he).2 f (by simp)) (HF.out.up HB1.out) (Sl.up HV.out HB1.out) hn
      have HT := hide ht
      have H1 := hide h1
      have H2 := hide h2
      clear ht h1 h2 he hn
      go_wp2_with (go_at_call 92; refine HT.out.mono ?_; rintro e w2 ⟨rfl, hB3⟩)
      go_ret2
      exact ⟨by rw [H1.out, H2.out]; rfl, Below.to HB1.out hB3 (Nat.le_refl _)⟩
    · obtain ⟨h1, h2⟩ := hol_arg he hn
      have e1 : ((vs.length : Int) != (m.opts.length : Int)) = true := by simp; omega
      have H1 := hide h1
      have H2 := hide h2
      clear h1 h2 he hn
      go_wp2_with fail
      go_ret2
      exact ⟨by rw [H1.out, H2.out]; rfl, HB1.out⟩
  · obtain ⟨h1, h2⟩ := hol_err (vs := vs) he
    obtain ⟨z, hz⟩ : ∃ z, m.errF [f] = z := ⟨_, rfl⟩
    rw [hz] at he h1
    have hz1 : (z != 0) = true := by simpa using he
    have HZ := hide hz
    have H1 := hide h1
    have H2 := hide h2
    clear he hz h1 h2
    go_wp2_with (go_at_call 104; refine HCK.out.mono ?_; rw [HZ.out]; rintro e w1 ⟨rfl, hB1⟩)
    go_ret2
    exact ⟨by rw [H1.out, H2.out]; rfl, Below.to HB2.out hB1 (Nat.le_refl _)⟩
end Go.Proofs.YtehadoecnmfeoaaGreat
/- Buildable: walk. -/
namespace Go.Proofs.YtehadoecnmfeoaaGreat
open Go.RowKit
set_option linter.unusedVariables false
set_option linter.unusedSimpArgs false
end Go.Proofs.YtehadoecnmfeoaaGreat
/- The variants of a model in order, by number. Plain laws. -/
namespace Go.Proofs.YtehadoecnmfeoaaGreat
set_option linter.unusedVariables false
/-- The variant with a number. -/
def bitsN : Nat → Nat → List Bool
  | 0, _ => []
  | k + 1, n => decide (n / 2 ^ k % 2 = 1) :: bitsN k n
/-- The buildable ones of the first n variants. -/
def varsN (m : Mo) (n : Nat) : List (List Bool) := ((List.range n).map (bitsN m.opts.length)).filter fun x => allF (vf x) m.rules
/-- The buildable variants. -/
def allM (m : Mo) : List (List Bool) := (exts m.opts.length []).filter fun x => allF (vf x) m.rules
theorem satM_all (m : Mo) (p : (Nat → Bool) → Bool) : satM m p = (allM m).filter fun x => p (vf x) := by
  unfold satM allM
  rw [List.filter_filter]
  exact List.filter_congr fun x _ => by rw [Bool.and_comm]
theorem satM_true (m : Mo) : satM m (fun _ => true) = allM m := by
  unfold satM allM
  exact List.filter_congr fun x _ => by simp
/-- Those of some variants in which a formula holds. -/
def whereF (l : List (List Bool)) (f : List Int) : List (List Bool) := l.filter fun x => evF1 (vf x) f
end Go.Proofs.YtehadoecnmfeoaaGreat
/- Lists of rows in memory, and a list of rows that is being made. -/
namespace Go.Proofs.YtehadoecnmfeoaaGreat
open Go.RowKit
set_option linter.unusedVariables false
set_option linter.unusedSimpArgs false
section
variable {α : Type} (enc : α → Value) (z : α)
/-- The slice v holds the list l, below block B. -/
def GRow (w : World) (B : Nat) (v : Value) (l : List α) : Prop := Sl w B 1 v l.length (fun j _ => enc (l.getD j z))
/-- The slice v holds rows, below block B. -/
def GRows (w : World) (B : Nat) (v : Value) (L : List (List α)) : Prop := ∃ fv : Nat → Value, Sl w B 1 v L.length (fun i _ => fv i) ∧ ∀ i, i < L.length → GRow enc z w B (fv i) (L.getD i [])
/-- A list of rows that is being made: its own block lies from block B on, no row lies in it, and none in X. -/
structure GS (e : Nat) (X : Nat → Prop) (B : Nat) (w : World) (sv : Value) (L : List (List α)) (vs : List Value) : Prop where
  len : vs.length = L.length
  own : w.ownsRow B e 1 sv L.length vs
  nx : ∀ b, sv.ownBlock = some b → ¬ X b
  row : ∀ i, i < L.length → GRow enc z w w.heap.size (vs.getD i undef) (L.getD i [])
  ap : ∀ i, i < L.length → 0 < (L.getD i []).length → ∀ b, (vs.getD i undef).ownBlock = some b → ¬ X b ∧ sv.ownBlock ≠ some b
def GStk (e : Nat) (X : Nat → Prop) (B : Nat) (w : World) (sv : Value) (L : List (List α)) : Prop := ∃ vs, GS enc z e X B w sv L vs
variable {enc z}
theorem GRow.below {w w' : World} {B : Nat} {v : Value} {l : List α} (h : GRow enc z w B v l) (hb : Below B w w') : GRow enc z w' B v l := Sl.below h hb
theorem GRow.more {w : World} {B B' : Nat} {v : Value} {l : List α} (h : GRow enc z w B v l) (hB : B ≤ B') : GRow enc z w B' v l := Sl.more h hB
theorem GRow.up {w w' : World} {v : Value} {l : List α} (h : GRow enc z w w.heap.size v l) (hb : Below w.heap.size w w') : GRow enc z w' w'.heap.size v l := Sl.up h hb
theorem GRow.form {w : World} {B : Nat} {v : Value} {l : List α} (h : GRow enc z w B v l) : ∃ A cap, v = .slice A l.length cap := Sl.form h
/-- A row that is not empty lies in a block that there is. -/
theorem GRow.block {w : World} {B : Nat} {v : Value} {l : List α} (h : GRow enc z w B v l) (hl : 0 < l.length) : ∃ b off cap, v = .slice (some ⟨b, off, none⟩) l.length cap ∧ b < B ∧ v.ownBlock = some b := by
  obtain ⟨A, b, off, cap, rfl, _, hA, _⟩ := h
  rcases hA with ⟨rfl, hb⟩ | h0
  · exact ⟨b, off, cap, rfl, hb, rfl⟩
  · omega
/-- A row stays where its block stays. -/
theorem GRow.stay {w w' : World} {B : Nat} {v : Value} {l : List α} (h : GRow enc z w B v l) (hs : ∀ b, 0 < l.length → v.ownBlock = some b → b < B → w'.heap[b]? = w.heap[b]?) : GRow enc z w' B v l := by
  obtain ⟨A, b, off, cap, rfl, hn, hA, hc⟩ := h
  refine ⟨A, b, off, cap, rfl, hn, hA, fun i j hi hj => ?_⟩
  rcases hA with ⟨rfl, hb⟩ | h0
  · have := hs b (by omega) rfl hb
    exact (World.cell?_of_block (a := ⟨b, off + (i * 1 + j), none⟩) this).trans (hc i j hi hj)
  · omega
theorem GRows.below {w w' : World} {B : Nat} {v : Value} {L : List (List α)} (h : GRows enc z w B v L) (hb : Below B w w') : GRows enc z w' B v L := by
  obtain ⟨fv, h1, h2⟩ := h
  exact ⟨fv, h1.below hb, fun i hi => (h2 i hi).below hb⟩
theorem GRows.more {w : World} {B B' : Nat} {v : Value} {L : List (List α)} (h : GRows enc z w B v L) (hB : B ≤ B') : GRows enc z w B' v L := by
  obtain ⟨fv, h1, h2⟩ := h
  exact ⟨fv, h1.more hB, fun i hi => (h2 i hi).more hB⟩
theorem GRows.up {w w' : World} {v : Value} {L : List (List α)} (h : GRows enc z w w.heap.size v L) (hb : Below w.heap.size w w') : GRows enc z w' w'.heap.size v L := (h.below hb).more hb.size
theorem GRows.form {w : World} {B : Nat} {v : Value} {L : List (List α)} (h : GRows enc z w B v L) : ∃ A cap, v = .slice A L.length cap := by
  obtain ⟨fv, h1, _⟩ := h
  exact Sl.form h1
theorem GRows.take {w : World} {B : Nat} {A : Option Addr} {n cap k : Nat} {L : List (List α)} (h : GRows enc z w B (.slice A n cap) L) (hk : k ≤ L.length) : GRows enc z w B (.slice A k cap) (L.take k) := by
  obtain ⟨fv, ⟨A1, b, off, cap1, hv, hn, hA, hc⟩, h2⟩ := h
  injection hv with e1 e2 e3
  subst e1 e3
  have hl : (L.take k).length = k := by simp; omega
  refine ⟨fv, ⟨A, b, off, cap, by rw [hl], by omega, by rw [hl]; rcases hA with h | h; exact .inl h; exact .inr (by omega), fun i j hi hj => hc i j (by omega) hj⟩, fun i hi => ?_⟩
  have h3 := h2 i (by omega)
  rw [show (L.take k).getD i [] = L.getD i [] by rw [List.getD_eq_getElem?_getD, List.getElem?_take_of_lt (by omega), ← List.getD_eq_getElem?_getD]]
  exact h3
theorem GRows.nil (w : World) (B : Nat) : GRows enc z w B (.slice none 0 0) [] := ⟨fun _ => undef, Sl.nil _ _ _ _, fun i hi => by simp at hi⟩
theorem GStk.nil {e : Nat} {X : Nat → Prop} (w : World) (B : Nat) : GStk enc z e X B w (.slice none 0 0) [] :=
  ⟨[], rfl, World.ownsRow_nil w B e 1, fun b hb => (by cases hb), fun i hi => by simp at hi, fun i hi => by simp at hi⟩
theorem GStk.form {e : Nat} {X : Nat → Prop} {B : Nat} {w : World} {sv : Value} {L : List (List α)} (h : GStk enc z e X B w sv L) : ∃ A cap, sv = .slice A L.length cap ∧ L.length ≤ cap ∧ cap ≤ maxLen := by
  obtain ⟨vs, h⟩ := h
  rcases h.own.2 with ⟨h1, h2⟩ | ⟨g, cap, cur, h1, _, _, h2, h3, _⟩
  · exact ⟨none, 0, by rw [h1, h2], by omega, by unfold maxLen; omega⟩
  · exact ⟨_, cap, h1, h2, h3⟩
theorem GStk.lt {e : Nat} {X : Nat → Prop} {B : Nat} {w : World} {sv : Value} {L : List (List α)} (h : GStk enc z e X B w sv L) : ∀ b, sv.ownBlock = some b → B ≤ b ∧ b < w.heap.size := by
  obtain ⟨vs, h⟩ := h
  exact h.own.lt
theorem ownsRow_same {w w' : World} {base e size n : Nat} {v : Value} {xs : List Value} (h : w.ownsRow base e size v n xs) (hs : ∀ b, v.ownBlock = some b → w'.heap[b]? = w.heap[b]?) : w'.ownsRow base e size v n xs := by
  obtain ⟨h1, h2 | ⟨g, cap, cur, rfl, h4, h5, h6⟩⟩ := h
  · exact ⟨h1, .inl h2⟩
  · exact ⟨h1, .inr ⟨g, cap, cur, rfl, h4, (hs g rfl).trans h5, h6⟩⟩
theorem GS.step {e : Nat} {S X X' : Nat → Prop} {B : Nat} {w w' : World} {sv : Value} {L : List (List α)} {vs : List Value} (h : GS enc z e X B w sv L vs) (hk : Keeps S w w') (hS : ∀ b, b < w.heap.size → S b → X b) (hX : ∀ b, b < w.heap.size → X' b → X b) : GS enc z e X' B w' sv L vs := by
  refine ⟨h.len, ownsRow_same h.own fun b hb => hk.block b (h.own.lt b hb).2 fun hs => h.nx b hb (hS b (h.own.lt b hb).2 hs), fun b hb hx => h.nx b hb (hX b (h.own.lt b hb).2 hx), fun i hi => ?_, fun i hi hl b hb => ?_⟩
  · exact ((h.row i hi).stay fun b hl hb hlt => hk.block b hlt fun hs => (h.ap i hi hl b hb).1 (hS b hlt hs)).more hk.size
  · obtain ⟨b', _, _, _, hlt, hob⟩ := (h.row i hi).block hl
    rw [hob] at hb
    injection hb with hb
    subst hb
    have h3 := h.ap i hi hl b' hob
    exact ⟨fun hx => h3.1 (hX b' hlt hx), h3.2⟩
theorem GStk.step {e : Nat} {S X X' : Nat → Prop} {B : Nat} {w w' : World} {sv : Value} {L : List (List α)} (h : GStk enc z e X B w sv L) (hk : Keeps S w w') (hS : ∀ b, b < w.heap.size → S b → X b) (hX : ∀ b, b < w.heap.size → X' b → X b) : GStk enc z e X' B w' sv L := by
  obtain ⟨vs, h⟩ := h
  exact ⟨vs, h.step hk hS hX⟩
theorem GS.below {e : Nat} {X : Nat → Prop} {B : Nat} {w w' : World} {sv : Value} {L : List (List α)} {vs : List Value} (h : GS enc z e X B w sv L vs) (hb : Below w.heap.size w w') : GS enc z e X B w' sv L vs :=
  h.step (S := fun _ => False) (Keeps.of_below hb) (fun _ _ h => h.elim) (fun _ _ h => h)
theorem GStk.below {e : Nat} {X : Nat → Prop} {B : Nat} {w w' : World} {sv : Value} {L : List (List α)} (h : GStk enc z e X B w sv L) (hb : Below w.heap.size w w') : GStk enc z e X B w' sv L :=
  h.step (S := fun _ => False) (Keeps.of_below hb) (fun _ _ h => h.elim) (fun _ _ h => h)
theorem GStk.base {e : Nat} {X : Nat → Prop} {B B' : Nat} {w : World} {sv : Value} {L : List (List α)} (h : GStk enc z e X B w sv L) (hB : B' ≤ B) : GStk enc z e X B' w sv L := by
  obtain ⟨vs, h⟩ := h
  exact ⟨vs, h.len, owns_base h.own hB, h.nx, h.row, h.ap⟩
theorem GStk.rows {e : Nat} {X : Nat → Prop} {B : Nat} {w : World} {sv : Value} {L : List (List α)} (h : GStk enc z e X B w sv L) : GRows enc z w w.heap.size sv L := by
  obtain ⟨vs, h⟩ := h
  refine ⟨fun i => vs.getD i undef, Sl.of_owns h.own fun i j hi hj => ?_, h.row⟩
  obtain rfl : j = 0 := by omega
  have := h.len
  have hi2 : i < vs.length := by omega
  rw [Nat.mul_one, Nat.add_zero]
  simp [hi2]
theorem getD_push {β : Type} {l : List β} {x d : β} {i : Nat} : (l ++ [x]).getD i d = if i < l.length then l.getD i d else if i = l.length then x else d := by
  split
  · rename_i h
    rw [List.getD_eq_getElem?_getD, List.getElem?_append_left h, ← List.getD_eq_getElem?_getD]
  · rename_i h
    split
    · rename_i h2
      subst h2
      simp
    · rw [List.getD_eq_getElem?_getD, List.getElem?_eq_none (by simp; omega)]
      rfl
/-- One more row. -/
theorem GS.push {e : Nat} {X : Nat → Prop} {B : Nat} {w w1 : World} {A : Option Addr} {n cap : Nat} {L : List (List α)} {vs : List Value} {rv v1 : Value} {l : List α} {o : Obj} (h : GS enc z e X B w (.slice A n cap) L vs) (hr : GRow enc z w w.heap.size rv l)
    (hrx : 0 < l.length → ∀ b, rv.ownBlock = some b → ¬ X b ∧ (Value.slice A n cap).ownBlock ≠ some b) (hXw : ∀ b, X b → b < w.heap.size)
    (hown : w1.ownsRow B e 1 v1 (L.length + 1) (vs ++ [rv])) (hg : (w.alloc o).grownBy w1 (Value.slice A n cap).ownBlock)
    (hat : v1.ownBlock = (Value.slice A n cap).ownBlock ∨ v1.ownBlock = some (w.alloc o).heap.size) :
    GStk enc z e X B w1 v1 (L ++ [l]) ∧ Keeps (fun i => (Value.slice A n cap).ownBlock = some i) w w1 := by
  have hk : Keeps (fun i => (Value.slice A n cap).ownBlock = some i) w w1 := Keeps.trans ((Keeps.refl _ w).alloc o) (Keeps.of_grown hg (fun k hk => hk)) (fun _ _ h => h)
  have hvl := h.len
  have hsz := hk.size
  have hall : ∀ i, i < (L ++ [l]).length → GRow enc z w w.heap.size ((vs ++ [rv]).getD i undef) ((L ++ [l]).getD i []) ∧ (0 < ((L ++ [l]).getD i []).length → ∀ b, ((vs ++ [rv]).getD i undef).ownBlock = some b → ¬ X b ∧ (Value.slice A n cap).ownBlock ≠ some b) := by
    intro i hi
    rw [getD_push, getD_push, hvl]
    by_cases h1 : i < L.length
    · rw [if_pos h1, if_pos h1]
      exact ⟨h.row i h1, h.ap i h1⟩
    · have : i = L.length := by simp at hi; omega
      rw [if_neg h1, if_pos this, if_neg h1, if_pos this]
      exact ⟨hr, hrx⟩
  refine ⟨⟨vs ++ [rv], by simp [hvl], by rw [List.length_append]; exact hown, fun b hb hx => ?_, fun i hi => ?_, fun i hi hl b hb => ?_⟩, hk⟩
  · rcases hat with h1 | h1
    · exact h.nx b (h1.symm.trans hb) hx
    · rw [h1] at hb
      injection hb with hb
      have := hXw b hx
      simp at hb
      omega
  · obtain ⟨q1, q2⟩ := hall i hi
    exact (q1.stay fun b hl hb hlt => hk.block b hlt fun hs => (q2 hl b hb).2 hs).more hsz
  · obtain ⟨q1, q2⟩ := hall i hi
    obtain ⟨b', _, _, _, hlt, hob⟩ := q1.block hl
    have hbb : b = b' := by rw [hob] at hb; injection hb with hb; exact hb.symm
    subst hbb
    refine ⟨(q2 hl b hob).1, fun hv => ?_⟩
    rcases hat with h1 | h1
    · exact (q2 hl b hob).2 (h1.symm.trans hv)
    · rw [h1] at hv
      injection hv with hv
      simp at hv
      omega
end
/-- Variants. -/
abbrev Vars (w : World) (B : Nat) (v : Value) (L : List (List Bool)) : Prop := GRows Value.bool false w B v L
abbrev VStk (X : Nat → Prop) (B : Nat) (w : World) (sv : Value) (L : List (List Bool)) : Prop := GStk Value.bool false 35 X B w sv L
theorem infoForm : (Tryz.prog.info? 46).map (fun i => (i.zero, i.size, i.bytes)) = some (some (.slice none 0 0), 1, 24) := by kernel_rfl
end Go.Proofs.YtehadoecnmfeoaaGreat
/- The variant with a number: walk. -/
namespace Go.Proofs.YtehadoecnmfeoaaGreat
open Go.RowKit
set_option linter.unusedVariables false
set_option linter.unusedSimpArgs false
end Go.Proofs.YtehadoecnmfeoaaGreat
/- All buildable variants, and those in which a formula holds, as the elder program has them: walks. -/
namespace Go.Proofs.YtehadoecnmfeoaaGreat
open Go.RowKit
set_option linter.unusedVariables false
set_option linter.unusedSimpArgs false
end Go.Proofs.YtehadoecnmfeoaaGreat
/- Those of some variants in which a formula holds, as the elder program has them: walk. -/
namespace Go.Proofs.YtehadoecnmfeoaaGreat
open Go.RowKit
set_option linter.unusedVariables false
set_option linter.unusedSimpArgs false
end Go.Proofs.YtehadoecnmfeoaaGreat
/- Count and List as the elder program has them: walks. -/
namespace Go.Proofs.YtehadoecnmfeoaaGreat
open Go.RowKit
set_option linter.unusedVariables false
set_option linter.unusedSimpArgs false
/-- What Count returns. -/
def cntE (m : Mo) (f : List Int) : Nat := if m.errF [f] ≠ 0 then 0 else (whereF (allM m) f).length
end Go.Proofs.YtehadoecnmfeoaaGreat
/- List as the elder program has it: walk. -/
namespace Go.Proofs.YtehadoecnmfeoaaGreat
open Go.RowKit
set_option linter.unusedVariables false
set_option linter.unusedSimpArgs false
/-- What List returns. -/
def lisE (m : Mo) (f : List Int) (most : Int) : Int := if m.errF [f] ≠ 0 then m.errF [f] else if most < 1 ∨ 64 < most then 1 else 0
def lisL (m : Mo) (f : List Int) (most : Int) : List (List Bool) := if lisE m f most = 0 then (whereF (allM m) f).take most.toNat else []
/-- A list of variants and an error. -/
def ListP (L : List (List Bool)) (x : Int) (w : World) (e : Ending) (w' : World) : Prop := ∃ v, e = .returned (.tuple #[v, .int .i64 x]) ∧ Vars w' w'.heap.size v L ∧ Below w.heap.size w w'
theorem ListP.none (x : Int) {w w' : World} (h : Below w.heap.size w w') : ListP [] x w (.returned (.tuple #[.slice none 0 0, .int .i64 x])) w' := ⟨_, rfl, GRows.nil _ _, h⟩
end Go.Proofs.YtehadoecnmfeoaaGreat
/- The model of the examples; equal variants: walks. -/
namespace Go.Proofs.YtehadoecnmfeoaaGreat
open Go.RowKit
set_option linter.unusedVariables false
set_option linter.unusedSimpArgs false
theorem results_cell1 {P : Program} {fn : Func} {p : Tmp} {ty : TypeId} (h : fn.results = #[.cell p ty]) (tmps : Array Value) (w : World) :
    (results fn tmps).run P w = ((asAddr (tmps.getD p undef)).run P w).andThen fun a w₁ => (loadVar ty a).run P w₁ := by
  simp only [results, h]
  simp [Sem.run_bind, Result.andThen]
  try (congr; done)
theorem sl_box {w : World} {b B n t : Nat} {C : Array Value} {f : Nat → Nat → Value} (hb : w.heap[b]? = some (.cells C t (0, 0))) (hB : b < B) (h : ∀ i, i < n → C[i]? = some (f i 0)) : Sl w B 1 (.slice (some ⟨b, 0, none⟩) n n) n f :=
  ⟨_, b, 0, n, rfl, Nat.le_refl _, .inl ⟨rfl, hB⟩, fun i j hi hj => by
    obtain rfl : j = 0 := by omega
    rw [Nat.mul_one, Nat.add_zero, Nat.zero_add, cellOf hb]
    exact h i hi⟩
theorem ints_box {w : World} {b B t : Nat} {l : List Int} (hb : w.heap[b]? = some (.cells (l.map (Value.int .i64)).toArray t (0, 0))) (hB : b < B) : Ints w B (.slice (some ⟨b, 0, none⟩) l.length l.length) l :=
  sl_box hb hB fun i hi => by simp [hi]
theorem names_box {w : World} {b B t : Nat} {l : List ByteArray} (hb : w.heap[b]? = some (.cells (l.map Value.string).toArray t (0, 0))) (hB : b < B) : Names w B (.slice (some ⟨b, 0, none⟩) l.length l.length) l :=
  sl_box hb hB fun i hi => by simp [hi]
theorem bols_box {w : World} {b B t : Nat} {l : List Bool} (hb : w.heap[b]? = some (.cells (l.map Value.bool).toArray t (0, 0))) (hB : b < B) : Bols w B (.slice (some ⟨b, 0, none⟩) l.length l.length) l :=
  sl_box hb hB fun i hi => by simp [hi]
/-- The model of the examples. -/
def exM : Mo := ⟨[⟨#[116, 111, 119]⟩, ⟨#[104, 101, 97, 116]⟩, ⟨#[108, 101, 100]⟩], [[-5, 1, 2], [-3, -4, 0, 2]]⟩
set_option maxRecDepth 100000 in
set_option maxHeartbeats 1000000 in
theorem SameVariant_any (a b : List Bool) (u v : Value) (w : World) (ha : Bols w w.heap.size u a) (hb : Bols w w.heap.size v b) (hal : a.length ≤ 1000) (hbl : b.length ≤ maxLen) :
    Calls Tryz.prog 41 #[u, v] w fun e w' => e = .returned (.bool (decide (a = b))) ∧ Below w.heap.size w w' := by
  obtain ⟨A, b0, off, cap, rfl, hnc, hA, hc⟩ := ha
  obtain ⟨A', b1, off1, cap1, rfl, hnc1, hA1, hc1⟩ := hb
  unfold maxLen at hbl
  by_cases hl : a.length = b.length
  · have hl1 : ((a.length : Int) != (b.length : Int)) = false := by simp [hl]
    have HL := hide hl
    have HC := hide hc
    have HC1 := hide hc1
    have HA := hide hA
    have HA1 := hide hA1
    clear hl hc hc1 hA hA1
    go_enter Tryz.func41, Tryz.ntmps41
    go_wp2
    go_loopw [5] (fun i wr => ∃ k : Nat, k ≤ a.length ∧ i = .int .i64 k ∧ Hid (∀ j, j < k → a.getD j false = b.getD j false) ∧ Below w.heap.size w wr) (fun i _ => a.length - (intOf i).toNat)
    case atStart => exact ⟨0, Nat.zero_le _, rfl, fun j hj => by omega, Below.refl _ _⟩
    case round =>
      obtain ⟨k, hk, rfl, hall, hB⟩ := hrel
      by_cases hkl : k < a.length
      · have hkb : k < b.length := by have := HL.out; omega
        obtain ⟨rfl, hbb⟩ : A = some ⟨b0, off, none⟩ ∧ b0 < w.heap.size := by
          rcases HA.out with h | h
          · exact h
          · omega
        obtain ⟨rfl, hbb1⟩ : A' = some ⟨b1, off1, none⟩ ∧ b1 < w.heap.size := by
          rcases HA1.out with h | h
          · exact h
          · omega
        obtain ⟨x, hx⟩ : ∃ x, a.getD k false = x := ⟨_, rfl⟩
        obtain ⟨y, hy⟩ : ∃ y, b.getD k false = y := ⟨_, rfl⟩
        have c0 : wr.cell? ⟨b0, off + k, none⟩ = some (.bool x) := by
          have h1 := HC.out k 0 hkl (by omega)
          rw [Nat.mul_one, Nat.add_zero, hx] at h1
          exact (hB.cell (p := ⟨b0, off + k, none⟩) hbb).trans h1
        have c1 : wr.cell? ⟨b1, off1 + k, none⟩ = some (.bool y) := by
          have h1 := HC1.out k 0 hkb (by omega)
          rw [Nat.mul_one, Nat.add_zero, hy] at h1
          exact (hB.cell (p := ⟨b1, off1 + k, none⟩) hbb1).trans h1
        have hsz := hB.size
        have l0 : b0 < wr.heap.size := by omega
        have l1 : b1 < wr.heap.size := by omega
        have j0 : (0 : Int) ≤ (k : Int) := by omega
        have j1 : (k : Int) < (a.length : Int) := by omega
        have j2 : (k : Int) < (b.length : Int) := by omega
        have HXY := hide (And.intro hx hy)
        clear hx hy
        by_cases hxy : x = y
        · have hne : (!(x == y)) = false := by simp [hxy]
          have HE := hide hxy
          clear hxy
          go_wp2_with fail
          refine wp_region_held_drew (S := (fun w' => Below wr.heap.size wr w')) (by kernel_rfl) ?_ (fun hHeld => ?_)
          · try dsimp only
            exact (by repeat (first | exact Below.refl _ _ | assumption | refine Below.drew ?_ | refine Below.drewN ?_ _ | refine Below.allocT ?_ (Nat.le_refl _) _ | refine Below.setCell ?_ (by simp <;> omega) _ | refine Below.to ?_ (by assumption) (Nat.le_refl _)))
          refine zT 0 rfl ?_
          try simp only [zX]
          refine zT 1 rfl ?_
          try simp only [zX]
          refine zT 2 rfl ?_
          try simp only [zX]
          refine zT 3 rfl ?_
          try simp only [zX]
          refine zT 4 rfl ?_
          try simp only [zX]
          refine zT 5 rfl ?_
          try simp only [zX]
          refine zT 6 rfl ?_
          try simp only [zX]
          refine zT 7 rfl ?_
          try simp only [zX]
          refine zT 8 rfl ?_
          try simp only [zX]
          refine wpAnyH_done (by kernel_rfl) ?_ _
          go_wp2_with fail
          go_roundw
          case rel => exact ⟨k + 1, by omega, by go_num, fun j hj => by
              rcases Nat.lt_or_ge j k with h | h
              · exact hall.out j h
              · rw [show j = k from by omega, HXY.out.1, HXY.out.2, HE.out], Below.to hB hHeld (Nat.le_refl _)⟩
          case measure => simp [intOf]; omega
        · have hne : (!(x == y)) = true := by simpa using hxy
          have HE := hide hxy
          clear hxy
          go_wp2_with fail
          refine wp_region_held_drew (S := (fun w' => Below wr.heap.size wr w')) (by kernel_rfl) ?_ (fun hHeld => ?_)
          · try dsimp only
            exact (by repeat (first | exact Below.refl _ _ | assumption | refine Below.drew ?_ | refine Below.drewN ?_ _ | refine Below.allocT ?_ (Nat.le_refl _) _ | refine Below.setCell ?_ (by simp <;> omega) _ | refine Below.to ?_ (by assumption) (Nat.le_refl _)))
          refine zT 0 rfl ?_
          try simp only [zX]
          refine zT 1 rfl ?_
          try simp only [zX]
          refine zT 2 rfl ?_
          try simp only [zX]
          refine zT 3 rfl ?_
          try simp only [zX]
          refine zT 4 rfl ?_
          try simp only [zX]
          refine zT 5 rfl ?_
          try simp only [zX]
          refine zT 6 rfl ?_
          try simp only [zX]
          refine zT 7 rfl ?_
          try simp only [zX]
          refine zT 8 rfl ?_
          try simp only [zX]
          refine wpAnyH_done (by kernel_rfl) ?_ _
          go_wp2_with fail
          go_ret
          refine ⟨ret_bool (Eq.symm (decide_eq_false fun e => HE.out ?_)), (by repeat (first | exact Below.refl _ _ | assumption | refine Below.drew ?_ | refine Below.drewN ?_ _ | refine Below.allocT ?_ (Nat.le_refl _) _ | refine Below.setCell ?_ (by simp <;> omega) _ | refine Below.to ?_ (by assumption) (Nat.le_refl _)))⟩
          rw [← HXY.out.1, ← HXY.out.2, e]
      · obtain rfl : k = a.length := by omega
        go_wp2
        go_ret
        refine ⟨ret_bool (Eq.symm (decide_eq_true ?_)), hB⟩
        apply List.ext_getElem HL.out
        intro i h1 h2
        have := hall.out i h1
        simpa [List.getD_eq_getElem?_getD, h1, h2] using this
  · have hl1 : ((a.length : Int) != (b.length : Int)) = true := by simp; omega
    have HL := hide hl
    clear hl hc hc1 hA hA1
    go_enter Tryz.func41, Tryz.ntmps41
    go_wp2
    go_ret
    exact ⟨ret_bool (Eq.symm (decide_eq_false fun e => HL.out (by rw [e]))), (by repeat (first | exact Below.refl _ _ | assumption | refine Below.drew ?_ | refine Below.drewN ?_ _ | refine Below.allocT ?_ (Nat.le_refl _) _ | refine Below.setCell ?_ (by simp <;> omega) _ | refine Below.to ?_ (by assumption) (Nat.le_refl _)))⟩
end Go.Proofs.YtehadoecnmfeoaaGreat
/- The examples of the laws: walk. -/
namespace Go.Proofs.YtehadoecnmfeoaaGreat
open Go.RowKit
set_option linter.unusedVariables false
set_option linter.unusedSimpArgs false
end Go.Proofs.YtehadoecnmfeoaaGreat
/- Whether two lists of variants are equal; a copy of a variant: walks. -/
namespace Go.Proofs.YtehadoecnmfeoaaGreat
open Go.RowKit
set_option linter.unusedVariables false
set_option linter.unusedSimpArgs false
end Go.Proofs.YtehadoecnmfeoaaGreat
/- A copy of a variant: walk. -/
namespace Go.Proofs.YtehadoecnmfeoaaGreat
open Go.RowKit
set_option linter.unusedVariables false
set_option linter.unusedSimpArgs false
/-- A variant in its own block above block B. -/
theorem Bols.flat {w : World} {B n cap : Nat} {A : Option Addr} {l : List Bool} (h : Bols w B (.slice A n cap) l) : Reads w B 1 A l.length (l.map Value.bool) := by
  have h1 := Sl.form h
  obtain ⟨A', cap', he⟩ := h1
  injection he with e1 e2 e3
  subst e1 e2 e3
  have h2 := Sl.reads h (by omega)
  have e : Go.Proofs.YtehadoecnmfeoaaGreat.flat l.length 1 (fun i _ => Value.bool (l.getD i false)) = l.map Value.bool := by
    apply List.ext_getElem
    · simp [flat_length]
    · intro i q1 q2
      have h3 := flat_get (n := l.length) (sz := 1) (f := fun i _ => Value.bool (l.getD i false)) (i := i) (j := 0) (by simpa using q2) (by omega)
      rw [Nat.mul_one, Nat.add_zero, List.getElem?_eq_getElem q1] at h3
      injection h3 with h3
      rw [h3]
      have q3 : i < l.length := by simpa using q2
      simp [q3]
  rwa [e] at h2
end Go.Proofs.YtehadoecnmfeoaaGreat
/- The first variants in which a node holds: walk. -/
namespace Go.Proofs.YtehadoecnmfeoaaGreat
open Go.RowKit
set_option linter.unusedVariables false
set_option linter.unusedSimpArgs false
/-- What list leaves. -/
def ListR (F : Fo) (B : Nat) (L' : List (List Bool)) (out : Value) (w : World) (e : Ending) (w' : World) : Prop :=
  ∃ v', e = .returned v' ∧ VStk (SF F) B w' v' L' ∧ Keeps (fun k => out.ownBlock = some k) w w' ∧ (v'.ownBlock = out.ownBlock ∨ ∀ k, v'.ownBlock = some k → w.heap.size ≤ k)
theorem ListR.same {F : Fo} {B : Nat} {L L' : List (List Bool)} {out : Value} {w w' : World} (h : VStk (SF F) B w out L) (hL : L' = L) (hb : Below w.heap.size w w') : ListR F B L' out w (.returned out) w' := by
  subst hL
  exact ⟨out, rfl, h.below hb, Keeps.of_below hb, .inl rfl⟩
/-- What has been listed when k of the two ways have been gone. -/
def lstK (ks : List Kn) (N n : Nat) (l : List Bool) (k : Nat) : List (List Bool) := if k = 0 then [] else if k = 1 then sat ks N n (l ++ [false]) else sat ks N n l
end Go.Proofs.YtehadoecnmfeoaaGreat
/- List: walk. -/
namespace Go.Proofs.YtehadoecnmfeoaaGreat
open Go.RowKit
set_option linter.unusedVariables false
set_option linter.unusedSimpArgs false
end Go.Proofs.YtehadoecnmfeoaaGreat
/- How large a model is; Count in one: walks. -/
namespace Go.Proofs.YtehadoecnmfeoaaGreat
open Go.RowKit
set_option linter.unusedVariables false
set_option linter.unusedSimpArgs false
/-- Whether a model has more than a statement looks at. -/
def largeB (m : Mo) : Bool := (decide (9 < m.opts.length) && decide (m.opts.length ≤ 40)) || (decide (12 < m.rules.length) && decide (m.rules.length ≤ 60))
set_option maxRecDepth 100000 in
set_option maxHeartbeats 2000000 in
theorem Large_any (m : Mo) (ov rv : Value) (w : World) (h : MoAt w w.heap.size ov rv m) :
    Calls Tryz.prog 51 #[.agg #[ov, rv]] w fun e w' => e = .returned (.bool (largeB m)) ∧ Below w.heap.size w w' := by
  obtain ⟨A, cap, hov⟩ := Sl.form h.o
  obtain ⟨Ar, capr, hrv⟩ := h.r.form
  subst hov hrv
  clear h
  by_cases h1 : (9 : Int) < (m.opts.length : Int)
  · by_cases h2 : (m.opts.length : Int) ≤ 40
    · have hr : largeB m = true := by simp [largeB]; omega
      have HR := hide hr
      clear hr
      go_enter Tryz.func51, Tryz.ntmps51
      go_wp2_with fail
      go_ret
      exact ⟨ret_bool HR.out.symm, (by repeat (first | exact Below.refl _ _ | assumption | refine Below.drew ?_ | refine Below.drewN ?_ _ | refine Below.allocT ?_ (Nat.le_refl _) _ | refine Below.setCell ?_ (by simp <;> omega) _ | refine Below.to ?_ (by assumption) (Nat.le_refl _)))⟩
    · by_cases h3 : (12 : Int) < (m.rules.length : Int)
      · have hr : largeB m = decide ((m.rules.length : Int) ≤ 60) := by
          unfold largeB
          rw [show decide (m.opts.length ≤ 40) = false from decide_eq_false (by omega), show decide (12 < m.rules.length) = true from decide_eq_true (by omega), Bool.and_false, Bool.false_or, Bool.true_and]
          exact decide_eq_decide.2 (by omega)
        have HR := hide hr
        clear hr
        go_enter Tryz.func51, Tryz.ntmps51
        go_wp2_with fail
        go_ret
        exact ⟨ret_bool HR.out.symm, (by repeat (first | exact Below.refl _ _ | assumption | refine Below.drew ?_ | refine Below.drewN ?_ _ | refine Below.allocT ?_ (Nat.le_refl _) _ | refine Below.setCell ?_ (by simp <;> omega) _ | refine Below.to ?_ (by assumption) (Nat.le_refl _)))⟩
      · have hr : largeB m = false := by simp [largeB]; omega
        have HR := hide hr
        clear hr
        go_enter Tryz.func51, Tryz.ntmps51
        go_wp2_with fail
        go_ret
        exact ⟨ret_bool HR.out.symm, (by repeat (first | exact Below.refl _ _ | assumption | refine Below.drew ?_ | refine Below.drewN ?_ _ | refine Below.allocT ?_ (Nat.le_refl _) _ | refine Below.setCell ?_ (by simp <;> omega) _ | refine Below.to ?_ (by assumption) (Nat.le_refl _)))⟩
  · by_cases h3 : (12 : Int) < (m.rules.length : Int)
    · have hr : largeB m = decide ((m.rules.length : Int) ≤ 60) := by
        unfold largeB
        rw [show decide (9 < m.opts.length) = false from decide_eq_false (by omega), show decide (12 < m.rules.length) = true from decide_eq_true (by omega), Bool.false_and, Bool.false_or, Bool.true_and]
        exact decide_eq_decide.2 (by omega)
      have HR := hide hr
      clear hr
      go_enter Tryz.func51, Tryz.ntmps51
      go_wp2_with fail
      go_ret
      exact ⟨ret_bool HR.out.symm, (by repeat (first | exact Below.refl _ _ | assumption | refine Below.drew ?_ | refine Below.drewN ?_ _ | refine Below.allocT ?_ (Nat.le_refl _) _ | refine Below.setCell ?_ (by simp <;> omega) _ | refine Below.to ?_ (by assumption) (Nat.le_refl _)))⟩
    · have hr : largeB m = false := by simp [largeB]; omega
      have HR := hide hr
      clear hr
      go_enter Tryz.func51, Tryz.ntmps51
      go_wp2_with fail
      go_ret
      exact ⟨ret_bool HR.out.symm, (by repeat (first | exact Below.refl _ _ | assumption | refine Below.drew ?_ | refine Below.drewN ?_ _ | refine Below.allocT ?_ (Nat.le_refl _) _ | refine Below.setCell ?_ (by simp <;> omega) _ | refine Below.to ?_ (by assumption) (Nat.le_refl _)))⟩
end Go.Proofs.YtehadoecnmfeoaaGreat
/- The errors of a model and a list of formulas, as the elder program has them: walk. -/
namespace Go.Proofs.YtehadoecnmfeoaaGreat
open Go.RowKit
set_option linter.unusedVariables false
set_option linter.unusedSimpArgs false
/-- The error of a model and a list of formulas. -/
def frmE (m : Mo) (l : List (List Int)) : Int := if m.err ≠ 0 then m.err else if 200 < l.length then 2 else if l.all (validF m.opts.length) = false then 11 else 0
theorem frm_rest {m : Mo} {l : List (List Int)} (h : m.err = 0) (h2 : l.length ≤ 200) : frmE m l = m.errF l := by unfold frmE; rw [if_neg (by simp [h]), if_neg (by omega), Mo.errF_ok h]
end Go.Proofs.YtehadoecnmfeoaaGreat

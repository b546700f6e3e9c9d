/- Part 0 of this claim's texts: walks and plain laws. -/
import Derived.Test.YtjimbcklnnhloaaDoorRows
import Derived.Laws.Cover4
import Derived.Maps.OwnSet
import Derived.Maps.OwnOps
import Derived.DeepKeys4
import Derived.Below
import Derived.Laws.World
import Derived.Deep.QuietTactic
import Derived.Lib.Hide
import Derived.OwnWalk
import Derived.Laws.AppendOwn
import Derived.Deep.Slices
import Derived.Deep.AppendLies
import Derived.Laws.OwnMore
import Derived.Deep.Draws
import Derived.Maps.AppendAt
import Derived.RegionTactic
import Derived.Deep.RegionHeld
import Derived.OneCell
import Derived.RangeFuncFrom
import Derived.WalkKit
import Derived.BigQuiet
import Derived.BigRegion
import Derived.IntWalk
import Derived.Deep.CutRange
import Derived.Deep.RegionHeld3
/- Reduced ordered diagrams: nodes, what they say, and that equal ones are one node. Plain laws. -/
namespace Go.Proofs.YtjimbcklnnhloaaDoor
set_option linter.unusedVariables false
/-- A node of a diagram. -/
structure Kn where
  opt : Nat
  low : Nat
  high : Nat
theorem Kn.ext' {a b : Kn} (h1 : a.opt = b.opt) (h2 : a.low = b.low) (h3 : a.high = b.high) : a = b := by cases a; cases b; simp_all
def Kn.z : Kn := ⟨0, 0, 0⟩
instance : DecidableEq Kn := fun a b => if h : a.opt = b.opt ∧ a.low = b.low ∧ a.high = b.high then isTrue (Kn.ext' h.1 h.2.1 h.2.2) else isFalse fun e => h (by subst e; exact ⟨rfl, rfl, rfl⟩)

/-- Whether a node holds for a choice of the options: followed for at most so many steps. -/
def evF (ks : List Kn) (v : Nat → Bool) : Nat → Nat → Bool
  | 0, n => n == 1
  | m + 1, n => if n < 2 then n == 1 else evF ks v m (if v (ks.getD n Kn.z).opt then (ks.getD n Kn.z).high else (ks.getD n Kn.z).low)
def ev (ks : List Kn) (v : Nat → Bool) (n : Nat) : Bool := evF ks v n n
def topK (ks : List Kn) (n : Nat) : Nat := (ks.getD n Kn.z).opt
def lowK (ks : List Kn) (n : Nat) : Nat := (ks.getD n Kn.z).low
def highK (ks : List Kn) (n : Nat) : Nat := (ks.getD n Kn.z).high

/-- The nodes of reduced diagrams over N options. -/
structure WF (N : Nat) (ks : List Kn) : Prop where
  two : 2 ≤ ks.length
  top0 : topK ks 0 = N
  top1 : topK ks 1 = N
  opt : ∀ i, 2 ≤ i → i < ks.length → topK ks i < N
  low : ∀ i, 2 ≤ i → i < ks.length → lowK ks i < i
  high : ∀ i, 2 ≤ i → i < ks.length → highK ks i < i
  ne : ∀ i, 2 ≤ i → i < ks.length → lowK ks i ≠ highK ks i
  topl : ∀ i, 2 ≤ i → i < ks.length → topK ks i < topK ks (lowK ks i)
  toph : ∀ i, 2 ≤ i → i < ks.length → topK ks i < topK ks (highK ks i)
  inj : ∀ i j, 2 ≤ i → i < ks.length → 2 ≤ j → j < ks.length → ks.getD i Kn.z = ks.getD j Kn.z → i = j

section
variable {N : Nat} {ks : List Kn} (h : WF N ks)
include h
theorem WF.top_le : ∀ i, i < ks.length → topK ks i ≤ N := by
  intro i hi
  rcases Nat.lt_or_ge i 2 with h2 | h2
  · rcases (by omega : i = 0 ∨ i = 1) with rfl | rfl
    · exact Nat.le_of_eq h.top0
    · exact Nat.le_of_eq h.top1
  · exact Nat.le_of_lt (h.opt i h2 hi)
theorem evF_fuel (v : Nat → Bool) : ∀ (m m' n : Nat), n < ks.length → n ≤ m → n ≤ m' → evF ks v m n = evF ks v m' n
  | 0, 0, n, _, _, _ => rfl
  | 0, m' + 1, n, _, h1, _ => by
    obtain rfl : n = 0 := by omega
    rfl
  | m + 1, 0, n, _, _, h1 => by
    obtain rfl : n = 0 := by omega
    rfl
  | m + 1, m' + 1, n, hn, h1, h2 => by
    simp only [evF]
    by_cases hn2 : n < 2
    · rw [if_pos hn2, if_pos hn2]
    · rw [if_neg hn2, if_neg hn2]
      have hl := h.low n (by omega) hn
      have hh := h.high n (by omega) hn
      unfold lowK at hl; unfold highK at hh
      split
      · exact evF_fuel v m m' _ (by omega) (by omega) (by omega)
      · exact evF_fuel v m m' _ (by omega) (by omega) (by omega)
omit h in
theorem ev_zero (v : Nat → Bool) : ev ks v 0 = false := rfl
omit h in
theorem ev_one (v : Nat → Bool) : ev ks v 1 = true := rfl
theorem ev_step (v : Nat → Bool) {n : Nat} (h2 : 2 ≤ n) (hn : n < ks.length) : ev ks v n = if v (topK ks n) then ev ks v (highK ks n) else ev ks v (lowK ks n) := by
  have hl := h.low n h2 hn
  have hh := h.high n h2 hn
  unfold ev
  obtain ⟨m, rfl⟩ : ∃ m, n = m + 1 := ⟨n - 1, by omega⟩
  conv => lhs; simp only [evF]
  rw [if_neg (by omega)]
  unfold topK
  cases v (ks.getD (m + 1) Kn.z).opt with
  | true =>
    simp only [if_true]
    exact evF_fuel h v _ _ _ (by unfold highK at hh; omega) (by unfold highK at hh; omega) (Nat.le_refl _)
  | false =>
    simp only [Bool.false_eq_true, if_false]
    exact evF_fuel h v _ _ _ (by unfold lowK at hl; omega) (by unfold lowK at hl; omega) (Nat.le_refl _)
/-- A node asks for its own option and later ones alone. -/
theorem ev_congr (v v' : Nat → Bool) : ∀ (n : Nat), n < ks.length → (∀ i, topK ks n ≤ i → i < N → v i = v' i) → ev ks v n = ev ks v' n := by
  intro n
  induction n using Nat.strongRecOn with
  | ind n ih =>
    intro hn hv
    rcases Nat.lt_or_ge n 2 with h2 | h2
    · rcases (by omega : n = 0 ∨ n = 1) with rfl | rfl <;> rfl
    · have hl := h.low n h2 hn
      have hh := h.high n h2 hn
      have tl := h.topl n h2 hn
      have th := h.toph n h2 hn
      rw [ev_step h v h2 hn, ev_step h v' h2 hn, hv _ (Nat.le_refl _) (h.opt n h2 hn), ih _ hl (by omega) (fun i h1 h3 => hv i (by omega) h3), ih _ hh (by omega) (fun i h1 h3 => hv i (by omega) h3)]
omit h in
def chgV (v : Nat → Bool) (o : Nat) (b : Bool) : Nat → Bool := fun i => if i = o then b else v i
omit h in
theorem chgV_same (v : Nat → Bool) (o : Nat) (b : Bool) : chgV v o b o = b := by simp [chgV]
/-- Where a node leads to at an option. -/
def brK (ks : List Kn) (n o : Nat) (b : Bool) : Nat := if topK ks n = o then (if b then highK ks n else lowK ks n) else n
theorem two_of_top {n o : Nat} (ht : topK ks n = o) (ho : o < N) : 2 ≤ n := by
  rcases Nat.lt_or_ge n 2 with h2 | h2
  · rcases (by omega : n = 0 ∨ n = 1) with rfl | rfl
    · rw [h.top0] at ht; omega
    · rw [h.top1] at ht; omega
  · exact h2
theorem brK_lt {n o : Nat} {b : Bool} (hn : n < ks.length) (ho : o < N) : brK ks n o b < ks.length := by
  unfold brK
  split
  · rename_i ht
    have h2 := two_of_top h ht ho
    have hl := h.low n h2 hn
    have hh := h.high n h2 hn
    split <;> omega
  · exact hn
theorem brK_ev {n o : Nat} {b : Bool} (hn : n < ks.length) (ho : o < N) (v : Nat → Bool) (hv : v o = b) : ev ks v (brK ks n o b) = ev ks v n := by
  unfold brK
  split
  · rename_i ht
    have h2 := two_of_top h ht ho
    rw [ev_step h v h2 hn, ht, hv]
    cases b <;> rfl
  · rfl
theorem brK_top {n o : Nat} {b : Bool} (hn : n < ks.length) (ho : o < N) (hle : o ≤ topK ks n) : o + 1 ≤ topK ks (brK ks n o b) := by
  unfold brK
  split
  · rename_i ht
    have h2 := two_of_top h ht ho
    have tl := h.topl n h2 hn
    have th := h.toph n h2 hn
    split <;> omega
  · omega
theorem ev_upd {n o : Nat} {b : Bool} (hn : n < ks.length) (ho : o < topK ks n) (v : Nat → Bool) : ev ks (chgV v o b) n = ev ks v n :=
  ev_congr h _ _ n hn fun i h1 _ => by
    unfold chgV; rw [if_neg (by omega)]
/-- Two nodes that hold for the same choices are one node. -/
theorem canon : ∀ (m a b : Nat), a + b ≤ m → a < ks.length → b < ks.length → (∀ v, ev ks v a = ev ks v b) → a = b := by
  intro m
  induction m with
  | zero => intro a b hab _ _ _; omega
  | succ m ih =>
    have key : ∀ a b, a + b ≤ m + 1 → a < ks.length → b < ks.length → (∀ v, ev ks v a = ev ks v b) → topK ks a < topK ks b → False := by
      intro a b hab ha hb hv ht
      have hta : topK ks a < N := Nat.lt_of_lt_of_le ht (h.top_le b hb)
      have h2 := two_of_top h rfl hta
      have hl := h.low a h2 ha
      have hh := h.high a h2 ha
      have tl := h.topl a h2 ha
      have th := h.toph a h2 ha
      have e1 : ∀ v, ev ks v (lowK ks a) = ev ks v b := fun v => by
        have := hv (chgV v (topK ks a) false)
        rw [ev_step h _ h2 ha, chgV_same, ev_upd h hb ht] at this
        simp only [Bool.false_eq_true, if_false] at this
        rw [ev_upd h (by omega) tl] at this
        exact this
      have e2 : ∀ v, ev ks v (highK ks a) = ev ks v b := fun v => by
        have := hv (chgV v (topK ks a) true)
        rw [ev_step h _ h2 ha, chgV_same, ev_upd h hb ht] at this
        simp only [if_true] at this
        rw [ev_upd h (by omega) th] at this
        exact this
      have f1 := ih _ _ (by omega) (by omega) hb e1
      have f2 := ih _ _ (by omega) (by omega) hb e2
      exact h.ne a h2 ha (f1.trans f2.symm)
    intro a b hab ha hb hv
    rcases Nat.lt_trichotomy (topK ks a) (topK ks b) with ht | ht | ht
    · exact (key a b hab ha hb hv ht).elim
    · by_cases hN : topK ks a < N
      · have h2 := two_of_top h rfl hN
        have h3 : 2 ≤ b := two_of_top h rfl (ht ▸ hN)
        have hl := h.low a h2 ha
        have hh := h.high a h2 ha
        have tl := h.topl a h2 ha
        have th := h.toph a h2 ha
        have hl' := h.low b h3 hb
        have hh' := h.high b h3 hb
        have tl' := h.topl b h3 hb
        have th' := h.toph b h3 hb
        have e1 : ∀ v, ev ks v (lowK ks a) = ev ks v (lowK ks b) := fun v => by
          have := hv (chgV v (topK ks a) false)
          rw [ev_step h _ h2 ha, ev_step h _ h3 hb, ← ht, chgV_same] at this
          simp only [Bool.false_eq_true, if_false] at this
          rw [ev_upd h (by omega) tl, ev_upd h (by omega) (by omega)] at this
          exact this
        have e2 : ∀ v, ev ks v (highK ks a) = ev ks v (highK ks b) := fun v => by
          have := hv (chgV v (topK ks a) true)
          rw [ev_step h _ h2 ha, ev_step h _ h3 hb, ← ht, chgV_same] at this
          simp only [if_true] at this
          rw [ev_upd h (by omega) th, ev_upd h (by omega) (by omega)] at this
          exact this
        have f1 := ih _ _ (by omega) (by omega) (by omega) e1
        have f2 := ih _ _ (by omega) (by omega) (by omega) e2
        exact h.inj a b h2 ha h3 hb (Kn.ext' ht f1 f2)
      · have ha2 : a < 2 := by
          rcases Nat.lt_or_ge a 2 with h2 | h2
          · exact h2
          · exact absurd (h.opt a h2 ha) hN
        have hb2 : b < 2 := by
          rcases Nat.lt_or_ge b 2 with h2 | h2
          · exact h2
          · exact absurd (ht ▸ h.opt b h2 hb) hN
        have := hv fun _ => false
        rcases (by omega : a = 0 ∨ a = 1) with rfl | rfl <;> rcases (by omega : b = 0 ∨ b = 1) with rfl | rfl <;> simp [ev_zero, ev_one] at this ⊢
    · exact (key b a (by omega) hb ha (fun v => (hv v).symm) ht).elim
theorem canonical {a b : Nat} (ha : a < ks.length) (hb : b < ks.length) (hv : ∀ v, ev ks v a = ev ks v b) : a = b := canon h _ a b (Nat.le_refl _) ha hb hv
end

/-! more nodes -/
theorem getD_old {ks : List Kn} (e : List Kn) {n : Nat} (hn : n < ks.length) : (ks ++ e).getD n Kn.z = ks.getD n Kn.z := by
  simp [List.getD_eq_getElem?_getD, List.getElem?_append_left hn]
theorem topK_old {ks : List Kn} (e : List Kn) {n : Nat} (hn : n < ks.length) : topK (ks ++ e) n = topK ks n := by unfold topK; rw [getD_old e hn]
theorem lowK_old {ks : List Kn} (e : List Kn) {n : Nat} (hn : n < ks.length) : lowK (ks ++ e) n = lowK ks n := by unfold lowK; rw [getD_old e hn]
theorem highK_old {ks : List Kn} (e : List Kn) {n : Nat} (hn : n < ks.length) : highK (ks ++ e) n = highK ks n := by unfold highK; rw [getD_old e hn]
theorem evF_old {N : Nat} {ks : List Kn} (h : WF N ks) (e : List Kn) (v : Nat → Bool) : ∀ (m n : Nat), n < ks.length → evF (ks ++ e) v m n = evF ks v m n
  | 0, n, _ => rfl
  | m + 1, n, hn => by
    simp only [evF]
    rw [getD_old e hn]
    by_cases h2 : n < 2
    · rw [if_pos h2, if_pos h2]
    · rw [if_neg h2, if_neg h2]
      have hl := h.low n (by omega) hn
      have hh := h.high n (by omega) hn
      unfold lowK at hl; unfold highK at hh
      split
      · exact evF_old h e v m _ (by omega)
      · exact evF_old h e v m _ (by omega)
theorem ev_old {N : Nat} {ks : List Kn} (h : WF N ks) (e : List Kn) (v : Nat → Bool) {n : Nat} (hn : n < ks.length) : ev (ks ++ e) v n = ev ks v n := evF_old h e v n n hn
theorem WF.snoc {N : Nat} {ks : List Kn} (h : WF N ks) {k : Kn} (ho : k.opt < N) (hl : k.low < ks.length) (hh : k.high < ks.length) (hne : k.low ≠ k.high) (tl : k.opt < topK ks k.low) (th : k.opt < topK ks k.high) (hnew : ∀ i, 2 ≤ i → i < ks.length → ks.getD i Kn.z ≠ k) : WF N (ks ++ [k]) := by
  have hlen : (ks ++ [k]).length = ks.length + 1 := by simp
  have hget : (ks ++ [k]).getD ks.length Kn.z = k := by simp [List.getD_eq_getElem?_getD]
  have hw := h.two
  refine ⟨by omega, by rw [topK_old _ (by omega)]; exact h.top0, by rw [topK_old _ (by omega)]; exact h.top1, ?_, ?_, ?_, ?_, ?_, ?_, ?_⟩
  · intro i h2 hi
    rcases Nat.lt_or_ge i ks.length with hlt | hge
    · rw [topK_old _ hlt]; exact h.opt i h2 hlt
    · obtain rfl : i = ks.length := by omega
      unfold topK; rw [hget]; exact ho
  · intro i h2 hi
    rcases Nat.lt_or_ge i ks.length with hlt | hge
    · rw [lowK_old _ hlt]; exact h.low i h2 hlt
    · obtain rfl : i = ks.length := by omega
      unfold lowK; rw [hget]; exact hl
  · intro i h2 hi
    rcases Nat.lt_or_ge i ks.length with hlt | hge
    · rw [highK_old _ hlt]; exact h.high i h2 hlt
    · obtain rfl : i = ks.length := by omega
      unfold highK; rw [hget]; exact hh
  · intro i h2 hi
    rcases Nat.lt_or_ge i ks.length with hlt | hge
    · rw [lowK_old _ hlt, highK_old _ hlt]; exact h.ne i h2 hlt
    · obtain rfl : i = ks.length := by omega
      unfold lowK highK; rw [hget]; exact hne
  · intro i h2 hi
    rcases Nat.lt_or_ge i ks.length with hlt | hge
    · have := h.low i h2 hlt
      rw [topK_old _ hlt, lowK_old _ hlt, topK_old _ (by omega)]; exact h.topl i h2 hlt
    · obtain rfl : i = ks.length := by omega
      have e1 : topK (ks ++ [k]) ks.length = k.opt := by unfold topK; rw [hget]
      have e2 : lowK (ks ++ [k]) ks.length = k.low := by unfold lowK; rw [hget]
      rw [e1, e2, topK_old _ hl]; exact tl
  · intro i h2 hi
    rcases Nat.lt_or_ge i ks.length with hlt | hge
    · have := h.high i h2 hlt
      rw [topK_old _ hlt, highK_old _ hlt, topK_old _ (by omega)]; exact h.toph i h2 hlt
    · obtain rfl : i = ks.length := by omega
      have e1 : topK (ks ++ [k]) ks.length = k.opt := by unfold topK; rw [hget]
      have e2 : highK (ks ++ [k]) ks.length = k.high := by unfold highK; rw [hget]
      rw [e1, e2, topK_old _ hh]; exact th
  · intro i j h2 hi h3 hj he
    rcases Nat.lt_or_ge i ks.length with hlt | hge
    · rcases Nat.lt_or_ge j ks.length with hlt' | hge'
      · rw [getD_old _ hlt, getD_old _ hlt'] at he; exact h.inj i j h2 hlt h3 hlt' he
      · obtain rfl : j = ks.length := by omega
        rw [getD_old _ hlt, hget] at he
        exact absurd he (hnew i h2 hlt)
    · obtain rfl : i = ks.length := by omega
      rcases Nat.lt_or_ge j ks.length with hlt' | hge'
      · rw [getD_old _ hlt', hget] at he
        exact absurd he.symm (hnew j h3 hlt')
      · omega
theorem WF.start (N : Nat) : WF N [⟨N, 0, 0⟩, ⟨N, 0, 0⟩] := by
  refine ⟨by simp, rfl, rfl, ?_, ?_, ?_, ?_, ?_, ?_, ?_⟩ <;> intro i <;> intros <;> simp at * <;> omega
end Go.Proofs.YtjimbcklnnhloaaDoor
/- Variants in order; which of them a node holds in, and how many. Plain laws. -/
namespace Go.Proofs.YtjimbcklnnhloaaDoor
set_option linter.unusedVariables false
/-- What a list of choices says of an option. -/
def vf (l : List Bool) : Nat → Bool := fun i => l.getD i false
/-- All variants that begin with a list, in order. -/
def exts : Nat → List Bool → List (List Bool)
  | 0, l => [l]
  | k + 1, l => exts k (l ++ [false]) ++ exts k (l ++ [true])
theorem exts_map : ∀ (k : Nat) (l m : List Bool), exts k (l ++ m) = (exts k m).map (l ++ ·)
  | 0, l, m => rfl
  | k + 1, l, m => by
    simp only [exts, List.map_append]
    rw [List.append_assoc, List.append_assoc, exts_map k l, exts_map k l]
theorem exts_nil (k : Nat) (l : List Bool) : exts k l = (exts k []).map (l ++ ·) := by
  have := exts_map k l []
  rwa [List.append_nil] at this
theorem exts_len : ∀ (k : Nat) (l x : List Bool), x ∈ exts k l → x.length = l.length + k
  | 0, l, x, h => by simp [exts] at h; subst h; rfl
  | k + 1, l, x, h => by
    simp only [exts, List.mem_append] at h
    rcases h with h | h <;> have := exts_len k _ x h <;> simp at this <;> omega
theorem exts_all : ∀ (k : Nat) (x : List Bool), x.length = k → x ∈ exts k []
  | 0, x, h => by simp [exts]; exact List.length_eq_zero_iff.1 h
  | k + 1, x, h => by
    match x, h with
    | b :: r, h =>
      have h1 : r.length = k := by simpa using h
      have := exts_all k r h1
      simp only [exts, List.mem_append]
      cases b
      · refine .inl ?_
        rw [exts_nil, List.mem_map]
        exact ⟨r, this, rfl⟩
      · refine .inr ?_
        rw [exts_nil, List.mem_map]
        exact ⟨r, this, rfl⟩
theorem exts_length : ∀ (k : Nat) (l : List Bool), (exts k l).length = 2 ^ k
  | 0, l => rfl
  | k + 1, l => by simp only [exts, List.length_append, exts_length k]; omega
theorem exts_prefix {k : Nat} {l x : List Bool} (h : x ∈ exts k l) : ∃ y, x = l ++ y ∧ y.length = k := by
  rw [exts_nil, List.mem_map] at h
  obtain ⟨y, hy, rfl⟩ := h
  exact ⟨y, rfl, by simpa using exts_len k [] y hy⟩
theorem vf_left {l y : List Bool} {i : Nat} (hi : i < l.length) : vf (l ++ y) i = vf l i := by
  simp [vf, List.getD_eq_getElem?_getD, List.getElem?_append_left hi]
theorem vf_at (l : List Bool) (b : Bool) (y : List Bool) : vf (l ++ [b] ++ y) l.length = b := by
  simp [vf, List.getD_eq_getElem?_getD]
theorem vf_right {l y : List Bool} {i : Nat} (hi : l.length ≤ i) : vf (l ++ y) i = vf y (i - l.length) := by
  simp [vf, List.getD_eq_getElem?_getD, List.getElem?_append_right hi]

/-- The variants in which a node holds that begin with a list. -/
def sat (ks : List Kn) (N n : Nat) (l : List Bool) : List (List Bool) := (exts (N - l.length) l).filter fun x => ev ks (vf x) n
theorem sat_zero (ks : List Kn) (N : Nat) (l : List Bool) : sat ks N 0 l = [] := by
  unfold sat; rw [List.filter_eq_nil_iff]; intro x _; simp [ev_zero]
theorem sat_one (ks : List Kn) (N : Nat) (l : List Bool) : sat ks N 1 l = exts (N - l.length) l := by
  unfold sat; rw [List.filter_eq_self]; intro x _; simp [ev_one]
theorem sat_full {ks : List Kn} {N n : Nat} {l : List Bool} (hl : N ≤ l.length) : sat ks N n l = if ev ks (vf l) n then [l] else [] := by
  unfold sat
  rw [show N - l.length = 0 from by omega]
  simp only [exts, List.filter_cons, List.filter_nil]
theorem sat_split {ks : List Kn} {N n : Nat} {l : List Bool} (hl : l.length < N) : sat ks N n l = sat ks N n (l ++ [false]) ++ sat ks N n (l ++ [true]) := by
  unfold sat
  rw [show N - l.length = (N - (l ++ [false]).length) + 1 from by simp; omega]
  simp only [exts, List.filter_append, List.length_append, List.length_singleton]
section
variable {N : Nat} {ks : List Kn} (h : WF N ks)
include h
theorem sat_br {n : Nat} {l : List Bool} {b : Bool} (hn : n < ks.length) (hl : l.length < N) : sat ks N (brK ks n l.length b) (l ++ [b]) = sat ks N n (l ++ [b]) := by
  unfold sat
  refine List.filter_congr fun x hx => ?_
  obtain ⟨y, rfl, _⟩ := exts_prefix hx
  exact brK_ev h hn hl _ (vf_at l b y)
theorem sat_step {n : Nat} {l : List Bool} (hn : n < ks.length) (hl : l.length < N) : sat ks N n l = sat ks N (brK ks n l.length false) (l ++ [false]) ++ sat ks N (brK ks n l.length true) (l ++ [true]) := by
  rw [sat_split hl, sat_br h hn hl, sat_br h hn hl]
/-- A node that is not 'no' holds somewhere. -/
theorem ev_some {n : Nat} (hn : n < ks.length) (h0 : n ≠ 0) : ∃ v, ev ks v n = true := by
  have h2 := h.two
  rcases Classical.em (∃ v, ev ks v n = true) with hv | hv
  · exact hv
  · exact absurd (canonical h hn (by omega) (fun v => by
      have h1 : ¬ ev ks v n = true := fun e => hv ⟨v, e⟩
      rw [ev_zero]; simpa using h1)) h0
theorem sat_ne {n : Nat} {l : List Bool} (hn : n < ks.length) (h0 : n ≠ 0) (hl : l.length ≤ topK ks n) : sat ks N n l ≠ [] := by
  obtain ⟨v, hv⟩ := ev_some h hn h0
  have ht := h.top_le n hn
  have hx : l ++ (List.range (N - l.length)).map (fun i => v (l.length + i)) ∈ sat ks N n l := by
    unfold sat
    refine List.mem_filter.2 ⟨?_, ?_⟩
    · rw [exts_nil, List.mem_map]
      exact ⟨_, exts_all _ _ (by simp), rfl⟩
    · rw [← hv]
      refine ev_congr h _ _ n hn fun i h1 h2 => ?_
      rw [vf_right (by omega)]
      unfold vf
      simp only [List.getD_eq_getElem?_getD, List.getElem?_map]
      rw [List.getElem?_range (by omega)]
      simp only [Option.map_some, Option.getD_some]
      congr 1
      omega
  intro e
  rw [e] at hx
  cases hx
theorem sat_len {n : Nat} {l l' : List Bool} (hn : n < ks.length) (he : l.length = l'.length) (hl : l.length ≤ topK ks n) : (sat ks N n l).length = (sat ks N n l').length := by
  unfold sat
  rw [exts_nil _ l, exts_nil _ l', List.filter_map, List.filter_map, List.length_map, List.length_map, he]
  congr 1
  refine List.filter_congr fun x hx => ?_
  refine ev_congr h _ _ n hn fun i h1 h2 => ?_
  show vf (l ++ x) i = vf (l' ++ x) i
  rw [vf_right (by omega), vf_right (by omega), he]
omit h in
/-- In how many variants of the options from one on a node holds. -/
def cntK (ks : List Kn) (N n o : Nat) : Nat := (sat ks N n (List.replicate o false)).length
theorem cntK_of {n : Nat} {l : List Bool} (hn : n < ks.length) (hl : l.length ≤ topK ks n) : (sat ks N n l).length = cntK ks N n l.length :=
  sat_len h hn (by simp) hl
omit h in
theorem cntK_zero (o : Nat) : cntK ks N 0 o = 0 := by unfold cntK; rw [sat_zero]; rfl
theorem cntK_lift {n : Nat} (hn : n < ks.length) : ∀ (k o : Nat), o + k = topK ks n → cntK ks N n o = cntK ks N n (topK ks n) * 2 ^ k
  | 0, o, ho => by rw [show o = topK ks n from by omega]; simp
  | k + 1, o, ho => by
    have ht := h.top_le n hn
    have ih := cntK_lift hn k (o + 1) (by omega)
    unfold cntK at ih ⊢
    rw [sat_split (by simp; omega), List.length_append, sat_len h hn (l' := List.replicate (o + 1) false) (by simp) (by simp; omega), sat_len h hn (l := List.replicate o false ++ [true]) (l' := List.replicate (o + 1) false) (by simp) (by simp; omega), ih, Nat.pow_succ, ← Nat.mul_assoc]
    omega
omit h in
theorem cntK_one : cntK ks N 1 N = 1 := by
  unfold cntK; rw [sat_one, exts_length]; simp
theorem cntK_node {n : Nat} (h2 : 2 ≤ n) (hn : n < ks.length) : cntK ks N n (topK ks n) = cntK ks N (lowK ks n) (topK ks n + 1) + cntK ks N (highK ks n) (topK ks n + 1) := by
  have ht := h.opt n h2 hn
  have hl := h.low n h2 hn
  have hh := h.high n h2 hn
  have tl := h.topl n h2 hn
  have th := h.toph n h2 hn
  unfold cntK
  rw [sat_step h hn (by simpa using ht), List.length_append, List.length_replicate]
  have e1 : brK ks n (topK ks n) false = lowK ks n := by unfold brK; rw [if_pos rfl]; rfl
  have e2 : brK ks n (topK ks n) true = highK ks n := by unfold brK; rw [if_pos rfl]; rfl
  rw [e1, e2, sat_len h (by omega) (l' := List.replicate (topK ks n + 1) false) (by simp) (by simp; omega), sat_len h (n := highK ks n) (by omega) (l' := List.replicate (topK ks n + 1) false) (by simp) (by simp; omega)]
end
theorem cntK_le (ks : List Kn) (N n o : Nat) : cntK ks N n o ≤ 2 ^ (N - o) := by
  unfold cntK sat
  refine Nat.le_trans (List.length_filter_le _ _) ?_
  rw [exts_length]; simp
/-! more nodes change nothing -/
theorem sat_old {N : Nat} {ks : List Kn} (h : WF N ks) (e : List Kn) {n : Nat} (hn : n < ks.length) (l : List Bool) : sat (ks ++ e) N n l = sat ks N n l := by
  unfold sat
  exact List.filter_congr fun x _ => ev_old h e _ hn
end Go.Proofs.YtjimbcklnnhloaaDoor
/- The greatest sum of weights that nodes allow. Plain laws. -/
namespace Go.Proofs.YtjimbcklnnhloaaDoor
set_option linter.unusedVariables false
def leastI : Int := -1152921504606846976
/-- The weights of the nodes that hold. -/
def wsum (ks : List Kn) (v : Nat → Bool) : List Nat → List Int → Int
  | n :: ns, x :: xs => (if ev ks v n then x else 0) + wsum ks v ns xs
  | _, _ => 0
/-- What a variant is worth: the first node has to hold. -/
def valI (ks : List Kn) (v : Nat → Bool) (nodes : List Nat) (ws : List Int) : Int :=
  match nodes with
  | [] => leastI
  | n :: ns => if ev ks v n then wsum ks v ns ws else leastI
def maxL (l : List Int) : Int := l.foldl max leastI
theorem foldl_max : ∀ (l : List Int) (i : Int), leastI ≤ i → l.foldl max i = max i (maxL l)
  | [], i, h => by simp only [maxL, List.foldl_nil]; omega
  | a :: l, i, h => by
    have h1 := foldl_max l (max i a) (by omega)
    have h2 := foldl_max l (max leastI a) (by omega)
    unfold maxL at h1 h2 ⊢
    simp only [List.foldl_cons]
    rw [h1, h2]
    omega
theorem maxL_least (l : List Int) : leastI ≤ maxL l := by
  have : ∀ (l : List Int) (i : Int), leastI ≤ i → leastI ≤ l.foldl max i := by
    intro l
    induction l with
    | nil => intro i h; exact h
    | cons a l ih => intro i h; exact ih _ (by omega)
  exact this l _ (Int.le_refl _)
theorem maxL_cons (a : Int) (l : List Int) : maxL (a :: l) = max (max leastI a) (maxL l) := foldl_max l _ (by omega)
theorem maxL_append (a b : List Int) : maxL (a ++ b) = max (maxL a) (maxL b) := by
  show (a ++ b).foldl max leastI = _
  rw [List.foldl_append]
  exact foldl_max b _ (maxL_least a)
theorem maxL_mem : ∀ (l : List Int) (x : Int), x ∈ l → x ≤ maxL l
  | a :: l, x, h => by
    rw [maxL_cons]
    rcases List.mem_cons.1 h with rfl | h
    · omega
    · have := maxL_mem l x h
      omega
theorem maxL_const {c : Int} (hc : leastI ≤ c) : ∀ (l : List Int), l ≠ [] → (∀ x ∈ l, x = c) → maxL l = c
  | [a], _, h => by
    rw [maxL_cons, h a (by simp)]
    simp only [maxL, List.foldl_nil]; omega
  | a :: b :: l, _, h => by
    rw [maxL_cons, h a (by simp), maxL_const hc (b :: l) (by simp) (fun x hx => h x (by simp [hx]))]
    omega
theorem maxL_attained : ∀ (l : List Int), leastI < maxL l → maxL l ∈ l
  | [], h => by simp [maxL] at h
  | a :: l, h => by
    rw [maxL_cons] at h ⊢
    by_cases h1 : maxL l ≤ a
    · rw [show max (max leastI a) (maxL l) = a by omega]; simp
    · have h2 := maxL_least l
      rw [show max (max leastI a) (maxL l) = maxL l by omega]
      exact List.mem_cons_of_mem _ (maxL_attained l (by omega))
/-- The greatest worth of the variants that begin with a list. -/
def bestK (ks : List Kn) (N : Nat) (nodes : List Nat) (ws : List Int) (l : List Bool) : Int := maxL ((exts (N - l.length) l).map fun x => valI ks (vf x) nodes ws)
theorem wsum_congr {ks ks' : List Kn} {v v' : Nat → Bool} : ∀ {a b : List Nat} {ws : List Int}, a.length = b.length → (∀ i, i < a.length → ev ks v (a.getD i 0) = ev ks' v' (b.getD i 0)) → wsum ks v a ws = wsum ks' v' b ws
  | [], [], ws, _, _ => by cases ws <;> rfl
  | x :: a, y :: b, [], _, _ => rfl
  | x :: a, y :: b, w :: ws, hl, h => by
    have h0 := h 0 (by simp)
    simp only [List.getD_cons_zero] at h0
    simp only [wsum, h0]
    rw [wsum_congr (by simpa using hl) fun i hi => by have := h (i + 1) (by simpa using hi); simpa using this]
  | [], y :: b, _, hl, _ => by simp at hl
  | x :: a, [], _, hl, _ => by simp at hl
theorem valI_congr {ks ks' : List Kn} {v v' : Nat → Bool} {a b : List Nat} {ws : List Int} (hl : a.length = b.length) (h : ∀ i, i < a.length → ev ks v (a.getD i 0) = ev ks' v' (b.getD i 0)) : valI ks v a ws = valI ks' v' b ws := by
  match a, b, hl, h with
  | [], [], _, _ => rfl
  | x :: a, y :: b, hl, h =>
    have h0 := h 0 (by simp)
    simp only [List.getD_cons_zero] at h0
    simp only [valI, h0]
    rw [wsum_congr (by simpa using hl) fun i hi => by have := h (i + 1) (by simpa using hi); simpa using this]
  | [], y :: b, hl, _ => simp at hl
  | x :: a, [], hl, _ => simp at hl
theorem bestK_split {ks : List Kn} {N : Nat} {nodes : List Nat} {ws : List Int} {l : List Bool} (hl : l.length < N) : bestK ks N nodes ws l = max (bestK ks N nodes ws (l ++ [false])) (bestK ks N nodes ws (l ++ [true])) := by
  unfold bestK
  rw [← maxL_append, ← List.map_append]
  rw [show N - l.length = (N - (l ++ [false]).length) + 1 from by simp; omega]
  simp only [exts, List.length_append, List.length_singleton]
theorem getD_map {α β : Type} (f : α → β) (l : List α) (z : α) (i : Nat) (h : i < l.length) (y : β) : (l.map f).getD i y = f (l.getD i z) := by
  simp [List.getD_eq_getElem?_getD, h]
section
variable {N : Nat} {ks : List Kn} (h : WF N ks)
include h
theorem bestK_br {nodes : List Nat} {ws : List Int} {l : List Bool} {b : Bool} (hn : ∀ n ∈ nodes, n < ks.length) (hl : l.length < N) : bestK ks N (nodes.map fun n => brK ks n l.length b) ws (l ++ [b]) = bestK ks N nodes ws (l ++ [b]) := by
  unfold bestK
  congr 1
  refine List.map_congr_left fun x hx => ?_
  obtain ⟨y, rfl, _⟩ := exts_prefix hx
  refine valI_congr (by simp) fun i hi => ?_
  have hi' : i < nodes.length := by simpa using hi
  rw [getD_map _ _ 0 _ hi']
  exact brK_ev h (hn _ (by rw [List.getD_eq_getElem?_getD, List.getElem?_eq_getElem hi']; exact List.getElem_mem _)) hl _ (vf_at l b y)
theorem bestK_len {nodes : List Nat} {ws : List Int} {l l' : List Bool} (hn : ∀ n ∈ nodes, n < ks.length) (he : l.length = l'.length) (ht : ∀ n ∈ nodes, l.length ≤ topK ks n) : bestK ks N nodes ws l = bestK ks N nodes ws l' := by
  unfold bestK
  rw [exts_nil _ l, exts_nil _ l', List.map_map, List.map_map, he]
  congr 1
  refine List.map_congr_left fun x hx => ?_
  refine valI_congr rfl fun i hi => ?_
  have hm : nodes.getD i 0 ∈ nodes := by rw [List.getD_eq_getElem?_getD, List.getElem?_eq_getElem hi]; exact List.getElem_mem _
  refine ev_congr h _ _ _ (hn _ hm) fun j h1 h2 => ?_
  have := ht _ hm
  show vf (l ++ x) j = vf (l' ++ x) j
  rw [vf_right (by omega), vf_right (by omega), he]
/-- Options that no node asks for change nothing. -/
theorem bestK_lift {nodes : List Nat} {ws : List Int} (hn : ∀ n ∈ nodes, n < ks.length) : ∀ (k o : Nat), o + k ≤ N → (∀ n ∈ nodes, o + k ≤ topK ks n) → bestK ks N nodes ws (List.replicate o false) = bestK ks N nodes ws (List.replicate (o + k) false)
  | 0, o, _, _ => rfl
  | k + 1, o, hN, ht => by
    rw [bestK_split (by simp; omega), bestK_len h (l := List.replicate o false ++ [false]) (l' := List.replicate (o + 1) false) hn (by simp) (fun n hn => by have := ht n hn; simp; omega), bestK_len h (l := List.replicate o false ++ [true]) (l' := List.replicate (o + 1) false) hn (by simp) (fun n hn => by have := ht n hn; simp; omega), bestK_lift hn k (o + 1) (by omega) (fun n hn => by have := ht n hn; omega)]
    rw [show o + (k + 1) = o + 1 + k by omega]
    omega
omit h in
theorem bestK_no {ns : List Nat} {ws : List Int} (l : List Bool) : bestK ks N (0 :: ns) ws l = leastI := by
  unfold bestK
  refine maxL_const (Int.le_refl _) _ ?_ ?_
  · intro e
    have := congrArg List.length e
    rw [List.length_map, exts_length] at this
    have := Nat.one_le_two_pow (n := N - l.length)
    simp at *
  · intro x hx
    rw [List.mem_map] at hx
    obtain ⟨y, _, rfl⟩ := hx
    simp [valI, ev_zero]
omit h in
/-- The sum of the weights whose nodes are 'yes'. -/
def wyes : List Nat → List Int → Int
  | n :: ns, x :: xs => (if n = 1 then x else 0) + wyes ns xs
  | _, _ => 0
omit h in
theorem wsum_ends (v : Nat → Bool) : ∀ (ns : List Nat) (ws : List Int), (∀ n ∈ ns, n < 2) → wsum ks v ns ws = wyes ns ws
  | [], ws, _ => by cases ws <;> rfl
  | n :: ns, [], _ => rfl
  | n :: ns, x :: xs, h => by
    have h0 := h n (by simp)
    simp only [wsum, wyes]
    rw [wsum_ends v ns xs fun m hm => h m (by simp [hm])]
    rcases (by omega : n = 0 ∨ n = 1) with rfl | rfl
    · simp [ev_zero]
    · simp [ev_one]
omit h in
theorem bestK_ends {ns : List Nat} {ws : List Int} (l : List Bool) (hn : ∀ n ∈ ns, n < 2) (hw : leastI ≤ wyes ns ws) : bestK ks N (1 :: ns) ws l = wyes ns ws := by
  unfold bestK
  refine maxL_const hw _ ?_ ?_
  · intro e
    have := congrArg List.length e
    rw [List.length_map, exts_length] at this
    have := Nat.one_le_two_pow (n := N - l.length)
    simp at *
  · intro x hx
    rw [List.mem_map] at hx
    obtain ⟨y, _, rfl⟩ := hx
    simp only [valI, ev_one, if_true]
    exact wsum_ends _ ns ws hn
/-- The step that best takes. -/
theorem bestK_step {nodes : List Nat} {ws : List Int} {t : Nat} (hn : ∀ n ∈ nodes, n < ks.length) (htN : t < N) (ht : ∀ n ∈ nodes, t ≤ topK ks n) : bestK ks N nodes ws [] = max (bestK ks N (nodes.map fun n => brK ks n t false) ws []) (bestK ks N (nodes.map fun n => brK ks n t true) ws []) := by
  have key : ∀ b, bestK ks N (nodes.map fun n => brK ks n t b) ws [] = bestK ks N nodes ws (List.replicate t false ++ [b]) := by
    intro b
    have hlt : ∀ n ∈ nodes.map fun n => brK ks n t b, n < ks.length := by
      intro n hm
      rw [List.mem_map] at hm
      obtain ⟨x, hx, rfl⟩ := hm
      exact brK_lt h (hn x hx) htN
    have htt : ∀ n ∈ nodes.map fun n => brK ks n t b, t + 1 ≤ topK ks n := by
      intro n hm
      rw [List.mem_map] at hm
      obtain ⟨x, hx, rfl⟩ := hm
      exact brK_top h (hn x hx) htN (ht x hx)
    have h1 := bestK_lift h (ws := ws) hlt (t + 1) 0 (by omega) (fun n hm => by have := htt n hm; omega)
    have h2 := bestK_br h (nodes := nodes) (ws := ws) (l := List.replicate t false) (b := b) hn (by simpa using htN)
    rw [List.length_replicate] at h2
    rw [← h2]
    rw [show ([] : List Bool) = List.replicate 0 false from rfl, h1]
    exact bestK_len h hlt (by simp) (fun n hm => by have := htt n hm; simp; omega)
  have h1 := bestK_lift h (ws := ws) hn t 0 (by omega) (fun n hm => by have := ht n hm; omega)
  rw [show List.replicate 0 false = ([] : List Bool) from rfl, Nat.zero_add] at h1
  rw [key, key, h1, bestK_split (by simpa using htN)]
end
end Go.Proofs.YtjimbcklnnhloaaDoor
/- Formulas: which are valid, what they say. Plain laws. -/
namespace Go.Proofs.YtjimbcklnnhloaaDoor
set_option linter.unusedVariables false
/-- How many operands a number of a formula has. -/
def arO (o : Int) : Nat := if o = -3 then 1 else if o = -4 ∨ o = -5 ∨ o = -6 then 2 else 0
/-- Whether numbers are so many terms, one after the other. -/
def vld (N : Nat) : Nat → List Int → Bool
  | 0, [] => true
  | _ + 1, [] => false
  | 0, _ :: _ => false
  | w + 1, o :: r => decide (-6 ≤ o) && decide (o < N) && vld N (w + arO o) r
def validF (N : Nat) (f : List Int) : Bool := vld N 1 f && decide (f.length ≤ 100)
/-- What one number does to the values of the terms behind it. -/
def stp (v : Nat → Bool) (o : Int) (S : List Bool) : List Bool :=
  if o = -1 then true :: S
  else if o = -2 then false :: S
  else if o = -3 then (!S.headD false) :: S.drop 1
  else if o = -4 then (S.headD false && (S.drop 1).headD false) :: S.drop 2
  else if o = -5 then (S.headD false || (S.drop 1).headD false) :: S.drop 2
  else if o = -6 then (S.headD false == (S.drop 1).headD false) :: S.drop 2
  else v o.toNat :: S
def evS (v : Nat → Bool) (f : List Int) : List Bool := f.foldr (stp v) []
/-- Whether a formula holds. -/
def evF1 (v : Nat → Bool) (f : List Int) : Bool := (evS v f).headD false
theorem evS_cons (v : Nat → Bool) (o : Int) (r : List Int) : evS v (o :: r) = stp v o (evS v r) := rfl
theorem evS_len {N : Nat} (v : Nat → Bool) : ∀ (f : List Int) (w : Nat), vld N w f = true → (evS v f).length = w
  | [], 0, _ => rfl
  | [], w + 1, h => by simp [vld] at h
  | o :: r, 0, h => by simp [vld] at h
  | o :: r, w + 1, h => by
    simp only [vld, Bool.and_eq_true, decide_eq_true_eq] at h
    have ih := evS_len v r _ h.2
    rw [evS_cons]
    unfold stp arO at *
    repeat' split at ih
    all_goals (repeat' split)
    all_goals (simp only [List.length_cons, List.length_drop, ih]; try omega)
theorem vld_drop {N : Nat} : ∀ (f : List Int) (w : Nat), vld N w f = true → ∀ k, k ≤ f.length → ∃ w', vld N w' (f.drop k) = true
  | f, w, h, 0, _ => ⟨w, h⟩
  | [], w, h, k + 1, hk => by simp at hk
  | o :: r, 0, h, k + 1, _ => by simp [vld] at h
  | o :: r, w + 1, h, k + 1, hk => by
    simp only [vld, Bool.and_eq_true, decide_eq_true_eq] at h
    exact vld_drop r _ h.2 k (by simpa using hk)
theorem vld_le {N : Nat} : ∀ (f : List Int) (w : Nat), vld N w f = true → w ≤ f.length
  | [], 0, _ => Nat.le_refl _
  | [], w + 1, h => by simp [vld] at h
  | o :: r, 0, h => Nat.zero_le _
  | o :: r, w + 1, h => by
    simp only [vld, Bool.and_eq_true, decide_eq_true_eq] at h
    have := vld_le r _ h.2
    simp only [List.length_cons]; omega
/-- What is known of a number of a valid formula. -/
theorem vld_at {N : Nat} {f : List Int} {w k : Nat} (h : vld N w f = true) (hk : k < f.length) : ∃ w', vld N (w' + 1) (f.drop k) = true ∧ vld N (w' + arO (f.getD k 0)) (f.drop (k + 1)) = true ∧ -6 ≤ f.getD k 0 ∧ f.getD k 0 < N := by
  obtain ⟨w1, h1⟩ := vld_drop f w h k (by omega)
  have hd : f.drop k = f.getD k 0 :: f.drop (k + 1) := by
    rw [List.drop_eq_getElem_cons hk, List.getD_eq_getElem?_getD, List.getElem?_eq_getElem hk]; rfl
  rw [hd] at h1
  match w1, h1 with
  | 0, h1 => simp [vld] at h1
  | w1 + 1, h1 =>
    refine ⟨w1, by rw [hd]; exact h1, ?_⟩
    simp only [vld, Bool.and_eq_true, decide_eq_true_eq] at h1
    exact ⟨h1.2, h1.1.1, h1.1.2⟩
theorem drop_getD {f : List Int} {k : Nat} (hk : k < f.length) : f.drop k = f.getD k 0 :: f.drop (k + 1) := by
  rw [List.drop_eq_getElem_cons hk, List.getD_eq_getElem?_getD, List.getElem?_eq_getElem hk]; rfl
theorem validF_pos {N : Nat} {f : List Int} (h : validF N f = true) : 1 ≤ f.length ∧ f.length ≤ 100 := by
  simp only [validF, Bool.and_eq_true, decide_eq_true_eq] at h
  refine ⟨?_, h.2⟩
  match f, h.1 with
  | [], h => simp [vld] at h
  | o :: r, _ => simp
theorem validF_one {N : Nat} {f : List Int} (h : validF N f = true) (v : Nat → Bool) : evS v f = [evF1 v f] := by
  simp only [validF, Bool.and_eq_true, decide_eq_true_eq] at h
  have := evS_len v f 1 h.1
  unfold evF1
  match hs : evS v f, this with
  | [x], _ => rfl
/-- The variants of a model in which a list of formulas holds. -/
def allF (v : Nat → Bool) (l : List (List Int)) : Bool := l.all fun f => evF1 v f
end Go.Proofs.YtjimbcklnnhloaaDoor
/- Names, and which models are valid. Plain laws. -/
namespace Go.Proofs.YtjimbcklnnhloaaDoor
set_option linter.unusedVariables false
/-- Whether a byte may stand in a name. -/
def alN (c : UInt8) : Bool := (decide (97 ≤ c.toNat) && decide (c.toNat ≤ 122)) || (decide (48 ≤ c.toNat) && decide (c.toNat ≤ 57))
def smN (c : UInt8) : Bool := decide (97 ≤ c.toNat) && decide (c.toNat ≤ 122)
/-- How many bytes at the beginning may stand in a name. -/
def wordN : List UInt8 → Nat
  | [] => 0
  | c :: r => if alN c then wordN r + 1 else 0
theorem wordN_le : ∀ l, wordN l ≤ l.length
  | [] => Nat.le_refl _
  | c :: r => by
    have := wordN_le r
    simp only [wordN, List.length_cons]; split <;> omega
theorem wordN_at : ∀ (l : List UInt8) (k : Nat), k < l.length → (∀ j, j < k → alN (l.getD j 0) = true) → alN (l.getD k 0) = false → wordN l = k
  | [], k, h, _, _ => by simp at h
  | c :: r, 0, _, _, h => by
    simp only [List.getD_cons_zero] at h
    simp [wordN, h]
  | c :: r, k + 1, hk, h1, h2 => by
    have h3 := h1 0 (by omega)
    simp only [List.getD_cons_zero] at h3
    have h4 := wordN_at r k (by simpa using hk) (fun j hj => by have := h1 (j + 1) (by omega); simpa using this) (by simpa using h2)
    simp [wordN, h3, h4]
theorem wordN_all : ∀ (l : List UInt8), (∀ j, j < l.length → alN (l.getD j 0) = true) → wordN l = l.length
  | [], _ => rfl
  | c :: r, h => by
    have h3 := h 0 (by simp)
    simp only [List.getD_cons_zero] at h3
    have h4 := wordN_all r (fun j hj => by have := h (j + 1) (by simpa using hj); simpa using this)
    simp [wordN, h3, h4]
theorem wordN_full : ∀ (l : List UInt8), wordN l = l.length → ∀ j, j < l.length → alN (l.getD j 0) = true
  | [], _, j, hj => by simp at hj
  | c :: r, h, j, hj => by
    have hle := wordN_le r
    simp only [wordN, List.length_cons] at h
    split at h
    · rename_i hc
      match j, hj with
      | 0, _ => simpa using hc
      | j + 1, hj =>
        have := wordN_full r (by omega) j (by simpa using hj)
        simpa using this
    · omega
/-- Whether a text is a name. -/
def namedB (l : List UInt8) : Bool := decide (1 ≤ l.length) && decide (l.length ≤ 8) && smN (l.getD 0 0) && decide (l ≠ [121, 101, 115]) && decide (l ≠ [110, 111]) && decide (wordN l = l.length)
/-- Whether options are names, each another one. -/
def namesB : List (List UInt8) → List (List UInt8) → Bool
  | _, [] => true
  | seen, n :: r => namedB n && !seen.contains n && namesB (seen ++ [n]) r
structure Mo where
  opts : List ByteArray
  rules : List (List Int)
def Mo.names (m : Mo) : List (List UInt8) := m.opts.map fun s => s.data.toList
def Mo.err (m : Mo) : Int := if 40 < m.opts.length ∨ 60 < m.rules.length then 2 else if namesB [] m.names = false then 10 else if m.rules.all (validF m.opts.length) = false then 11 else 0
/-- The error of a model and formulas. -/
def Mo.errF (m : Mo) (l : List (List Int)) : Int := if m.err ≠ 0 then m.err else if l.all (validF m.opts.length) = false then 11 else 0
theorem namesB_at : ∀ (seen l : List (List UInt8)) (k : Nat), k < l.length → (∀ j, j < k → namedB (l.getD j []) = true ∧ (seen ++ l.take j).contains (l.getD j []) = false) → (namedB (l.getD k []) && !(seen ++ l.take k).contains (l.getD k [])) = false → namesB seen l = false
  | seen, [], k, h, _, _ => by simp at h
  | seen, n :: r, 0, _, _, h => by
    simp only [List.getD_cons_zero, List.take_zero, List.append_nil] at h
    simp only [namesB, h, Bool.false_and]
  | seen, n :: r, k + 1, hk, h1, h2 => by
    have h3 := h1 0 (by omega)
    simp only [List.getD_cons_zero, List.take_zero, List.append_nil] at h3
    have h4 := namesB_at (seen ++ [n]) r k (by simpa using hk) (fun j hj => by
      have := h1 (j + 1) (by omega)
      simpa using this) (by simpa using h2)
    simp only [namesB, h4, Bool.and_false]
theorem namesB_all : ∀ (seen l : List (List UInt8)), (∀ j, j < l.length → namedB (l.getD j []) = true ∧ (seen ++ l.take j).contains (l.getD j []) = false) → namesB seen l = true
  | seen, [], _ => rfl
  | seen, n :: r, h1 => by
    have h3 := h1 0 (by simp)
    simp only [List.getD_cons_zero, List.take_zero, List.append_nil] at h3
    have h4 := namesB_all (seen ++ [n]) r (fun j hj => by
      have := h1 (j + 1) (by simpa using hj)
      simpa using this)
    simp only [namesB, h3.1, h3.2, h4, Bool.not_false, Bool.and_self]
theorem Mo.err_cases (m : Mo) : m.err = 0 ∨ m.err = 2 ∨ m.err = 10 ∨ m.err = 11 := by
  unfold Mo.err; split; simp; split; simp; split <;> simp
theorem Mo.errF_cases (m : Mo) (l : List (List Int)) : m.errF l = 0 ∨ m.errF l = 2 ∨ m.errF l = 10 ∨ m.errF l = 11 := by
  have := m.err_cases
  unfold Mo.errF; split
  · omega
  · split <;> simp
theorem Mo.ok {m : Mo} (h : m.err = 0) : m.opts.length ≤ 40 ∧ m.rules.length ≤ 60 ∧ namesB [] m.names = true ∧ ∀ f ∈ m.rules, validF m.opts.length f = true := by
  unfold Mo.err at h
  split at h
  · simp at h
  · rename_i h1
    split at h
    · simp at h
    · rename_i h2
      split at h
      · simp at h
      · rename_i h3
        exact ⟨by omega, by omega, by simpa using h2, List.all_eq_true.1 (by simpa using h3)⟩
theorem Mo.okF {m : Mo} {l : List (List Int)} (h : m.errF l = 0) : m.err = 0 ∧ ∀ f ∈ l, validF m.opts.length f = true := by
  unfold Mo.errF at h
  split at h
  · rename_i h1; exact absurd h h1
  · rename_i h1
    split at h
    · simp at h
    · rename_i h3
      exact ⟨by omega, List.all_eq_true.1 (by simpa using h3)⟩
end Go.Proofs.YtjimbcklnnhloaaDoor
/- The first variant of the greatest sum. Plain laws. -/
namespace Go.Proofs.YtjimbcklnnhloaaDoor
set_option linter.unusedVariables false
/-- What is known of the nodes after some choices l. -/
structure Pick (ks : List Kn) (N : Nat) (ws : List Int) (nodes : List Nat) (M : Int) (l : List Bool) (ns : List Nat) : Prop where
  len : ns.length = nodes.length
  lt : ∀ n ∈ ns, n < ks.length
  top : ∀ n ∈ ns, l.length ≤ topK ks n
  val : ∀ y, valI ks (vf (l ++ y)) ns ws = valI ks (vf (l ++ y)) nodes ws
  best : bestK ks N nodes ws l = M
  find : (exts N []).find? (fun x => valI ks (vf x) nodes ws == M) = (exts (N - l.length) l).find? (fun x => valI ks (vf x) nodes ws == M)
section
variable {N : Nat} {ks : List Kn} (h : WF N ks) {ws : List Int} {nodes : List Nat} {M : Int}
include h
omit h in
theorem Pick.start (hn : ∀ n ∈ nodes, n < ks.length) (hM : bestK ks N nodes ws [] = M) : Pick ks N ws nodes M [] nodes :=
  ⟨rfl, hn, fun n _ => Nat.zero_le _, fun y => rfl, hM, rfl⟩
omit h in
theorem Pick.bestK {l : List Bool} {ns : List Nat} (p : Pick ks N ws nodes M l ns) : Go.Proofs.YtjimbcklnnhloaaDoor.bestK ks N ns ws l = M := by
  rw [← p.best]
  unfold Go.Proofs.YtjimbcklnnhloaaDoor.bestK
  congr 1
  refine List.map_congr_left fun x hx => ?_
  obtain ⟨y, rfl, _⟩ := exts_prefix hx
  exact p.val y
/-- What best gives for the nodes one step on. -/
theorem Pick.ahead {l : List Bool} {ns : List Nat} (p : Pick ks N ws nodes M l ns) (hl : l.length < N) (b : Bool) : Go.Proofs.YtjimbcklnnhloaaDoor.bestK ks N (ns.map fun n => brK ks n l.length b) ws [] = Go.Proofs.YtjimbcklnnhloaaDoor.bestK ks N nodes ws (l ++ [b]) := by
  have hlt : ∀ n ∈ ns.map fun n => brK ks n l.length b, n < ks.length := by
    intro n hm
    rw [List.mem_map] at hm
    obtain ⟨x, hx, rfl⟩ := hm
    exact brK_lt h (p.lt x hx) hl
  have htt : ∀ n ∈ ns.map fun n => brK ks n l.length b, l.length + 1 ≤ topK ks n := by
    intro n hm
    rw [List.mem_map] at hm
    obtain ⟨x, hx, rfl⟩ := hm
    exact brK_top h (p.lt x hx) hl (p.top x hx)
  have h1 := bestK_lift h (ws := ws) hlt (l.length + 1) 0 (by omega) (fun n hm => by have := htt n hm; omega)
  rw [show List.replicate 0 false = ([] : List Bool) from rfl, Nat.zero_add] at h1
  rw [h1, bestK_len h (l' := l ++ [b]) hlt (by simp) (fun n hm => by have := htt n hm; simp; omega), bestK_br h p.lt hl]
  unfold Go.Proofs.YtjimbcklnnhloaaDoor.bestK
  congr 1
  refine List.map_congr_left fun x hx => ?_
  obtain ⟨y, rfl, _⟩ := exts_prefix hx
  rw [List.append_assoc]
  exact p.val _
omit h in
theorem bestK_find {l : List Bool} (hM : leastI < M) (hb : bestK ks N nodes ws l = M) : ((exts (N - l.length) l).find? fun x => valI ks (vf x) nodes ws == M).isSome = true := by
  rw [List.find?_isSome]
  have h1 := maxL_attained ((exts (N - l.length) l).map fun x => valI ks (vf x) nodes ws) (by unfold bestK at hb; rw [hb]; exact hM)
  rw [List.mem_map] at h1
  obtain ⟨x, hx, he⟩ := h1
  exact ⟨x, hx, by rw [he]; unfold bestK at hb; rw [hb]; simp⟩
omit h in
theorem bestK_none {l : List Bool} (hb : bestK ks N nodes ws l < M) : ((exts (N - l.length) l).find? fun x => valI ks (vf x) nodes ws == M) = none := by
  rw [List.find?_eq_none]
  intro x hx e
  have h1 := maxL_mem ((exts (N - l.length) l).map fun x => valI ks (vf x) nodes ws) (valI ks (vf x) nodes ws) (List.mem_map.2 ⟨x, hx, rfl⟩)
  have h2 : valI ks (vf x) nodes ws = M := by simpa using e
  unfold bestK at hb
  omega
theorem Pick.next {l : List Bool} {ns : List Nat} (p : Pick ks N ws nodes M l ns) (hl : l.length < N) (hM : leastI < M) {b : Bool} (hb : b = decide (Go.Proofs.YtjimbcklnnhloaaDoor.bestK ks N nodes ws (l ++ [false]) < M)) : Pick ks N ws nodes M (l ++ [b]) (ns.map fun n => brK ks n l.length b) := by
  have hs := bestK_split (ks := ks) (nodes := nodes) (ws := ws) hl
  rw [p.best] at hs
  have hne : N - l.length = (N - (l ++ [false]).length) + 1 := by simp; omega
  have hx : (exts (N - l.length) l) = exts (N - (l ++ [false]).length) (l ++ [false]) ++ exts (N - (l ++ [true]).length) (l ++ [true]) := by
    rw [hne]; simp only [exts, List.length_append, List.length_singleton]
  refine ⟨by rw [List.length_map]; exact p.len, ?_, ?_, ?_, ?_, ?_⟩
  · intro n hm
    rw [List.mem_map] at hm
    obtain ⟨x, hx, rfl⟩ := hm
    exact brK_lt h (p.lt x hx) hl
  · intro n hm
    rw [List.mem_map] at hm
    obtain ⟨x, hx, rfl⟩ := hm
    have := brK_top h (b := b) (p.lt x hx) hl (p.top x hx)
    simp; omega
  · intro y
    have h1 := p.val ([b] ++ y)
    rw [← List.append_assoc] at h1
    rw [← h1]
    refine valI_congr (by simp) fun i hi => ?_
    have hi' : i < ns.length := by simpa using hi
    rw [getD_map _ _ 0 _ hi']
    exact brK_ev h (p.lt _ (by rw [List.getD_eq_getElem?_getD, List.getElem?_eq_getElem hi']; exact List.getElem_mem _)) hl _ (vf_at l b y)
  · cases b with
    | true =>
      have : Go.Proofs.YtjimbcklnnhloaaDoor.bestK ks N nodes ws (l ++ [false]) < M := by simpa using hb.symm
      omega
    | false =>
      have : ¬ Go.Proofs.YtjimbcklnnhloaaDoor.bestK ks N nodes ws (l ++ [false]) < M := by simpa using hb.symm
      omega
  · rw [p.find, hx, List.find?_append]
    cases b with
    | true =>
      have : Go.Proofs.YtjimbcklnnhloaaDoor.bestK ks N nodes ws (l ++ [false]) < M := by simpa using hb.symm
      rw [bestK_none this]; rfl
    | false =>
      have : ¬ Go.Proofs.YtjimbcklnnhloaaDoor.bestK ks N nodes ws (l ++ [false]) < M := by simpa using hb.symm
      have h2 := bestK_find (ks := ks) (N := N) (nodes := nodes) (ws := ws) (l := l ++ [false]) hM (by omega)
      obtain ⟨x, hx⟩ := Option.isSome_iff_exists.1 h2
      rw [hx]; rfl
omit h in
theorem Pick.finish {l : List Bool} {ns : List Nat} (p : Pick ks N ws nodes M l ns) (hl : l.length = N) (hM : leastI < M) : (exts N []).find? (fun x => valI ks (vf x) nodes ws == M) = some l := by
  have h1 := bestK_find hM p.best
  rw [p.find]
  rw [hl, Nat.sub_self] at h1 ⊢
  simp only [exts] at h1 ⊢
  rw [List.find?_cons] at h1 ⊢
  split
  · rfl
  · rename_i e
    rw [e] at h1
    simp at h1
end
/-! by formulas -/
def fsum (v : Nat → Bool) : List (List Int) → List Int → Int
  | f :: fs, x :: xs => (if evF1 v f then x else 0) + fsum v fs xs
  | _, _ => 0
/-- What a variant is worth: it has to be buildable. -/
def valF (m : Mo) (fs : List (List Int)) (ws : List Int) (x : List Bool) : Int := if allF (vf x) m.rules then fsum (vf x) fs ws else leastI
def bestF (m : Mo) (fs : List (List Int)) (ws : List Int) : Int := maxL ((exts m.opts.length []).map (valF m fs ws))
theorem wsum_fsum {ks : List Kn} {v : Nat → Bool} : ∀ {ns : List Nat} {fs : List (List Int)} {ws : List Int}, ns.length = fs.length → (∀ i, i < ns.length → ev ks v (ns.getD i 0) = evF1 v (fs.getD i [])) → wsum ks v ns ws = fsum v fs ws
  | [], [], ws, _, _ => by cases ws <;> rfl
  | x :: a, y :: b, [], _, _ => rfl
  | x :: a, y :: b, w :: ws, hl, h => by
    have h0 := h 0 (by simp)
    simp only [List.getD_cons_zero] at h0
    simp only [wsum, fsum, h0]
    rw [wsum_fsum (by simpa using hl) fun i hi => by have := h (i + 1) (by simpa using hi); simpa using this]
  | [], y :: b, _, hl, _ => by simp at hl
  | x :: a, [], _, hl, _ => by simp at hl
theorem valI_valF {ks : List Kn} {m : Mo} {n : Nat} {ns : List Nat} {fs : List (List Int)} {ws : List Int} {x : List Bool} (h0 : ev ks (vf x) n = allF (vf x) m.rules) (hl : ns.length = fs.length) (h : ∀ i, i < ns.length → ev ks (vf x) (ns.getD i 0) = evF1 (vf x) (fs.getD i [])) : valI ks (vf x) (n :: ns) ws = valF m fs ws x := by
  unfold valI valF
  simp only [h0]
  rw [wsum_fsum hl h]
end Go.Proofs.YtjimbcklnnhloaaDoor
/- The text of a list of numbers below 2 to the 30th: lists that differ have texts that differ. Plain laws. -/
namespace Go.Proofs.YtjimbcklnnhloaaDoor
set_option linter.unusedVariables false
/-- The two runes of a number. -/
def kyL (l : List Nat) : List Int := l.flatMap fun n => [((n % 32768 : Nat) : Int), ((n / 32768 % 32768 : Nat) : Int)]
def kyS (l : List Nat) : ByteArray := runesBytes (kyL l)
/-- What comes of the first rune of some bytes. -/
def decR : List UInt8 → Nat × List UInt8
  | [] => (0, [])
  | a :: r =>
    if a.toNat < 128 then (a.toNat, r)
    else if a.toNat < 224 then (match r with | b :: r => ((a.toNat - 192) * 64 + (b.toNat - 128), r) | [] => (0, []))
    else (match r with | b :: c :: r => ((a.toNat - 224) * 4096 + (b.toNat - 128) * 64 + (c.toNat - 128), r) | _ => (0, []))
theorem valid_small {n : Nat} (h : n < 32768) : Utf8.valid (n : Int) = true := by
  unfold Utf8.valid; simp; omega
theorem decR_encode {n : Nat} (h : n < 32768) (r : List UInt8) : decR ((Utf8.encode (n : Int)).data.toList ++ r) = (n, r) := by
  unfold Utf8.encode
  simp only [valid_small h, if_true, Int.toNat_natCast]
  by_cases h1 : n < 128
  · rw [if_pos h1]
    show decR (UInt8.ofNat n :: r) = (n, r)
    have e : (UInt8.ofNat n).toNat = n := by simp; omega
    simp only [decR, e, if_pos h1]
  · rw [if_neg h1]
    by_cases h2 : n < 2048
    · rw [if_pos h2]
      show decR (UInt8.ofNat (192 + n / 64) :: UInt8.ofNat (128 + n % 64) :: r) = (n, r)
      have e1 : (UInt8.ofNat (192 + n / 64)).toNat = 192 + n / 64 := by simp; omega
      have e2 : (UInt8.ofNat (128 + n % 64)).toNat = 128 + n % 64 := by simp; omega
      simp only [decR, e1, e2]
      rw [if_neg (by omega), if_pos (by omega)]
      refine Prod.ext ?_ rfl
      simp only
      omega
    · rw [if_neg h2, if_pos (by omega)]
      show decR (UInt8.ofNat (224 + n / 4096) :: UInt8.ofNat (128 + n / 64 % 64) :: UInt8.ofNat (128 + n % 64) :: r) = (n, r)
      have e1 : (UInt8.ofNat (224 + n / 4096)).toNat = 224 + n / 4096 := by simp; omega
      have e2 : (UInt8.ofNat (128 + n / 64 % 64)).toNat = 128 + n / 64 % 64 := by simp; omega
      have e3 : (UInt8.ofNat (128 + n % 64)).toNat = 128 + n % 64 := by simp; omega
      simp only [decR, e1, e2, e3]
      rw [if_neg (by omega), if_neg (by omega)]
      refine Prod.ext ?_ rfl
      simp only
      omega
theorem runesBytes_toList (ns : List Int) : (runesBytes ns).data.toList = ns.flatMap fun n => (Utf8.encode n).data.toList := by
  have : ∀ (ns : List Int) (s : ByteArray), (ns.foldl (fun r n => r ++ Utf8.encode n) s).data.toList = s.data.toList ++ ns.flatMap fun n => (Utf8.encode n).data.toList := by
    intro ns
    induction ns with
    | nil => intro s; simp
    | cons n r ih => intro s; rw [List.foldl_cons, ih]; simp
  have h := this ns ByteArray.empty
  simpa [runesBytes] using h
theorem encode_ne {n : Nat} (h : n < 32768) : (Utf8.encode (n : Int)).data.toList ≠ [] := by
  unfold Utf8.encode
  simp only [valid_small h, if_true, Int.toNat_natCast]
  repeat' split
  all_goals simp
theorem flat_injE (E : Nat → List UInt8) (D : List UInt8 → Nat × List UInt8) (P : Nat → Prop) (hD : ∀ n, P n → ∀ r, D (E n ++ r) = (n, r)) (hne : ∀ n, P n → E n ≠ []) : ∀ (a b : List Nat), (∀ n ∈ a, P n) → (∀ n ∈ b, P n) → a.flatMap E = b.flatMap E → a = b
  | [], [], _, _, _ => rfl
  | [], y :: b, _, hb, h => by
    rw [List.flatMap_nil, List.flatMap_cons] at h
    exact absurd (List.append_eq_nil_iff.1 h.symm).1 (hne y (hb y (by simp)))
  | x :: a, [], ha, _, h => by
    rw [List.flatMap_nil, List.flatMap_cons] at h
    exact absurd (List.append_eq_nil_iff.1 h).1 (hne x (ha x (by simp)))
  | x :: a, y :: b, ha, hb, h => by
    rw [List.flatMap_cons, List.flatMap_cons] at h
    have h1 := hD x (ha x (by simp)) (a.flatMap E)
    rw [h, hD y (hb y (by simp))] at h1
    injection h1 with e1 e2
    rw [e1, flat_injE E D P hD hne a b (fun n hn => ha n (by simp [hn])) (fun n hn => hb n (by simp [hn])) e2.symm]
theorem flat_inj (a b : List Nat) (ha : ∀ n ∈ a, n < 32768) (hb : ∀ n ∈ b, n < 32768) (h : (a.flatMap fun (n : Nat) => (Utf8.encode (n : Int)).data.toList) = (b.flatMap fun (n : Nat) => (Utf8.encode (n : Int)).data.toList)) : a = b :=
  flat_injE _ decR (· < 32768) (fun n hn r => decR_encode hn r) (fun n hn => encode_ne hn) a b ha hb h
def kyN (l : List Nat) : List Nat := l.flatMap fun n => [n % 32768, n / 32768 % 32768]
theorem kyL_eq (l : List Nat) : kyL l = (kyN l).map fun (n : Nat) => (n : Int) := by
  unfold kyL kyN
  rw [List.map_flatMap]
  rfl
theorem kyN_small (l : List Nat) : ∀ n ∈ kyN l, n < 32768 := by
  intro n hn
  unfold kyN at hn
  rw [List.mem_flatMap] at hn
  obtain ⟨m, _, h⟩ := hn
  simp at h
  omega
theorem kyN_inj : ∀ (a b : List Nat), (∀ n ∈ a, n < 1073741824) → (∀ n ∈ b, n < 1073741824) → kyN a = kyN b → a = b
  | [], [], _, _, _ => rfl
  | [], y :: b, _, _, h => by simp [kyN] at h
  | x :: a, [], _, _, h => by simp [kyN] at h
  | x :: a, y :: b, ha, hb, h => by
    have h1 := ha x (by simp)
    have h2 := hb y (by simp)
    have e : kyN (x :: a) = x % 32768 :: (x / 32768 % 32768) :: kyN a := rfl
    have e' : kyN (y :: b) = y % 32768 :: (y / 32768 % 32768) :: kyN b := rfl
    rw [e, e'] at h
    injection h with h3 h
    injection h with h4 h
    rw [kyN_inj a b (fun n hn => ha n (by simp [hn])) (fun n hn => hb n (by simp [hn])) h]
    obtain rfl : x = y := by omega
    rfl
theorem kyS_inj {a b : List Nat} (ha : ∀ n ∈ a, n < 1073741824) (hb : ∀ n ∈ b, n < 1073741824) (h : kyS a = kyS b) : a = b := by
  refine kyN_inj a b ha hb (flat_inj _ _ (kyN_small a) (kyN_small b) ?_)
  have h1 := congrArg (fun s : ByteArray => s.data.toList) h
  simp only [kyS, runesBytes_toList, kyL_eq, List.flatMap_map] at h1
  exact h1
theorem kyS_size (l : List Nat) : (kyS l).size ≤ 8 * l.length := by
  have h := runesBytes_size_le (kyL l)
  have h2 : ∀ l, (kyL l).length = 2 * l.length := by
    intro l
    induction l with
    | nil => rfl
    | cons x r ih =>
      show (kyL r).length + 1 + 1 = 2 * (r.length + 1)
      omega
  have h3 := h2 l
  unfold kyS
  omega
end Go.Proofs.YtjimbcklnnhloaaDoor
/- A map of numbers in memory, as a function from keys to numbers. -/
namespace Go.Proofs.YtjimbcklnnhloaaDoor
open Go.Maps (Keyed)
set_option linter.unusedVariables false
section
variable {α : Type} {P : Program} {w : World} {k e b n : Nat} {enc : α → Value} {m : α → Option Int}
/-- Block b is a map that holds the number m a at the key enc a, where there is one. -/
def MapIs (P : Program) (w : World) (k e b n : Nat) (enc : α → Value) (m : α → Option Int) : Prop :=
  ∃ D : DataW Unit, w.ownsMap P k (plainElem P e) b n D ∧ ∀ a l, keyOf P k (enc a) = some l →
    (m a = none → Maps.has D l = false) ∧ ∀ x, m a = some x → Maps.has D l = true ∧ D.atKey l (.lit (.int .i64 0)) = .lit (.int .i64 x)
theorem MapIs.made (P : Program) (w : World) (k e : Nat) (enc : α → Value) : MapIs P (w.alloc (.map #[] 0)) k e w.heap.size 0 enc (fun _ => none) :=
  ⟨_, World.ownsMap_made w P k _, fun a l _ => ⟨fun _ => rfl, fun x h => by cases h⟩⟩
theorem MapIs.mono (h : MapIs P w k e b n enc m) {n' : Nat} (hn : n ≤ n') : MapIs P w k e b n' enc m := by
  obtain ⟨D, h1, h2⟩ := h
  exact ⟨D, h1.mono hn, h2⟩
theorem MapIs.lt (h : MapIs P w k e b n enc m) : b < w.heap.size := by
  obtain ⟨D, h1, _⟩ := h
  exact h1.lt
theorem MapIs.same {w' : World} (h : MapIs P w k e b n enc m) (hb : w'.heap[b]? = w.heap[b]?) : MapIs P w' k e b n enc m := by
  obtain ⟨D, ⟨es, c, h0, h1⟩, h2⟩ := h
  exact ⟨D, ⟨es, c, hb.trans h0, h1⟩, h2⟩
theorem MapIs.obj (h : MapIs P w k e b n enc m) : ∃ es c, w.heap[b]? = some (.map es c) := by
  obtain ⟨D, ⟨es, c, h0, h1⟩, h2⟩ := h
  exact ⟨es, c, h0⟩
variable {t : Nat}
theorem MapIs.look (h : MapIs P w k e b n enc m) (K : Keyed P k) (ht : P.underlying t = some (.map k e)) (he : P.underlying e = some (.int .i64)) (hz : (zeroValue e).run P w = .ok (.int .i64 0) w) {a : α} {l : Lit} (hkey : keyOf P k (enc a) = some l) :
    (Instr.lookup t (.map (some b)) (enc a) true).run P w = .ok (.tuple #[.int .i64 ((m a).getD 0), .bool (m a).isSome]) w := by
  obtain ⟨D, h1, h2⟩ := h
  obtain ⟨h3, h4⟩ := h2 a l hkey
  obtain ⟨v, ps, hrun, hv⟩ := h1.look_ok K ht hz (plainElem_int he (by decide)) hkey
  obtain ⟨c, rfl, hc, _⟩ := plainElem_int_inv he hv
  injection hc with hc _
  cases hm : m a with
  | none =>
    have h5 := h3 hm
    rw [Maps.atKey_of_not_has h5] at hc
    injection hc with hc
    injection hc with _ hc
    subst hc
    rw [hrun, h5]
    rfl
  | some x =>
    obtain ⟨h5, h6⟩ := h4 x hm
    rw [h6] at hc
    injection hc with hc
    injection hc with _ hc
    subst hc
    rw [hrun, h5]
    rfl
theorem MapIs.look1 (h : MapIs P w k e b n enc m) (K : Keyed P k) (ht : P.underlying t = some (.map k e)) (he : P.underlying e = some (.int .i64)) (hz : (zeroValue e).run P w = .ok (.int .i64 0) w) {a : α} {l : Lit} (hkey : keyOf P k (enc a) = some l) :
    (Instr.lookup t (.map (some b)) (enc a) false).run P w = .ok (.int .i64 ((m a).getD 0)) w := by
  obtain ⟨D, h1, h2⟩ := h
  obtain ⟨h3, h4⟩ := h2 a l hkey
  obtain ⟨c, hrun, hc, _⟩ := h1.lookup_int K ht he hz hkey
  cases hm : m a with
  | none =>
    have h5 := h3 hm
    rw [Maps.atKey_of_not_has h5] at hc
    injection hc with hc
    injection hc with _ hc
    subst hc
    rw [hrun]
    rfl
  | some x =>
    obtain ⟨h5, h6⟩ := h4 x hm
    rw [h6] at hc
    injection hc with hc
    injection hc with _ hc
    subst hc
    rw [hrun]
    rfl
/-- The map with one more number. -/
def putM [DecidableEq α] (m : α → Option Int) (a : α) (x : Int) : α → Option Int := fun a' => if a' = a then some x else m a'
theorem MapIs.put' [DecidableEq α] (K : Keyed P k) (hinj : ∀ a a', enc a = enc a' → a = a') {D : DataW Unit} (h1 : w.ownsMap P k (plainElem P e) b n D) (h2 : ∀ a l, keyOf P k (enc a) = some l →
    (m a = none → Maps.has D l = false) ∧ ∀ x, m a = some x → Maps.has D l = true ∧ D.atKey l (.lit (.int .i64 0)) = .lit (.int .i64 x)) {a : α} {l : Lit} (hkey : keyOf P k (enc a) = some l) (x : Int) {w' : World} (h3 : w'.ownsMap P k (plainElem P e) b (n + 1) (D.put l (.lit (.int .i64 x)))) :
    MapIs P w' k e b (n + 1) enc (putM m a x) := by
  refine ⟨_, h3, fun a' l' hk' => ?_⟩
  unfold putM
  by_cases ha : a' = a
  · subst ha
    rw [hkey] at hk'
    injection hk' with hk'
    subst hk'
    rw [if_pos rfl]
    exact ⟨fun h => (by cases h), fun y hy => by
      injection hy with hy
      subst hy
      exact ⟨Maps.has_put_same h1.isMap (K.key hkey) _, Maps.atKey_put_same h1.isMap (K.key hkey) _ _⟩⟩
  · rw [if_neg ha]
    have hl : l' ≠ l := fun e => by
      subst e
      exact ha (hinj _ _ (K.inj hk' hkey))
    obtain ⟨h4, h5⟩ := h2 a' l' hk'
    refine ⟨fun h => (Maps.has_put_other hl _).trans (h4 h), fun y hy => ?_⟩
    obtain ⟨h6, h7⟩ := h5 y hy
    exact ⟨(Maps.has_put_other hl _).trans h6, (Maps.atKey_put_other hl _ _).trans h7⟩
theorem MapIs.put [DecidableEq α] (h : MapIs P w k e b n enc m) (K : Keyed P k) (ht : P.underlying t = some (.map k e)) (he : P.underlying e = some (.int .i64)) (hinj : ∀ a a', enc a = enc a' → a = a') (hn : n < maxLen) {a : α} {l : Lit} (hkey : keyOf P k (enc a) = some l) {x : Int} (hx : (Lit.int .i64 x).wf = true) :
    ∃ w', (Instr.mapUpdate t (.map (some b)) (enc a) (.int .i64 x)).run P w = .ok () w' ∧ MapIs P w' k e b (n + 1) enc (putM m a x) ∧ w.grownBy w' (some b) := by
  obtain ⟨D, h1, h2⟩ := h
  obtain ⟨w', hrun, h3, h4⟩ := h1.update K ht hn hkey (plainElem_int he hx)
  exact ⟨w', hrun, MapIs.put' K hinj h1 h2 hkey x h3, h4⟩
/-- The same for the walk, at the operation. -/
theorem wpList_put [DecidableEq α] (w : World) {ops : Array Oper} {rest : List Oper} {o : Oper} {ac : Act} {Q : Exit → Act → World → Prop}
    (hg : o.guard = none) (om ox ov : Operand) (t : Nat) (hop : o.op = Op.mapUpdate t om ox ov) {k e b n : Nat} {enc : α → Value} {m : α → Option Int}
    (h : MapIs P w k e b n enc m) (K : Keyed P k) (ht : P.underlying t = some (.map k e)) (he : P.underlying e = some (.int .i64)) (hinj : ∀ a a', enc a = enc a' → a = a') (hn : n < maxLen) (a : α) (hkey : ∃ l, keyOf P k (enc a) = some l) (x : Int) (hx : (Lit.int .i64 x).wf = true)
    (h1 : ac.eval om = .map (some b)) (h2 : ac.eval ox = enc a) (h3 : ac.eval ov = .int .i64 x)
    (hK : ∀ w', MapIs P w' k e b (n + 1) enc (putM m a x) → w.grownBy w' (some b) → wpList P ops Q rest (ac.put o.dst undef) w') :
    wpList P ops Q (o :: rest) ac w := by
  obtain ⟨l, hkey⟩ := hkey
  obtain ⟨D, hD, hA⟩ := h
  exact wpList_mapUpdate_own w hg om ox ov t hop k e K ht _ b n D h1 hD hn _ _ l h2 h3 hkey _ _ (plainElem_int he hx) fun w' h4 h5 => hK w' (MapIs.put' K hinj hD hA hkey x h4) h5
end
end Go.Proofs.YtjimbcklnnhloaaDoor
/- Small laws of my own on worlds, for all the walks of this seat: no condition. -/
namespace Go.Proofs.YtjimbcklnnhloaaDoor
open Go.RowKit

theorem Below.drewN {B : Nat} {a w : World} (h : Below B a w) (n : Nat) : Below B a (w.drewN n) := ⟨h.os, h.tape, h.output, h.size, h.block⟩
theorem bcell {W w1 : World} (hb : Below W.heap.size W w1) : (∀ b o, b < W.heap.size → w1.cell? ⟨b, o, none⟩ = W.cell? ⟨b, o, none⟩) ∧ (∀ b o, b < W.heap.size → w1.frozen? ⟨b, o, none⟩ = W.frozen? ⟨b, o, none⟩) :=
  ⟨fun b o h => hb.cell (p := ⟨b, o, none⟩) h, fun b o h => hb.frozen (p := ⟨b, o, none⟩) h⟩
theorem Below.to {B : Nat} {a b c : World} (h : Below B a b) (k : Below b.heap.size b c) (hB : B ≤ a.heap.size) : Below B a c := h.trans (k.mono (Nat.le_trans hB h.size))
theorem Below.allocT {B : Nat} {a w : World} (h : Below B a w) (hB : B ≤ a.heap.size) (o : Obj) : Below B a (w.alloc o) := h.alloc (Nat.le_trans hB h.size) o
theorem only_drewN {a w : World} {row : Option Nat} (h : a.grownBy w row) (n : Nat) : a.grownBy (w.drewN n) row := ⟨h.os, h.tape, h.output, h.size, h.block⟩
theorem only_drew {a w : World} {row : Option Nat} (h : a.grownBy w row) : a.grownBy w.drew row := ⟨h.os, h.tape, h.output, h.size, h.block⟩
theorem only_alloc {a w : World} {row : Option Nat} (h : a.grownBy w row) (o : Obj) : a.grownBy (w.alloc o) row :=
  ⟨h.os, h.tape, h.output, Nat.le_trans h.size (by simp), fun i hi hne => (Below.heap_alloc w o i (Nat.lt_of_lt_of_le hi h.size)).trans (h.block i hi hne)⟩
theorem only_setCell {a w : World} {g : Nat} (h : a.grownBy w (some g)) {p : Addr} (hp : p.block = g ∨ a.heap.size ≤ p.block) (u : Value) : a.grownBy (w.setCell p u) (some g) :=
  ⟨h.os, h.tape, h.output, by simpa [World.setCell] using h.size, fun i hi hne => (Below.heap_setCell w p u i (by
    rintro rfl
    rcases hp with hp | hp
    · exact hne (by rw [hp])
    · omega)).trans (h.block i hi hne)⟩
theorem only_setCell' {a w : World} {row : Option Nat} (h : a.grownBy w row) {p : Addr} (hp : a.heap.size ≤ p.block) (u : Value) : a.grownBy (w.setCell p u) row :=
  ⟨h.os, h.tape, h.output, by simpa [World.setCell] using h.size, fun i hi hne => (Below.heap_setCell w p u i (by omega)).trans (h.block i hi hne)⟩
theorem only_refl (w : World) (row : Option Nat) : w.grownBy w row := World.grownBy.refl w row
theorem only_below {a b w : World} {row : Option Nat} (h : a.grownBy b row) (k : Below b.heap.size b w) : a.grownBy w row :=
  ⟨k.os.trans h.os, k.tape.trans h.tape, k.output.trans h.output, Nat.le_trans h.size k.size, fun i hi hn => (k.block i (Nat.lt_of_lt_of_le hi h.size)).trans (h.block i hi hn)⟩
theorem only_trans {a b c : World} {row : Option Nat} (h : a.grownBy b row) (k : b.grownBy c row) : a.grownBy c row :=
  ⟨k.os.trans h.os, k.tape.trans h.tape, k.output.trans h.output, Nat.le_trans h.size k.size, fun i hi hn => (k.block i (Nat.lt_of_lt_of_le hi h.size) hn).trans (h.block i hi hn)⟩
/-- What changed was one block, and it is new. -/
theorem below_only {a b w : World} {g : Nat} (h : Below a.heap.size a b) (k : b.grownBy w (some g)) (hg : a.heap.size ≤ g) : Below a.heap.size a w :=
  h.grown k h.size (fun j e => by cases e; exact hg)
theorem hide {p : Prop} (h : p) : Hid p := h
end Go.Proofs.YtjimbcklnnhloaaDoor
/- Small laws of my own on slices in memory, for all the walks of this seat: no condition. -/
namespace Go.Proofs.YtjimbcklnnhloaaDoor
open Go.RowKit

/-- The slice value v has n elements of sz cells each, and cell j of element i holds f i j; they lie below block B. -/
def Sl (w : World) (B sz : Nat) (v : Value) (n : Nat) (f : Nat → Nat → Value) : Prop :=
  ∃ (A : Option Addr) (b off cap : Nat), v = .slice A n cap ∧ n ≤ cap ∧ (A = some ⟨b, off, none⟩ ∧ b < B ∨ n = 0) ∧ ∀ i j, i < n → j < sz → w.cell? ⟨b, off + (i * sz + j), none⟩ = some (f i j)

theorem Sl.keep {w w' : World} {B sz n : Nat} {v : Value} {f : Nat → Nat → Value} (h : Sl w B sz v n f) (hk : ∀ b o, b < B → w'.cell? ⟨b, o, none⟩ = w.cell? ⟨b, o, none⟩) : Sl w' B sz v n f := by
  obtain ⟨A, b, off, cap, hv, hn, hA, hc⟩ := h
  refine ⟨A, b, off, cap, hv, hn, hA, fun i j hi hj => ?_⟩
  rcases hA with ⟨_, hb⟩ | h0
  · rw [hk _ _ hb]; exact hc i j hi hj
  · omega
theorem Sl.more {w : World} {B B' sz n : Nat} {v : Value} {f : Nat → Nat → Value} (h : Sl w B sz v n f) (hB : B ≤ B') : Sl w B' sz v n f := by
  obtain ⟨A, b, off, cap, hv, hn, hA, hc⟩ := h
  exact ⟨A, b, off, cap, hv, hn, hA.imp (fun ⟨a, c⟩ => ⟨a, by omega⟩) id, hc⟩
theorem Sl.below {w w' : World} {B sz n : Nat} {v : Value} {f : Nat → Nat → Value} (h : Sl w B sz v n f) (hb : Below B w w') : Sl w' B sz v n f :=
  h.keep fun b o hlt => hb.cell (p := ⟨b, o, none⟩) hlt
/-- Behind a call that changes nothing below its own heap. -/
theorem Sl.to {w w' : World} {B sz n : Nat} {v : Value} {f : Nat → Nat → Value} (h : Sl w B sz v n f) (hb : Below w.heap.size w w') (hB : B ≤ w.heap.size) : Sl w' B sz v n f := h.below (hb.mono hB)
theorem Sl.up {w w' : World} {sz n : Nat} {v : Value} {f : Nat → Nat → Value} (h : Sl w w.heap.size sz v n f) (hb : Below w.heap.size w w') : Sl w' w'.heap.size sz v n f := (h.below hb).more hb.size
theorem Sl.form {w : World} {B sz n : Nat} {v : Value} {f : Nat → Nat → Value} (h : Sl w B sz v n f) : ∃ A cap, v = .slice A n cap := by
  obtain ⟨A, b, off, cap, hv, _⟩ := h
  exact ⟨A, cap, hv⟩
theorem Sl.nil (w : World) (B sz : Nat) (f : Nat → Nat → Value) : Sl w B sz (.slice none 0 0) 0 f :=
  ⟨none, 0, 0, 0, rfl, Nat.le_refl _, .inr rfl, fun i j h => absurd h (by omega)⟩
theorem Sl.congr {w : World} {B sz n : Nat} {v : Value} {f g : Nat → Nat → Value} (h : Sl w B sz v n f) (hfg : ∀ i j, i < n → j < sz → f i j = g i j) : Sl w B sz v n g := by
  obtain ⟨A, b, off, cap, hv, hn, hA, hc⟩ := h
  exact ⟨A, b, off, cap, hv, hn, hA, fun i j hi hj => by rw [hc i j hi hj, hfg i j hi hj]⟩

/-- The place of the first element of a list of which p holds, and -1 if there is none. -/
def idxI {α : Type} (p : α → Bool) : List α → Int
  | [] => -1
  | a :: r => if p a then 0 else if idxI p r < 0 then -1 else idxI p r + 1
theorem idxI_at {α : Type} (p : α → Bool) (z : α) : ∀ (l : List α) (k : Nat), (∀ j, j < k → p (l.getD j z) = false) → k < l.length → p (l.getD k z) = true → idxI p l = k
  | [], k, _, h, _ => by simp at h
  | a :: r, 0, _, _, h => by
    have h' : p a = true := by simpa using h
    simp [idxI, h']
  | a :: r, k + 1, h, hk, hp => by
    have h0 : p a = false := by simpa using h 0 (by omega)
    have := idxI_at p z r k (fun j hj => by have := h (j + 1) (by omega); simpa using this) (by simpa using hk) (by simpa using hp)
    simp only [idxI, h0, this]
    simp
    omega
theorem idxI_none {α : Type} (p : α → Bool) (z : α) : ∀ (l : List α), (∀ j, j < l.length → p (l.getD j z) = false) → idxI p l = -1
  | [], _ => rfl
  | a :: r, h => by
    have h0 : p a = false := by simpa using h 0 (by simp)
    have := idxI_none p z r (fun j hj => by have := h (j + 1) (by simpa using hj); simpa using this)
    simp [idxI, h0, this]
theorem idxI_any {α : Type} (p : α → Bool) : ∀ (l : List α), decide (0 ≤ idxI p l) = l.any p
  | [] => by simp [idxI]
  | a :: r => by
    have ih := idxI_any p r
    cases ha : p a
    · simp only [idxI, ha, List.any_cons, Bool.false_or]
      rw [← ih]
      simp only [Bool.false_eq_true, if_false]
      split
      · rename_i hlt
        simp
        omega
      · rename_i hge
        rw [decide_eq_decide]
        omega
    · simp [idxI, ha]
theorem idxI_lo {α : Type} (p : α → Bool) : ∀ (l : List α), -1 ≤ idxI p l
  | [] => by simp [idxI]
  | a :: r => by
    have ih := idxI_lo p r
    simp only [idxI]
    split
    · omega
    · split <;> omega
theorem idxI_hi {α : Type} (p : α → Bool) : ∀ (l : List α), idxI p l ≤ l.length
  | [] => by simp [idxI]
  | a :: r => by
    have ih := idxI_hi p r
    simp only [idxI, List.length_cons]
    split
    · omega
    · split <;> omega

end Go.Proofs.YtjimbcklnnhloaaDoor
/- Lemmas on slices that read as lists and on append, as the guide's page of words lays them for copying, and bridges of my own: no condition. -/
namespace Go.Proofs.YtjimbcklnnhloaaDoor
open Go.RowKit

theorem block_of_add (a : Addr) (n : Nat) : (a.add n).block = a.block := by unfold Addr.add; split <;> rfl
theorem add_of_add (a : Addr) (i j : Nat) : (a.add i).add j = a.add (i + j) := by
  unfold Addr.add
  by_cases hi : i = 0 <;> by_cases hj : j = 0 <;> simp [hi, hj, Nat.add_assoc]

def Reads (w : World) (B size : Nat) (A : Option Addr) (n : Nat) (xs : List Value) : Prop :=
  xs.length = n * size ∧ (0 < n → ∃ ad, A = some ad ∧ ad.block < B ∧ ∀ j u, xs[j]? = some u → w.cell? (ad.add j) = some u)

section
variable {w w' : World} {B B' size n : Nat} {A : Option Addr} {xs : List Value}
theorem Reads.none_ : Reads w B size A 0 [] := ⟨by simp, fun h => absurd h (by omega)⟩
theorem Reads.at_ {k : Nat} (h : Reads w B 1 A n xs) (hk : k < n) : ∃ ad u, A = some ad ∧ ad.block < B ∧ xs[k]? = some u ∧ w.cell? (ad.add k) = some u := by
  obtain ⟨ad, e, hb, hc⟩ := h.2 (by omega)
  have hl : k < xs.length := by have := h.1; omega
  exact ⟨ad, xs[k], e, hb, List.getElem?_eq_getElem hl, hc k _ (List.getElem?_eq_getElem hl)⟩
theorem Reads.keep (h : Reads w B size A n xs) (hk : ∀ p : Addr, p.block < B → w'.cell? p = w.cell? p) : Reads w' B size A n xs :=
  ⟨h.1, fun hn => by
    obtain ⟨ad, e, hb, hc⟩ := h.2 hn
    exact ⟨ad, e, hb, fun j u hu => (hk _ (by rw [block_of_add]; exact hb)).trans (hc j u hu)⟩⟩
theorem Reads.more (h : Reads w B size A n xs) (hB : B ≤ B') : Reads w B' size A n xs :=
  ⟨h.1, fun hn => by
    obtain ⟨ad, e, hb, hc⟩ := h.2 hn
    exact ⟨ad, e, by omega, hc⟩⟩
theorem Reads.below (h : Reads w B size A n xs) (hb : Below B w w') : Reads w' B size A n xs := h.keep fun _ hp => hb.cell hp
theorem Reads.drew (h : Reads w B size A n xs) : Reads w.drew B size A n xs := h
theorem Reads.drewN (h : Reads w B size A n xs) (k : Nat) : Reads (w.drewN k) B size A n xs := h
theorem Reads.alloc (h : Reads w B size A n xs) (hB : B ≤ w.heap.size) (o : Obj) : Reads (w.alloc o) B size A n xs := h.keep fun p hp => World.cell?_alloc_lt w o p (by omega)
theorem Reads.setCell (h : Reads w B size A n xs) {p : Addr} (hB : B ≤ p.block) (u : Value) : Reads (w.setCell p u) B size A n xs :=
  h.keep fun q hq => World.cell?_setCell_other w p q u (fun e => by subst e; omega)
theorem Reads.grown (h : Reads w B size A n xs) {row : Option Nat} (hg : w.grownBy w' row) (hB : B ≤ w.heap.size) (hr : ∀ g, row = some g → B ≤ g) : Reads w' B size A n xs :=
  h.keep fun p hp => World.cell?_of_block (hg.block p.block (by omega) (fun e => by have := hr _ e.symm; omega))
theorem Reads.cut (h : Reads w B size A n xs) {k cap : Nat} (hk : k ≤ n) (hc : n ≤ cap) :
    Reads w B size (if cap = k then A else A.map (·.add (k * size))) (n - k) (xs.drop (k * size)) := by
  refine ⟨by rw [List.length_drop, h.1, Nat.sub_mul], fun hn => ?_⟩
  obtain ⟨ad, rfl, hb, hcell⟩ := h.2 (by omega)
  rw [if_neg (by omega)]
  refine ⟨ad.add (k * size), rfl, by rw [block_of_add]; exact hb, fun j u hu => ?_⟩
  rw [add_of_add]
  exact hcell _ u (by rw [← hu, List.getElem?_drop])
theorem Reads.of_own {base : Nat} {e : TypeId} {c : Nat} (h : w.ownsRow base e size (.slice A n c) n xs) : Reads w w.heap.size size A n xs := by
  refine ⟨h.1, fun hn => ?_⟩
  obtain ⟨g, cap, hv, _, hlt⟩ := h.form hn
  have hA : A = some ⟨g, 0, none⟩ := by injection hv
  subst hA
  exact ⟨_, rfl, hlt, h.cells (g := g) rfl⟩
end

section
variable {P : Program} (w : World)

theorem run_append_of_nil (base : Nat) (t ty e : TypeId) (i : TypeInfo) (size : Nat) (ht : P.underlying t = some (.slice e)) (hi : P.info? e = some i)
    (v : Value) (n : Nat) (xs : List Value) (hown : w.ownsRow base e size v n xs) (c : Nat) : (Builtin.append_ #[t, t] ty #[v, .slice none 0 c]).run P w = .ok v w := by
  rcases hown.2 with ⟨rfl, rfl⟩ | ⟨g, cap, cur, rfl, _, _, hnc, _⟩
  · simp [Builtin.append_, run_underlying ht, sizeOf, typeInfo, hi, Builtin.lenOf, Builtin.firstCells]
  · simp [Builtin.append_, run_underlying ht, sizeOf, typeInfo, hi, Builtin.lenOf, Builtin.firstCells, hnc, storeCells]

theorem run_append_any (base : Nat) (t ty e : TypeId) (i : TypeInfo) (z : Value) (size bytes : Nat) (ht : P.underlying t = some (.slice e)) (hi : P.info? e = some i) (hz : i.zero = some z)
    (hsize : i.size = size) (hby : i.bytes = bytes) (hzs : z.cells.size = size) (hsz : 0 < size)
    (v : Value) (n : Nat) (xs : List Value) (hown : w.ownsRow base e size v n xs)
    (B : Nat) (A : Option Addr) (m c : Nat) (news : List Value) (hr : Reads w B size A m news) (h1 : ∀ u ∈ news, u.oneCell' = true)
    (h63 : n + m ≤ maxLen) (hbytes : (n + m) * bytes ≤ 140737488355328) (hbase : base ≤ w.heap.size) :
    ∃ v' w', (Builtin.append_ #[t, t] ty #[v, .slice A m c]).run P w = .ok v' w' ∧ w'.ownsRow base e size v' (n + m) (xs ++ news) ∧ w.grownBy w' v.ownBlock ∧
      (v'.ownBlock = v.ownBlock ∨ v'.ownBlock = some w.heap.size) := by
  rcases A with _ | ad
  · have hm : m = 0 := by
      rcases Nat.eq_zero_or_pos m with h0 | h0
      · exact h0
      · obtain ⟨ad, h, _⟩ := hr.2 h0
        cases h
    subst hm
    have hn : news = [] := List.eq_nil_of_length_eq_zero (by simpa using hr.1)
    subst hn
    exact ⟨v, w, run_append_of_nil w base t ty e i size ht hi v n xs hown c, by simpa using hown, World.grownBy.refl w _, .inl rfl⟩
  · have hcells : ∀ j u, news[j]? = some u → w.cell? (ad.add j) = some u := by
      intro j u hu
      rcases Nat.eq_zero_or_pos m with h0 | h0
      · subst h0
        have hn : news = [] := List.eq_nil_of_length_eq_zero (by simpa using hr.1)
        subst hn
        simp at hu
      · obtain ⟨ad', h, _, hc⟩ := hr.2 h0
        injection h with h
        subst h
        exact hc j u hu
    obtain ⟨v', w', hrun, h2, h3, _, h5⟩ := run_append_own_at (P := P) w base t ty e i z size bytes ht hi hz hsize hby hzs hsz v n xs hown ad m c news hr.1 hcells h1 h63 hbytes hbase
    exact ⟨v', w', hrun, h2, h3, h5⟩

theorem wp_append_any {o : Oper} {a : Act} {K : Act → World → Prop} {Q : Exit → Act → World → Prop} (s x : Operand) (t : TypeId)
    (ho : o.op = .call { callee := .builtin .append, args := #[s, x], argTypes := #[t, t] })
    (base : Nat) (e : TypeId) (i : TypeInfo) (z : Value) (size bytes : Nat) (ht : P.underlying t = some (.slice e)) (hi : P.info? e = some i) (hz : i.zero = some z)
    (hsize : i.size = size) (hby : i.bytes = bytes) (hzs : z.cells.size = size) (hsz : 0 < size)
    (v : Value) (n : Nat) (xs : List Value) (hs : a.eval s = v) (hown : w.ownsRow base e size v n xs)
    (B : Nat) (A : Option Addr) (m c : Nat) (news : List Value) (hx : a.eval x = .slice A m c) (hr : Reads w B size A m news) (h1 : ∀ u ∈ news, u.oneCell' = true)
    (h63 : n + m ≤ maxLen) (hbytes : (n + m) * bytes ≤ 140737488355328) (hbase : base ≤ w.heap.size)
    (h : ∀ v' w', w'.ownsRow base e size v' (n + m) (xs ++ news) → w.grownBy w' v.ownBlock → (v'.ownBlock = v.ownBlock ∨ v'.ownBlock = some w.heap.size) → K (a.put o.dst v') w') : o.wp P a w K Q := by
  obtain ⟨v', w', hrun, h2, h3, h4⟩ := run_append_any (P := P) w base t o.type e i z size bytes ht hi hz hsize hby hzs hsz v n xs hown B A m c news hr h1 h63 hbytes hbase
  unfold Oper.wp execOp
  simp only [ho, resolve, invoke, builtin, Sem.run_bind, Sem.run_pure, Result.andThen_ok, List.map_toArray, List.map_cons, List.map_nil, hs, hx, hrun]
  exact h v' w' h2 h3 h4

theorem wpList_append_any {ops : Array Oper} {rest : List Oper} {o : Oper} {a : Act} {Q : Exit → Act → World → Prop} (hgd : o.guard = none) (s x : Operand) (t : TypeId)
    (ho : o.op = .call { callee := .builtin .append, args := #[s, x], argTypes := #[t, t] })
    (base : Nat) (e : TypeId) (i : TypeInfo) (z : Value) (size bytes : Nat) (ht : P.underlying t = some (.slice e)) (hi : P.info? e = some i) (hz : i.zero = some z)
    (hsize : i.size = size) (hby : i.bytes = bytes) (hzs : z.cells.size = size) (hsz : 0 < size)
    (v : Value) (n : Nat) (xs : List Value) (hs : a.eval s = v) (hown : w.ownsRow base e size v n xs)
    (B : Nat) (A : Option Addr) (m c : Nat) (news : List Value) (hx : a.eval x = .slice A m c) (hr : Reads w B size A m news) (h1 : ∀ u ∈ news, u.oneCell' = true)
    (h63 : n + m ≤ maxLen) (hbytes : (n + m) * bytes ≤ 140737488355328) (hbase : base ≤ w.heap.size)
    (h : ∀ v' w', w'.ownsRow base e size v' (n + m) (xs ++ news) → w.grownBy w' v.ownBlock → (v'.ownBlock = v.ownBlock ∨ v'.ownBlock = some w.heap.size) → wpList P ops Q rest (a.put o.dst v') w') : wpList P ops Q (o :: rest) a w :=
  wpList_plain hgd fun _ hK => wp_append_any w s x t ho base e i z size bytes ht hi hz hsize hby hzs hsz v n xs hs hown B A m c news hx hr h1 h63 hbytes hbase fun v' w' h2 h3 h4 => hK _ _ (h v' w' h2 h3 h4)

theorem step_append_any {ops : Array Oper} {o : Oper} {a : Act} {K : Act → World → Prop} {Q : Exit → Act → World → Prop} {E : Prop} (hgd : o.guard = none) (s x : Operand) (t : TypeId)
    (ho : o.op = .call { callee := .builtin .append, args := #[s, x], argTypes := #[t, t] })
    (base : Nat) (e : TypeId) (i : TypeInfo) (z : Value) (size bytes : Nat) (ht : P.underlying t = some (.slice e)) (hi : P.info? e = some i) (hz : i.zero = some z)
    (hsize : i.size = size) (hby : i.bytes = bytes) (hzs : z.cells.size = size) (hsz : 0 < size)
    (v : Value) (n : Nat) (xs : List Value) (hs : a.eval s = v) (hown : w.ownsRow base e size v n xs)
    (B : Nat) (A : Option Addr) (m c : Nat) (news : List Value) (hx : a.eval x = .slice A m c) (hr : Reads w B size A m news) (h1 : ∀ u ∈ news, u.oneCell' = true)
    (h63 : n + m ≤ maxLen) (hbytes : (n + m) * bytes ≤ 140737488355328) (hbase : base ≤ w.heap.size)
    (h : ∀ v' w', w'.ownsRow base e size v' (n + m) (xs ++ news) → w.grownBy w' v.ownBlock → (v'.ownBlock = v.ownBlock ∨ v'.ownBlock = some w.heap.size) → K (a.put o.dst v') w') :
    if Region.wanted o (yielded ops a.tmps) = true then Oper.wp P o a w K Q else E := by
  have hw : Region.wanted o (yielded ops a.tmps) = true := by simp [Region.wanted, hgd]
  rw [if_pos hw]
  exact wp_append_any w s x t ho base e i z size bytes ht hi hz hsize hby hzs hsz v n xs hs hown B A m c news hx hr h1 h63 hbytes hbase h
end

/-- The cells of n elements of sz cells each, one after the other. -/
def flat (n sz : Nat) (f : Nat → Nat → Value) : List Value := (List.range (n * sz)).map fun m => f (m / sz) (m % sz)
theorem flat_length (n sz : Nat) (f : Nat → Nat → Value) : (flat n sz f).length = n * sz := by simp [flat]
theorem idx_lt {i j n sz : Nat} (hi : i < n) (hj : j < sz) : i * sz + j < n * sz := by
  have h1 : (i + 1) * sz ≤ n * sz := Nat.mul_le_mul_right _ hi
  rw [Nat.succ_mul] at h1
  omega
theorem flat_get {n sz : Nat} {f : Nat → Nat → Value} {i j : Nat} (hi : i < n) (hj : j < sz) : (flat n sz f)[i * sz + j]? = some (f i j) := by
  have hlt := idx_lt hi hj
  have h1 : (i * sz + j) / sz = i := by
    rw [Nat.mul_comm, Nat.mul_add_div (by omega), Nat.div_eq_of_lt hj]; omega
  have h2 : (i * sz + j) % sz = j := by
    rw [Nat.mul_comm, Nat.mul_add_mod, Nat.mod_eq_of_lt hj]
  simp [flat, hlt, h1, h2]
theorem flat_inv {n sz : Nat} {f : Nat → Nat → Value} {m : Nat} {u : Value} (hsz : 0 < sz) (h : (flat n sz f)[m]? = some u) : ∃ i j, i < n ∧ j < sz ∧ m = i * sz + j ∧ u = f i j := by
  have hm : m < n * sz := by
    have := (List.getElem?_eq_some_iff.1 h).1
    rwa [flat_length] at this
  have hi : m / sz < n := by rw [Nat.div_lt_iff_lt_mul hsz]; exact hm
  have hj : m % sz < sz := Nat.mod_lt _ hsz
  refine ⟨m / sz, m % sz, hi, hj, by rw [Nat.mul_comm]; exact (Nat.div_add_mod m sz).symm, ?_⟩
  have h2 := flat_get (f := f) hi hj
  rw [show m / sz * sz + m % sz = m by rw [Nat.mul_comm]; exact Nat.div_add_mod m sz, h] at h2
  injection h2
theorem Sl.reads {w : World} {B sz n cap : Nat} {A : Option Addr} {f : Nat → Nat → Value} (h : Sl w B sz (.slice A n cap) n f) (hsz : 0 < sz) : Reads w B sz A n (flat n sz f) := by
  obtain ⟨A', b, off, cap', hv, hn, hA, hc⟩ := h
  injection hv with hv1 hv2 hv3
  subst hv1
  refine ⟨flat_length _ _ _, fun h0 => ?_⟩
  rcases hA with ⟨rfl, hb⟩ | hz
  · refine ⟨_, rfl, hb, fun m u hu => ?_⟩
    obtain ⟨i, j, hi, hj, rfl, rfl⟩ := flat_inv hsz hu
    have := hc i j hi hj
    unfold Addr.add
    split
    · rename_i h1
      rw [h1] at this
      simpa using this
    · exact this
  · omega
theorem Sl.of_owns {w : World} {base e sz n : Nat} {v : Value} {xs : List Value} {f : Nat → Nat → Value} (h : w.ownsRow base e sz v n xs) (hx : ∀ i j, i < n → j < sz → xs[i * sz + j]? = some (f i j)) : Sl w w.heap.size sz v n f := by
  have hlt := h.lt
  obtain ⟨hl, ⟨rfl, rfl⟩ | ⟨g, cap, cur, rfl, hb, hg, hnc, hcm, hcs, htake⟩⟩ := h
  · exact Sl.nil _ _ _ _
  · refine ⟨some ⟨g, 0, none⟩, g, 0, cap, rfl, hnc, .inl ⟨rfl, (hlt g (by simp [Value.ownBlock])).2⟩, fun i j hi hj => ?_⟩
    have h1 := hx i j hi hj
    rw [← htake] at h1
    have h2 : cur[i * sz + j]? = some (f i j) := by
      rw [List.getElem?_take] at h1
      split at h1
      · rwa [Array.getElem?_toList] at h1
      · cases h1
    rw [Nat.zero_add]
    simp [World.cell?, hg, h2]
theorem flat_one {n sz : Nat} {f : Nat → Nat → Value} (hsz : 0 < sz) (h : ∀ i j, (f i j).oneCell' = true) : ∀ u ∈ flat n sz f, u.oneCell' = true := by
  intro u hu
  obtain ⟨m, hm⟩ := List.getElem?_of_mem hu
  obtain ⟨i, j, _, _, _, rfl⟩ := flat_inv hsz hm
  exact h i j
/-- An element that is appended: one more. -/
theorem flat_snoc {n sz : Nat} {f : Nat → Nat → Value} {xs ys : List Value} (hl : xs.length = n * sz) (hx : ∀ i j, i < n → j < sz → xs[i * sz + j]? = some (f i j)) (hy : ∀ j, j < sz → ys[j]? = some (f n j)) :
    ∀ i j, i < n + 1 → j < sz → (xs ++ ys)[i * sz + j]? = some (f i j) := by
  intro i j hi hj
  rcases Nat.lt_or_ge i n with h | h
  · rw [List.getElem?_append_left (by rw [hl]; exact idx_lt h hj)]
    exact hx i j h hj
  · have : i = n := by omega
    subst this
    rw [List.getElem?_append_right (by omega), hl, Nat.add_sub_cancel_left]
    exact hy j hj
end Go.Proofs.YtjimbcklnnhloaaDoor
/- Regions that draw their order where several operations make memory: a law by what each operation leaves, whatever comes up first. No condition. -/
namespace Go.Proofs.YtjimbcklnnhloaaDoor
open Go.RowKit

/-- The frame with the values tv in the slots of the operations js. -/
def putAll (a : Act) (dst : Nat → Tmp) (tv : Nat → Value) : List Nat → Act
  | [] => a
  | j :: r => putAll (a.put (some (dst j)) (tv j)) dst tv r
def updV (tv : Nat → Value) (j : Nat) (v : Value) : Nat → Value := fun k => if k = j then v else tv k
theorem updV_self (tv : Nat → Value) (j : Nat) (v : Value) : updV tv j v j = v := by simp [updV]
theorem updV_ne (tv : Nat → Value) {j k : Nat} (v : Value) (h : k ≠ j) : updV tv j v k = tv k := by simp [updV, h]
theorem putAll_congr (dst : Nat → Tmp) {tv tv' : Nat → Value} : ∀ (J : List Nat) (a : Act), (∀ j ∈ J, tv j = tv' j) → putAll a dst tv J = putAll a dst tv' J
  | [], _, _ => rfl
  | j :: r, a, h => by
    unfold putAll
    rw [h j (List.mem_cons_self ..)]
    exact putAll_congr dst r _ fun k hk => h k (List.mem_cons_of_mem _ hk)
theorem putAll_out (dst : Nat → Tmp) (tv : Nat → Value) (t : Tmp) (v : Value) : ∀ (J : List Nat) (a : Act), (∀ j ∈ J, dst j ≠ t) → (putAll a dst tv J).put (some t) v = putAll (a.put (some t) v) dst tv J
  | [], _, _ => rfl
  | j :: r, a, h => by
    unfold putAll
    rw [putAll_out dst tv t v r _ fun k hk => h k (List.mem_cons_of_mem _ hk)]
    rw [Act.put_comm a (tv j) v (fun d hd => by
      injection hd with hd
      intro he
      injection he with he
      exact h j (List.mem_cons_self ..) (by rw [hd, he]))]
theorem put_put (a : Act) (t : Tmp) (u v : Value) : (a.put (some t) u).put (some t) v = a.put (some t) v := by
  simp [Act.put]
theorem putAll_put (dst : Nat → Tmp) (tv : Nat → Value) (j : Nat) (v : Value) : ∀ (J : List Nat) (a : Act), j ∈ J → J.Nodup → (∀ x ∈ J, ∀ y ∈ J, dst x = dst y → x = y) → (putAll a dst tv J).put (some (dst j)) v = putAll a dst (updV tv j v) J
  | [], _, h, _, _ => by cases h
  | k :: r, a, h, hn, hd => by
    obtain ⟨hk, hr⟩ := List.nodup_cons.1 hn
    by_cases e : j = k
    · subst e
      show (putAll (a.put (some (dst j)) (tv j)) dst tv r).put (some (dst j)) v = putAll (a.put (some (dst j)) (updV tv j v j)) dst (updV tv j v) r
      rw [putAll_out dst tv (dst j) v r _ (fun x hx he => hk (by rw [← hd x (List.mem_cons_of_mem _ hx) j (List.mem_cons_self ..) he]; exact hx)), put_put, updV_self]
      exact putAll_congr dst r _ fun x hx => (updV_ne tv v (fun hxj => hk (by rw [← hxj]; exact hx))).symm
    · have hm : j ∈ r := by
        rcases List.mem_cons.1 h with h | h
        · exact absurd h e
        · exact h
      show (putAll (a.put (some (dst k)) (tv k)) dst tv r).put (some (dst j)) v = putAll (a.put (some (dst k)) (updV tv j v k)) dst (updV tv j v) r
      rw [updV_ne tv v (fun hkj => e hkj.symm)]
      exact putAll_put dst tv j v r _ hm hr fun x hx y hy => hd x (List.mem_cons_of_mem _ hx) y (List.mem_cons_of_mem _ hy)

/-- What the law asks of the region's text: each operation of J waits only for earlier ones, of J or listed already; each other operation that is left waits for all of J. -/
def freeOk (md : Region.Mode) (ops : Array Oper) (listed : Array Bool) (J : List Nat) : Bool :=
  J.all (fun j => !listed.getD j true && ((ops[j]?).map (fun o => o.after.all fun e => !Region.binds md e || (decide (e.on < j) && (listed.getD e.on false || J.contains e.on)))).getD false) &&
  (List.range ops.size).all (fun k => listed.getD k true || J.contains k || ((ops[k]?).map (fun o => J.all fun j => o.after.any fun e => Region.binds md e && e.on == j)).getD false)
def listAll (listed : Array Bool) : List Nat → Array Bool
  | [] => listed
  | j :: r => listAll (listed.setIfInBounds j true) r
theorem listAll_size : ∀ (J : List Nat) (l : Array Bool), (listAll l J).size = l.size
  | [], _ => rfl
  | j :: r, l => by unfold listAll; rw [listAll_size r]; simp
theorem listAll_get : ∀ (J : List Nat) (l : Array Bool) (k : Nat), k < l.size → (listAll l J)[k]? = some (l.getD k false || J.contains k)
  | [], l, k, h => by simp [listAll, h]
  | j :: r, l, k, h => by
    unfold listAll
    rw [listAll_get r _ k (by simpa using h)]
    by_cases e : j = k
    · subst e; simp [h]
    · have : (k == j) = false := by simpa using fun h => e h.symm
      rw [getD_set_ne false e]
      simp only [List.contains_cons, this, Bool.false_or]

section
variable {P : Program} {ops : Array Oper} {Q : Exit → Act → World → Prop} {md : Region.Mode} {S : World → Prop}

theorem wpAnyH_free (J : List Nat) (dst : Nat → Tmp) (R : Nat → Value → World → Prop) (listed0 : Array Bool) (a0 : Act) (fe : Nat)
    (hok : freeOk md ops listed0 J = true) (hsz : listed0.size = ops.size) (hnd : J.Nodup) (hdst : ∀ x ∈ J, ∀ y ∈ J, dst x = dst y → x = y)
    (hkeep : ∀ j ∈ J, ∀ v w w', Below w.heap.size w w' → R j v w → R j v w')
    (hstep : ∀ j ∈ J, ∀ (tv : Nat → Value) (w : World), S w → (∀ o, ops[j]? = some o → ∀ e ∈ o.after, Region.binds md e = true → e.on ∈ J → R e.on (tv e.on) w) →
      wpOp P ops Q j (fun a' w' => (∃ v, a' = (putAll a0 dst tv J).put (some (dst j)) v ∧ R j v w') ∧ Below w.heap.size w w' ∧ S w') (putAll a0 dst tv J) w)
    (hend : ∀ (tv : Nat → Value) (w : World), S w → (∀ j ∈ J, R j (tv j) w) → wpAnyH P md ops Q S fe (listAll listed0 J) (putAll a0 dst tv J) w) :
    ∀ (m : Nat) (listed : Array Bool) (tv : Nat → Value) (w : World), (J.filter fun j => !listed.getD j true).length = m → listed.size = ops.size →
      (∀ k, k ∉ J → listed[k]? = listed0[k]?) → S w → (∀ j ∈ J, listed.getD j true = true → R j (tv j) w) → wpAnyH P md ops Q S (m + fe) listed (putAll a0 dst tv J) w := by
  have hok' := hok
  unfold freeOk at hok'
  rw [Bool.and_eq_true, List.all_eq_true, List.all_eq_true] at hok'
  obtain ⟨hJ, hrest⟩ := hok'
  have hlt : ∀ j ∈ J, j < ops.size := fun j hj => by
    have := hJ j hj
    rcases Nat.lt_or_ge j ops.size with h | h
    · exact h
    · simp [Array.getElem?_eq_none h] at this
  intro m
  induction m with
  | zero =>
    intro listed tv w hm hls hout hS hR
    have hall : ∀ j ∈ J, listed.getD j true = true := fun j hj => by
      have h0 : J.filter (fun j => !listed.getD j true) = [] := List.eq_nil_of_length_eq_zero hm
      rw [List.filter_eq_nil_iff] at h0
      simpa using h0 j hj
    have he : listed = listAll listed0 J := by
      apply Array.ext_getElem?
      intro k
      rcases Nat.lt_or_ge k listed.size with h | h
      · rw [listAll_get J listed0 k (by omega)]
        by_cases hk : k ∈ J
        · have := hall k hk
          simp [h] at this
          simp [h, this, hk]
        · rw [hout k hk]
          have h2 : k < listed0.size := by omega
          simp [h2, hk]
      · rw [Array.getElem?_eq_none h, Array.getElem?_eq_none (by rw [listAll_size]; omega)]
    rw [Nat.zero_add, he]
    exact hend tv w hS fun j hj => hR j hj (hall j hj)
  | succ m ih =>
    intro listed tv w hm hls hout hS hR
    rw [show m + 1 + fe = (m + fe) + 1 by omega]
    have hready : ∀ i ∈ Region.ready md ops listed, i ∈ J := by
      intro i hi
      obtain ⟨h0, o, ho, hd⟩ := mem_ready.1 hi
      have hio : i < ops.size := (Array.getElem?_eq_some_iff.1 ho).1
      have h1 := hrest i (by simpa using hio)
      by_cases hiJ : i ∈ J
      · exact hiJ
      · exfalso
        have hi0 : listed0.getD i true = false := by
          have : listed0[i]? = listed[i]? := (hout i hiJ).symm
          simp only [Array.getD_eq_getD_getElem?, this] at h0 ⊢
          exact h0
        rw [hi0] at h1
        simp [hiJ, ho] at h1
        have h2 : ∀ j ∈ J, listed.getD j false = true := fun j hj => by
          obtain ⟨n, hn, hb, hon⟩ := h1 j hj
          have := hd _ (Array.getElem_mem hn) hb
          rw [hon] at this
          exact this
        have h3 : J.filter (fun j => !listed.getD j true) = [] := by
          rw [List.filter_eq_nil_iff]
          intro j hj
          have h4 := h2 j hj
          have h5 : j < listed.size := by have := hlt j hj; omega
          simp [h5] at h4
          simp [h5, h4]
        rw [h3] at hm
        simp at hm
    refine ⟨fun hno => ?_, fun i hi => ?_⟩
    · exfalso
      have hex : ∃ j, j ∈ J ∧ listed.getD j true = false := by
        rcases hf : J.filter (fun j => !listed.getD j true) with _ | ⟨j, r⟩
        · rw [hf] at hm; simp at hm
        · have : j ∈ J.filter (fun j => !listed.getD j true) := by rw [hf]; exact List.mem_cons_self ..
          rw [List.mem_filter] at this
          exact ⟨j, this.1, by simpa using this.2⟩
      have hmin : ∀ n j, j ∈ J → listed.getD j true = false → j ≤ n → False := by
        intro n
        induction n with
        | zero =>
          intro j hj hl hn
          have hjJ := hJ j hj
          obtain ⟨o, ho⟩ : ∃ o, ops[j]? = some o := ⟨_, Array.getElem?_eq_getElem (hlt j hj)⟩
          have : j ∈ Region.ready md ops listed := mem_ready.2 ⟨hl, o, ho, fun e he hb => by
            simp only [ho, Option.map_some, Option.getD_some, Bool.and_eq_true, Array.all_eq_true_iff_forall_mem] at hjJ
            have := hjJ.2 e he
            simp [hb] at this
            omega⟩
          rw [hno] at this
          cases this
        | succ n ihn =>
          intro j hj hl hn
          have hjJ := hJ j hj
          obtain ⟨o, ho⟩ : ∃ o, ops[j]? = some o := ⟨_, Array.getElem?_eq_getElem (hlt j hj)⟩
          have : j ∈ Region.ready md ops listed := mem_ready.2 ⟨hl, o, ho, fun e he hb => by
            simp only [ho, Option.map_some, Option.getD_some, Bool.and_eq_true, Array.all_eq_true_iff_forall_mem] at hjJ
            have h6 := hjJ.2 e he
            rw [hb] at h6
            simp only [Bool.not_true, Bool.false_or, Bool.and_eq_true, decide_eq_true_eq, Bool.or_eq_true] at h6
            obtain ⟨h7, h8⟩ := h6
            have hes : e.on < listed.size := by have := hlt j hj; omega
            by_cases hJe : e.on ∈ J
            · cases hg : listed.getD e.on true with
              | true =>
                simp [hes] at hg ⊢
                exact hg
              | false => exact absurd (ihn e.on hJe hg (by omega)) id
            · rcases h8 with h8 | h8
              · have : listed0[e.on]? = listed[e.on]? := (hout _ hJe).symm
                simp only [Array.getD_eq_getD_getElem?, this] at h8 ⊢
                exact h8
              · exact absurd (by simpa using h8) hJe⟩
          rw [hno] at this
          cases this
      obtain ⟨j, hj, hl⟩ := hex
      exact hmin j j hj hl (Nat.le_refl _)
    · have hiJ := hready i hi
      obtain ⟨h0, o, ho, hd⟩ := mem_ready.1 hi
      have hil : i < listed.size := by have := hlt i hiJ; omega
      refine wpOp_mono ?_ (hstep i hiJ tv w hS (fun o' ho' e he hb hon => hR e.on hon (by
        rw [ho] at ho'
        injection ho' with ho'
        subst ho'
        have h9 := hd e he hb
        have h10 : e.on < listed.size := by have := hlt _ hon; omega
        simp [h10] at h9 ⊢
        exact h9)))
      rintro a' w' ⟨⟨v, rfl, hv⟩, hB, hS'⟩
      refine ⟨hS', ?_⟩
      rw [putAll_put dst tv i v J a0 hiJ hnd hdst]
      refine ih (listed.setIfInBounds i true) (updV tv i v) w' ?_ (by simpa using hls) ?_ hS' ?_
      · have hcount : ∀ L : List Nat, L.Nodup → i ∈ L → (L.filter fun j => !listed.getD j true).length = (L.filter fun j => !(listed.setIfInBounds i true).getD j true).length + 1 := by
          intro L
          induction L with
          | nil => intro _ h; cases h
          | cons x r ihr =>
            intro hn hx
            obtain ⟨hx1, hx2⟩ := List.nodup_cons.1 hn
            by_cases e : i = x
            · subst e
              have hsame : r.filter (fun j => !(listed.setIfInBounds i true).getD j true) = r.filter (fun j => !listed.getD j true) := by
                apply List.filter_congr
                intro y hy
                rw [getD_set_ne true (fun h => hx1 (by rw [h]; exact hy))]
              have hset : (listed.setIfInBounds i true).getD i true = true := by simp [hil]
              rw [List.filter_cons, List.filter_cons, h0, hset, hsame]
              simp
            · have hxr : i ∈ r := by
                rcases List.mem_cons.1 hx with h | h
                · exact absurd h e
                · exact h
              have := ihr hx2 hxr
              rw [List.filter_cons, List.filter_cons, getD_set_ne true e]
              cases listed.getD x true with
              | true => exact this
              | false =>
                show (x :: _).length = (x :: _).length + 1
                rw [List.length_cons, List.length_cons, this]
        have := hcount J hnd hiJ
        omega
      · intro k hk
        rw [← hout k hk]
        exact Array.getElem?_setIfInBounds_ne (fun h => hk (by rw [← h]; exact hiJ))
      · intro j hj hl
        by_cases e : j = i
        · subst e
          rw [updV_self]
          exact hv
        · rw [updV_ne tv v e]
          refine hkeep j hj _ _ _ hB (hR j hj ?_)
          rw [getD_set_ne true (fun h => e h.symm)] at hl
          exact hl

/-- Operation j waits for operation k. -/
def waitsFor (md : Region.Mode) (ops : Array Oper) (j k : Nat) : Bool := ((ops[j]?).map (fun o => o.after.any fun e => Region.binds md e && e.on == k)).getD false
theorem putAll_self (a : Act) (dst : Nat → Tmp) (tv : Nat → Value) : ∀ (J : List Nat), (∀ j ∈ J, dst j < a.tmps.size ∧ tv j = a.tmps.getD (dst j) undef) → putAll a dst tv J = a
  | [], _ => rfl
  | j :: r, h => by
    obtain ⟨h1, h2⟩ := h j (List.mem_cons_self ..)
    unfold putAll
    rw [show a.put (some (dst j)) (tv j) = a by
      rw [h2]
      unfold Act.put
      show { a with tmps := a.tmps.setIfInBounds (dst j) (a.tmps.getD (dst j) undef) } = a
      have : a.tmps.setIfInBounds (dst j) (a.tmps.getD (dst j) undef) = a.tmps := by
        apply Array.ext_getElem?
        intro k
        by_cases e : dst j = k
        · subst e; simp [h1]
        · rw [Array.getElem?_setIfInBounds_ne e]
      rw [this]]
    exact putAll_self a dst tv r fun k hk => h k (List.mem_cons_of_mem _ hk)

/-- The law, from the frame as it stands. -/
theorem wpAnyH_start {fuel : Nat} {listed0 : Array Bool} {a0 : Act} {w0 : World} (J : List Nat) (dst : Nat → Tmp) (R : Nat → Value → World → Prop) (fe : Nat) (hf : fuel = J.length + fe)
    (hok : freeOk md ops listed0 J = true) (hsz : listed0.size = ops.size) (hnd : J.Nodup) (hdst : ∀ x ∈ J, ∀ y ∈ J, dst x = dst y → x = y) (hlt : (J.all fun j => decide (dst j < a0.tmps.size)) = true) (hS0 : S w0)
    (hkeep : ∀ j ∈ J, ∀ v w w', Below w.heap.size w w' → R j v w → R j v w')
    (hstep : ∀ j ∈ J, ∀ (tv : Nat → Value) (w : World), S w → (∀ k ∈ J, waitsFor md ops j k = true → R k (tv k) w) →
      wpOp P ops Q j (fun a' w' => (∃ v, a' = (putAll a0 dst tv J).put (some (dst j)) v ∧ R j v w') ∧ Below w.heap.size w w' ∧ S w') (putAll a0 dst tv J) w)
    (hend : ∀ (tv : Nat → Value) (w : World), S w → (∀ j ∈ J, R j (tv j) w) → wpAnyH P md ops Q S fe (listAll listed0 J) (putAll a0 dst tv J) w) : wpAnyH P md ops Q S fuel listed0 a0 w0 := by
  subst hf
  have hun : ∀ j ∈ J, listed0.getD j true = false := fun j hj => by
    have h := hok
    unfold freeOk at h
    rw [Bool.and_eq_true, List.all_eq_true] at h
    have := h.1 j hj
    rw [Bool.and_eq_true] at this
    simpa using this.1
  have hme := putAll_self a0 dst (fun j => a0.tmps.getD (dst j) undef) J fun j hj => ⟨by
    rw [List.all_eq_true] at hlt
    simpa using hlt j hj, rfl⟩
  have hcount : (J.filter fun j => !listed0.getD j true).length = J.length := by
    rw [List.filter_eq_self.2]
    intro j hj
    rw [hun j hj]
    rfl
  have := wpAnyH_free J dst R listed0 a0 fe hok hsz hnd hdst hkeep (fun j hj tv w hS hd => hstep j hj tv w hS fun k hk hw => by
      unfold waitsFor at hw
      cases ho : ops[j]? with
      | none => rw [ho] at hw; cases hw
      | some o =>
        rw [ho] at hw
        simp only [Option.map_some, Option.getD_some, Array.any_eq_true] at hw
        obtain ⟨n, hn, hb⟩ := hw
        rw [Bool.and_eq_true, beq_iff_eq] at hb
        have h2 := hd o ho _ (Array.getElem_mem hn) hb.1 (by rw [hb.2]; exact hk)
        rw [hb.2] at h2
        exact h2) hend J.length listed0 (fun j => a0.tmps.getD (dst j) undef) w0 hcount hsz (fun _ _ => rfl) hS0 (fun j hj hl => by rw [hun j hj] at hl; cases hl)
  rw [hme] at this
  exact this
end
end Go.Proofs.YtjimbcklnnhloaaDoor
/- An append onto a slice without room that was just made: the new slice lies in new memory, and nothing that was there has changed. No condition. -/
namespace Go.Proofs.YtjimbcklnnhloaaDoor
open Go.RowKit

section
variable {P : Program} (w : World)
theorem run_append_fresh (base : Nat) (t ty e : TypeId) (i : TypeInfo) (z : Value) (size bytes : Nat) (ht : P.underlying t = some (.slice e)) (hi : P.info? e = some i) (hz : i.zero = some z)
    (hsize : i.size = size) (hby : i.bytes = bytes) (hzs : z.cells.size = size) (hsz : 0 < size)
    (g : Nat) (hown : w.ownsRow base e size (.slice (some ⟨g, 0, none⟩) 0 0) 0 [])
    (B : Nat) (A : Option Addr) (m c : Nat) (news : List Value) (hr : Reads w B size A m news) (h1 : ∀ u ∈ news, u.oneCell' = true)
    (h63 : m ≤ maxLen) (hbytes : m * bytes ≤ 140737488355328) (hbase : base ≤ w.heap.size) :
    ∃ v' w', (Builtin.append_ #[t, t] ty #[.slice (some ⟨g, 0, none⟩) 0 0, .slice A m c]).run P w = .ok v' w' ∧ w'.ownsRow base e size v' m news ∧ Below w.heap.size w w' := by
  have hsmall : m ≤ 9223372036854775807 := by simp only [maxLen] at h63; omega
  rcases Nat.eq_zero_or_pos m with h0 | h0
  · subst h0
    have hn : news = [] := List.eq_nil_of_length_eq_zero (by simpa using hr.1)
    subst hn
    refine ⟨_, w, ?_, hown, Below.refl _ _⟩
    cases A <;> simp [Builtin.append_, run_underlying ht, sizeOf, typeInfo, hi, Builtin.lenOf, Builtin.firstCells, loadCells, loadCellsFrom, storeCells]
  · obtain ⟨ad, hA, _, hcells⟩ := hr.2 h0
    subst hA
    obtain ⟨v', w', hrun, hown', _⟩ := run_append_own_at (P := P) w base t ty e i z size bytes ht hi hz hsize hby hzs hsz _ 0 [] hown ad m c news hr.1 hcells h1 (by omega) (by simpa using hbytes) hbase
    subst hsize
    subst hby
    have hg := run_append_grow (P := P) w t ty e i z ht hi hz ⟨g, 0, none⟩ 0 0 [] (by simp) (by simp) ad m c news hr.1 hcells (by omega) (by omega) (growslice_fits (by omega) (by simpa using hbytes))
    rw [hrun] at hg
    injection hg with hv hw
    refine ⟨v', w', hrun, by simpa using hown', ?_⟩
    rw [hw]
    exact Below.allocT (Below.drew (Below.refl _ _)) (Nat.le_refl _) _

theorem step_append_fresh {ops : Array Oper} {o : Oper} {a : Act} {K : Act → World → Prop} {Q : Exit → Act → World → Prop} {E : Prop} (hgd : o.guard = none) (s x : Operand) (t : TypeId)
    (ho : o.op = .call { callee := .builtin .append, args := #[s, x], argTypes := #[t, t] })
    (base : Nat) (e : TypeId) (i : TypeInfo) (z : Value) (size bytes : Nat) (ht : P.underlying t = some (.slice e)) (hi : P.info? e = some i) (hz : i.zero = some z)
    (hsize : i.size = size) (hby : i.bytes = bytes) (hzs : z.cells.size = size) (hsz : 0 < size)
    (g : Nat) (hs : a.eval s = .slice (some ⟨g, 0, none⟩) 0 0) (hown : w.ownsRow base e size (.slice (some ⟨g, 0, none⟩) 0 0) 0 [])
    (B : Nat) (A : Option Addr) (m c : Nat) (news : List Value) (hx : a.eval x = .slice A m c) (hr : Reads w B size A m news) (h1 : ∀ u ∈ news, u.oneCell' = true)
    (h63 : m ≤ maxLen) (hbytes : m * bytes ≤ 140737488355328) (hbase : base ≤ w.heap.size)
    (h : ∀ v' w', w'.ownsRow base e size v' m news → Below w.heap.size w w' → K (a.put o.dst v') w') :
    if Region.wanted o (yielded ops a.tmps) = true then Oper.wp P o a w K Q else E := by
  have hw : Region.wanted o (yielded ops a.tmps) = true := by simp [Region.wanted, hgd]
  rw [if_pos hw]
  obtain ⟨v', w', hrun, h2, h3⟩ := run_append_fresh (P := P) w base t o.type e i z size bytes ht hi hz hsize hby hzs hsz g hown B A m c news hr h1 h63 hbytes hbase
  unfold Oper.wp execOp
  simp only [ho, resolve, invoke, builtin, Sem.run_bind, Sem.run_pure, Result.andThen_ok, List.map_toArray, List.map_cons, List.map_nil, hs, hx, hrun]
  exact h v' w' h2 h3
end
theorem owns_below {w w' : World} {base e size n : Nat} {v : Value} {xs : List Value} (h : w.ownsRow base e size v n xs) (hb : Below w.heap.size w w') : w'.ownsRow base e size v n xs := by
  obtain ⟨h1, h2 | ⟨g, cap, cur, h3, h4, h5, h6⟩⟩ := h
  · exact ⟨h1, .inl h2⟩
  · exact ⟨h1, .inr ⟨g, cap, cur, h3, h4, (hb.block g (Array.getElem?_eq_some_iff.1 h5).1).trans h5, h6⟩⟩
theorem heap_below {w w' : World} {g : Nat} {o : Obj} (h : w.heap[g]? = some o) (hb : Below w.heap.size w w') : w'.heap[g]? = some o :=
  (hb.block g (Array.getElem?_eq_some_iff.1 h).1).trans h
theorem owns_base {w : World} {base base' e size n : Nat} {v : Value} {xs : List Value} (h : w.ownsRow base e size v n xs) (hb : base' ≤ base) : w.ownsRow base' e size v n xs := by
  obtain ⟨h1, h2 | ⟨g, cap, cur, h3, h4, h5⟩⟩ := h
  · exact ⟨h1, .inl h2⟩
  · exact ⟨h1, .inr ⟨g, cap, cur, h3, Nat.le_trans hb h4, h5⟩⟩
/-- A cell of another block than the one that was written. -/
theorem gcell {w w' : World} {g : Nat} (h : w.grownBy w' (some g)) : ∀ b o, b < w.heap.size → b ≠ g → w'.cell? ⟨b, o, none⟩ = w.cell? ⟨b, o, none⟩ :=
  fun b o hb hg => World.cell?_of_block (a := ⟨b, o, none⟩) (h.block b hb (fun e => hg (by injection e)))
theorem grown_of_below {w w' : World} {row : Option Nat} (h : Below w.heap.size w w') : w.grownBy w' row := ⟨h.os, h.tape, h.output, h.size, fun k hk _ => h.block k hk⟩
theorem owns_grown {w w' : World} {base e size n g t : Nat} {C : Array Value} {v : Value} {xs : List Value} (h : w.ownsRow base e size v n xs) (hg : w.grownBy w' (some g)) (ht : w.heap[g]? = some (.cells C t (0, 0))) (hne : e ≠ t) : w'.ownsRow base e size v n xs := by
  obtain ⟨h1, h2 | ⟨b, cap, cur, h3, h4, h5, h6⟩⟩ := h
  · exact ⟨h1, .inl h2⟩
  · exact ⟨h1, .inr ⟨b, cap, cur, h3, h4, (hg.block b (Array.getElem?_eq_some_iff.1 h5).1 (fun e' => by
      injection e' with e'
      subst e'
      rw [h5] at ht
      injection ht with ht
      injection ht with _ ht
      exact hne ht)).trans h5, h6⟩⟩
theorem alloc2 {w w0 : World} {o p : Obj} (h : (w.alloc o).alloc p = w0) : w0.heap[w.heap.size]? = some o ∧ w0.heap[w.heap.size + 1]? = some p ∧ Below w.heap.size w w0 ∧ w0.heap.size = w.heap.size + 2 := by
  subst h
  refine ⟨?_, ?_, Below.allocT (Below.allocT (Below.refl _ _) (Nat.le_refl _) _) (Nat.le_refl _) _, by simp⟩
  · rw [show ((w.alloc o).alloc p).heap[w.heap.size]? = (w.alloc o).heap[w.heap.size]? from Below.heap_alloc _ _ _ (by simp)]
    exact heap_alloc_new w o
  · have := heap_alloc_new (w.alloc o) p
    simpa using this
end Go.Proofs.YtjimbcklnnhloaaDoor
/- Blocks of memory: small laws. (For seats without the texts on wires.) -/
namespace Go.Proofs.YtjimbcklnnhloaaDoor
open Go.RowKit
theorem heap_new (w : World) (o : Obj) (k : Nat) (hk : k = w.heap.size) : (w.alloc o).heap[k]? = some o := by subst hk; exact World.alloc_heap_new w o
theorem heap_old (w : World) (o : Obj) (k : Nat) (hk : k < w.heap.size) : (w.alloc o).heap[k]? = w.heap[k]? := Below.heap_alloc w o k hk
theorem box_at {w w1 : World} {o : Obj} (hB : Below (w.alloc o).heap.size (w.alloc o) w1) : w1.heap[w.heap.size]? = some o := (hB.block _ (by simp)).trans (heap_new _ _ _ rfl)
theorem box_lt {w : World} {k : Nat} {o : Obj} (h : w.heap[k]? = some o) : k < w.heap.size := (Array.getElem?_eq_some_iff.1 h).1
theorem box_to {w w1 : World} {k : Nat} {o : Obj} (h : w.heap[k]? = some o) (hB : Below w.heap.size w w1) : w1.heap[k]? = some o := (hB.block _ (box_lt h)).trans h
theorem cellOf {w : World} {g : Nat} {cs : Array Value} {t : TypeId} {fr : Nat × Nat} (h : w.heap[g]? = some (.cells cs t fr)) (i : Nat) : w.cell? ⟨g, i, none⟩ = cs[i]? := by simp [World.cell?, h]
theorem unfrozenOf {w : World} {g : Nat} {cs : Array Value} {t : TypeId} (h : w.heap[g]? = some (.cells cs t (0, 0))) (i : Nat) : w.frozen? ⟨g, i, none⟩ = false := by simp [World.frozen?, h]
theorem setCellOf {w : World} {g i : Nat} {cs : Array Value} {t : TypeId} {fr : Nat × Nat} (h : w.heap[g]? = some (.cells cs t fr)) (v : Value) : (w.setCell ⟨g, i, none⟩ v).heap[g]? = some (.cells (cs.setIfInBounds i v) t fr) := by
  simp [World.setCell, Array.getElem?_modify, h]
theorem alloc1 {w w0 : World} {o : Obj} (h : w.alloc o = w0) : w0.heap[w.heap.size]? = some o ∧ Below w.heap.size w w0 ∧ w0.heap.size = w.heap.size + 1 := by
  subst h
  exact ⟨heap_new _ _ _ rfl, (Below.refl _ _).alloc (Nat.le_refl _) _, by simp⟩
theorem alloc3 {w w0 : World} {o p q : Obj} (h : ((w.alloc o).alloc p).alloc q = w0) : w0.heap[w.heap.size]? = some o ∧ w0.heap[w.heap.size + 1]? = some p ∧ w0.heap[w.heap.size + 2]? = some q ∧ Below w.heap.size w w0 ∧ w0.heap.size = w.heap.size + 3 := by
  subst h
  refine ⟨?_, ?_, ?_, Below.allocT (Below.allocT (Below.allocT (Below.refl _ _) (Nat.le_refl _) _) (Nat.le_refl _) _) (Nat.le_refl _) _, by simp⟩
  · rw [heap_old _ _ _ (by simp <;> omega), heap_old _ _ _ (by simp), heap_new _ _ _ rfl]
  · rw [heap_old _ _ _ (by simp), heap_new _ _ _ (by simp)]
  · rw [heap_new _ _ _ (by simp)]
theorem alloc4 {w w0 : World} {o p q r : Obj} (h : (((w.alloc o).alloc p).alloc q).alloc r = w0) : w0.heap[w.heap.size]? = some o ∧ w0.heap[w.heap.size + 1]? = some p ∧ w0.heap[w.heap.size + 2]? = some q ∧ w0.heap[w.heap.size + 3]? = some r ∧ Below w.heap.size w w0 ∧ w0.heap.size = w.heap.size + 4 := by
  subst h
  refine ⟨?_, ?_, ?_, ?_, Below.allocT (Below.allocT (Below.allocT (Below.allocT (Below.refl _ _) (Nat.le_refl _) _) (Nat.le_refl _) _) (Nat.le_refl _) _) (Nat.le_refl _) _, by simp⟩
  · rw [heap_old _ _ _ (by simp <;> omega), heap_old _ _ _ (by simp <;> omega), heap_old _ _ _ (by simp), heap_new _ _ _ rfl]
  · rw [heap_old _ _ _ (by simp <;> omega), heap_old _ _ _ (by simp), heap_new _ _ _ (by simp)]
  · rw [heap_old _ _ _ (by simp), heap_new _ _ _ (by simp)]
  · rw [heap_new _ _ _ (by simp)]
end Go.Proofs.YtjimbcklnnhloaaDoor
/- The forest of diagrams in memory: its words, and how they are carried. -/
namespace Go.Proofs.YtjimbcklnnhloaaDoor
open Go.RowKit
open Go.Maps (Keyed)
set_option linter.unusedVariables false

theorem infoKn : (Tryd.prog.info? 95).map (fun i => (i.zero, i.size, i.bytes)) = some (some (.agg #[.int .i64 0, .int .i64 0, .int .i64 0]), 3, 24) := by kernel_rfl
def I63 (x : Int) : Prop := -9223372036854775808 ≤ x ∧ x ≤ 9223372036854775807
theorem wf63 {x : Int} (h : I63 x) : (Lit.int .i64 x).wf = true := WalkArith.wf_i64 h
def knV (k : Kn) : Value := .agg #[.int .i64 k.opt, .int .i64 k.low, .int .i64 k.high]
theorem knV_inj (a b : Kn) (h : knV a = knV b) : a = b := by
  unfold knV at h
  injection h with h
  injection h with h
  injection h with h1 h
  injection h with h2 h
  injection h with h3 h
  injection h1 with _ h1
  injection h2 with _ h2
  injection h3 with _ h3
  exact Kn.ext' (by omega) (by omega) (by omega)
/-- A pair of nodes with an operator, as a key. -/
def paV (p : Int × Nat × Nat) : Value := .agg #[.int .i64 p.1, .int .i64 p.2.1, .int .i64 p.2.2]
theorem paV_inj (a b : Int × Nat × Nat) (h : paV a = paV b) : a = b := by
  unfold paV at h
  injection h with h
  injection h with h
  injection h with h1 h
  injection h with h2 h
  injection h with h3 h
  injection h1 with _ h1
  injection h2 with _ h2
  injection h3 with _ h3
  obtain ⟨a1, a2, a3⟩ := a
  obtain ⟨b1, b2, b3⟩ := b
  simp only at h1 h2 h3
  obtain rfl : a2 = b2 := by omega
  obtain rfl : a3 = b3 := by omega
  rw [h1]
theorem key3 {k : Nat} (h1 : Tryd.prog.keyType k = true) (h2 : ∀ a b c, (Value.agg #[.int .i64 a, .int .i64 b, .int .i64 c]).formed Tryd.prog k = true) (h4 : Tryd.prog.cellsOf k = 3) {n0 n1 n2 p0 p1 p2 q0 q1 q2 : String} {o0 o1 o2 : Nat}
    (hk : Tryd.prog.underlying k = some (.struct #[{ name := n0, type := 3, offset := 0, embedded := false, tag := q0, pkgPath := p0, byteOffset := o0 }, { name := n1, type := 3, offset := 1, embedded := false, tag := q1, pkgPath := p1, byteOffset := o1 }, { name := n2, type := 3, offset := 2, embedded := false, tag := q2, pkgPath := p2, byteOffset := o2 }]))
    (m0 : n0 ≠ "_") (m1 : n1 ≠ "_") (m2 : n2 ≠ "_") {a b c : Int} (ha : I63 a) (hb : I63 b) (hc : I63 c) : ∃ l, keyOf Tryd.prog k (.agg #[.int .i64 a, .int .i64 b, .int .i64 c]) = some l := by
  obtain ⟨d, hd⟩ : ∃ d, Tryd.prog.types.size = d + 2 := ⟨Tryd.prog.types.size - 2, by kernel_rfl⟩
  have h5 : Tryd.prog.cellsOf 3 = 1 := by kernel_rfl
  unfold keyOf
  rw [hk]
  simp only [h1, h2, Bool.and_self, if_true]
  rw [show Tryd.prog.types.size + 1 = d + 1 + 1 + 1 by omega]
  simp [Program.keyLits, hk, Tryd.underlying3, h4, h5, wf63 ha, wf63 hb, wf63 hc, Value.cells, m0, m1, m2]
theorem knKey {k : Kn} (h1 : I63 k.opt) (h2 : I63 k.low) (h3 : I63 k.high) : ∃ l, keyOf Tryd.prog 95 (knV k) = some l :=
  key3 (by kernel_rfl) (fun _ _ _ => by kernel_rfl) (by kernel_rfl) Tryd.underlying95 (by decide) (by decide) (by decide) h1 h2 h3
theorem paKey {o : Int} {a b : Nat} (h1 : I63 o) (h2 : I63 a) (h3 : I63 b) : ∃ l, keyOf Tryd.prog 112 (paV (o, a, b)) = some l :=
  key3 (by kernel_rfl) (fun _ _ _ => by kernel_rfl) (by kernel_rfl) Tryd.underlying112 (by decide) (by decide) (by decide) h1 h2 h3
theorem knLaw : Keyed Tryd.prog 95 := Keyed.of_law (deep_law_laid (P := Tryd.prog) (by kernel_rfl) (m := 3) (by decide) (of_decide_eq_true (by kernel_rfl)) (by kernel_rfl) (by kernel_rfl))
theorem paLaw : Keyed Tryd.prog 112 := Keyed.of_law (deep_law_laid (P := Tryd.prog) (by kernel_rfl) (m := 3) (by decide) (of_decide_eq_true (by kernel_rfl)) (by kernel_rfl) (by kernel_rfl))
theorem zInt (w : World) : (zeroValue 3).run Tryd.prog w = .ok (.int .i64 0) w := by kernel_rfl

/-! what is kept -/
/-- Nothing has changed but the blocks of a set, and new ones. -/
structure Keeps (S : Nat → Prop) (w w' : World) : Prop where
  os : w'.os = w.os
  tape : w'.tape = w.tape
  output : w'.output = w.output
  size : w.heap.size ≤ w'.heap.size
  block : ∀ k, k < w.heap.size → ¬ S k → w'.heap[k]? = w.heap[k]?
theorem Keeps.refl (S : Nat → Prop) (w : World) : Keeps S w w := ⟨rfl, rfl, rfl, Nat.le_refl _, fun _ _ _ => rfl⟩
theorem Keeps.trans {S T : Nat → Prop} {a b c : World} (h : Keeps S a b) (k : Keeps T b c) (hT : ∀ i, i < a.heap.size → T i → S i) : Keeps S a c :=
  ⟨k.os.trans h.os, k.tape.trans h.tape, k.output.trans h.output, Nat.le_trans h.size k.size, fun i hi hn => (k.block i (Nat.lt_of_lt_of_le hi h.size) (fun ht => hn (hT i hi ht))).trans (h.block i hi hn)⟩
theorem Keeps.mono {S T : Nat → Prop} {a b : World} (h : Keeps S a b) (hT : ∀ i, i < a.heap.size → S i → T i) : Keeps T a b :=
  ⟨h.os, h.tape, h.output, h.size, fun i hi hn => h.block i hi fun hs => hn (hT i hi hs)⟩
theorem Keeps.of_below {S : Nat → Prop} {a b : World} (h : Below a.heap.size a b) : Keeps S a b := ⟨h.os, h.tape, h.output, h.size, fun i hi _ => h.block i hi⟩
theorem Keeps.of_grown {S : Nat → Prop} {a b : World} {row : Option Nat} (h : a.grownBy b row) (hr : ∀ k, row = some k → S k) : Keeps S a b := ⟨h.os, h.tape, h.output, h.size, fun i hi hn => h.block i hi fun e => hn (hr i e.symm)⟩
theorem Keeps.drew {S : Nat → Prop} {a b : World} (h : Keeps S a b) : Keeps S a b.drew := ⟨h.os, h.tape, h.output, h.size, h.block⟩
theorem Keeps.drewN {S : Nat → Prop} {a b : World} (h : Keeps S a b) (n : Nat) : Keeps S a (b.drewN n) := ⟨h.os, h.tape, h.output, h.size, h.block⟩
theorem Keeps.alloc {S : Nat → Prop} {a b : World} (h : Keeps S a b) (o : Obj) : Keeps S a (b.alloc o) :=
  ⟨h.os, h.tape, h.output, by have := h.size; simp; omega, fun i hi hn => (Below.heap_alloc b o i (Nat.lt_of_lt_of_le hi h.size)).trans (h.block i hi hn)⟩
theorem Keeps.setCell {S : Nat → Prop} {a b : World} (h : Keeps S a b) {p : Addr} (hp : S p.block ∨ a.heap.size ≤ p.block) (u : Value) : Keeps S a (b.setCell p u) :=
  ⟨h.os, h.tape, h.output, by have := h.size; simpa [World.setCell] using this, fun i hi hn => (Below.heap_setCell b p u i (fun e => by
    rcases hp with hp | hp
    · exact hn (by rw [e]; exact hp)
    · omega)).trans (h.block i hi hn)⟩
theorem Keeps.below {S : Nat → Prop} {a b : World} {B : Nat} (h : Keeps S a b) (hB : B ≤ a.heap.size) (hS : ∀ k, S k → B ≤ k) : Below B a b :=
  ⟨h.os, h.tape, h.output, h.size, fun i hi => h.block i (by omega) fun hs => by have := hS i hs; omega⟩
theorem kcell {S : Nat → Prop} {a b : World} (h : Keeps S a b) : ∀ k o, k < a.heap.size → ¬ S k → b.cell? ⟨k, o, none⟩ = a.cell? ⟨k, o, none⟩ :=
  fun k o hk hn => World.cell?_of_block (h.block k hk hn)

/-! the forest -/
structure Fo where
  base : Nat
  p : Nat
  N : Nat
  ks : List Kn
  kb : Nat
  cap : Nat
  bk : Nat
  nk : Nat
  K : Kn → Option Int
  bj : Nat
  nj : Nat
  J : Int × Nat × Nat → Option Int
def opB (o : Int) (x y : Bool) : Bool := if o = -4 then x && y else if o = -5 then x || y else x == y
theorem opB_comm (o : Int) (x y : Bool) : opB o x y = opB o y x := by
  unfold opB; split
  · exact Bool.and_comm _ _
  · split
    · exact Bool.or_comm _ _
    · cases x <;> cases y <;> rfl
def knF (ks : List Kn) (i j : Nat) : Value := match j with
  | 0 => .int .i64 (topK ks i : Nat)
  | 1 => .int .i64 (lowK ks i : Nat)
  | _ => .int .i64 (highK ks i : Nat)
/-- The forest F stands in memory. -/
structure FoAt (w : World) (F : Fo) : Prop where
  box : w.heap[F.p]? = some (.cells #[.int .i64 F.N, .slice (some ⟨F.kb, 0, none⟩) F.ks.length F.cap, .map (some F.bk), .map (some F.bj)] 83 (0, 0))
  row : w.ownsRow F.base 95 3 (.slice (some ⟨F.kb, 0, none⟩) F.ks.length F.cap) F.ks.length (flat F.ks.length 3 (knF F.ks))
  known : MapIs Tryd.prog w 95 3 F.bk F.nk knV F.K
  joined : MapIs Tryd.prog w 112 3 F.bj F.nj paV F.J
  wf : WF F.N F.ks
  k1 : ∀ k x, F.K k = some x → ∃ i : Nat, x = i ∧ 2 ≤ i ∧ i < F.ks.length ∧ F.ks.getD i Kn.z = k
  k2 : ∀ i, 2 ≤ i → i < F.ks.length → F.K (F.ks.getD i Kn.z) = some ((i : Nat) : Int)
  j1 : ∀ o a b x, F.J (o, a, b) = some x → ∃ i : Nat, x = i ∧ i < F.ks.length ∧ a < F.ks.length ∧ b < F.ks.length ∧ (∀ v, ev F.ks v i = opB o (ev F.ks v a) (ev F.ks v b)) ∧ min (topK F.ks a) (topK F.ks b) ≤ topK F.ks i
  nkk : F.nk ≤ F.ks.length
  pb : F.base ≤ F.p
  bb : F.base ≤ F.bk ∧ F.base ≤ F.bj ∧ F.base ≤ F.kb
  ne1 : F.bk ≠ F.bj
  ne2 : F.kb ≠ F.p
  small : F.ks.length ≤ 1073741824 ∧ F.nj ≤ 1073741824 ∧ F.N ≤ 1000
def SF (F : Fo) (k : Nat) : Prop := k = F.p ∨ k = F.bk ∨ k = F.bj ∨ k = F.kb
section
variable {w : World} {F : Fo} (h : FoAt w F)
include h
theorem FoAt.lts : F.p < w.heap.size ∧ F.bk < w.heap.size ∧ F.bj < w.heap.size ∧ F.kb < w.heap.size :=
  ⟨box_lt h.box, h.known.lt, h.joined.lt, (h.row.lt F.kb rfl).2⟩
theorem FoAt.nes : F.p ≠ F.bk ∧ F.p ≠ F.bj ∧ F.kb ≠ F.bk ∧ F.kb ≠ F.bj := by
  obtain ⟨e1, c1, h1⟩ := h.known.obj
  obtain ⟨e2, c2, h2⟩ := h.joined.obj
  have h3 := h.box
  obtain ⟨_, ⟨h4, _⟩ | ⟨g, cp, cur, h4, _, h5, _⟩⟩ := h.row
  · cases h4
  · injection h4 with h4 _ _
    injection h4 with h4
    injection h4 with h4 _ _
    subst h4
    refine ⟨fun e => ?_, fun e => ?_, fun e => ?_, fun e => ?_⟩
    · rw [e, h1] at h3; cases h3
    · rw [e, h2] at h3; cases h3
    · rw [e, h1] at h5; cases h5
    · rw [e, h2] at h5; cases h5
theorem FoAt.cellN : w.cell? ⟨F.p, 0, none⟩ = some (.int .i64 F.N) := cellOf h.box 0
theorem FoAt.cellS : w.cell? ⟨F.p, 1, none⟩ = some (.slice (some ⟨F.kb, 0, none⟩) F.ks.length F.cap) := cellOf h.box 1
theorem FoAt.cellK : w.cell? ⟨F.p, 2, none⟩ = some (.map (some F.bk)) := cellOf h.box 2
theorem FoAt.cellJ : w.cell? ⟨F.p, 3, none⟩ = some (.map (some F.bj)) := cellOf h.box 3
theorem FoAt.knot {n : Nat} (hn : n < F.ks.length) : w.cell? ⟨F.kb, n * 3, none⟩ = some (.int .i64 (topK F.ks n : Nat)) ∧ w.cell? ⟨F.kb, n * 3 + 1, none⟩ = some (.int .i64 (lowK F.ks n : Nat)) ∧ w.cell? ⟨F.kb, n * 3 + 2, none⟩ = some (.int .i64 (highK F.ks n : Nat)) := by
  have hc := h.row.cells (g := F.kb) rfl
  have hx : ∀ j, j < 3 → w.cell? ⟨F.kb, n * 3 + j, none⟩ = some (knF F.ks n j) := fun j hj => by
    have := hc (n * 3 + j) _ (flat_get (f := knF F.ks) hn hj)
    have he : (⟨F.kb, 0, none⟩ : Addr).add (n * 3 + j) = ⟨F.kb, n * 3 + j, none⟩ := by
      unfold Addr.add
      split
      · rename_i h0; rw [h0]
      · rw [Nat.zero_add]
    rwa [he] at this
  exact ⟨hx 0 (by omega), hx 1 (by omega), hx 2 (by omega)⟩
theorem FoAt.same {w' : World} (hs : ∀ k, SF F k → w'.heap[k]? = w.heap[k]?) : FoAt w' F where
  box := (hs _ (.inl rfl)).trans h.box
  row := by
    obtain ⟨h1, ⟨h4, h6⟩ | ⟨g, cp, cur, h4, h6, h5, h7⟩⟩ := h.row
    · cases h4
    · refine ⟨h1, .inr ⟨g, cp, cur, h4, h6, ?_, h7⟩⟩
      injection h4 with h4 _ _
      injection h4 with h4
      injection h4 with h4 _ _
      subst h4
      exact (hs _ (.inr (.inr (.inr rfl)))).trans h5
  known := h.known.same (hs _ (.inr (.inl rfl)))
  joined := h.joined.same (hs _ (.inr (.inr (.inl rfl))))
  wf := h.wf
  k1 := h.k1
  k2 := h.k2
  j1 := h.j1
  nkk := h.nkk
  pb := h.pb
  bb := h.bb
  ne1 := h.ne1
  ne2 := h.ne2
  small := h.small
theorem FoAt.slt {k : Nat} (hk : SF F k) : k < w.heap.size := by
  obtain ⟨h1, h2, h3, h4⟩ := h.lts
  rcases hk with rfl | rfl | rfl | rfl <;> assumption
theorem FoAt.sbase {k : Nat} (hk : SF F k) : F.base ≤ k := by
  obtain ⟨h2, h3, h4⟩ := h.bb
  rcases hk with rfl | rfl | rfl | rfl
  · exact h.pb
  · exact h2
  · exact h3
  · exact h4
theorem FoAt.below {w' : World} (hb : Below w.heap.size w w') : FoAt w' F := h.same fun k hk => hb.block k (h.slt hk)
theorem FoAt.keeps {w' : World} {S : Nat → Prop} (hb : Keeps S w w') (hS : ∀ k, SF F k → ¬ S k) : FoAt w' F := h.same fun k hk => hb.block k (h.slt hk) (hS k hk)
end
/-- From a forest in one world to a forest in a later one that has all its nodes. -/
structure FStep (w : World) (F : Fo) (w' : World) (F' : Fo) : Prop where
  here : FoAt w' F'
  ba : F'.base = F.base
  p : F'.p = F.p
  N : F'.N = F.N
  bk : F'.bk = F.bk
  bj : F'.bj = F.bj
  ks : ∃ e, F'.ks = F.ks ++ e
  kb : F'.kb = F.kb ∨ w.heap.size ≤ F'.kb
  keep : Keeps (SF F) w w'
theorem FStep.sub {w w' : World} {F F' : Fo} (h : FStep w F w' F') : ∀ k, k < w.heap.size → SF F' k → SF F k := by
  intro k hk hs
  unfold SF at hs ⊢
  rw [h.p, h.bk, h.bj] at hs
  rcases h.kb with e | e
  · rw [e] at hs; exact hs
  · omega
theorem FStep.trans {a b c : World} {F G H : Fo} (h : FStep a F b G) (k : FStep b G c H) : FStep a F c H where
  here := k.here
  ba := k.ba.trans h.ba
  p := k.p.trans h.p
  N := k.N.trans h.N
  bk := k.bk.trans h.bk
  bj := k.bj.trans h.bj
  ks := by
    obtain ⟨e, he⟩ := h.ks
    obtain ⟨f, hf⟩ := k.ks
    exact ⟨e ++ f, by rw [hf, he, List.append_assoc]⟩
  kb := by
    rcases k.kb with e | e
    · rw [e]; exact h.kb
    · exact .inr (Nat.le_trans h.keep.size e)
  keep := h.keep.trans k.keep h.sub
theorem FStep.refl {w : World} {F : Fo} (h : FoAt w F) : FStep w F w F := ⟨h, rfl, rfl, rfl, rfl, rfl, ⟨[], by simp⟩, .inl rfl, Keeps.refl _ _⟩
theorem FStep.of_below {w w' : World} {F : Fo} (h : FoAt w F) (hb : Below w.heap.size w w') : FStep w F w' F := ⟨h.below hb, rfl, rfl, rfl, rfl, rfl, ⟨[], by simp⟩, .inl rfl, Keeps.of_below hb⟩
theorem FStep.then_below {w w' w'' : World} {F F' : Fo} (h : FStep w F w' F') (hb : Below w'.heap.size w' w'') : FStep w F w'' F' := h.trans (FStep.of_below h.here hb)
theorem FStep.le {w w' : World} {F F' : Fo} (h : FStep w F w' F') : F.ks.length ≤ F'.ks.length := by
  obtain ⟨e, he⟩ := h.ks
  rw [he, List.length_append]; omega
theorem FStep.ev {w w' : World} {F F' : Fo} (h : FStep w F w' F') (hw : WF F.N F.ks) {n : Nat} (hn : n < F.ks.length) (v : Nat → Bool) : ev F'.ks v n = ev F.ks v n := by
  obtain ⟨e, he⟩ := h.ks
  rw [he]; exact ev_old hw e v hn
theorem FStep.top {w w' : World} {F F' : Fo} (h : FStep w F w' F') {n : Nat} (hn : n < F.ks.length) : topK F'.ks n = topK F.ks n := by
  obtain ⟨e, he⟩ := h.ks
  rw [he]; exact topK_old e hn
theorem FStep.below {w w' : World} {F F' : Fo} (h : FStep w F w' F') (hF : FoAt w F) (hB : F.base ≤ w.heap.size) : Below F.base w w' := h.keep.below hB fun k hk => hF.sbase hk
/-- A block of the caller's own is kept. -/
theorem FStep.block {w w' : World} {F F' : Fo} (h : FStep w F w' F') {k : Nat} (hk : k < w.heap.size) (hn : ¬ SF F k) : w'.heap[k]? = w.heap[k]? ∧ ¬ SF F' k := ⟨h.keep.block k hk hn, fun hs => hn (h.sub k hk hs)⟩
theorem flat_knSnoc (ks : List Kn) (k : Kn) : flat (ks ++ [k]).length 3 (knF (ks ++ [k])) = flat ks.length 3 (knF ks) ++ [.int .i64 (k.opt : Nat), .int .i64 (k.low : Nat), .int .i64 (k.high : Nat)] := by
  apply List.ext_getElem?
  intro m
  rcases Nat.lt_or_ge m (ks.length * 3) with hm | hm
  · rw [List.getElem?_append_left (by rw [flat_length]; exact hm)]
    obtain ⟨i, j, rfl, hj⟩ : ∃ i j, m = i * 3 + j ∧ j < 3 := ⟨m / 3, m % 3, by omega, by omega⟩
    have hi : i < ks.length := by omega
    rw [flat_get (by simp; omega) hj, flat_get hi hj]
    simp only [knF, topK_old _ hi, lowK_old _ hi, highK_old _ hi]
  · rw [List.getElem?_append_right (by rw [flat_length]; exact hm), flat_length]
    rcases Nat.lt_or_ge m (ks.length * 3 + 3) with h3 | h3
    · obtain ⟨j, rfl, hj⟩ : ∃ j, m = ks.length * 3 + j ∧ j < 3 := ⟨m - ks.length * 3, by omega, by omega⟩
      rw [flat_get (by simp) hj, Nat.add_sub_cancel_left]
      match j, hj with
      | 0, _ => simp [knF, topK]
      | 1, _ => simp [knF, lowK]
      | 2, _ => simp [knF, highK]
    · rw [List.getElem?_eq_none (by rw [flat_length]; simp; omega), List.getElem?_eq_none (by simp; omega)]
/-- One more node. -/
theorem FoAt.grow {w w4 : World} {F : Fo} (h : FoAt w F) {k : Kn} (hwf : WF F.N (F.ks ++ [k])) {g cap : Nat} (hg : g = F.kb ∨ w.heap.size ≤ g) (hbx : w4.heap[F.p]? = some (.cells #[.int .i64 F.N, .slice (some ⟨g, 0, none⟩) (F.ks.length + 1) cap, .map (some F.bk), .map (some F.bj)] 83 (0, 0)))
    (hrow : w4.ownsRow F.base 95 3 (.slice (some ⟨g, 0, none⟩) (F.ks.length + 1) cap) (F.ks.length + 1) (flat F.ks.length 3 (knF F.ks) ++ [.int .i64 (k.opt : Nat), .int .i64 (k.low : Nat), .int .i64 (k.high : Nat)]))
    (hkn : MapIs Tryd.prog w4 95 3 F.bk (F.nk + 1) knV (putM F.K k F.ks.length)) (hj : w4.heap[F.bj]? = w.heap[F.bj]?) (hnew : F.K k = none) (hkeep : Keeps (SF F) w w4) (hsz : F.ks.length + 1 ≤ 1073741824) :
    ∃ F', FStep w F w4 F' ∧ F'.ks = F.ks ++ [k] ∧ F'.nj = F.nj ∧ F'.J = F.J := by
  have hlts := h.lts
  have hget : (F.ks ++ [k]).getD F.ks.length Kn.z = k := by simp [List.getD_eq_getElem?_getD]
  refine ⟨{ F with ks := F.ks ++ [k], kb := g, cap := cap, K := putM F.K k F.ks.length, nk := F.nk + 1 }, ⟨?_, rfl, rfl, rfl, rfl, rfl, ⟨[k], rfl⟩, hg, hkeep⟩, rfl, rfl, rfl⟩
  refine ⟨?_, ?_, hkn, h.joined.same hj, hwf, ?_, ?_, ?_, ?_, h.pb, ?_, h.ne1, ?_, ?_⟩
  · show w4.heap[F.p]? = some (.cells #[.int .i64 F.N, .slice (some ⟨g, 0, none⟩) (F.ks ++ [k]).length cap, .map (some F.bk), .map (some F.bj)] 83 (0, 0))
    rw [List.length_append, List.length_singleton]; exact hbx
  · show w4.ownsRow F.base 95 3 (.slice (some ⟨g, 0, none⟩) (F.ks ++ [k]).length cap) (F.ks ++ [k]).length (flat (F.ks ++ [k]).length 3 (knF (F.ks ++ [k])))
    rw [flat_knSnoc, List.length_append, List.length_singleton]; exact hrow
  · intro k' x hx
    show ∃ i : Nat, x = i ∧ 2 ≤ i ∧ i < (F.ks ++ [k]).length ∧ (F.ks ++ [k]).getD i Kn.z = k'
    replace hx : putM F.K k F.ks.length k' = some x := hx
    unfold putM at hx
    split at hx
    · rename_i e
      injection hx with hx
      exact ⟨F.ks.length, hx.symm, h.wf.two, by simp, by rw [hget, e]⟩
    · obtain ⟨i, h1, h2, h3, h4⟩ := h.k1 k' x hx
      exact ⟨i, h1, h2, by simp; omega, by rw [getD_old _ h3]; exact h4⟩
  · intro i h2 hi
    show putM F.K k F.ks.length ((F.ks ++ [k]).getD i Kn.z) = some (i : Int)
    replace hi : i < (F.ks ++ [k]).length := hi
    rw [List.length_append, List.length_singleton] at hi
    unfold putM
    rcases Nat.lt_or_ge i F.ks.length with hlt | hge
    · rw [getD_old _ hlt, if_neg (fun e => by
        have := h.k2 i h2 hlt
        rw [e, hnew] at this
        cases this), h.k2 i h2 hlt]
    · obtain rfl : i = F.ks.length := by omega
      rw [hget, if_pos rfl]
  · intro o a b x hx
    obtain ⟨i, h1, h2, h3, h4, h5, h6⟩ := h.j1 o a b x hx
    show ∃ i : Nat, x = i ∧ i < (F.ks ++ [k]).length ∧ a < (F.ks ++ [k]).length ∧ b < (F.ks ++ [k]).length ∧ (∀ v, ev (F.ks ++ [k]) v i = opB o (ev (F.ks ++ [k]) v a) (ev (F.ks ++ [k]) v b)) ∧ min (topK (F.ks ++ [k]) a) (topK (F.ks ++ [k]) b) ≤ topK (F.ks ++ [k]) i
    refine ⟨i, h1, by simp; omega, by simp; omega, by simp; omega, fun v => ?_, ?_⟩
    · rw [ev_old h.wf _ v h2, ev_old h.wf _ v h3, ev_old h.wf _ v h4]; exact h5 v
    · rw [topK_old _ h2, topK_old _ h3, topK_old _ h4]; exact h6
  · have := h.nkk
    simp; omega
  · have := h.bb
    refine ⟨this.1, this.2.1, ?_⟩
    rcases hg with rfl | hg
    · exact this.2.2
    · exact (hrow.lt g rfl).1
  · rcases hg with rfl | hg
    · exact h.ne2
    · show g ≠ F.p
      omega
  · have := h.small
    refine ⟨?_, this.2⟩
    show (F.ks ++ [k]).length ≤ 1073741824
    simp; omega
end Go.Proofs.YtjimbcklnnhloaaDoor
/- Small functions of the forest: walks. -/
namespace Go.Proofs.YtjimbcklnnhloaaDoor
open Go.RowKit
open Go.Maps (Keyed)
set_option linter.unusedVariables false
set_option linter.unusedSimpArgs false

set_option maxRecDepth 100000 in
theorem branch_any (F : Fo) (n o : Nat) (b : Bool) (w : World) (h : FoAt w F) (hn : n < F.ks.length) :
    Calls Tryd.prog 50 #[.pointer (some ⟨F.p, 0, none⟩), .int .i64 n, .int .i64 o, .bool b] w fun e w' => e = .returned (.int .i64 (brK F.ks n o b : Nat)) ∧ Below w.heap.size w w' := by
  have c1 := h.cellS
  obtain ⟨k0, k1, k2⟩ := h.knot hn
  obtain ⟨l0, _, _, l3⟩ := h.lts
  have hi0 : (0 : Int) ≤ (n : Int) := by omega
  have hi1 : (n : Int) < (F.ks.length : Int) := by omega
  have hbr : brK F.ks n o b = if topK F.ks n = o then (if b then highK F.ks n else lowK F.ks n) else n := rfl
  have HBR := hide hbr
  clear hbr h
  by_cases ht : topK F.ks n = o
  · have ht1 : ((topK F.ks n : Int) != (o : Int)) = false := by simp [ht]
    have HT := hide ht
    clear ht
    cases b
    · go_enter Tryd.func50, Tryd.ntmps50
      go_wp2
      go_ret
      refine ⟨?_, (by repeat (first | exact Below.refl _ _ | assumption | refine Below.drew ?_ | refine Below.drewN ?_ _ | refine Below.allocT ?_ (Nat.le_refl _) _ | refine Below.setCell ?_ (by simp <;> omega) _ | refine Below.to ?_ (by assumption) (Nat.le_refl _)))⟩
      rw [HBR.out, if_pos HT.out]; rfl
    · go_enter Tryd.func50, Tryd.ntmps50
      go_wp2
      go_ret
      refine ⟨?_, (by repeat (first | exact Below.refl _ _ | assumption | refine Below.drew ?_ | refine Below.drewN ?_ _ | refine Below.allocT ?_ (Nat.le_refl _) _ | refine Below.setCell ?_ (by simp <;> omega) _ | refine Below.to ?_ (by assumption) (Nat.le_refl _)))⟩
      rw [HBR.out, if_pos HT.out]; rfl
  · have ht1 : ((topK F.ks n : Int) != (o : Int)) = true := by simp; omega
    have HT := hide ht
    clear ht
    go_enter Tryd.func50, Tryd.ntmps50
    go_wp2
    go_ret
    refine ⟨?_, (by repeat (first | exact Below.refl _ _ | assumption | refine Below.drew ?_ | refine Below.drewN ?_ _ | refine Below.allocT ?_ (Nat.le_refl _) _ | refine Below.setCell ?_ (by simp <;> omega) _ | refine Below.to ?_ (by assumption) (Nat.le_refl _)))⟩
    rw [HBR.out, if_neg HT.out]; rfl

/-- The forest that newForest makes. -/
def newFo (B N : Nat) : Fo := ⟨B, B + 3, N, [⟨N, 0, 0⟩, ⟨N, 0, 0⟩], B, 2, B + 1, 0, fun _ => none, B + 2, 0, fun _ => none⟩
theorem newFo_at (N : Nat) (hN : N ≤ 1000) (w w' : World) (C : Array Value) (hC : C = #[.int .i64 N, .int .i64 0, .int .i64 0, .int .i64 N, .int .i64 0, .int .i64 0])
    (h0 : w'.heap[w.heap.size]? = some (.cells C 95 (0, 0))) (h1 : w'.heap[w.heap.size + 1]? = some (.map #[] 0)) (h2 : w'.heap[w.heap.size + 2]? = some (.map #[] 0))
    (h3 : w'.heap[w.heap.size + 3]? = some (.cells #[.int .i64 N, .slice (some ⟨w.heap.size, 0, none⟩) 2 2, .map (some (w.heap.size + 1)), .map (some (w.heap.size + 2))] 83 (0, 0))) : FoAt w' (newFo w.heap.size N) where
  box := h3
  row := by
    subst hC
    exact ⟨by simp [flat, newFo], .inr ⟨w.heap.size, 2, _, rfl, Nat.le_refl _, h0, Nat.le_refl _, by unfold maxLen; decide, rfl, by simp [newFo, flat, List.range_succ, knF, topK, lowK, highK]⟩⟩
  known := ⟨.map [], ⟨#[], 0, h1, ⟨by simp, MapKept.stamped_empty 0, by simp⟩, Nat.le_refl _, rfl⟩, fun a l _ => ⟨fun _ => rfl, fun x h => by cases h⟩⟩
  joined := ⟨.map [], ⟨#[], 0, h2, ⟨by simp, MapKept.stamped_empty 0, by simp⟩, Nat.le_refl _, rfl⟩, fun a l _ => ⟨fun _ => rfl, fun x h => by cases h⟩⟩
  wf := WF.start N
  k1 := fun k x h => by cases h
  k2 := fun i h2 hi => by simp [newFo] at hi; omega
  j1 := fun o a b x h => by cases h
  nkk := by simp [newFo]
  pb := by simp [newFo]
  bb := by simp [newFo]
  ne1 := by simp [newFo]
  ne2 := by simp [newFo]
  small := by simp [newFo]; omega
set_option maxRecDepth 100000 in
theorem newForest_any (N : Nat) (hN : N ≤ 1000) (w : World) :
    Calls Tryd.prog 43 #[.int .i64 N] w fun e w' => e = .returned (.pointer (some ⟨w.heap.size + 3, 0, none⟩)) ∧ FoAt w' (newFo w.heap.size N) ∧ Below w.heap.size w w' := by
  have hmm := @run_makeMap Tryd.prog
  go_enter Tryd.func43, Tryd.ntmps43
  go_wp2
  go_ret
  obtain ⟨a0, a1, a2, a3, hB, _⟩ := alloc4 (rfl : _ = (((w.alloc (.cells #[.int .i64 N, .int .i64 0, .int .i64 0, .int .i64 N, .int .i64 0, .int .i64 0] 95)).alloc (.map #[] 0)).alloc (.map #[] 0)).alloc (.cells #[.int .i64 N, .slice (some ⟨w.heap.size, 0, none⟩) 2 2, .map (some (w.heap.size + 1)), .map (some (w.heap.size + 1 + 1))] 83))
  exact ⟨rfl, newFo_at N hN w _ _ rfl a0 a1 a2 a3, hB⟩
end Go.Proofs.YtjimbcklnnhloaaDoor

/- Reduced ordered diagrams: nodes, what they say, and that equal ones are one node. Plain laws. -/
import Derived.Test.YtohofcmikfkilaaRows
namespace Go.Proofs.Ytohofcmikfkilaa
set_option linter.unusedVariables false
/-- A node of a diagram. -/
structure Kn where
  opt : Nat
  low : Nat
  high : Nat
theorem Kn.ext' {a b : Kn} (h1 : a.opt = b.opt) (h2 : a.low = b.low) (h3 : a.high = b.high) : a = b := by cases a; cases b; simp_all
def Kn.z : Kn := ⟨0, 0, 0⟩
instance : DecidableEq Kn := fun a b => if h : a.opt = b.opt ∧ a.low = b.low ∧ a.high = b.high then isTrue (Kn.ext' h.1 h.2.1 h.2.2) else isFalse fun e => h (by subst e; exact ⟨rfl, rfl, rfl⟩)

/-- Whether a node holds for a choice of the options: followed for at most so many steps. -/
def evF (ks : List Kn) (v : Nat → Bool) : Nat → Nat → Bool
  | 0, n => n == 1
  | m + 1, n => if n < 2 then n == 1 else evF ks v m (if v (ks.getD n Kn.z).opt then (ks.getD n Kn.z).high else (ks.getD n Kn.z).low)
def ev (ks : List Kn) (v : Nat → Bool) (n : Nat) : Bool := evF ks v n n
def topK (ks : List Kn) (n : Nat) : Nat := (ks.getD n Kn.z).opt
def lowK (ks : List Kn) (n : Nat) : Nat := (ks.getD n Kn.z).low
def highK (ks : List Kn) (n : Nat) : Nat := (ks.getD n Kn.z).high

/-- The nodes of reduced diagrams over N options. -/
structure WF (N : Nat) (ks : List Kn) : Prop where
  two : 2 ≤ ks.length
  top0 : topK ks 0 = N
  top1 : topK ks 1 = N
  opt : ∀ i, 2 ≤ i → i < ks.length → topK ks i < N
  low : ∀ i, 2 ≤ i → i < ks.length → lowK ks i < i
  high : ∀ i, 2 ≤ i → i < ks.length → highK ks i < i
  ne : ∀ i, 2 ≤ i → i < ks.length → lowK ks i ≠ highK ks i
  topl : ∀ i, 2 ≤ i → i < ks.length → topK ks i < topK ks (lowK ks i)
  toph : ∀ i, 2 ≤ i → i < ks.length → topK ks i < topK ks (highK ks i)
  inj : ∀ i j, 2 ≤ i → i < ks.length → 2 ≤ j → j < ks.length → ks.getD i Kn.z = ks.getD j Kn.z → i = j

section
variable {N : Nat} {ks : List Kn} (h : WF N ks)
include h
theorem WF.top_le : ∀ i, i < ks.length → topK ks i ≤ N := by
  intro i hi
  rcases Nat.lt_or_ge i 2 with h2 | h2
  · rcases (by omega : i = 0 ∨ i = 1) with rfl | rfl
    · exact Nat.le_of_eq h.top0
    · exact Nat.le_of_eq h.top1
  · exact Nat.le_of_lt (h.opt i h2 hi)
theorem evF_fuel (v : Nat → Bool) : ∀ (m m' n : Nat), n < ks.length → n ≤ m → n ≤ m' → evF ks v m n = evF ks v m' n
  | 0, 0, n, _, _, _ => rfl
  | 0, m' + 1, n, _, h1, _ => by
    obtain rfl : n = 0 := by omega
    rfl
  | m + 1, 0, n, _, _, h1 => by
    obtain rfl : n = 0 := by omega
    rfl
  | m + 1, m' + 1, n, hn, h1, h2 => by
    simp only [evF]
    by_cases hn2 : n < 2
    · rw [if_pos hn2, if_pos hn2]
    · rw [if_neg hn2, if_neg hn2]
      have hl := h.low n (by omega) hn
      have hh := h.high n (by omega) hn
      unfold lowK at hl; unfold highK at hh
      split
      · exact evF_fuel v m m' _ (by omega) (by omega) (by omega)
      · exact evF_fuel v m m' _ (by omega) (by omega) (by omega)
omit h in
theorem ev_zero (v : Nat → Bool) : ev ks v 0 = false := rfl
omit h in
theorem ev_one (v : Nat → Bool) : ev ks v 1 = true := rfl
theorem ev_step (v : Nat → Bool) {n : Nat} (h2 : 2 ≤ n) (hn : n < ks.length) : ev ks v n = if v (topK ks n) then ev ks v (highK ks n) else ev ks v (lowK ks n) := by
  have hl := h.low n h2 hn
  have hh := h.high n h2 hn
  unfold ev
  obtain ⟨m, rfl⟩ : ∃ m, n = m + 1 := ⟨n - 1, by omega⟩
  conv => lhs; simp only [evF]
  rw [if_neg (by omega)]
  unfold topK
  cases v (ks.getD (m + 1) Kn.z).opt with
  | true =>
    simp only [if_true]
    exact evF_fuel h v _ _ _ (by unfold highK at hh; omega) (by unfold highK at hh; omega) (Nat.le_refl _)
  | false =>
    simp only [Bool.false_eq_true, if_false]
    exact evF_fuel h v _ _ _ (by unfold lowK at hl; omega) (by unfold lowK at hl; omega) (Nat.le_refl _)
/-- A node asks for its own option and later ones alone. -/
theorem ev_congr (v v' : Nat → Bool) : ∀ (n : Nat), n < ks.length → (∀ i, topK ks n ≤ i → i < N → v i = v' i) → ev ks v n = ev ks v' n := by
  intro n
  induction n using Nat.strongRecOn with
  | ind n ih =>
    intro hn hv
    rcases Nat.lt_or_ge n 2 with h2 | h2
    · rcases (by omega : n = 0 ∨ n = 1) with rfl | rfl <;> rfl
    · have hl := h.low n h2 hn
      have hh := h.high n h2 hn
      have tl := h.topl n h2 hn
      have th := h.toph n h2 hn
      rw [ev_step h v h2 hn, ev_step h v' h2 hn, hv _ (Nat.le_refl _) (h.opt n h2 hn), ih _ hl (by omega) (fun i h1 h3 => hv i (by omega) h3), ih _ hh (by omega) (fun i h1 h3 => hv i (by omega) h3)]
omit h in
def chgV (v : Nat → Bool) (o : Nat) (b : Bool) : Nat → Bool := fun i => if i = o then b else v i
omit h in
theorem chgV_same (v : Nat → Bool) (o : Nat) (b : Bool) : chgV v o b o = b := by simp [chgV]
/-- Where a node leads to at an option. -/
def brK (ks : List Kn) (n o : Nat) (b : Bool) : Nat := if topK ks n = o then (if b then highK ks n else lowK ks n) else n
theorem two_of_top {n o : Nat} (ht : topK ks n = o) (ho : o < N) : 2 ≤ n := by
  rcases Nat.lt_or_ge n 2 with h2 | h2
  · rcases (by omega : n = 0 ∨ n = 1) with rfl | rfl
    · rw [h.top0] at ht; omega
    · rw [h.top1] at ht; omega
  · exact h2
theorem brK_lt {n o : Nat} {b : Bool} (hn : n < ks.length) (ho : o < N) : brK ks n o b < ks.length := by
  unfold brK
  split
  · rename_i ht
    have h2 := two_of_top h ht ho
    have hl := h.low n h2 hn
    have hh := h.high n h2 hn
    split <;> omega
  · exact hn
theorem brK_ev {n o : Nat} {b : Bool} (hn : n < ks.length) (ho : o < N) (v : Nat → Bool) (hv : v o = b) : ev ks v (brK ks n o b) = ev ks v n := by
  unfold brK
  split
  · rename_i ht
    have h2 := two_of_top h ht ho
    rw [ev_step h v h2 hn, ht, hv]
    cases b <;> rfl
  · rfl
theorem brK_top {n o : Nat} {b : Bool} (hn : n < ks.length) (ho : o < N) (hle : o ≤ topK ks n) : o + 1 ≤ topK ks (brK ks n o b) := by
  unfold brK
  split
  · rename_i ht
    have h2 := two_of_top h ht ho
    have tl := h.topl n h2 hn
    have th := h.toph n h2 hn
    split <;> omega
  · omega
theorem ev_upd {n o : Nat} {b : Bool} (hn : n < ks.length) (ho : o < topK ks n) (v : Nat → Bool) : ev ks (chgV v o b) n = ev ks v n :=
  ev_congr h _ _ n hn fun i h1 _ => by
    unfold chgV; rw [if_neg (by omega)]
/-- Two nodes that hold for the same choices are one node. -/
theorem canon : ∀ (m a b : Nat), a + b ≤ m → a < ks.length → b < ks.length → (∀ v, ev ks v a = ev ks v b) → a = b := by
  intro m
  induction m with
  | zero => intro a b hab _ _ _; omega
  | succ m ih =>
    have key : ∀ a b, a + b ≤ m + 1 → a < ks.length → b < ks.length → (∀ v, ev ks v a = ev ks v b) → topK ks a < topK ks b → False := by
      intro a b hab ha hb hv ht
      have hta : topK ks a < N := Nat.lt_of_lt_of_le ht (h.top_le b hb)
      have h2 := two_of_top h rfl hta
      have hl := h.low a h2 ha
      have hh := h.high a h2 ha
      have tl := h.topl a h2 ha
      have th := h.toph a h2 ha
      have e1 : ∀ v, ev ks v (lowK ks a) = ev ks v b := fun v => by
        have := hv (chgV v (topK ks a) false)
        rw [ev_step h _ h2 ha, chgV_same, ev_upd h hb ht] at this
        simp only [Bool.false_eq_true, if_false] at this
        rw [ev_upd h (by omega) tl] at this
        exact this
      have e2 : ∀ v, ev ks v (highK ks a) = ev ks v b := fun v => by
        have := hv (chgV v (topK ks a) true)
        rw [ev_step h _ h2 ha, chgV_same, ev_upd h hb ht] at this
        simp only [if_true] at this
        rw [ev_upd h (by omega) th] at this
        exact this
      have f1 := ih _ _ (by omega) (by omega) hb e1
      have f2 := ih _ _ (by omega) (by omega) hb e2
      exact h.ne a h2 ha (f1.trans f2.symm)
    intro a b hab ha hb hv
    rcases Nat.lt_trichotomy (topK ks a) (topK ks b) with ht | ht | ht
    · exact (key a b hab ha hb hv ht).elim
    · by_cases hN : topK ks a < N
      · have h2 := two_of_top h rfl hN
        have h3 : 2 ≤ b := two_of_top h rfl (ht ▸ hN)
        have hl := h.low a h2 ha
        have hh := h.high a h2 ha
        have tl := h.topl a h2 ha
        have th := h.toph a h2 ha
        have hl' := h.low b h3 hb
        have hh' := h.high b h3 hb
        have tl' := h.topl b h3 hb
        have th' := h.toph b h3 hb
        have e1 : ∀ v, ev ks v (lowK ks a) = ev ks v (lowK ks b) := fun v => by
          have := hv (chgV v (topK ks a) false)
          rw [ev_step h _ h2 ha, ev_step h _ h3 hb, ← ht, chgV_same] at this
          simp only [Bool.false_eq_true, if_false] at this
          rw [ev_upd h (by omega) tl, ev_upd h (by omega) (by omega)] at this
          exact this
        have e2 : ∀ v, ev ks v (highK ks a) = ev ks v (highK ks b) := fun v => by
          have := hv (chgV v (topK ks a) true)
          rw [ev_step h _ h2 ha, ev_step h _ h3 hb, ← ht, chgV_same] at this
          simp only [if_true] at this
          rw [ev_upd h (by omega) th, ev_upd h (by omega) (by omega)] at this
          exact this
        have f1 := ih _ _ (by omega) (by omega) (by omega) e1
        have f2 := ih _ _ (by omega) (by omega) (by omega) e2
        exact h.inj a b h2 ha h3 hb (Kn.ext' ht f1 f2)
      · have ha2 : a < 2 := by
          rcases Nat.lt_or_ge a 2 with h2 | h2
          · exact h2
          · exact absurd (h.opt a h2 ha) hN
        have hb2 : b < 2 := by
          rcases Nat.lt_or_ge b 2 with h2 | h2
          · exact h2
          · exact absurd (ht ▸ h.opt b h2 hb) hN
        have := hv fun _ => false
        rcases (by omega : a = 0 ∨ a = 1) with rfl | rfl <;> rcases (by omega : b = 0 ∨ b = 1) with rfl | rfl <;> simp [ev_zero, ev_one] at this ⊢
    · exact (key b a (by omega) hb ha (fun v => (hv v).symm) ht).elim
theorem canonical {a b : Nat} (ha : a < ks.length) (hb : b < ks.length) (hv : ∀ v, ev ks v a = ev ks v b) : a = b := canon h _ a b (Nat.le_refl _) ha hb hv
end

/-! more nodes -/
theorem getD_old {ks : List Kn} (e : List Kn) {n : Nat} (hn : n < ks.length) : (ks ++ e).getD n Kn.z = ks.getD n Kn.z := by
  simp [List.getD_eq_getElem?_getD, List.getElem?_append_left hn]
theorem topK_old {ks : List Kn} (e : List Kn) {n : Nat} (hn : n < ks.length) : topK (ks ++ e) n = topK ks n := by unfold topK; rw [getD_old e hn]
theorem lowK_old {ks : List Kn} (e : List Kn) {n : Nat} (hn : n < ks.length) : lowK (ks ++ e) n = lowK ks n := by unfold lowK; rw [getD_old e hn]
theorem highK_old {ks : List Kn} (e : List Kn) {n : Nat} (hn : n < ks.length) : highK (ks ++ e) n = highK ks n := by unfold highK; rw [getD_old e hn]
theorem evF_old {N : Nat} {ks : List Kn} (h : WF N ks) (e : List Kn) (v : Nat → Bool) : ∀ (m n : Nat), n < ks.length → evF (ks ++ e) v m n = evF ks v m n
  | 0, n, _ => rfl
  | m + 1, n, hn => by
    simp only [evF]
    rw [getD_old e hn]
    by_cases h2 : n < 2
    · rw [if_pos h2, if_pos h2]
    · rw [if_neg h2, if_neg h2]
      have hl := h.low n (by omega) hn
      have hh := h.high n (by omega) hn
      unfold lowK at hl; unfold highK at hh
      split
      · exact evF_old h e v m _ (by omega)
      · exact evF_old h e v m _ (by omega)
theorem ev_old {N : Nat} {ks : List Kn} (h : WF N ks) (e : List Kn) (v : Nat → Bool) {n : Nat} (hn : n < ks.length) : ev (ks ++ e) v n = ev ks v n := evF_old h e v n n hn
theorem WF.snoc {N : Nat} {ks : List Kn} (h : WF N ks) {k : Kn} (ho : k.opt < N) (hl : k.low < ks.length) (hh : k.high < ks.length) (hne : k.low ≠ k.high) (tl : k.opt < topK ks k.low) (th : k.opt < topK ks k.high) (hnew : ∀ i, 2 ≤ i → i < ks.length → ks.getD i Kn.z ≠ k) : WF N (ks ++ [k]) := by
  have hlen : (ks ++ [k]).length = ks.length + 1 := by simp
  have hget : (ks ++ [k]).getD ks.length Kn.z = k := by simp [List.getD_eq_getElem?_getD]
  have hw := h.two
  refine ⟨by omega, by rw [topK_old _ (by omega)]; exact h.top0, by rw [topK_old _ (by omega)]; exact h.top1, ?_, ?_, ?_, ?_, ?_, ?_, ?_⟩
  · intro i h2 hi
    rcases Nat.lt_or_ge i ks.length with hlt | hge
    · rw [topK_old _ hlt]; exact h.opt i h2 hlt
    · obtain rfl : i = ks.length := by omega
      unfold topK; rw [hget]; exact ho
  · intro i h2 hi
    rcases Nat.lt_or_ge i ks.length with hlt | hge
    · rw [lowK_old _ hlt]; exact h.low i h2 hlt
    · obtain rfl : i = ks.length := by omega
      unfold lowK; rw [hget]; exact hl
  · intro i h2 hi
    rcases Nat.lt_or_ge i ks.length with hlt | hge
    · rw [highK_old _ hlt]; exact h.high i h2 hlt
    · obtain rfl : i = ks.length := by omega
      unfold highK; rw [hget]; exact hh
  · intro i h2 hi
    rcases Nat.lt_or_ge i ks.length with hlt | hge
    · rw [lowK_old _ hlt, highK_old _ hlt]; exact h.ne i h2 hlt
    · obtain rfl : i = ks.length := by omega
      unfold lowK highK; rw [hget]; exact hne
  · intro i h2 hi
    rcases Nat.lt_or_ge i ks.length with hlt | hge
    · have := h.low i h2 hlt
      rw [topK_old _ hlt, lowK_old _ hlt, topK_old _ (by omega)]; exact h.topl i h2 hlt
    · obtain rfl : i = ks.length := by omega
      have e1 : topK (ks ++ [k]) ks.length = k.opt := by unfold topK; rw [hget]
      have e2 : lowK (ks ++ [k]) ks.length = k.low := by unfold lowK; rw [hget]
      rw [e1, e2, topK_old _ hl]; exact tl
  · intro i h2 hi
    rcases Nat.lt_or_ge i ks.length with hlt | hge
    · have := h.high i h2 hlt
      rw [topK_old _ hlt, highK_old _ hlt, topK_old _ (by omega)]; exact h.toph i h2 hlt
    · obtain rfl : i = ks.length := by omega
      have e1 : topK (ks ++ [k]) ks.length = k.opt := by unfold topK; rw [hget]
      have e2 : highK (ks ++ [k]) ks.length = k.high := by unfold highK; rw [hget]
      rw [e1, e2, topK_old _ hh]; exact th
  · intro i j h2 hi h3 hj he
    rcases Nat.lt_or_ge i ks.length with hlt | hge
    · rcases Nat.lt_or_ge j ks.length with hlt' | hge'
      · rw [getD_old _ hlt, getD_old _ hlt'] at he; exact h.inj i j h2 hlt h3 hlt' he
      · obtain rfl : j = ks.length := by omega
        rw [getD_old _ hlt, hget] at he
        exact absurd he (hnew i h2 hlt)
    · obtain rfl : i = ks.length := by omega
      rcases Nat.lt_or_ge j ks.length with hlt' | hge'
      · rw [getD_old _ hlt', hget] at he
        exact absurd he.symm (hnew j h3 hlt')
      · omega
theorem WF.start (N : Nat) : WF N [⟨N, 0, 0⟩, ⟨N, 0, 0⟩] := by
  refine ⟨by simp, rfl, rfl, ?_, ?_, ?_, ?_, ?_, ?_, ?_⟩ <;> intro i <;> intros <;> simp at * <;> omega
end Go.Proofs.Ytohofcmikfkilaa

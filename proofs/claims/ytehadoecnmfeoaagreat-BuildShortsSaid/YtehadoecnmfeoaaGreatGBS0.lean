/- Part 0 of this claim's texts: walks and plain laws. -/
import Derived.Test.YtehadoecnmfeoaaGreatRows
set_option linter.unusedVariables false
set_option linter.unusedSimpArgs false
set_option linter.unusedSectionVars false
namespace Go.Proofs.YtehadoecnmfeoaaGreat
theorem zA {α : Type} {xs : List α} {i : Nat} (h : i < xs.toArray.size) : xs.toArray[i] = xs[i]'(by simpa using h) := List.getElem_toArray h
theorem zB {α : Type} {a : α} {xs : List α} {i : Nat} (h : i + 1 < (a :: xs).length) : (a :: xs)[i + 1] = xs[i]'(Nat.lt_of_succ_lt_succ h) := List.getElem_cons_succ ..
theorem zC {α : Type} {a : α} {xs : List α} (h : 0 < (a :: xs).length) : (a :: xs)[0] = a := List.getElem_cons_zero ..
theorem zD {α : Type} (l : List α) (i : Nat) (a : α) : l.toArray.setIfInBounds i a = (l.set i a).toArray := List.setIfInBounds_toArray ..
theorem zE {α : Type} {xs : List α} {x y : α} : (x :: xs).set 0 y = y :: xs := List.set_cons_zero
theorem zF {α : Type} {xs : List α} {n : Nat} {x y : α} : (x :: xs).set (n + 1) y = x :: xs.set n y := List.set_cons_succ
structure Kn where
 opt : Nat
 low : Nat
 high : Nat
theorem Kn.ext' {a b : Kn} (h1 : a.opt = b.opt) (h2 : a.low = b.low) (h3 : a.high = b.high) : a = b := by cases a; cases b; simp_all
def Kn.z : Kn := ⟨0, 0, 0⟩
instance : DecidableEq Kn := fun a b => if h : a.opt = b.opt ∧ a.low = b.low ∧ a.high = b.high then isTrue (Kn.ext' h.1 h.2.1 h.2.2) else isFalse fun e => h (by subst e; exact ⟨rfl, rfl, rfl⟩)

def evF (ks : List Kn) (v : Nat → Bool) : Nat → Nat → Bool
 | 0, n => n == 1
 | m + 1, n => if n < 2 then n == 1 else evF ks v m (if v (ks.getD n Kn.z).opt then (ks.getD n Kn.z).high else (ks.getD n Kn.z).low)
def ev (ks : List Kn) (v : Nat → Bool) (n : Nat) : Bool := evF ks v n n
def topK (ks : List Kn) (n : Nat) : Nat := (ks.getD n Kn.z).opt
def lowK (ks : List Kn) (n : Nat) : Nat := (ks.getD n Kn.z).low
def highK (ks : List Kn) (n : Nat) : Nat := (ks.getD n Kn.z).high

structure WF (N : Nat) (ks : List Kn) : Prop where
 two : 2 ≤ ks.length
 top0 : topK ks 0 = N
 top1 : topK ks 1 = N
 opt : ∀ i, 2 ≤ i → i < ks.length → topK ks i < N
 low : ∀ i, 2 ≤ i → i < ks.length → lowK ks i < i
 high : ∀ i, 2 ≤ i → i < ks.length → highK ks i < i
 ne : ∀ i, 2 ≤ i → i < ks.length → lowK ks i ≠ highK ks i
 topl : ∀ i, 2 ≤ i → i < ks.length → topK ks i < topK ks (lowK ks i)
 toph : ∀ i, 2 ≤ i → i < ks.length → topK ks i < topK ks (highK ks i)
 inj : ∀ i j, 2 ≤ i → i < ks.length → 2 ≤ j → j < ks.length → ks.getD i Kn.z = ks.getD j Kn.z → i = j

section
variable {N : Nat} {ks : List Kn} (h : WF N ks)
include h
theorem WF.top_le : ∀ i, i < ks.length → topK ks i ≤ N := by
 intro i hi
 rcases Nat.lt_or_ge i 2 with h2 | h2
 ·
  rcases (by omega : i = 0 ∨ i = 1) with rfl | rfl
  ·
   exact Nat.le_of_eq h.top0
  ·
   exact Nat.le_of_eq h.top1
 ·
  exact Nat.le_of_lt (h.opt i h2 hi)
theorem evF_fuel (v : Nat → Bool) : ∀ (m m' n : Nat), n < ks.length → n ≤ m → n ≤ m' → evF ks v m n = evF ks v m' n
 | 0, 0, n, _, _, _ => rfl
 | 0, m' + 1, n, _, h1, _ => by
  obtain rfl : n = 0 := by omega
  rfl
 | m + 1, 0, n, _, _, h1 => by
  obtain rfl : n = 0 := by omega
  rfl
 | m + 1, m' + 1, n, hn, h1, h2 => by
  simp only [evF]
  by_cases hn2 : n < 2
  ·
   rw [if_pos hn2, if_pos hn2]
  ·
   rw [if_neg hn2, if_neg hn2]
   have hl := h.low n (by omega) hn
   have hh := h.high n (by omega) hn
   unfold lowK at hl; unfold highK at hh
   split
   ·
    exact evF_fuel v m m' _ (by omega) (by omega) (by omega)
   ·
    exact evF_fuel v m m' _ (by omega) (by omega) (by omega)
omit h in
theorem ev_zero (v : Nat → Bool) : ev ks v 0 = false := rfl
omit h in
theorem ev_one (v : Nat → Bool) : ev ks v 1 = true := rfl
theorem ev_step (v : Nat → Bool) {n : Nat} (h2 : 2 ≤ n) (hn : n < ks.length) : ev ks v n = if v (topK ks n) then ev ks v (highK ks n) else ev ks v (lowK ks n) := by
 have hl := h.low n h2 hn
 have hh := h.high n h2 hn
 unfold ev
 obtain ⟨m, rfl⟩ : ∃ m, n = m + 1 := ⟨n - 1, by omega⟩
 conv => lhs; simp only [evF]
 rw [if_neg (by omega)]
 unfold topK
 cases v (ks.getD (m + 1) Kn.z).opt with
 | true =>
  simp only [if_true]
  exact evF_fuel h v _ _ _ (by unfold highK at hh; omega) (by unfold highK at hh; omega) (Nat.le_refl _)
 | false =>
  simp only [Bool.false_eq_true, if_false]
  exact evF_fuel h v _ _ _ (by unfold lowK at hl; omega) (by unfold lowK at hl; omega) (Nat.le_refl _)
theorem ev_congr (v v' : Nat → Bool) : ∀ (n : Nat), n < ks.length → (∀ i, topK ks n ≤ i → i < N → v i = v' i) → ev ks v n = ev ks v' n := by
 intro n
 induction n using Nat.strongRecOn with
 | ind n ih =>
  intro hn hv
  rcases Nat.lt_or_ge n 2 with h2 | h2
  ·
   rcases (by omega : n = 0 ∨ n = 1) with rfl | rfl <;> rfl
  ·
   have hl := h.low n h2 hn
   have hh := h.high n h2 hn
   have tl := h.topl n h2 hn
   have th := h.toph n h2 hn
   rw [ev_step h v h2 hn, ev_step h v' h2 hn, hv _ (Nat.le_refl _) (h.opt n h2 hn), ih _ hl (by omega) (fun i h1 h3 => hv i (by omega) h3), ih _ hh (by omega) (fun i h1 h3 => hv i (by omega) h3)]
omit h in
def chgV (v : Nat → Bool) (o : Nat) (b : Bool) : Nat → Bool := fun i => if i = o then b else v i
omit h in
theorem chgV_same (v : Nat → Bool) (o : Nat) (b : Bool) : chgV v o b o = b := by simp [chgV]
def brK (ks : List Kn) (n o : Nat) (b : Bool) : Nat := if topK ks n = o then (if b then highK ks n else lowK ks n) else n
theorem two_of_top {n o : Nat} (ht : topK ks n = o) (ho : o < N) : 2 ≤ n := by
 rcases Nat.lt_or_ge n 2 with h2 | h2
 ·
  rcases (by omega : n = 0 ∨ n = 1) with rfl | rfl
  ·
   rw [h.top0] at ht; omega
  ·
   rw [h.top1] at ht; omega
 ·
  exact h2
theorem brK_lt {n o : Nat} {b : Bool} (hn : n < ks.length) (ho : o < N) : brK ks n o b < ks.length := by
 unfold brK
 split
 ·
  rename_i ht
  have h2 := two_of_top h ht ho
  have hl := h.low n h2 hn
  have hh := h.high n h2 hn
  split <;> omega
 ·
  exact hn
theorem brK_ev {n o : Nat} {b : Bool} (hn : n < ks.length) (ho : o < N) (v : Nat → Bool) (hv : v o = b) : ev ks v (brK ks n o b) = ev ks v n := by
 unfold brK
 split
 ·
  rename_i ht
  have h2 := two_of_top h ht ho
  rw [ev_step h v h2 hn, ht, hv]
  cases b <;> rfl
 ·
  rfl
theorem brK_top {n o : Nat} {b : Bool} (hn : n < ks.length) (ho : o < N) (hle : o ≤ topK ks n) : o + 1 ≤ topK ks (brK ks n o b) := by
 unfold brK
 split
 ·
  rename_i ht
  have h2 := two_of_top h ht ho
  have tl := h.topl n h2 hn
  have th := h.toph n h2 hn
  split <;> omega
 ·
  omega
theorem ev_upd {n o : Nat} {b : Bool} (hn : n < ks.length) (ho : o < topK ks n) (v : Nat → Bool) : ev ks (chgV v o b) n = ev ks v n :=
 ev_congr h _ _ n hn fun i h1 _ => by
  unfold chgV; rw [if_neg (by omega)]
theorem canon : ∀ (m a b : Nat), a + b ≤ m → a < ks.length → b < ks.length → (∀ v, ev ks v a = ev ks v b) → a = b := by
 intro m
 induction m with
 | zero => intro a b hab _ _ _; omega
 | succ m ih =>
  have key : ∀ a b, a + b ≤ m + 1 → a < ks.length → b < ks.length → (∀ v, ev ks v a = ev ks v b) → topK ks a < topK ks b → False := by
   intro a b hab ha hb hv ht
   have hta : topK ks a < N := Nat.lt_of_lt_of_le ht (h.top_le b hb)
   have h2 := two_of_top h rfl hta
   have hl := h.low a h2 ha
   have hh := h.high a h2 ha
   have tl := h.topl a h2 ha
   have th := h.toph a h2 ha
   have e1 : ∀ v, ev ks v (lowK ks a) = ev ks v b := fun v => by
    have := hv (chgV v (topK ks a) false)
    rw [ev_step h _ h2 ha, chgV_same, ev_upd h hb ht] at this
    simp only [Bool.false_eq_true, if_false] at this
    rw [ev_upd h (by omega) tl] at this
    exact this
   have e2 : ∀ v, ev ks v (highK ks a) = ev ks v b := fun v => by
    have := hv (chgV v (topK ks a) true)
    rw [ev_step h _ h2 ha, chgV_same, ev_upd h hb ht] at this
    simp only [if_true] at this
    rw [ev_upd h (by omega) th] at this
    exact this
   have f1 := ih _ _ (by omega) (by omega) hb e1
   have f2 := ih _ _ (by omega) (by omega) hb e2
   exact h.ne a h2 ha (f1.trans f2.symm)
  intro a b hab ha hb hv
  rcases Nat.lt_trichotomy (topK ks a) (topK ks b) with ht | ht | ht
  ·
   exact (key a b hab ha hb hv ht).elim
  ·
   by_cases hN : topK ks a < N
   ·
    have h2 := two_of_top h rfl hN
    have h3 : 2 ≤ b := two_of_top h rfl (ht ▸ hN)
    have hl := h.low a h2 ha
    have hh := h.high a h2 ha
    have tl := h.topl a h2 ha
    have th := h.toph a h2 ha
    have hl' := h.low b h3 hb
    have hh' := h.high b h3 hb
    have tl' := h.topl b h3 hb
    have th' := h.toph b h3 hb
    have e1 : ∀ v, ev ks v (lowK ks a) = ev ks v (lowK ks b) := fun v => by
     have := hv (chgV v (topK ks a) false)
     rw [ev_step h _ h2 ha, ev_step h _ h3 hb, ← ht, chgV_same] at this
     simp only [Bool.false_eq_true, if_false] at this
     rw [ev_upd h (by omega) tl, ev_upd h (by omega) (by omega)] at this
     exact this
    have e2 : ∀ v, ev ks v (highK ks a) = ev ks v (highK ks b) := fun v => by
     have := hv (chgV v (topK ks a) true)
     rw [ev_step h _ h2 ha, ev_step h _ h3 hb, ← ht, chgV_same] at this
     simp only [if_true] at this
     rw [ev_upd h (by omega) th, ev_upd h (by omega) (by omega)] at this
     exact this
    have f1 := ih _ _ (by omega) (by omega) (by omega) e1
    have f2 := ih _ _ (by omega) (by omega) (by omega) e2
    exact h.inj a b h2 ha h3 hb (Kn.ext' ht f1 f2)
   ·
    have ha2 : a < 2 := by
     rcases Nat.lt_or_ge a 2 with h2 | h2
     ·
      exact h2
     ·
      exact absurd (h.opt a h2 ha) hN
    have hb2 : b < 2 := by
     rcases Nat.lt_or_ge b 2 with h2 | h2
     ·
      exact h2
     ·
      exact absurd (ht ▸ h.opt b h2 hb) hN
    have := hv fun _ => false
    rcases (by omega : a = 0 ∨ a = 1) with rfl | rfl <;> rcases (by omega : b = 0 ∨ b = 1) with rfl | rfl <;> simp [ev_zero, ev_one] at this ⊢
  ·
   exact (key b a (by omega) hb ha (fun v => (hv v).symm) ht).elim
theorem canonical {a b : Nat} (ha : a < ks.length) (hb : b < ks.length) (hv : ∀ v, ev ks v a = ev ks v b) : a = b := canon h _ a b (Nat.le_refl _) ha hb hv
end

/-! more nodes -/
theorem getD_old {ks : List Kn} (e : List Kn) {n : Nat} (hn : n < ks.length) : (ks ++ e).getD n Kn.z = ks.getD n Kn.z := by
 simp [List.getD_eq_getElem?_getD, List.getElem?_append_left hn]
theorem topK_old {ks : List Kn} (e : List Kn) {n : Nat} (hn : n < ks.length) : topK (ks ++ e) n = topK ks n := by unfold topK; rw [getD_old e hn]
theorem lowK_old {ks : List Kn} (e : List Kn) {n : Nat} (hn : n < ks.length) : lowK (ks ++ e) n = lowK ks n := by unfold lowK; rw [getD_old e hn]
theorem highK_old {ks : List Kn} (e : List Kn) {n : Nat} (hn : n < ks.length) : highK (ks ++ e) n = highK ks n := by unfold highK; rw [getD_old e hn]
theorem evF_old {N : Nat} {ks : List Kn} (h : WF N ks) (e : List Kn) (v : Nat → Bool) : ∀ (m n : Nat), n < ks.length → evF (ks ++ e) v m n = evF ks v m n
 | 0, n, _ => rfl
 | m + 1, n, hn => by
  simp only [evF]
  rw [getD_old e hn]
  by_cases h2 : n < 2
  ·
   rw [if_pos h2, if_pos h2]
  ·
   rw [if_neg h2, if_neg h2]
   have hl := h.low n (by omega) hn
   have hh := h.high n (by omega) hn
   unfold lowK at hl; unfold highK at hh
   split
   ·
    exact evF_old h e v m _ (by omega)
   ·
    exact evF_old h e v m _ (by omega)
theorem ev_old {N : Nat} {ks : List Kn} (h : WF N ks) (e : List Kn) (v : Nat → Bool) {n : Nat} (hn : n < ks.length) : ev (ks ++ e) v n = ev ks v n := evF_old h e v n n hn
theorem WF.snoc {N : Nat} {ks : List Kn} (h : WF N ks) {k : Kn} (ho : k.opt < N) (hl : k.low < ks.length) (hh : k.high < ks.length) (hne : k.low ≠ k.high) (tl : k.opt < topK ks k.low) (th : k.opt < topK ks k.high) (hnew : ∀ i, 2 ≤ i → i < ks.length → ks.getD i Kn.z ≠ k) : WF N (ks ++ [k]) := by
 have hlen : (ks ++ [k]).length = ks.length + 1 := by simp
 have hget : (ks ++ [k]).getD ks.length Kn.z = k := by simp [List.getD_eq_getElem?_getD]
 have hw := h.two
 refine ⟨by omega, by rw [topK_old _ (by omega)]; exact h.top0, by rw [topK_old _ (by omega)]; exact h.top1, ?_, ?_, ?_, ?_, ?_, ?_, ?_⟩
 ·
  intro i h2 hi
  rcases Nat.lt_or_ge i ks.length with hlt | hge
  ·
   rw [topK_old _ hlt]; exact h.opt i h2 hlt
  ·
   obtain rfl : i = ks.length := by omega
   unfold topK; rw [hget]; exact ho
 ·
  intro i h2 hi
  rcases Nat.lt_or_ge i ks.length with hlt | hge
  ·
   rw [lowK_old _ hlt]; exact h.low i h2 hlt
  ·
   obtain rfl : i = ks.length := by omega
   unfold lowK; rw [hget]; exact hl
 ·
  intro i h2 hi
  rcases Nat.lt_or_ge i ks.length with hlt | hge
  ·
   rw [highK_old _ hlt]; exact h.high i h2 hlt
  ·
   obtain rfl : i = ks.length := by omega
   unfold highK; rw [hget]; exact hh
 ·
  intro i h2 hi
  rcases Nat.lt_or_ge i ks.length with hlt | hge
  ·
   rw [lowK_old _ hlt, highK_old _ hlt]; exact h.ne i h2 hlt
  ·
   obtain rfl : i = ks.length := by omega
   unfold lowK highK; rw [hget]; exact hne
 ·
  intro i h2 hi
  rcases Nat.lt_or_ge i ks.length with hlt | hge
  ·
   have := h.low i h2 hlt
   rw [topK_old _ hlt, lowK_old _ hlt, topK_old _ (by omega)]; exact h.topl i h2 hlt
  ·
   obtain rfl : i = ks.length := by omega
   have e1 : topK (ks ++ [k]) ks.length = k.opt := by unfold topK; rw [hget]
   have e2 : lowK (ks ++ [k]) ks.length = k.low := by unfold lowK; rw [hget]
   rw [e1, e2, topK_old _ hl]; exact tl
 ·
  intro i h2 hi
  rcases Nat.lt_or_ge i ks.length with hlt | hge
  ·
   have := h.high i h2 hlt
   rw [topK_old _ hlt, highK_old _ hlt, topK_old _ (by omega)]; exact h.toph i h2 hlt
  ·
   obtain rfl : i = ks.length := by omega
   have e1 : topK (ks ++ [k]) ks.length = k.opt := by unfold topK; rw [hget]
   have e2 : highK (ks ++ [k]) ks.length = k.high := by unfold highK; rw [hget]
   rw [e1, e2, topK_old _ hh]; exact th
 ·
  intro i j h2 hi h3 hj he
  rcases Nat.lt_or_ge i ks.length with hlt | hge
  ·
   rcases Nat.lt_or_ge j ks.length with hlt' | hge'
   ·
    rw [getD_old _ hlt, getD_old _ hlt'] at he; exact h.inj i j h2 hlt h3 hlt' he
   ·
    obtain rfl : j = ks.length := by omega
    rw [getD_old _ hlt, hget] at he
    exact absurd he (hnew i h2 hlt)
  ·
   obtain rfl : i = ks.length := by omega
   rcases Nat.lt_or_ge j ks.length with hlt' | hge'
   ·
    rw [getD_old _ hlt', hget] at he
    exact absurd he.symm (hnew j h3 hlt')
   ·
    omega
theorem WF.start (N : Nat) : WF N [⟨N, 0, 0⟩, ⟨N, 0, 0⟩] := by
 refine ⟨by simp, rfl, rfl, ?_, ?_, ?_, ?_, ?_, ?_, ?_⟩ <;> intro i <;> intros <;> simp at * <;> omega
def vf (l : List Bool) : Nat → Bool := fun i => l.getD i false
def exts : Nat → List Bool → List (List Bool)
 | 0, l => [l]
 | k + 1, l => exts k (l ++ [false]) ++ exts k (l ++ [true])
theorem exts_map : ∀ (k : Nat) (l m : List Bool), exts k (l ++ m) = (exts k m).map (l ++ ·)
 | 0, l, m => rfl
 | k + 1, l, m => by
  simp only [exts, List.map_append]
  rw [List.append_assoc, List.append_assoc, exts_map k l, exts_map k l]
theorem exts_nil (k : Nat) (l : List Bool) : exts k l = (exts k []).map (l ++ ·) := by
 have := exts_map k l []
 rwa [List.append_nil] at this
theorem exts_len : ∀ (k : Nat) (l x : List Bool), x ∈ exts k l → x.length = l.length + k
 | 0, l, x, h => by simp [exts] at h; subst h; rfl
 | k + 1, l, x, h => by
  simp only [exts, List.mem_append] at h
  rcases h with h | h <;> have := exts_len k _ x h <;> simp at this <;> omega
theorem exts_all : ∀ (k : Nat) (x : List Bool), x.length = k → x ∈ exts k []
 | 0, x, h => by simp [exts]; exact List.length_eq_zero_iff.1 h
 | k + 1, x, h => by
  match x, h with
  | b :: r, h =>
   have h1 : r.length = k := by simpa using h
   have := exts_all k r h1
   simp only [exts, List.mem_append]
   cases b
   ·
    refine .inl ?_
    rw [exts_nil, List.mem_map]
    exact ⟨r, this, rfl⟩
   ·
    refine .inr ?_
    rw [exts_nil, List.mem_map]
    exact ⟨r, this, rfl⟩
theorem exts_length : ∀ (k : Nat) (l : List Bool), (exts k l).length = 2 ^ k
 | 0, l => rfl
 | k + 1, l => by simp only [exts, List.length_append, exts_length k]; omega
theorem exts_prefix {k : Nat} {l x : List Bool} (h : x ∈ exts k l) : ∃ y, x = l ++ y ∧ y.length = k := by
 rw [exts_nil, List.mem_map] at h
 obtain ⟨y, hy, rfl⟩ := h
 exact ⟨y, rfl, by simpa using exts_len k [] y hy⟩
theorem vf_at (l : List Bool) (b : Bool) (y : List Bool) : vf (l ++ [b] ++ y) l.length = b := by
 simp [vf, List.getD_eq_getElem?_getD]
theorem vf_right {l y : List Bool} {i : Nat} (hi : l.length ≤ i) : vf (l ++ y) i = vf y (i - l.length) := by
 simp [vf, List.getD_eq_getElem?_getD, List.getElem?_append_right hi]

def sat (ks : List Kn) (N n : Nat) (l : List Bool) : List (List Bool) := (exts (N - l.length) l).filter fun x => ev ks (vf x) n
theorem sat_zero (ks : List Kn) (N : Nat) (l : List Bool) : sat ks N 0 l = [] := by
 unfold sat; rw [List.filter_eq_nil_iff]; intro x _; simp [ev_zero]
theorem sat_one (ks : List Kn) (N : Nat) (l : List Bool) : sat ks N 1 l = exts (N - l.length) l := by
 unfold sat; rw [List.filter_eq_self]; intro x _; simp [ev_one]
theorem sat_split {ks : List Kn} {N n : Nat} {l : List Bool} (hl : l.length < N) : sat ks N n l = sat ks N n (l ++ [false]) ++ sat ks N n (l ++ [true]) := by
 unfold sat
 rw [show N - l.length = (N - (l ++ [false]).length) + 1 from by simp; omega]
 simp only [exts, List.filter_append, List.length_append, List.length_singleton]
section
variable {N : Nat} {ks : List Kn} (h : WF N ks)
include h
theorem sat_br {n : Nat} {l : List Bool} {b : Bool} (hn : n < ks.length) (hl : l.length < N) : sat ks N (brK ks n l.length b) (l ++ [b]) = sat ks N n (l ++ [b]) := by
 unfold sat
 refine List.filter_congr fun x hx => ?_
 obtain ⟨y, rfl, _⟩ := exts_prefix hx
 exact brK_ev h hn hl _ (vf_at l b y)
theorem sat_step {n : Nat} {l : List Bool} (hn : n < ks.length) (hl : l.length < N) : sat ks N n l = sat ks N (brK ks n l.length false) (l ++ [false]) ++ sat ks N (brK ks n l.length true) (l ++ [true]) := by
 rw [sat_split hl, sat_br h hn hl, sat_br h hn hl]
theorem ev_some {n : Nat} (hn : n < ks.length) (h0 : n ≠ 0) : ∃ v, ev ks v n = true := by
 have h2 := h.two
 rcases Classical.em (∃ v, ev ks v n = true) with hv | hv
 ·
  exact hv
 ·
  exact absurd (canonical h hn (by omega) (fun v => by
   have h1 : ¬ ev ks v n = true := fun e => hv ⟨v, e⟩
   rw [ev_zero]; simpa using h1)) h0
theorem sat_ne {n : Nat} {l : List Bool} (hn : n < ks.length) (h0 : n ≠ 0) (hl : l.length ≤ topK ks n) : sat ks N n l ≠ [] := by
 obtain ⟨v, hv⟩ := ev_some h hn h0
 have ht := h.top_le n hn
 have hx : l ++ (List.range (N - l.length)).map (fun i => v (l.length + i)) ∈ sat ks N n l := by
  unfold sat
  refine List.mem_filter.2 ⟨?_, ?_⟩
  ·
   rw [exts_nil, List.mem_map]
   exact ⟨_, exts_all _ _ (by simp), rfl⟩
  ·
   rw [← hv]
   refine ev_congr h _ _ n hn fun i h1 h2 => ?_
   rw [vf_right (by omega)]
   unfold vf
   simp only [List.getD_eq_getElem?_getD, List.getElem?_map]
   rw [List.getElem?_range (by omega)]
   simp only [Option.map_some, Option.getD_some]
   congr 1
   omega
 intro e
 rw [e] at hx
 cases hx
omit h in
def cntK (ks : List Kn) (N n o : Nat) : Nat := (sat ks N n (List.replicate o false)).length
end
/-! more nodes change nothing -/
def leastI : Int := -1152921504606846976
def wsum (ks : List Kn) (v : Nat → Bool) : List Nat → List Int → Int
 | n :: ns, x :: xs => (if ev ks v n then x else 0) + wsum ks v ns xs
 | _, _ => 0
def valI (ks : List Kn) (v : Nat → Bool) (nodes : List Nat) (ws : List Int) : Int :=
 match nodes with
 | [] => leastI
 | n :: ns => if ev ks v n then wsum ks v ns ws else leastI
def maxL (l : List Int) : Int := l.foldl max leastI
theorem foldl_max : ∀ (l : List Int) (i : Int), leastI ≤ i → l.foldl max i = max i (maxL l)
 | [], i, h => by simp only [maxL, List.foldl_nil]; omega
 | a :: l, i, h => by
  have h1 := foldl_max l (max i a) (by omega)
  have h2 := foldl_max l (max leastI a) (by omega)
  unfold maxL at h1 h2 ⊢
  simp only [List.foldl_cons]
  rw [h1, h2]
  omega
theorem maxL_least (l : List Int) : leastI ≤ maxL l := by
 have : ∀ (l : List Int) (i : Int), leastI ≤ i → leastI ≤ l.foldl max i := by
  intro l
  induction l with
  | nil => intro i h; exact h
  | cons a l ih => intro i h; exact ih _ (by omega)
 exact this l _ (Int.le_refl _)
theorem maxL_cons (a : Int) (l : List Int) : maxL (a :: l) = max (max leastI a) (maxL l) := foldl_max l _ (by omega)
theorem maxL_append (a b : List Int) : maxL (a ++ b) = max (maxL a) (maxL b) := by
 show (a ++ b).foldl max leastI = _
 rw [List.foldl_append]
 exact foldl_max b _ (maxL_least a)
theorem maxL_mem : ∀ (l : List Int) (x : Int), x ∈ l → x ≤ maxL l
 | a :: l, x, h => by
  rw [maxL_cons]
  rcases List.mem_cons.1 h with rfl | h
  ·
   omega
  ·
   have := maxL_mem l x h
   omega
theorem maxL_const {c : Int} (hc : leastI ≤ c) : ∀ (l : List Int), l ≠ [] → (∀ x ∈ l, x = c) → maxL l = c
 | [a], _, h => by
  rw [maxL_cons, h a (by simp)]
  simp only [maxL, List.foldl_nil]; omega
 | a :: b :: l, _, h => by
  rw [maxL_cons, h a (by simp), maxL_const hc (b :: l) (by simp) (fun x hx => h x (by simp [hx]))]
  omega
theorem maxL_attained : ∀ (l : List Int), leastI < maxL l → maxL l ∈ l
 | [], h => by simp [maxL] at h
 | a :: l, h => by
  rw [maxL_cons] at h ⊢
  by_cases h1 : maxL l ≤ a
  ·
   rw [show max (max leastI a) (maxL l) = a by omega]; simp
  ·
   have h2 := maxL_least l
   rw [show max (max leastI a) (maxL l) = maxL l by omega]
   exact List.mem_cons_of_mem _ (maxL_attained l (by omega))
def bestK (ks : List Kn) (N : Nat) (nodes : List Nat) (ws : List Int) (l : List Bool) : Int := maxL ((exts (N - l.length) l).map fun x => valI ks (vf x) nodes ws)
theorem wsum_congr {ks ks' : List Kn} {v v' : Nat → Bool} : ∀ {a b : List Nat} {ws : List Int}, a.length = b.length → (∀ i, i < a.length → ev ks v (a.getD i 0) = ev ks' v' (b.getD i 0)) → wsum ks v a ws = wsum ks' v' b ws
 | [], [], ws, _, _ => by cases ws <;> rfl
 | x :: a, y :: b, [], _, _ => rfl
 | x :: a, y :: b, w :: ws, hl, h => by
  have h0 := h 0 (by simp)
  simp only [List.getD_cons_zero] at h0
  simp only [wsum, h0]
  rw [wsum_congr (by simpa using hl) fun i hi => by have := h (i + 1) (by simpa using hi); simpa using this]
 | [], y :: b, _, hl, _ => by simp at hl
 | x :: a, [], _, hl, _ => by simp at hl
theorem valI_congr {ks ks' : List Kn} {v v' : Nat → Bool} {a b : List Nat} {ws : List Int} (hl : a.length = b.length) (h : ∀ i, i < a.length → ev ks v (a.getD i 0) = ev ks' v' (b.getD i 0)) : valI ks v a ws = valI ks' v' b ws := by
 match a, b, hl, h with
 | [], [], _, _ => rfl
 | x :: a, y :: b, hl, h =>
  have h0 := h 0 (by simp)
  simp only [List.getD_cons_zero] at h0
  simp only [valI, h0]
  rw [wsum_congr (by simpa using hl) fun i hi => by have := h (i + 1) (by simpa using hi); simpa using this]
 | [], y :: b, hl, _ => simp at hl
 | x :: a, [], hl, _ => simp at hl
theorem bestK_split {ks : List Kn} {N : Nat} {nodes : List Nat} {ws : List Int} {l : List Bool} (hl : l.length < N) : bestK ks N nodes ws l = max (bestK ks N nodes ws (l ++ [false])) (bestK ks N nodes ws (l ++ [true])) := by
 unfold bestK
 rw [← maxL_append, ← List.map_append]
 rw [show N - l.length = (N - (l ++ [false]).length) + 1 from by simp; omega]
 simp only [exts, List.length_append, List.length_singleton]
theorem getD_map {α β : Type} (f : α → β) (l : List α) (z : α) (i : Nat) (h : i < l.length) (y : β) : (l.map f).getD i y = f (l.getD i z) := by
 simp [List.getD_eq_getElem?_getD, h]
section
variable {N : Nat} {ks : List Kn} (h : WF N ks)
include h
theorem bestK_br {nodes : List Nat} {ws : List Int} {l : List Bool} {b : Bool} (hn : ∀ n ∈ nodes, n < ks.length) (hl : l.length < N) : bestK ks N (nodes.map fun n => brK ks n l.length b) ws (l ++ [b]) = bestK ks N nodes ws (l ++ [b]) := by
 unfold bestK
 congr 1
 refine List.map_congr_left fun x hx => ?_
 obtain ⟨y, rfl, _⟩ := exts_prefix hx
 refine valI_congr (by simp) fun i hi => ?_
 have hi' : i < nodes.length := by simpa using hi
 rw [getD_map _ _ 0 _ hi']
 exact brK_ev h (hn _ (by rw [List.getD_eq_getElem?_getD, List.getElem?_eq_getElem hi']; exact List.getElem_mem _)) hl _ (vf_at l b y)
theorem bestK_len {nodes : List Nat} {ws : List Int} {l l' : List Bool} (hn : ∀ n ∈ nodes, n < ks.length) (he : l.length = l'.length) (ht : ∀ n ∈ nodes, l.length ≤ topK ks n) : bestK ks N nodes ws l = bestK ks N nodes ws l' := by
 unfold bestK
 rw [exts_nil _ l, exts_nil _ l', List.map_map, List.map_map, he]
 congr 1
 refine List.map_congr_left fun x hx => ?_
 refine valI_congr rfl fun i hi => ?_
 have hm : nodes.getD i 0 ∈ nodes := by rw [List.getD_eq_getElem?_getD, List.getElem?_eq_getElem hi]; exact List.getElem_mem _
 refine ev_congr h _ _ _ (hn _ hm) fun j h1 h2 => ?_
 have := ht _ hm
 show vf (l ++ x) j = vf (l' ++ x) j
 rw [vf_right (by omega), vf_right (by omega), he]
theorem bestK_lift {nodes : List Nat} {ws : List Int} (hn : ∀ n ∈ nodes, n < ks.length) : ∀ (k o : Nat), o + k ≤ N → (∀ n ∈ nodes, o + k ≤ topK ks n) → bestK ks N nodes ws (List.replicate o false) = bestK ks N nodes ws (List.replicate (o + k) false)
 | 0, o, _, _ => rfl
 | k + 1, o, hN, ht => by
  rw [bestK_split (by simp; omega), bestK_len h (l := List.replicate o false ++ [false]) (l' := List.replicate (o + 1) false) hn (by simp) (fun n hn => by have := ht n hn; simp; omega), bestK_len h (l := List.replicate o false ++ [true]) (l' := List.replicate (o + 1) false) hn (by simp) (fun n hn => by have := ht n hn; simp; omega), bestK_lift hn k (o + 1) (by omega) (fun n hn => by have := ht n hn; omega)]
  rw [show o + (k + 1) = o + 1 + k by omega]
  omega
omit h in
theorem bestK_no {ns : List Nat} {ws : List Int} (l : List Bool) : bestK ks N (0 :: ns) ws l = leastI := by
 unfold bestK
 refine maxL_const (Int.le_refl _) _ ?_ ?_
 ·
  intro e
  have := congrArg List.length e
  rw [List.length_map, exts_length] at this
  have := Nat.one_le_two_pow (n := N - l.length)
  simp at *
 ·
  intro x hx
  rw [List.mem_map] at hx
  obtain ⟨y, _, rfl⟩ := hx
  simp [valI, ev_zero]
omit h in
def wyes : List Nat → List Int → Int
 | n :: ns, x :: xs => (if n = 1 then x else 0) + wyes ns xs
 | _, _ => 0
omit h in
theorem wsum_ends (v : Nat → Bool) : ∀ (ns : List Nat) (ws : List Int), (∀ n ∈ ns, n < 2) → wsum ks v ns ws = wyes ns ws
 | [], ws, _ => by cases ws <;> rfl
 | n :: ns, [], _ => rfl
 | n :: ns, x :: xs, h => by
  have h0 := h n (by simp)
  simp only [wsum, wyes]
  rw [wsum_ends v ns xs fun m hm => h m (by simp [hm])]
  rcases (by omega : n = 0 ∨ n = 1) with rfl | rfl
  ·
   simp [ev_zero]
  ·
   simp [ev_one]
omit h in
theorem bestK_ends {ns : List Nat} {ws : List Int} (l : List Bool) (hn : ∀ n ∈ ns, n < 2) (hw : leastI ≤ wyes ns ws) : bestK ks N (1 :: ns) ws l = wyes ns ws := by
 unfold bestK
 refine maxL_const hw _ ?_ ?_
 ·
  intro e
  have := congrArg List.length e
  rw [List.length_map, exts_length] at this
  have := Nat.one_le_two_pow (n := N - l.length)
  simp at *
 ·
  intro x hx
  rw [List.mem_map] at hx
  obtain ⟨y, _, rfl⟩ := hx
  simp only [valI, ev_one, if_true]
  exact wsum_ends _ ns ws hn
theorem bestK_step {nodes : List Nat} {ws : List Int} {t : Nat} (hn : ∀ n ∈ nodes, n < ks.length) (htN : t < N) (ht : ∀ n ∈ nodes, t ≤ topK ks n) : bestK ks N nodes ws [] = max (bestK ks N (nodes.map fun n => brK ks n t false) ws []) (bestK ks N (nodes.map fun n => brK ks n t true) ws []) := by
 have key : ∀ b, bestK ks N (nodes.map fun n => brK ks n t b) ws [] = bestK ks N nodes ws (List.replicate t false ++ [b]) := by
  intro b
  have hlt : ∀ n ∈ nodes.map fun n => brK ks n t b, n < ks.length := by
   intro n hm
   rw [List.mem_map] at hm
   obtain ⟨x, hx, rfl⟩ := hm
   exact brK_lt h (hn x hx) htN
  have htt : ∀ n ∈ nodes.map fun n => brK ks n t b, t + 1 ≤ topK ks n := by
   intro n hm
   rw [List.mem_map] at hm
   obtain ⟨x, hx, rfl⟩ := hm
   exact brK_top h (hn x hx) htN (ht x hx)
  have h1 := bestK_lift h (ws := ws) hlt (t + 1) 0 (by omega) (fun n hm => by have := htt n hm; omega)
  have h2 := bestK_br h (nodes := nodes) (ws := ws) (l := List.replicate t false) (b := b) hn (by simpa using htN)
  rw [List.length_replicate] at h2
  rw [← h2]
  rw [show ([] : List Bool) = List.replicate 0 false from rfl, h1]
  exact bestK_len h hlt (by simp) (fun n hm => by have := htt n hm; simp; omega)
 have h1 := bestK_lift h (ws := ws) hn t 0 (by omega) (fun n hm => by have := ht n hm; omega)
 rw [show List.replicate 0 false = ([] : List Bool) from rfl, Nat.zero_add] at h1
 rw [key, key, h1, bestK_split (by simpa using htN)]
end
def arO (o : Int) : Nat := if o = -3 then 1 else if o = -4 ∨ o = -5 ∨ o = -6 then 2 else 0
def vld (N : Nat) : Nat → List Int → Bool
 | 0, [] => true
 | _ + 1, [] => false
 | 0, _ :: _ => false
 | w + 1, o :: r => decide (-6 ≤ o) && decide (o < N) && vld N (w + arO o) r
def validF (N : Nat) (f : List Int) : Bool := vld N 1 f && decide (f.length ≤ 100)
def stp (v : Nat → Bool) (o : Int) (S : List Bool) : List Bool :=
 if o = -1 then true :: S
 else if o = -2 then false :: S
 else if o = -3 then (!S.headD false) :: S.drop 1
 else if o = -4 then (S.headD false && (S.drop 1).headD false) :: S.drop 2
 else if o = -5 then (S.headD false || (S.drop 1).headD false) :: S.drop 2
 else if o = -6 then (S.headD false == (S.drop 1).headD false) :: S.drop 2
 else v o.toNat :: S
def evS (v : Nat → Bool) (f : List Int) : List Bool := f.foldr (stp v) []
def evF1 (v : Nat → Bool) (f : List Int) : Bool := (evS v f).headD false
theorem evS_cons (v : Nat → Bool) (o : Int) (r : List Int) : evS v (o :: r) = stp v o (evS v r) := rfl
theorem evS_len {N : Nat} (v : Nat → Bool) : ∀ (f : List Int) (w : Nat), vld N w f = true → (evS v f).length = w
 | [], 0, _ => rfl
 | [], w + 1, h => by simp [vld] at h
 | o :: r, 0, h => by simp [vld] at h
 | o :: r, w + 1, h => by
  simp only [vld, Bool.and_eq_true, decide_eq_true_eq] at h
  have ih := evS_len v r _ h.2
  rw [evS_cons]
  unfold stp arO at *
  repeat' split at ih
  all_goals (repeat' split)
  all_goals (simp only [List.length_cons, List.length_drop, ih]; try omega)
theorem vld_drop {N : Nat} : ∀ (f : List Int) (w : Nat), vld N w f = true → ∀ k, k ≤ f.length → ∃ w', vld N w' (f.drop k) = true
 | f, w, h, 0, _ => ⟨w, h⟩
 | [], w, h, k + 1, hk => by simp at hk
 | o :: r, 0, h, k + 1, _ => by simp [vld] at h
 | o :: r, w + 1, h, k + 1, hk => by
  simp only [vld, Bool.and_eq_true, decide_eq_true_eq] at h
  exact vld_drop r _ h.2 k (by simpa using hk)
theorem vld_le {N : Nat} : ∀ (f : List Int) (w : Nat), vld N w f = true → w ≤ f.length
 | [], 0, _ => Nat.le_refl _
 | [], w + 1, h => by simp [vld] at h
 | o :: r, 0, h => Nat.zero_le _
 | o :: r, w + 1, h => by
  simp only [vld, Bool.and_eq_true, decide_eq_true_eq] at h
  have := vld_le r _ h.2
  simp only [List.length_cons]; omega
theorem vld_at {N : Nat} {f : List Int} {w k : Nat} (h : vld N w f = true) (hk : k < f.length) : ∃ w', vld N (w' + 1) (f.drop k) = true ∧ vld N (w' + arO (f.getD k 0)) (f.drop (k + 1)) = true ∧ -6 ≤ f.getD k 0 ∧ f.getD k 0 < N := by
 obtain ⟨w1, h1⟩ := vld_drop f w h k (by omega)
 have hd : f.drop k = f.getD k 0 :: f.drop (k + 1) := by
  rw [List.drop_eq_getElem_cons hk, List.getD_eq_getElem?_getD, List.getElem?_eq_getElem hk]; rfl
 rw [hd] at h1
 match w1, h1 with
 | 0, h1 => simp [vld] at h1
 | w1 + 1, h1 =>
  refine ⟨w1, by rw [hd]; exact h1, ?_⟩
  simp only [vld, Bool.and_eq_true, decide_eq_true_eq] at h1
  exact ⟨h1.2, h1.1.1, h1.1.2⟩
theorem drop_getD {f : List Int} {k : Nat} (hk : k < f.length) : f.drop k = f.getD k 0 :: f.drop (k + 1) := by
 rw [List.drop_eq_getElem_cons hk, List.getD_eq_getElem?_getD, List.getElem?_eq_getElem hk]; rfl
theorem validF_pos {N : Nat} {f : List Int} (h : validF N f = true) : 1 ≤ f.length ∧ f.length ≤ 100 := by
 simp only [validF, Bool.and_eq_true, decide_eq_true_eq] at h
 refine ⟨?_, h.2⟩
 match f, h.1 with
 | [], h => simp [vld] at h
 | o :: r, _ => simp
theorem validF_one {N : Nat} {f : List Int} (h : validF N f = true) (v : Nat → Bool) : evS v f = [evF1 v f] := by
 simp only [validF, Bool.and_eq_true, decide_eq_true_eq] at h
 have := evS_len v f 1 h.1
 unfold evF1
 match hs : evS v f, this with
 | [x], _ => rfl
def allF (v : Nat → Bool) (l : List (List Int)) : Bool := l.all fun f => evF1 v f
end Go.Proofs.YtehadoecnmfeoaaGreat

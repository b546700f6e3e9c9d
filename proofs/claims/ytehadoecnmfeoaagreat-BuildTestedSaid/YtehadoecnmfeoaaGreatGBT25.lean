/- Part 25 of this claim's texts: walks and plain laws. -/
import Derived.Test.YtehadoecnmfeoaaGreatRows
import Derived.Test.YtehadoecnmfeoaaGreatGBT24
import Derived.Sort.OwnSortedInts
import Derived.Shelf.GgSortFunc.InsertionK
import Derived.Laws.OwnMore
import Derived.Test.YtehadoecnmfeoaaGreatGBT2
import Derived.Test.YtehadoecnmfeoaaGreatGBT16
import Derived.Test.YtehadoecnmfeoaaGreatGBT19
import Derived.Test.YtehadoecnmfeoaaGreatGBT18
import Derived.Deep.RegionHeld3
import Derived.Deep.DrawnRows
import Derived.Test.YtehadoecnmfeoaaGreatGBT11
import Derived.Test.YtehadoecnmfeoaaGreatGBT12
import Derived.Test.YtehadoecnmfeoaaGreatGBT23
import Derived.Test.YtehadoecnmfeoaaGreatGBT21
import Derived.Test.YtehadoecnmfeoaaGreatGBT9
import Derived.Test.YtehadoecnmfeoaaGreatGBT10
import Derived.Laws.Cover3
/- Nets of pins: plain laws. -/
namespace Go.Proofs.YtehadoecnmfeoaaGreat
set_option linter.unusedVariables false
set_option linter.unusedSimpArgs false
abbrev Pn := Int × Int
def ltP (a b : Pn) : Bool := decide (a.1 < b.1) || (a.1 == b.1 && decide (a.2 < b.2))
theorem ltP_iff {a b : Pn} : ltP a b = true ↔ a.1 < b.1 ∨ (a.1 = b.1 ∧ a.2 < b.2) := by
  unfold ltP
  simp
theorem ltP_irr (a : Pn) : ltP a a = false := by
  unfold ltP
  simp
theorem ltP_trans (a b c : Pn) (h : ltP a b = true) (k : ltP b c = true) : ltP a c = true := by
  rw [ltP_iff] at h k ⊢
  omega
theorem pn_ext {a b : Pn} (h : a.1 = b.1) (k : a.2 = b.2) : a = b := by
  obtain ⟨x, y⟩ := a
  obtain ⟨z, u⟩ := b
  simp only at h k
  rw [h, k]
theorem ltP_total {a b : Pn} (h : ¬ ltP a b = true) (k : a ≠ b) : ltP b a = true := by
  rw [ltP_iff] at h ⊢
  have : ¬ (a.1 = b.1 ∧ a.2 = b.2) := fun e => k (pn_ext e.1 e.2)
  omega
def insP (x : Pn) : List Pn → List Pn
  | [] => [x]
  | a :: r => if ltP a x = true then a :: insP x r else if a = x then a :: r else x :: a :: r
theorem mem_insP {x b : Pn} : ∀ {o : List Pn}, b ∈ insP x o ↔ b = x ∨ b ∈ o
  | [] => by simp [insP]
  | a :: r => by
    unfold insP
    split
    · rw [List.mem_cons, mem_insP, List.mem_cons]
      constructor
      · rintro (h | h | h)
        · exact .inr (.inl h)
        · exact .inl h
        · exact .inr (.inr h)
      · rintro (h | h | h)
        · exact .inr (.inl h)
        · exact .inl h
        · exact .inr (.inr h)
    · split
      · rename_i h1 h2
        rw [List.mem_cons]
        constructor
        · exact fun h => .inr h
        · rintro (h | h)
          · exact .inl (h.trans h2.symm)
          · exact h
      · rw [List.mem_cons]
def Asc (l : List Pn) : Prop := l.Pairwise fun a b => ltP a b = true
theorem insP_sorted {x : Pn} : ∀ {o : List Pn}, Asc o → Asc (insP x o)
  | [], _ => by simp [insP, Asc]
  | a :: r, h => by
    obtain ⟨h1, h2⟩ := List.pairwise_cons.1 h
    unfold insP
    by_cases h3 : ltP a x = true
    · rw [if_pos h3]
      refine List.pairwise_cons.2 ⟨fun b hb => ?_, insP_sorted h2⟩
      rcases mem_insP.1 hb with e | e
      · rw [e]; exact h3
      · exact h1 b e
    · rw [if_neg h3]
      by_cases h4 : a = x
      · rw [if_pos h4]; exact h
      · rw [if_neg h4]
        have h5 := ltP_total h3 h4
        refine List.pairwise_cons.2 ⟨fun b hb => ?_, h⟩
        rcases List.mem_cons.1 hb with e | e
        · rw [e]; exact h5
        · exact ltP_trans _ _ _ h5 (h1 b e)
/-- The members of a list, ascending, each once. -/
def sortU (l : List Pn) : List Pn := l.foldl (fun o p => insP p o) []
theorem foldP_mem {b : Pn} : ∀ {l o : List Pn}, b ∈ l.foldl (fun o p => insP p o) o ↔ b ∈ l ∨ b ∈ o
  | [], o => by simp
  | a :: l, o => by
    rw [List.foldl_cons, foldP_mem, mem_insP, List.mem_cons]
    constructor
    · rintro (h | h | h)
      · exact .inl (.inr h)
      · exact .inl (.inl h)
      · exact .inr h
    · rintro ((h | h) | h)
      · exact .inr (.inl h)
      · exact .inl h
      · exact .inr (.inr h)
theorem foldP_sorted : ∀ {l o : List Pn}, Asc o → Asc (l.foldl (fun o p => insP p o) o)
  | [], _, h => h
  | a :: l, o, h => by
    rw [List.foldl_cons]
    exact foldP_sorted (insP_sorted h)
theorem sortU_mem {b : Pn} {l : List Pn} : b ∈ sortU l ↔ b ∈ l := by
  unfold sortU
  rw [foldP_mem]
  simp
theorem sortU_sorted (l : List Pn) : Asc (sortU l) := foldP_sorted List.Pairwise.nil
theorem sortU_uniq {l m : List Pn} (h : Asc l) (hm : ∀ a, a ∈ l ↔ a ∈ m) : l = sortU m :=
  sort_uniq ltP_irr ltP_trans h (sortU_sorted m) fun a => (hm a).trans sortU_mem.symm
/-- Whether a net has one of two pins. -/
def touB (a b : Pn) (net : List Pn) : Bool := net.contains a || net.contains b
theorem touB_iff {a b : Pn} {net : List Pn} : touB a b net = true ↔ a ∈ net ∨ b ∈ net := by
  unfold touB
  simp
/-- The pins of the nets that have one of two pins. -/
def bothL (out : List (List Pn)) (a b : Pn) : List Pn := (out.filter (touB a b)).flatten
def joiL (out : List (List Pn)) (a b : Pn) : List (List Pn) := out.filter (fun n => !touB a b n) ++ [sortU (a :: b :: bothL out a b)]
def Apart (m n : List Pn) : Prop := ∀ p, p ∈ m → ¬ p ∈ n
structure NetI (out : List (List Pn)) : Prop where
  ne : ∀ net ∈ out, net ≠ []
  asc : ∀ net ∈ out, Asc net
  apart : out.Pairwise Apart
theorem NetI.nil : NetI [] := ⟨fun n h => absurd h (by simp), fun n h => absurd h (by simp), List.Pairwise.nil⟩
theorem bothL_mem {out : List (List Pn)} {a b p : Pn} : p ∈ bothL out a b ↔ ∃ net ∈ out, touB a b net = true ∧ p ∈ net := by
  unfold bothL
  rw [List.mem_flatten]
  constructor
  · rintro ⟨net, h1, h2⟩
    obtain ⟨h3, h4⟩ := List.mem_filter.1 h1
    exact ⟨net, h3, h4, h2⟩
  · rintro ⟨net, h1, h2, h3⟩
    exact ⟨net, List.mem_filter.2 ⟨h1, h2⟩, h3⟩
theorem pair_mem {α : Type} {R : α → α → Prop} (hs : ∀ x y, R x y → R y x) : ∀ {l : List α} {x y : α}, l.Pairwise R → x ∈ l → y ∈ l → x = y ∨ R x y
  | [], _, _, _, h, _ => absurd h (by simp)
  | a :: l, x, y, h, hx, hy => by
    obtain ⟨h1, h2⟩ := List.pairwise_cons.1 h
    rcases List.mem_cons.1 hx with e | e
    · rcases List.mem_cons.1 hy with e2 | e2
      · exact .inl (e.trans e2.symm)
      · rw [e]; exact .inr (h1 y e2)
    · rcases List.mem_cons.1 hy with e2 | e2
      · rw [e2]; exact .inr (hs _ _ (h1 x e))
      · exact pair_mem hs h2 e e2
theorem Apart.symm {m n : List Pn} (h : Apart m n) : Apart n m := fun p hp hq => h p hq hp
theorem NetI.join {out : List (List Pn)} (h : NetI out) (a b : Pn) : NetI (joiL out a b) := by
  have hsub : ∀ net, net ∈ out.filter (fun n => !touB a b n) → net ∈ out ∧ touB a b net = false := fun net hn => by
    obtain ⟨h1, h2⟩ := List.mem_filter.1 hn
    exact ⟨h1, by simpa using h2⟩
  refine ⟨fun net hn => ?_, fun net hn => ?_, ?_⟩
  · rcases List.mem_append.1 hn with h1 | h1
    · exact h.ne net (hsub net h1).1
    · have e : net = sortU (a :: b :: bothL out a b) := by simpa using h1
      intro h2
      have h3 : a ∈ net := by rw [e, sortU_mem]; simp
      rw [h2] at h3
      exact absurd h3 (by simp)
  · rcases List.mem_append.1 hn with h1 | h1
    · exact h.asc net (hsub net h1).1
    · have e : net = sortU (a :: b :: bothL out a b) := by simpa using h1
      rw [e]
      exact sortU_sorted _
  · refine List.pairwise_append.2 ⟨h.apart.filter _, List.pairwise_singleton _ _, fun m hm n hn p hp hq => ?_⟩
    have e : n = sortU (a :: b :: bothL out a b) := by simpa using hn
    obtain ⟨h1, h2⟩ := hsub m hm
    rw [e, sortU_mem] at hq
    have h3 : ¬ (a ∈ m ∨ b ∈ m) := fun h4 => by rw [touB_iff.2 h4] at h2; cases h2
    rcases List.mem_cons.1 hq with e1 | hq
    · exact h3 (.inl (e1 ▸ hp))
    · rcases List.mem_cons.1 hq with e1 | hq
      · exact h3 (.inr (e1 ▸ hp))
      · obtain ⟨net, hnet, h5, h6⟩ := bothL_mem.1 hq
        rcases pair_mem (fun _ _ => Apart.symm) h.apart h1 hnet with e2 | e2
        · rw [← e2, h2] at h5
          cases h5
        · exact e2 p hp h6
/-- The nets of some wires, in the order in which they came to be. -/
def netU (es : List (Pn × Pn)) : List (List Pn) := es.foldl (fun o e => joiL o e.1 e.2) []
theorem netU_snoc (es : List (Pn × Pn)) (e : Pn × Pn) : netU (es ++ [e]) = joiL (netU es) e.1 e.2 := by
  unfold netU
  rw [List.foldl_append]
  rfl
theorem foldN_i : ∀ {es : List (Pn × Pn)} {o : List (List Pn)}, NetI o → NetI (es.foldl (fun o e => joiL o e.1 e.2) o)
  | [], _, h => h
  | e :: es, o, h => by
    rw [List.foldl_cons]
    exact foldN_i (h.join _ _)
theorem netU_i (es : List (Pn × Pn)) : NetI (netU es) := foldN_i NetI.nil
def hdP (net : List Pn) : Pn := net.headD (0, 0)
theorem hdP_mem {net : List Pn} (h : net ≠ []) : hdP net ∈ net := by
  cases net with
  | nil => exact absurd rfl h
  | cons a r => simp [hdP]
def ltN (m n : List Pn) : Bool := ltP (hdP m) (hdP n)
def AscN (o : List (List Pn)) : Prop := o.Pairwise fun m n => ltN m n = true
def insN (x : List Pn) : List (List Pn) → List (List Pn)
  | [] => [x]
  | a :: r => if ltN a x = true then a :: insN x r else x :: a :: r
theorem mem_insN {x b : List Pn} : ∀ {o : List (List Pn)}, b ∈ insN x o ↔ b = x ∨ b ∈ o
  | [] => by simp [insN]
  | a :: r => by
    unfold insN
    split
    · rw [List.mem_cons, mem_insN, List.mem_cons]
      constructor
      · rintro (h | h | h)
        · exact .inr (.inl h)
        · exact .inl h
        · exact .inr (.inr h)
      · rintro (h | h | h)
        · exact .inr (.inl h)
        · exact .inl h
        · exact .inr (.inr h)
    · rw [List.mem_cons]
theorem insN_sorted {x : List Pn} : ∀ {o : List (List Pn)}, AscN o → (∀ a ∈ o, hdP a ≠ hdP x) → AscN (insN x o)
  | [], _, _ => by simp [insN, AscN]
  | a :: r, h, hd => by
    obtain ⟨h1, h2⟩ := List.pairwise_cons.1 h
    unfold insN
    by_cases h3 : ltN a x = true
    · rw [if_pos h3]
      refine List.pairwise_cons.2 ⟨fun b hb => ?_, insN_sorted h2 fun c hc => hd c (by simp [hc])⟩
      rcases mem_insN.1 hb with e | e
      · rw [e]; exact h3
      · exact h1 b e
    · rw [if_neg h3]
      have h5 : ltN x a = true := ltP_total h3 (hd a (by simp))
      refine List.pairwise_cons.2 ⟨fun b hb => ?_, h⟩
      rcases List.mem_cons.1 hb with e | e
      · rw [e]; exact h5
      · exact ltP_trans _ _ _ h5 (h1 b e)
/-- Nets in the order of their first pins. -/
def sortN (o : List (List Pn)) : List (List Pn) := o.foldl (fun s x => insN x s) []
theorem foldM_mem {b : List Pn} : ∀ {l o : List (List Pn)}, b ∈ l.foldl (fun s x => insN x s) o ↔ b ∈ l ∨ b ∈ o
  | [], o => by simp
  | a :: l, o => by
    rw [List.foldl_cons, foldM_mem, mem_insN, List.mem_cons]
    constructor
    · rintro (h | h | h)
      · exact .inl (.inr h)
      · exact .inl (.inl h)
      · exact .inr h
    · rintro ((h | h) | h)
      · exact .inr (.inl h)
      · exact .inl h
      · exact .inr (.inr h)
theorem sortN_mem {b : List Pn} {o : List (List Pn)} : b ∈ sortN o ↔ b ∈ o := by
  unfold sortN
  rw [foldM_mem]
  simp
theorem foldM_sorted : ∀ {l o : List (List Pn)}, AscN o → l.Pairwise (fun m n => hdP m ≠ hdP n) → (∀ a ∈ o, ∀ b ∈ l, hdP a ≠ hdP b) → AscN (l.foldl (fun s x => insN x s) o)
  | [], _, h, _, _ => h
  | a :: l, o, h, hp, hd => by
    obtain ⟨h1, h2⟩ := List.pairwise_cons.1 hp
    rw [List.foldl_cons]
    refine foldM_sorted (insN_sorted h fun b hb => hd b hb a (by simp)) h2 fun b hb c hc => ?_
    rcases mem_insN.1 hb with e | e
    · rw [e]; exact h1 c hc
    · exact hd b e c (by simp [hc])
theorem NetI.heads {o : List (List Pn)} (h : NetI o) : o.Pairwise fun m n => hdP m ≠ hdP n := by
  refine (List.pairwise_iff_forall_sublist.2 fun {m n} hs => ?_)
  have hm : m ∈ o := hs.subset (by simp)
  have hn : n ∈ o := hs.subset (by simp)
  have hap : Apart m n := (List.pairwise_iff_forall_sublist.1 h.apart) hs
  intro e
  exact hap _ (hdP_mem (h.ne m hm)) (e ▸ hdP_mem (h.ne n hn))
theorem sortN_sorted {o : List (List Pn)} (h : NetI o) : AscN (sortN o) := foldM_sorted List.Pairwise.nil h.heads fun a ha => absurd ha (by simp)
theorem sortN_uniq {o q : List (List Pn)} (h : NetI o) (hq : AscN q) (hm : ∀ a, a ∈ q ↔ a ∈ o) : q = sortN o :=
  sort_uniq (lt := ltN) (fun a => ltP_irr _) (fun a b c => ltP_trans _ _ _) hq (sortN_sorted h) fun a => (hm a).trans sortN_mem.symm
/-- The nets of some wires, in order. -/
def netL (es : List (Pn × Pn)) : List (List Pn) := sortN (netU es)
theorem netL_mem {es : List (Pn × Pn)} {net : List Pn} : net ∈ netL es ↔ net ∈ netU es := sortN_mem
/-- Whether nets connect two pins. -/
def conB (o : List (List Pn)) (a b : Pn) : Bool := o.any fun net => net.contains a && net.contains b
theorem conB_iff {o : List (List Pn)} {a b : Pn} : conB o a b = true ↔ ∃ net ∈ o, a ∈ net ∧ b ∈ net := by
  unfold conB
  simp
theorem NetI.one {o : List (List Pn)} (h : NetI o) {m n : List Pn} {p : Pn} (hm : m ∈ o) (hn : n ∈ o) (h1 : p ∈ m) (h2 : p ∈ n) : m = n := by
  rcases pair_mem (fun _ _ => Apart.symm) h.apart hm hn with e | e
  · exact e
  · exact absurd h2 (e p h1)
/-- The tests of nets: pins that should be connected. -/
def jonN (net : List Pn) : List (Pn × Pn) := (List.range (net.length - 1)).map fun k => (net.getD k (0, 0), net.getD (k + 1) (0, 0))
def jonL (o : List (List Pn)) : List (Pn × Pn) := o.flatMap jonN
/-- And pins that should not. -/
def apaN (o : List (List Pn)) (i : Nat) : List (Pn × Pn) := (o.drop (i + 1)).map fun n => (hdP (o.getD i []), hdP n)
def apaL (o : List (List Pn)) : List (Pn × Pn) := (List.range o.length).flatMap (apaN o)
/-- Whether nets pass the tests of others. -/
def pasB (o q : List (List Pn)) : Bool := (jonL o).all (fun p => conB q p.1 p.2) && (apaL o).all fun p => !conB q p.1 p.2
end Go.Proofs.YtehadoecnmfeoaaGreat
/- Rows of elements of some cells each, and the library's sort over them. -/
namespace Go.Proofs.YtehadoecnmfeoaaGreat
open Go.RowKit Go.Sort
set_option linter.unusedVariables false
set_option linter.unusedSimpArgs false
section
variable {α : Type} (enc : α → List Value)
/-- The cells of a list. -/
def rowV (L : List α) : List Value := L.flatMap enc
variable {enc}
theorem rowV_snoc (L : List α) (a : α) : rowV enc (L ++ [a]) = rowV enc L ++ enc a := by simp [rowV]
theorem rowV_len {k : Nat} (hk : ∀ a, (enc a).length = k) : ∀ L : List α, (rowV enc L).length = L.length * k
  | [] => by simp [rowV]
  | a :: L => by
    show (enc a ++ rowV enc L).length = _
    rw [List.length_append, hk, rowV_len hk L, List.length_cons, Nat.succ_mul, Nat.add_comm]
theorem rowV_get {k : Nat} (hk : ∀ a, (enc a).length = k) (z : α) : ∀ {L : List α} {i j : Nat}, i < L.length → j < k → (rowV enc L)[i * k + j]? = (enc (L.getD i z))[j]?
  | a :: L, 0, j, _, hj => by
    show (enc a ++ rowV enc L)[0 * k + j]? = _
    rw [List.getElem?_append_left (by rw [hk]; omega), Nat.zero_mul, Nat.zero_add]
    rfl
  | a :: L, i + 1, j, hi, hj => by
    show (enc a ++ rowV enc L)[(i + 1) * k + j]? = _
    rw [List.getElem?_append_right (by rw [hk, Nat.succ_mul]; omega), hk, show (i + 1) * k + j - k = i * k + j by rw [Nat.succ_mul]; omega, rowV_get hk z (by simpa using hi) hj]
    rfl
/-- Some cells changed. -/
def setAll (Fc : List Value) : Nat → List Value → List Value
  | _, [] => Fc
  | s, v :: r => setAll (Fc.set s v) (s + 1) r
theorem setAll_get : ∀ (vs : List Value) (s : Nat) (Fc : List Value) (t : Nat), s + vs.length ≤ Fc.length → (setAll Fc s vs)[t]? = if s ≤ t ∧ t < s + vs.length then vs[t - s]? else Fc[t]?
  | [], s, Fc, t, _ => by
    rw [setAll, if_neg (by simp)]
  | v :: r, s, Fc, t, h => by
    have h' : s + 1 + r.length ≤ Fc.length := by simp at h; omega
    rw [setAll, setAll_get r (s + 1) _ t (by rw [List.length_set]; exact h'), List.getElem?_set]
    by_cases h1 : s + 1 ≤ t ∧ t < s + 1 + r.length
    · rw [if_pos h1, if_pos (by simp; omega)]
      obtain ⟨u, rfl⟩ : ∃ u, t = s + 1 + u := ⟨t - (s + 1), by omega⟩
      rw [show s + 1 + u - (s + 1) = u by omega, show s + 1 + u - s = u + 1 by omega, List.getElem?_cons_succ]
    · rw [if_neg h1]
      by_cases h2 : s = t
      · subst h2
        rw [if_pos rfl, if_pos (by omega), if_pos (by simp), Nat.sub_self]
        rfl
      · rw [if_neg h2, if_neg (by simp; omega)]
theorem idx_div {k i j t : Nat} (hj : j < k) (h : t = i * k + j) : t / k = i ∧ t % k = j := by
  subst h
  have hk : 0 < k := by omega
  constructor
  · rw [Nat.mul_comm, Nat.mul_add_div hk, Nat.div_eq_of_lt hj, Nat.add_zero]
  · rw [Nat.mul_comm, Nat.mul_add_mod, Nat.mod_eq_of_lt hj]
theorem rowV_set {k : Nat} (hk : ∀ a, (enc a).length = k) {L : List α} {i : Nat} (hi : i < L.length) (a : α) : setAll (rowV enc L) (i * k) (enc a) = rowV enc (L.set i a) := by
  rcases Nat.eq_zero_or_pos k with h0 | h0
  · have e1 : enc a = [] := List.length_eq_zero_iff.1 ((hk a).trans h0)
    have e2 : ∀ M : List α, rowV enc M = [] := fun M => List.length_eq_zero_iff.1 (by rw [rowV_len hk, h0, Nat.mul_zero])
    rw [e1, e2, e2]
    rfl
  have hle : i * k + (enc a).length ≤ (rowV enc L).length := by
    rw [hk, rowV_len hk, ← Nat.succ_mul]
    exact Nat.mul_le_mul_right _ hi
  refine List.ext_getElem? fun t => ?_
  rw [setAll_get _ _ _ _ hle, hk]
  by_cases ht : t < L.length * k
  · have e1 : t / k < L.length := Nat.div_lt_of_lt_mul (by rw [Nat.mul_comm]; exact ht)
    have e2 : t = t / k * k + t % k := (Nat.div_add_mod' t k).symm
    have e3 : t % k < k := Nat.mod_lt _ h0
    have g1 : (rowV enc (L.set i a))[t]? = (enc ((L.set i a).getD (t / k) a))[t % k]? := by
      conv => lhs; rw [e2]
      exact rowV_get hk a (by rw [List.length_set]; exact e1) e3
    have g2 : (rowV enc L)[t]? = (enc (L.getD (t / k) a))[t % k]? := by
      conv => lhs; rw [e2]
      exact rowV_get hk a e1 e3
    rw [g1, g2]
    by_cases h1 : i * k ≤ t ∧ t < i * k + k
    · have h2 := idx_div (k := k) (i := i) (j := t - i * k) (t := t) (by omega) (by omega)
      rw [if_pos h1, h2.1, h2.2, List.getD_eq_getElem?_getD, List.getElem?_set, if_pos rfl, if_pos hi]
      rfl
    · have hne : ¬ i = t / k := fun e => by
        rw [e] at h1
        omega
      have g3 : (L.set i a).getD (t / k) a = L.getD (t / k) a := by
        rw [List.getD_eq_getElem?_getD, List.getElem?_set, if_neg hne, ← List.getD_eq_getElem?_getD]
      rw [if_neg h1, g3]
  · have h2 : (i + 1) * k ≤ L.length * k := Nat.mul_le_mul_right _ hi
    rw [Nat.succ_mul] at h2
    rw [if_neg (by omega), List.getElem?_eq_none (by rw [rowV_len hk]; omega), List.getElem?_eq_none (by rw [rowV_len hk, List.length_set]; omega)]
theorem flatK_row [Inhabited α] {k : Nat} (hk : ∀ a, (enc a).length = k) (L : List α) : flatK enc k L.toArray = (rowV enc L).toArray := by
  rcases Nat.eq_zero_or_pos k with h0 | h0
  · have e2 : rowV enc L = [] := List.length_eq_zero_iff.1 (by rw [rowV_len hk, h0, Nat.mul_zero])
    rw [e2]
    refine Array.eq_empty_of_size_eq_zero ?_
    rw [size_flatK, h0, Nat.mul_zero]
  refine Array.ext (by rw [size_flatK]; simp [rowV_len hk]) fun t h1 h2 => ?_
  have ht : t < L.length * k := by simpa using h1
  have e1 : t / k < L.length := Nat.div_lt_of_lt_mul (by rw [Nat.mul_comm]; exact ht)
  have e3 : t % k < k := Nat.mod_lt _ h0
  have g2 : (rowV enc L)[t]? = (enc (L.getD (t / k) default))[t % k]? := by
    conv => lhs; rw [show t = t / k * k + t % k from (Nat.div_add_mod' t k).symm]
    exact rowV_get hk default e1 e3
  have g3 := get_flatK enc k L.toArray t (by simpa using ht)
  rw [getElem!_pos (flatK enc k L.toArray) t h1] at g3
  rw [g3]
  have e4 : (L.toArray)[t / k]! = L.getD (t / k) default := by
    rw [getElem!_pos L.toArray (t / k) (by simpa using e1), List.getD_eq_getElem?_getD, List.getElem?_eq_getElem e1]
    simp
  rw [e4]
  have e5 : t % k < (enc (L.getD (t / k) default)).length := by rw [hk]; exact e3
  rw [getElem!_pos (enc (L.getD (t / k) default)) (t % k) e5]
  have e6 : (rowV enc L).toArray[t] = (rowV enc L)[t]'(by simpa using h2) := by simp
  rw [e6]
  rw [List.getElem?_eq_getElem (by simpa using h2), List.getElem?_eq_getElem e5] at g2
  injection g2 with g2
  exact g2.symm
end
/-- The cells of an own row, as the sort wants them. -/
theorem holds_row {w : World} {g : Nat} {cur : Array Value} {e : TypeId} {Fc : List Value} (hb : w.heap[g]? = some (.cells cur e (0, 0))) (ht : cur.toList.take Fc.length = Fc) : Holds id w g 0 Fc.toArray := by
  intro j hj
  have hj' : j < Fc.length := by simpa using hj
  refine ⟨?_, by simp [World.frozen?, hb]⟩
  have h1 : (cur.toList.take Fc.length)[j]? = Fc[j]? := by rw [ht]
  rw [List.getElem?_take_of_lt hj'] at h1
  simp only [World.cell?, hb, Nat.zero_add]
  simp only [Option.isSome_none, Bool.false_eq_true, if_false]
  rw [← Array.getElem?_toList, h1]
  simp [hj']
theorem heap_sortedV {w : World} {g n : Nat} {os : Array Obj} {cur : Array Value} {e : TypeId} {fr : Nat × Nat} (d : Array Value) (hb : w.heap[g]? = some (.cells cur e fr)) :
    (grow (putRow id (Sort.ahead w n) g 0 d) os).heap[g]? = some (.cells (putCells id 0 d cur) e fr) := by
  have hg : g < w.heap.size := (Array.getElem?_eq_some_iff.1 hb).1
  rw [heap_grow_old _ _ (by simpa using hg)]
  simp [putRow, mapBlock, Sort.ahead, Array.getElem?_modify, hb, onCells]
theorem grownBy_sortedV {w : World} {g n : Nat} {os : Array Obj} (d : Array Value) : w.grownBy (grow (putRow id (Sort.ahead w n) g 0 d) os) (some g) := by
  refine ⟨rfl, rfl, rfl, by simp, fun k hk hne => ?_⟩
  rw [heap_grow_old _ _ (by simpa using hk)]
  have : g ≠ k := fun e => hne (by rw [e])
  simp [putRow, mapBlock, Sort.ahead, Array.getElem?_modify, this]
theorem take_putCellsV (cur : Array Value) (ts : List Value) (h : ts.length ≤ cur.size) : (putCells id 0 ts.toArray cur).toList.take ts.length = ts := by
  apply List.ext_getElem?
  intro j
  by_cases hj : j < ts.length
  · rw [List.getElem?_take_of_lt hj, Array.getElem?_toList]
    simp [putCells, hj, show j < cur.size by omega]
  · rw [List.getElem?_take_eq_none (by omega), List.getElem?_eq_none (by omega)]
/-- Behind the sort the same slice owns the sorted cells. -/
theorem ownsRow_sortedV {w : World} {base g cap n size m : Nat} {e : TypeId} {os : Array Obj} {cur : Array Value} {Fc : List Value} (hF : Fc.length = n * size) (hbase : base ≤ g) (hb : w.heap[g]? = some (.cells cur e (0, 0)))
    (h1 : n ≤ cap) (h2 : cap ≤ maxLen) (h3 : cur.size = cap * size) :
    (grow (putRow id (Sort.ahead w m) g 0 Fc.toArray) os).ownsRow base e size (.slice (some ⟨g, 0, none⟩) n cap) n Fc :=
  ⟨hF, .inr ⟨g, cap, _, rfl, hbase, heap_sortedV _ hb, h1, h2, by simp [putCells, h3], by
    rw [← hF]
    refine take_putCellsV cur Fc ?_
    rw [h3, hF]
    exact Nat.mul_le_mul_right _ h1⟩⟩
/-- What the sort leaves: a permutation, in order. -/
theorem perm_list {α : Type} [Inhabited α] {L : List α} {d' : Array α} (h : PermIn 0 L.toArray.size L.toArray d') : d'.toList.Perm L := by
  obtain ⟨h1, _, h3⟩ := h
  have e1 : d'.extract 0 L.toArray.size = d' := by rw [← h1]; exact Array.extract_size
  have e2 : L.toArray.extract 0 L.toArray.size = L.toArray := Array.extract_size
  rw [e1, e2] at h3
  simpa using h3
theorem sorted_list {α : Type} [Inhabited α] {lt : α → α → Bool} {n : Nat} {d' : Array α} (hn : d'.size = n) (h : SortedIn lt 0 n d') (z : α) : ∀ i j, i < j → j < d'.toList.length → lt (d'.toList.getD j z) (d'.toList.getD i z) = false := by
  intro i j hij hj
  have hj' : j < d'.size := by simpa using hj
  have h1 := h i j (Nat.zero_le _) hij (by omega)
  rw [getElem!_pos d' j hj', getElem!_pos d' i (show i < d'.size by omega)] at h1
  rw [List.getD_eq_getElem?_getD, List.getD_eq_getElem?_getD, List.getElem?_eq_getElem (by simpa using hj'), List.getElem?_eq_getElem (by simpa using (show i < d'.size by omega))]
  simpa using h1
/-- A store of a whole element into an own row. -/
theorem own_set2 {w : World} {base e g cap n : Nat} {xs : List Value} (h : w.ownsRow base e 2 (.slice (some ⟨g, 0, none⟩) n cap) n xs) (s : Nat) (u v : Value) :
    ((w.setCell ⟨g, s, none⟩ u).setCell ⟨g, s + 1, none⟩ v).ownsRow base e 2 (.slice (some ⟨g, 0, none⟩) n cap) n (setAll xs s [u, v]) ∧ w.grownBy ((w.setCell ⟨g, s, none⟩ u).setCell ⟨g, s + 1, none⟩ v) (some g) := by
  obtain ⟨h1, h2⟩ := h.stored s u
  obtain ⟨h3, h4⟩ := h1.stored (s + 1) v
  exact ⟨h3, only_trans h2 h4⟩
end Go.Proofs.YtehadoecnmfeoaaGreat
/- The nearest spot to some: the first of the least sum: plain. -/
namespace Go.Proofs.YtehadoecnmfeoaaGreat
set_option linter.unusedVariables false
set_option linter.unusedSimpArgs false
set_option linter.unusedSectionVars false
/-- The first of the first m + 1 numbers with the least value, and that value. -/
def bestN (f : Nat → Int) : Nat → Nat × Int
  | 0 => (0, f 0)
  | m + 1 => if f (m + 1) < (bestN f m).2 then (m + 1, f (m + 1)) else bestN f m
/-- The sum of the distances from a spot to given ones. -/
noncomputable def sumD (l : Lo) (s : Nat) (ts : List Nat) : Int := (ts.map fun t => distN l.rs (runLen l) s t).sum
/-- What Splice answers of a valid loom. -/
noncomputable def spliceN (l : Lo) (ts : List Nat) : Nat × Int := bestN (fun s => sumD l s ts) (l.ss.length - 1)
end Go.Proofs.YtehadoecnmfeoaaGreat
/- The runs that join spots, as both programs find them: plain. -/
namespace Go.Proofs.YtehadoecnmfeoaaGreat
set_option linter.unusedVariables false
set_option linter.unusedSimpArgs false
set_option linter.unusedSectionVars false
section
variable {l : Lo} (h : LoOk l)
include h
/-- Some of the spots lie on the first side of a run and some do not: the run parts two of them. -/
theorem LoOk.both {k : Nat} (hk : k < l.us.length) {ts : List Nat} (ht : ∀ t ∈ ts, t < l.ss.length) :
    ((∃ x ∈ ts, Rch l.rs k (l.rs.getD k (0, 0)).1 x) ∧ ∃ y ∈ ts, ¬ Rch l.rs k (l.rs.getD k (0, 0)).1 y) ↔ ∃ x ∈ ts, ∃ y ∈ ts, ¬ Rch l.rs k x y := by
  have hkl : k < l.rs.length := by rw [rs_len]; exact hk
  obtain ⟨a, b, hab⟩ : ∃ a b, l.rs.getD k (0, 0) = (a, b) := ⟨_, _, rfl⟩
  rw [hab]
  simp only
  constructor
  · rintro ⟨⟨x, hx, h1⟩, y, hy, h2⟩
    exact ⟨x, hx, y, hy, fun q => h2 (h1.trans q)⟩
  · rintro ⟨x, hx, y, hy, hn⟩
    have hp := h.tree.part hkl (.inl hab) (ht x hx) (ht y hy)
    by_cases h1 : Rch l.rs k a x
    · exact ⟨⟨x, hx, h1⟩, y, hy, fun q => hn (h1.symm.trans q)⟩
    · by_cases h2 : Rch l.rs k a y
      · exact ⟨⟨y, hy, h2⟩, x, hx, h1⟩
      · exact absurd (hp.1 ⟨fun q => absurd q h1, fun q => absurd q h2⟩) hn
open Classical in
/-- One round of Joined. -/
theorem LoOk.join_step {k : Nat} (hk : k < l.us.length) {ts : List Nat} (ht : ∀ t ∈ ts, t < l.ss.length) (c : Bool)
    (hc : c = true ↔ ((∃ x ∈ ts, Rch l.rs k (l.rs.getD k (0, 0)).1 x) ∧ ∃ y ∈ ts, ¬ Rch l.rs k (l.rs.getD k (0, 0)).1 y)) :
    (if c = true then runLen l k else 0) = if ∃ x ∈ ts, ∃ y ∈ ts, ¬ Rch l.rs k x y then runLen l k else 0 := by
  by_cases hq : ∃ x ∈ ts, ∃ y ∈ ts, ¬ Rch l.rs k x y
  · rw [if_pos hq, if_pos (hc.2 ((h.both hk ht).2 hq))]
  · rw [if_neg hq, if_neg (fun q => hq ((h.both hk ht).1 (hc.1 q)))]
end
end Go.Proofs.YtehadoecnmfeoaaGreat
/- The ends of a wire, the wires through a run: walks. -/
namespace Go.Proofs.YtehadoecnmfeoaaGreat
open Go.RowKit
set_option linter.unusedVariables false
set_option linter.unusedSimpArgs false
end Go.Proofs.YtehadoecnmfeoaaGreat
/- The rules because of which no variant meets a formula. Plain laws. -/
namespace Go.Proofs.YtehadoecnmfeoaaGreat
set_option linter.unusedVariables false
/-- Some rules of a model, by number. -/
def rulesAt (m : Mo) (K : List Nat) : List (List Int) := K.map fun k => m.rules.getD k []
/-- The variants in which a formula, some rules, and those from one on hold. -/
def corS (m : Mo) (f : List Int) (K : List Nat) (j : Nat) : List (List Bool) := (exts m.opts.length []).filter fun x => evF1 (vf x) f && (allF (vf x) (rulesAt m K) && allF (vf x) (m.rules.drop j))
/-- Those of the first i rules that are left. -/
def kept (m : Mo) (f : List Int) : Nat → List Nat
  | 0 => []
  | i + 1 => if (corS m f (kept m f i) (i + 1)).isEmpty then kept m f i else kept m f i ++ [i]
/-- A model with some of the rules. -/
def fewM (m : Mo) (K : List Nat) : Mo := ⟨m.opts, rulesAt m K⟩
/-- What Core returns. -/
def corE (m : Mo) (f : List Int) : Int := if m.errF [f] ≠ 0 then m.errF [f] else if whereF (allM m) f ≠ [] then 1 else 0
def corL (m : Mo) (f : List Int) : List Nat := if corE m f = 0 then kept m f m.rules.length else []
end Go.Proofs.YtehadoecnmfeoaaGreat
/- The rules because of which no variant meets a formula: walk. -/
namespace Go.Proofs.YtehadoecnmfeoaaGreat
open Go.RowKit
set_option linter.unusedVariables false
set_option linter.unusedSimpArgs false
/-- A list of rules and an error. -/
def CorP (l : List Nat) (er : Int) (w : World) (e : Ending) (w' : World) : Prop := ∃ v, e = .returned (.tuple #[v, .int .i64 er]) ∧ Nods w' w'.heap.size v l ∧ Below w.heap.size w w'
/-- What a slice from k on gives. -/
def slcV (A : Option Addr) (n cap k : Nat) : Value := sliced A k n cap 1
/-- What holds of the forest between two rules of Core. -/
structure CorI (m : Mo) (f : List Int) (w1 : World) (F : Fo) (a k : Nat) (w2 : World) (F1 : Fo) : Prop where
  op : OpR k w1 F w2 F1
  lt : a < F1.ks.length
  ev : ∀ v, ev F1.ks v a = evF1 v f
end Go.Proofs.YtehadoecnmfeoaaGreat
/- Core as the elder program has it: walk. -/
namespace Go.Proofs.YtehadoecnmfeoaaGreat
open Go.RowKit
set_option linter.unusedVariables false
set_option linter.unusedSimpArgs false
/-- A list of numbers of the call's own, above block B. -/
def NStk (B : Nat) (w : World) (sv : Value) (S : List Nat) : Prop := w.ownsRow B 3 1 sv S.length (S.map fun (n : Nat) => Value.int .i64 n)
/-- Numbers but one. -/
def butN (i : Nat) (S : List Nat) : List Nat := S.filter fun k => !(k == i)
/-- Formulas of an elder world w, in a slice of the call's own. -/
structure OFs (w : World) (e B : Nat) (wr : World) (sv : Value) (L : List (List Int)) (vs : List Value) : Prop where
  len : vs.length = L.length
  own : wr.ownsRow B e 1 sv L.length vs
  row : ∀ i, i < L.length → Ints w w.heap.size (vs.getD i undef) (L.getD i [])
/-- The blocks that change when a rule is appended in a box. -/
def fewS (fb : Nat) (rv : Value) (k : Nat) : Prop := k = fb ∨ rv.ownBlock = some k
end Go.Proofs.YtehadoecnmfeoaaGreat
/- The greatest fill of a run: walk. -/
namespace Go.Proofs.YtehadoecnmfeoaaGreat
open Go.RowKit
set_option linter.unusedVariables false
set_option linter.unusedSimpArgs false
/-- The formulas and the sizes of some wires. -/
def fmsL (l : Lo) (T : List Nat) : List (List Int) := T.map fun i => (l.ws.getD i Wi.o).form
def szsL (l : Lo) (T : List Nat) : List Int := T.map fun i => (l.ws.getD i Wi.o).size
/-- What worst has gathered. -/
structure WorS (w0 wr : World) (B lb : Nat) (A0 A1 A2 A3 A4 A5 : Option Addr) (q0 q1 q2 q3 q4 q5 : Nat) (l : Lo) (fv sv : Value) (Fs : List (List Int)) (Ss : List Int) (vs : List Value) : Prop where
  below : Below w0.heap.size w0 wr
  box : LoBox wr lb A0 A1 A2 A3 A4 A5 q0 q1 q2 q3 q4 q5 l
  f : OFs w0 46 B wr fv Fs vs
  s : wr.ownsRow B 3 1 sv Ss.length (Ss.map fun (n : Int) => Value.int .i64 n)
  lt : w0.heap.size ≤ B ∧ B ≤ wr.heap.size
section
variable {w0 wr w' : World} {B lb : Nat} {A0 A1 A2 A3 A4 A5 : Option Addr} {q0 q1 q2 q3 q4 q5 : Nat} {l : Lo} {fv sv v1 x : Value} {Fs : List (List Int)} {Ss : List Int} {vs : List Value} {m : Int} {o : Obj} {f : List Int}
theorem own_low {b e sz n : Nat} {v : Value} {xs : List Value} (h0 : Below w0.heap.size w0 wr) (h : wr.ownsRow b e sz v n xs) (hb : w0.heap.size ≤ b) (hg : (wr.alloc o).grownBy w' v.ownBlock) : Below w0.heap.size w0 w' :=
  Below.grown (Below.to h0 ((Below.refl wr.heap.size wr).alloc (Nat.le_refl _) o) (Nat.le_refl _)) hg (by have := h0.size; simp; omega) (fun k hk => Nat.le_trans hb (h.lt k hk).1)
end
/-- The greatest fill of a run, its variant, the error. -/
def worN (l : Lo) (run : Nat) : Int := mosN l.m (fmsL l (thruL l run)) (szsL l (thruL l run))
def worX (l : Lo) (run : Nat) : List Bool := mosX l.m (fmsL l (thruL l run)) (szsL l (thruL l run))
def worE (l : Lo) (run : Nat) : Int := mosE l.m (fmsL l (thruL l run)) (szsL l (thruL l run))
end Go.Proofs.YtehadoecnmfeoaaGreat
/- The greatest fill, asked from outside: walk. -/
namespace Go.Proofs.YtehadoecnmfeoaaGreat
open Go.RowKit
set_option linter.unusedVariables false
set_option linter.unusedSimpArgs false
/-- The loom's error, or an argument's. -/
def havE (l : Lo) (b : Bool) : Int := if l.err ≠ 0 then l.err else mustE b 1
theorem havE_ok {l : Lo} {b : Bool} (h : havE l b = 0) : LoOk l ∧ b = true := by
  unfold havE at h
  by_cases h1 : l.err = 0
  · rw [if_neg (by simp [h1])] at h
    refine ⟨Lo.err_ok h1, ?_⟩
    cases b with
    | true => rfl
    | false => exact absurd h (by decide)
  · rw [if_pos h1] at h
    exact absurd h h1
/-- What Worst answers. -/
def wrsE (l : Lo) (run : Int) : Int := havE l (btw run 0 ((l.us.length : Int) - 1))
end Go.Proofs.YtehadoecnmfeoaaGreat
/- Whether a loom is larger than a statement looks at: walk. -/
namespace Go.Proofs.YtehadoecnmfeoaaGreat
open Go.RowKit
set_option linter.unusedVariables false
set_option linter.unusedSimpArgs false
def farN (l : Lo) : Bool := decide (10 < l.m.opts.length) || decide (10 < l.m.rules.length) || decide (12 < l.ss.length) || decide (12 < l.us.length) || decide (10 < l.ps.length) || decide (12 < l.ws.length)
def farW (x : Wi) : Bool := decide (100 < x.name.size) || decide (40 < x.form.length)
/-- Whether a loom is larger than a statement looks at. -/
def farB (l : Lo) : Bool := farN l || (l.m.rules.any fun f => decide (40 < f.length)) || (l.m.opts.any fun s => decide (100 < s.size)) || (l.ps.any fun p => decide (100 < p.name.size)) || l.ws.any farW
end Go.Proofs.YtehadoecnmfeoaaGreat
/- The elder checks of spots and pins: walks. -/
namespace Go.Proofs.YtehadoecnmfeoaaGreat
open Go.RowKit
set_option linter.unusedVariables false
set_option linter.unusedSimpArgs false
end Go.Proofs.YtehadoecnmfeoaaGreat
/- The elder checks of spots and pins: walks. -/
namespace Go.Proofs.YtehadoecnmfeoaaGreat
open Go.RowKit
set_option linter.unusedVariables false
set_option linter.unusedSimpArgs false
end Go.Proofs.YtehadoecnmfeoaaGreat
/- The elder checks of spots and pins: walks. -/
namespace Go.Proofs.YtehadoecnmfeoaaGreat
open Go.RowKit
set_option linter.unusedVariables false
set_option linter.unusedSimpArgs false
end Go.Proofs.YtehadoecnmfeoaaGreat
/- The elder look at the runs: walk. -/
namespace Go.Proofs.YtehadoecnmfeoaaGreat
open Go.RowKit
set_option linter.unusedVariables false
set_option linter.unusedSimpArgs false
/-- What is wrong with the runs. -/
def treE (l : Lo) : Int := if l.ss.length = 0 ∨ l.us.length + 1 ≠ l.ss.length then 61 else if l.us.all (Ru.ok l.ss) = false then 61 else if l.full = false then 61 else 0
/-- A row of marks. -/
def MkAt (w : World) (b : Nat) (m : List Bool) : Prop := w.heap[b]? = some (.cells (m.map Value.bool).toArray 4 (0, 0))
end Go.Proofs.YtehadoecnmfeoaaGreat
/- The elder Check: walk. -/
namespace Go.Proofs.YtehadoecnmfeoaaGreat
open Go.RowKit
set_option linter.unusedVariables false
set_option linter.unusedSimpArgs false
end Go.Proofs.YtehadoecnmfeoaaGreat
/- Formulas copied: walk. -/
namespace Go.Proofs.YtehadoecnmfeoaaGreat
open Go.RowKit
set_option linter.unusedVariables false
set_option linter.unusedSimpArgs false
/-- Formulas in rows of their own, in a row of the call's own. -/
structure FoS (w0 wr : World) (B : Nat) (v : Value) (L : List (List Int)) (vs : List Value) : Prop where
  below : Below w0.heap.size w0 wr
  len : vs.length = L.length
  own : wr.ownsRow B 46 1 v L.length vs
  row : ∀ i, i < L.length → wr.ownsRow B 3 1 (vs.getD i undef) (L.getD i []).length ((L.getD i []).map (Value.int .i64))
  lt : w0.heap.size ≤ B ∧ B ≤ wr.heap.size
end Go.Proofs.YtehadoecnmfeoaaGreat
/- The elder search for a way: walk. -/
namespace Go.Proofs.YtehadoecnmfeoaaGreat
open Go.RowKit
set_option linter.unusedVariables false
set_option linter.unusedSimpArgs false
/-- What a search that leads there gives. -/
def WkYes (w : World) (rs : List (Nat × Nat)) (back : Int) (a b : Nat) (Q : List Nat) (e : Ending) (w' : World) : Prop :=
  ∃ (P : List Nat) (Ad : Addr) (cap : Nat), WayP rs back a P b ∧ e = .returned (.slice (some Ad) (Q ++ P).length cap) ∧ Nods w' w'.heap.size (.slice (some Ad) (Q ++ P).length cap) (Q ++ P) ∧ Below w.heap.size w w'
def WkNo (w : World) (e : Ending) (w' : World) : Prop := e = .returned (.slice none 0 0) ∧ Below w.heap.size w w'
end Go.Proofs.YtehadoecnmfeoaaGreat

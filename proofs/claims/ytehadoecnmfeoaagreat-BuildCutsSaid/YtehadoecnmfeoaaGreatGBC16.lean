/- Part 16 of this claim's texts: walks and plain laws. -/
import Derived.Test.YtehadoecnmfeoaaGreatRows
import Derived.Test.YtehadoecnmfeoaaGreatGBC15
import Derived.Test.YtehadoecnmfeoaaGreatGBC1
/- The wires through a run; copper: plain laws. -/
namespace Go.Proofs.YtehadoecnmfeoaaGreat
set_option linter.unusedVariables false
set_option linter.unusedSimpArgs false
set_option linter.unusedSectionVars false
section
variable {rs : List (Nat × Nat)} {n : Nat} (T : TreeR rs n)
include T
theorem TreeR.part {k a b x y : Nat} (hk : k < rs.length) (hi : Inc rs k a b) (hx : x < n) (hy : y < n) : (Rch rs k a x ↔ Rch rs k a y) ↔ Rch rs k x y := by
  constructor
  · intro h
    rcases T.sides hk hi hx with h1 | h1 <;> rcases T.sides hk hi hy with h2 | h2
    · exact h1.symm.trans h2
    · exact h1.symm.trans (h.1 h1)
    · exact (h.2 h2).symm.trans h2
    · exact h1.symm.trans h2
  · intro h
    exact ⟨fun q => q.trans h, fun q => q.trans h.symm⟩
end
theorem sumN_swap (g : Nat → Nat → Int) (m : Nat) : ∀ k, sumN (fun i => sumN (fun j => g i j) m) k = sumN (fun j => sumN (fun i => g i j) k) m
  | 0 => by
    show (0 : Int) = sumN (fun j => 0) m
    rw [sumN_zero]
  | k + 1 => by
    show sumN _ k + sumN (fun j => g k j) m = sumN (fun j => sumN (fun i => g i j) k + g k j) m
    rw [sumN_swap g m k, ← sumN_add]
theorem sumN_mul (f : Nat → Int) (c : Int) : ∀ m, sumN f m * c = sumN (fun k => f k * c) m
  | 0 => by simp [sumN]
  | m + 1 => by
    show (sumN f m + f m) * c = sumN _ m + f m * c
    rw [Int.add_mul, sumN_mul f c m]
open Classical in
theorem copper_runs (rs : List (Nat × Nat)) (f : Nat → Int) (m : Nat) (has : Nat → Bool) (size : Nat → Int) (u v : Nat → Nat) :
    sumN (fun i => if has i then distN rs f (u i) (v i) * size i else 0) m = sumN (fun k => sumN (fun i => if has i ∧ ¬ Rch rs k (u i) (v i) then size i else 0) m * f k) rs.length := by
  have e1 : ∀ i, (if has i = true then distN rs f (u i) (v i) * size i else 0) = sumN (fun k => (if has i = true ∧ ¬ Rch rs k (u i) (v i) then size i else 0) * f k) rs.length := by
    intro i
    by_cases hh : has i = true
    · rw [if_pos hh]
      unfold distN
      rw [sumN_mul]
      refine sumN_congr fun k _ => ?_
      by_cases hr : Rch rs k (u i) (v i)
      · rw [if_pos hr, if_neg (fun q => q.2 hr)]; simp
      · rw [if_neg hr, if_pos ⟨hh, hr⟩, Int.mul_comm]
    · rw [if_neg hh, sumN_congr (g := fun _ => 0) (fun k _ => by rw [if_neg (fun q => hh q.1)]; simp), sumN_zero]
  rw [sumN_congr fun i _ => e1 i, sumN_swap]
  refine sumN_congr fun k _ => ?_
  rw [sumN_mul]
end Go.Proofs.YtehadoecnmfeoaaGreat
/- The spots of a way; what a search over the runs of a spot finds: plain laws. -/
namespace Go.Proofs.YtehadoecnmfeoaaGreat
set_option linter.unusedVariables false
set_option linter.unusedSimpArgs false
set_option linter.unusedSectionVars false
def farEnd (rs : List (Nat × Nat)) (k x : Nat) : Nat := if (rs.getD k (0, 0)).1 = x then (rs.getD k (0, 0)).2 else (rs.getD k (0, 0)).1
def spotsW (rs : List (Nat × Nat)) : Nat → List Nat → List Nat
  | x, [] => [x]
  | x, k :: P => x :: spotsW rs (farEnd rs k x) P
theorem inc_far {rs : List (Nat × Nat)} {k x y : Nat} (h : Inc rs k x y) : farEnd rs k x = y := by
  unfold farEnd
  rcases h with h | h <;> rw [h] <;> simp only
  · simp
  · split
    · rename_i h1; exact h1.symm
    · rfl
theorem far_inc {rs : List (Nat × Nat)} {k x : Nat} (h : (rs.getD k (0, 0)).1 = x ∨ (rs.getD k (0, 0)).2 = x) : Inc rs k x (farEnd rs k x) := by
  unfold farEnd Inc
  obtain ⟨a, b, hr⟩ : ∃ a b, rs.getD k (0, 0) = (a, b) := ⟨_, _, rfl⟩
  rw [hr] at h ⊢
  simp only at h ⊢
  by_cases h1 : a = x
  · subst h1; rw [if_pos rfl]; exact .inl rfl
  · rw [if_neg h1]
    rcases h with h | h
    · exact absurd h h1
    · subst h; exact .inr rfl
theorem inc_ends {rs : List (Nat × Nat)} {k x y : Nat} (h : Inc rs k x y) : (rs.getD k (0, 0)).1 = x ∨ (rs.getD k (0, 0)).2 = x := by
  rcases h with h | h <;> rw [h]
  · exact .inl rfl
  · exact .inr rfl
theorem far_sum {rs : List (Nat × Nat)} {k x : Nat} (h : (rs.getD k (0, 0)).1 = x ∨ (rs.getD k (0, 0)).2 = x) : (((rs.getD k (0, 0)).1 : Int) + ((rs.getD k (0, 0)).2 : Int) - (x : Int)) = (farEnd rs k x : Nat) := by
  unfold farEnd
  split <;> omega
section
variable {rs : List (Nat × Nat)} {n : Nat} (T : TreeR rs n)
include T
theorem TreeR.none_way {w : Int} {x z : Nat} (hne : x ≠ z) (h : ∀ k, k < rs.length → (k : Int) ≠ w → ((rs.getD k (0, 0)).1 = x ∨ (rs.getD k (0, 0)).2 = x) → ¬ Rch rs k (farEnd rs k x) z) : ¬ Rch rs w x z := by
  intro q
  rcases T.side_some q with e | ⟨k, y, hk, hw, hi, hr⟩
  · exact hne e
  · have := h k hk hw (inc_ends hi)
    rw [inc_far hi] at this
    exact this hr
theorem TreeR.back_same {j k p x : Nat} (hj : j < rs.length) (hk : k < rs.length) (hi : Inc rs j p x) (hk2 : (rs.getD k (0, 0)).1 = x ∨ (rs.getD k (0, 0)).2 = x) : farEnd rs k x = p ↔ k = j := by
  constructor
  · intro h
    have h1 := far_inc hk2
    rw [h] at h1
    exact (T.same hj hk hi.symm h1).symm
  · rintro rfl
    exact inc_far hi.symm
end
theorem stR_ends {rs : List (Nat × Nat)} {w : Int} {s n : Nat} (hs : s < n) (hrs : ∀ k, k < rs.length → (rs.getD k (0, 0)).1 < n ∧ (rs.getD k (0, 0)).2 < n) : (stR rs w s n).length ≤ n := stR_len hs hrs n
end Go.Proofs.YtehadoecnmfeoaaGreat
/- What can be reached in a loom: the reference's marks: plain laws. -/
namespace Go.Proofs.YtehadoecnmfeoaaGreat
set_option linter.unusedVariables false
set_option linter.unusedSimpArgs false
set_option linter.unusedSectionVars false
def setM (m : List Bool) (a b : Nat) : List Bool := m.set a (m.getD a false || m.getD b false)
def stepM (m : List Bool) (r : Nat × Nat) : List Bool := setM (setM m r.1 r.2) r.2 r.1
def scanM (rs : List (Nat × Nat)) (m : List Bool) : Nat → List Bool
  | 0 => m
  | k + 1 => stepM (scanM rs m k) (rs.getD k (0, 0))
def passM (rs : List (Nat × Nat)) (n : Nat) : Nat → List Bool
  | 0 => (List.replicate n false).set 0 true
  | j + 1 => scanM rs (passM rs n j) rs.length
def LeM (m m' : List Bool) : Prop := m.length = m'.length ∧ ∀ y, m.getD y false = true → m'.getD y false = true
theorem LeM.refl (m : List Bool) : LeM m m := ⟨rfl, fun _ h => h⟩
theorem LeM.trans {a b c : List Bool} (h : LeM a b) (k : LeM b c) : LeM a c := ⟨h.1.trans k.1, fun y q => k.2 y (h.2 y q)⟩
theorem LeM.tail {a b : Bool} {l m : List Bool} (h : LeM (a :: l) (b :: m)) : LeM l m := ⟨by have := h.1; simp at this; exact this, fun y q => by have := h.2 (y + 1); simpa using this (by simpa using q)⟩
theorem LeM.count : ∀ {l m : List Bool}, LeM l m → l.count true ≤ m.count true ∧ (l.count true = m.count true → l = m)
  | [], [], _ => ⟨Nat.le_refl _, fun _ => rfl⟩
  | [], b :: m, h => by have := h.1; simp at this
  | a :: l, [], h => by have := h.1; simp at this
  | a :: l, b :: m, h => by
    obtain ⟨h1, h2⟩ := LeM.count h.tail
    have h0 := h.2 0
    simp at h0
    cases a <;> cases b
    · refine ⟨by simpa using h1, fun e => by rw [h2 (by simpa using e)]⟩
    · refine ⟨by simp; omega, fun e => ?_⟩
      simp at e
      omega
    · simp at h0
    · refine ⟨by simpa using h1, fun e => by rw [h2 (by simpa using e)]⟩
theorem LeM.antisymm {l m : List Bool} (h : LeM l m) (k : LeM m l) : l = m := h.count.2 (Nat.le_antisymm h.count.1 k.count.1)
theorem getD_set (m : List Bool) (a : Nat) (v : Bool) (y : Nat) : (m.set a v).getD y false = if a = y ∧ a < m.length then v else m.getD y false := by
  rw [List.getD_eq_getElem?_getD, List.getD_eq_getElem?_getD, List.getElem?_set]
  by_cases h : a = y
  · subst h
    by_cases h2 : a < m.length
    · simp [h2]
    · simp [h2]
  · simp [h]
theorem setM_le (m : List Bool) (a b : Nat) : LeM m (setM m a b) := by
  refine ⟨by simp [setM], fun y h => ?_⟩
  unfold setM
  rw [getD_set]
  split
  · rename_i h1
    rw [h1.1, h]; rfl
  · exact h
theorem stepM_le (m : List Bool) (r : Nat × Nat) : LeM m (stepM m r) := (setM_le ..).trans (setM_le ..)
theorem scanM_le (rs : List (Nat × Nat)) (m : List Bool) {j k : Nat} (h : j ≤ k) : LeM (scanM rs m j) (scanM rs m k) := by
  induction k with
  | zero => rw [show j = 0 by omega]; exact LeM.refl _
  | succ k ih =>
    rcases Nat.lt_or_ge j (k + 1) with h1 | h1
    · exact (ih (by omega)).trans (stepM_le ..)
    · rw [show j = k + 1 by omega]; exact LeM.refl _
theorem passM_le (rs : List (Nat × Nat)) (n : Nat) {i j : Nat} (h : i ≤ j) : LeM (passM rs n i) (passM rs n j) := by
  induction j with
  | zero => rw [show i = 0 by omega]; exact LeM.refl _
  | succ j ih =>
    rcases Nat.lt_or_ge i (j + 1) with h1 | h1
    · exact (ih (by omega)).trans (scanM_le rs (passM rs n j) (Nat.zero_le _))
    · rw [show i = j + 1 by omega]; exact LeM.refl _
theorem passM_len (rs : List (Nat × Nat)) (n j : Nat) : (passM rs n j).length = n := by
  rw [← (passM_le rs n (Nat.zero_le j)).1]
  simp [passM]
theorem scanM_len (rs : List (Nat × Nat)) (m : List Bool) (k : Nat) : (scanM rs m k).length = m.length := (scanM_le rs m (Nat.zero_le k)).1.symm
theorem scanM_closed {rs : List (Nat × Nat)} {m : List Bool} (h : scanM rs m rs.length = m) {k : Nat} (hk : k < rs.length) {a b : Nat} (hr : rs.getD k (0, 0) = (a, b)) (ha : a < m.length) (hb : b < m.length) :
    m.getD a false = m.getD b false := by
  have e1 : scanM rs m k = m := LeM.antisymm (by have := scanM_le rs m (show k ≤ rs.length by omega); rw [h] at this; exact this) (scanM_le rs m (Nat.zero_le k))
  have e2 : stepM m (a, b) = m := by
    refine LeM.antisymm ?_ (stepM_le ..)
    have h1 := scanM_le rs m (show k + 1 ≤ rs.length by omega)
    rw [h] at h1
    have h2 : scanM rs m (k + 1) = stepM (scanM rs m k) (rs.getD k (0, 0)) := rfl
    rw [h2, e1, hr] at h1
    exact h1
  have e3 : setM m a b = m := LeM.antisymm (by have h1 : LeM (setM m a b) (stepM m (a, b)) := setM_le ..; rw [e2] at h1; exact h1) (setM_le ..)
  have e4 : setM m b a = m := by
    have h1 : stepM m (a, b) = setM (setM m a b) b a := rfl
    rw [e2, e3] at h1
    exact h1.symm
  have f3 := congrArg (fun x => x.getD a false) e3
  have f4 := congrArg (fun x => x.getD b false) e4
  simp only [setM] at f3 f4
  rw [getD_set, if_pos ⟨rfl, ha⟩] at f3
  rw [getD_set, if_pos ⟨rfl, hb⟩] at f4
  cases h1 : m.getD a false <;> cases h2 : m.getD b false <;> rw [h1, h2] at f3 f4 <;> simp_all
section
variable {rs : List (Nat × Nat)} {n : Nat} (hn : 0 < n) (hrs : ∀ k, k < rs.length → (rs.getD k (0, 0)).1 < n ∧ (rs.getD k (0, 0)).2 < n)
include hn hrs
theorem passM_zero (j : Nat) : (passM rs n j).getD 0 false = true := by
  refine (passM_le rs n (Nat.zero_le j)).2 0 ?_
  show ((List.replicate n false).set 0 true).getD 0 false = true
  rw [getD_set, if_pos ⟨rfl, by simpa using hn⟩]
theorem setM_rch {m : List Bool} (h : ∀ y, m.getD y false = true → Rch rs (-1) 0 y) {k a b : Nat} (hk : k < rs.length) (hr : rs.getD k (0, 0) = (a, b) ∨ rs.getD k (0, 0) = (b, a)) : ∀ y, (setM m a b).getD y false = true → Rch rs (-1) 0 y := by
  intro y hy
  unfold setM at hy
  rw [getD_set] at hy
  split at hy
  · rename_i h1
    rw [Bool.or_eq_true] at hy
    rcases hy with h2 | h2
    · exact h1.1 ▸ h a h2
    · rw [← h1.1]
      rcases hr with h3 | h3
      · exact .bwd (h b h2) hk (by omega) h3
      · exact .fwd (h b h2) hk (by omega) h3
  · exact h y hy
theorem scanM_rch {m : List Bool} (h : ∀ y, m.getD y false = true → Rch rs (-1) 0 y) : ∀ k, k ≤ rs.length → ∀ y, (scanM rs m k).getD y false = true → Rch rs (-1) 0 y
  | 0, _, y, hy => h y hy
  | k + 1, hk, y, hy => by
    obtain ⟨a, b, hr⟩ : ∃ a b, rs.getD k (0, 0) = (a, b) := ⟨_, _, rfl⟩
    have hy' : (setM (setM (scanM rs m k) (rs.getD k (0, 0)).1 (rs.getD k (0, 0)).2) (rs.getD k (0, 0)).2 (rs.getD k (0, 0)).1).getD y false = true := hy
    rw [hr] at hy'
    exact setM_rch hn hrs (setM_rch hn hrs (scanM_rch h k (by omega)) (by omega) (.inl hr)) (by omega) (.inr hr) y hy'
theorem passM_rch : ∀ j y, (passM rs n j).getD y false = true → Rch rs (-1) 0 y
  | 0, y, hy => by
    have hy' : ((List.replicate n false).set 0 true).getD y false = true := hy
    rw [getD_set] at hy'
    split at hy'
    · rename_i h; rw [← h.1]; exact .base
    · rw [List.getD_eq_getElem?_getD, List.getElem?_replicate] at hy'
      split at hy' <;> simp at hy'
  | j + 1, y, hy => scanM_rch hn hrs (passM_rch j) _ (Nat.le_refl _) y hy
theorem passM_stops : ∃ j, j < n ∧ passM rs n (j + 1) = passM rs n j := by
  refine Decidable.byContradiction fun hne => ?_
  have key : ∀ j, j ≤ n → j + 1 ≤ (passM rs n j).count true := by
    intro j
    induction j with
    | zero =>
      intro _
      have h1 : true ∈ passM rs n 0 := by
        have h2 := passM_zero hn hrs 0
        rw [List.getD_eq_getElem?_getD, List.getElem?_eq_getElem (by rw [passM_len]; exact hn)] at h2
        simp only [Option.getD_some] at h2
        rw [← h2]
        exact List.getElem_mem _
      exact List.count_pos_iff.2 h1
    | succ j ih =>
      intro hj
      have h1 := ih (by omega)
      have h2 := (passM_le rs n (show j ≤ j + 1 by omega)).count
      rcases Nat.lt_or_eq_of_le h2.1 with h3 | h3
      · omega
      · exact absurd ⟨j, by omega, (h2.2 h3).symm⟩ hne
  have h1 := key n (Nat.le_refl _)
  have h2 : (passM rs n n).count true ≤ (passM rs n n).length := List.count_le_length
  rw [passM_len] at h2
  omega
theorem passM_all (y : Nat) : (passM rs n n).getD y false = true ↔ Rch rs (-1) 0 y := by
  refine ⟨passM_rch hn hrs n y, fun h => ?_⟩
  obtain ⟨j, hj, he⟩ := passM_stops hn hrs
  have hcl : ∀ {k : Nat}, k < rs.length → ∀ {a b : Nat}, rs.getD k (0, 0) = (a, b) → (passM rs n j).getD a false = (passM rs n j).getD b false := by
    intro k hk a b hr
    have h1 := hrs k hk
    rw [hr] at h1
    exact scanM_closed he hk hr (by rw [passM_len]; exact h1.1) (by rw [passM_len]; exact h1.2)
  refine (passM_le rs n (show j ≤ n by omega)).2 y ?_
  induction h with
  | base => exact passM_zero hn hrs j
  | fwd _ hk _ hr ih => rw [← hcl hk hr]; exact ih
  | bwd _ hk _ hr ih => rw [hcl hk hr]; exact ih
theorem tree_same {i : Nat} (hi : (stR rs (-1) 0 i).length ≤ i) : (stR rs (-1) 0 i).length = n ↔ ∀ y, y < n → (passM rs n n).getD y false = true := by
  rw [stR_full hn hrs hi]
  exact ⟨fun h y hy => (passM_all hn hrs y).2 (h y hy), fun h y hy => (passM_all hn hrs y).1 (h y hy)⟩
end
end Go.Proofs.YtehadoecnmfeoaaGreat
/- Looms, and which error one has. Plain. -/
namespace Go.Proofs.YtehadoecnmfeoaaGreat
set_option linter.unusedVariables false
set_option linter.unusedSimpArgs false
structure Sp where
  x : Int
  y : Int
  z : Int
def Sp.o : Sp := ⟨0, 0, 0⟩
structure Ru where
  a : Int
  b : Int
  len : Int
  room : Int
def Ru.o : Ru := ⟨0, 0, 0, 0⟩
structure Pl where
  name : ByteArray
  spot : Int
  cav : Int
def Pl.o : Pl := ⟨ByteArray.empty, 0, 0⟩
structure Wi where
  name : ByteArray
  fp : Int
  fc : Int
  tp : Int
  tc : Int
  size : Int
  form : List Int
def Wi.o : Wi := ⟨ByteArray.empty, 0, 0, 0, 0, 0, []⟩
structure Lo where
  m : Mo
  ss : List Sp
  us : List Ru
  ps : List Pl
  ws : List Wi

def lowB (l : List UInt8) : Bool := decide (1 ≤ l.length) && decide (l.length ≤ 8) && l.all smN
def btw (n lo hi : Int) : Bool := decide (lo ≤ n) && decide (n ≤ hi)
theorem btw_iff {n lo hi : Int} : btw n lo hi = true ↔ lo ≤ n ∧ n ≤ hi := by simp [btw]
def Sp.ok (s : Sp) : Bool := btw s.x (-100000) 100000 && btw s.y (-100000) 100000 && btw s.z (-100000) 100000
def sqS (a b : Sp) : Int := (a.x - b.x) * (a.x - b.x) + (a.y - b.y) * (a.y - b.y) + (a.z - b.z) * (a.z - b.z)
def Ru.ok (ss : List Sp) (r : Ru) : Bool :=
  btw r.a 0 ((ss.length : Int) - 1) && btw r.b 0 ((ss.length : Int) - 1) && decide (r.a ≠ r.b) && btw r.len 1 1000000 && btw r.room 0 1000000 && decide (sqS (ss.getD r.a.toNat Sp.o) (ss.getD r.b.toNat Sp.o) ≤ r.len * r.len)
def Lo.rs (l : Lo) : List (Nat × Nat) := l.us.map fun r => (r.a.toNat, r.b.toNat)
def bytes (s : ByteArray) : List UInt8 := s.data.toList
def plOk (l : Lo) (i : Nat) : Bool :=
  lowB (bytes (l.ps.getD i Pl.o).name) && !((l.ps.take i).any fun q => bytes q.name == bytes (l.ps.getD i Pl.o).name) && btw (l.ps.getD i Pl.o).spot 0 ((l.ss.length : Int) - 1) && btw (l.ps.getD i Pl.o).cav 1 40
def pinOk (l : Lo) (p c : Int) : Bool := btw p 0 ((l.ps.length : Int) - 1) && btw c 0 ((l.ps.getD p.toNat Pl.o).cav - 1)
def wiOk (l : Lo) (i : Nat) : Bool :=
  lowB (bytes (l.ws.getD i Wi.o).name) && !((l.ws.take i).any fun q => bytes q.name == bytes (l.ws.getD i Wi.o).name) && pinOk l (l.ws.getD i Wi.o).fp (l.ws.getD i Wi.o).fc && pinOk l (l.ws.getD i Wi.o).tp (l.ws.getD i Wi.o).tc &&
    !(decide ((l.ws.getD i Wi.o).fp = (l.ws.getD i Wi.o).tp) && decide ((l.ws.getD i Wi.o).fc = (l.ws.getD i Wi.o).tc)) && btw (l.ws.getD i Wi.o).size 1 10000
def wiErr (l : Lo) (i : Nat) : Int := if wiOk l i = false then 63 else if validF l.m.opts.length (l.ws.getD i Wi.o).form = false then 11 else 0
def wiresErr (l : Lo) : Nat → Int
  | 0 => 0
  | i + 1 => if wiresErr l i ≠ 0 then wiresErr l i else wiErr l i
theorem wiresErr_at {l : Lo} {i : Nat} (h : ∀ j, j < i → wiErr l j = 0) : wiresErr l i = 0 := by
  induction i with
  | zero => rfl
  | succ i ih =>
    have h1 := ih fun j hj => h j (by omega)
    show (if wiresErr l i ≠ 0 then _ else _) = _
    rw [if_neg (by rw [h1]; simp), h i (by omega)]
theorem wiresErr_stays {l : Lo} {i n : Nat} (h : wiresErr l i ≠ 0) (hn : i ≤ n) : wiresErr l n = wiresErr l i := by
  induction n with
  | zero => rw [show i = 0 by omega]
  | succ n ih =>
    rcases Nat.lt_or_ge i (n + 1) with h1 | h1
    · have h2 := ih (by omega)
      show (if wiresErr l n ≠ 0 then _ else _) = _
      rw [h2, if_pos h]
    · rw [show i = n + 1 by omega]
theorem wiresErr_first {l : Lo} {i n : Nat} (h : ∀ j, j < i → wiErr l j = 0) (hi : wiErr l i ≠ 0) (hn : i < n) : wiresErr l n = wiErr l i := by
  have h1 : wiresErr l (i + 1) = wiErr l i := by
    show (if wiresErr l i ≠ 0 then _ else _) = _
    rw [wiresErr_at h, if_neg (by simp)]
  rw [wiresErr_stays (i := i + 1) (by rw [h1]; exact hi) (by omega), h1]
def Lo.full (l : Lo) : Bool := decide ((stR l.rs (-1) 0 l.ss.length).length = l.ss.length)
def Lo.many (l : Lo) : Bool := decide (40 < l.ss.length) || decide (40 < l.us.length) || decide (30 < l.ps.length) || decide (60 < l.ws.length)
def Lo.err (l : Lo) : Int :=
  if l.m.err ≠ 0 then l.m.err else if l.many then 2 else if l.ss.all Sp.ok = false then 60 else if l.ss.length = 0 ∨ l.us.length + 1 ≠ l.ss.length then 61 else if l.us.all (Ru.ok l.ss) = false then 61 else if l.full = false then 61
  else if (List.range l.ps.length).all (plOk l) = false then 62 else wiresErr l l.ws.length
structure LoOk (l : Lo) : Prop where
  m : l.m.err = 0
  s40 : l.ss.length ≤ 40
  u40 : l.us.length ≤ 40
  p30 : l.ps.length ≤ 30
  w60 : l.ws.length ≤ 60
  ss : ∀ x ∈ l.ss, x.ok = true
  us : ∀ x ∈ l.us, x.ok l.ss = true
  tree : TreeR l.rs l.ss.length
  ps : ∀ i, i < l.ps.length → plOk l i = true
  ws : ∀ i, i < l.ws.length → wiErr l i = 0
theorem rs_getD (l : Lo) {k : Nat} (hk : k < l.us.length) : l.rs.getD k (0, 0) = ((l.us.getD k Ru.o).a.toNat, (l.us.getD k Ru.o).b.toNat) := by
  simp [Lo.rs, hk]
theorem rs_len (l : Lo) : l.rs.length = l.us.length := by simp [Lo.rs]
theorem rs_lt {l : Lo} (h : ∀ x ∈ l.us, x.ok l.ss = true) : ∀ k, k < l.rs.length → (l.rs.getD k (0, 0)).1 < l.ss.length ∧ (l.rs.getD k (0, 0)).2 < l.ss.length := by
  intro k hk
  rw [rs_len] at hk
  rw [rs_getD l hk]
  have h1 := h (l.us.getD k Ru.o) (by rw [List.getD_eq_getElem?_getD, List.getElem?_eq_getElem hk]; exact List.getElem_mem hk)
  unfold Ru.ok at h1
  simp only [Bool.and_eq_true, btw_iff] at h1
  obtain ⟨⟨⟨⟨⟨h2, h3⟩, _⟩, _⟩, _⟩, _⟩ := h1
  constructor <;> simp only <;> omega
theorem wiresErr_zero {l : Lo} : ∀ {n : Nat}, wiresErr l n = 0 → ∀ i, i < n → wiErr l i = 0
  | 0, _, i, hi => by omega
  | n + 1, h, i, hi => by
    have h' : (if wiresErr l n ≠ 0 then wiresErr l n else wiErr l n) = 0 := h
    by_cases h1 : wiresErr l n = 0
    · rw [if_neg (by simp [h1])] at h'
      rcases Nat.lt_or_ge i n with h2 | h2
      · exact wiresErr_zero h1 i h2
      · rw [show i = n by omega]; exact h'
    · rw [if_pos h1] at h'
      exact absurd h' h1
theorem Lo.err_ok {l : Lo} (h : l.err = 0) : LoOk l := by
  unfold Lo.err at h
  by_cases h1 : l.m.err = 0
  · rw [if_neg (by simp [h1])] at h
    by_cases h2 : l.many = true
    · rw [if_pos h2] at h; omega
    rw [if_neg h2] at h
    by_cases h3 : l.ss.all Sp.ok = false
    · rw [if_pos h3] at h; omega
    rw [if_neg h3] at h
    by_cases h4 : l.ss.length = 0 ∨ l.us.length + 1 ≠ l.ss.length
    · rw [if_pos h4] at h; omega
    rw [if_neg h4] at h
    by_cases h5 : l.us.all (Ru.ok l.ss) = false
    · rw [if_pos h5] at h; omega
    rw [if_neg h5] at h
    by_cases h6 : l.full = false
    · rw [if_pos h6] at h; omega
    rw [if_neg h6] at h
    by_cases h7 : (List.range l.ps.length).all (plOk l) = false
    · rw [if_pos h7] at h; omega
    rw [if_neg h7] at h
    simp only [Lo.many, Bool.or_eq_true, decide_eq_true_eq, not_or] at h2
    have hu : ∀ x ∈ l.us, x.ok l.ss = true := List.all_eq_true.1 (by simpa using h5)
    have hn : 0 < l.ss.length := by omega
    have hf : (stR l.rs (-1) 0 l.ss.length).length = l.ss.length := by simpa [Lo.full] using h6
    exact ⟨h1, by omega, by omega, by omega, by omega, List.all_eq_true.1 (by simpa using h3), hu,
      ⟨by rw [rs_len]; omega, rs_lt hu, (stR_full hn (rs_lt hu) (stR_ends hn (rs_lt hu))).1 hf⟩,
      fun i hi => by have := List.all_eq_true.1 (show (List.range l.ps.length).all (plOk l) = true by simpa using h7) i (by simpa using hi); exact this, wiresErr_zero h⟩
  · rw [if_pos h1] at h
    exact absurd h h1
theorem full_marks {l : Lo} (hu : ∀ x ∈ l.us, x.ok l.ss = true) (hn : 0 < l.ss.length) : l.full = (List.range l.ss.length).all fun y => (passM l.rs l.ss.length l.ss.length).getD y false := by
  have h := tree_same hn (rs_lt hu) (stR_ends (w := -1) hn (rs_lt hu))
  unfold Lo.full
  by_cases h1 : (stR l.rs (-1) 0 l.ss.length).length = l.ss.length
  · rw [decide_eq_true h1]
    exact (List.all_eq_true.2 fun y hy => h.1 h1 y (by simpa using hy)).symm
  · rw [decide_eq_false h1]
    symm
    rw [← Bool.not_eq_true, List.all_eq_true]
    exact fun q => h1 (h.2 fun y hy => q y (by simpa using hy))
end Go.Proofs.YtehadoecnmfeoaaGreat

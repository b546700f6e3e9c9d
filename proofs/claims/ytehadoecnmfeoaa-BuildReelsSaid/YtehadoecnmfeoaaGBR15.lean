/- Part 15 of this claim's texts: walks and plain laws. -/
import Derived.Test.YtehadoecnmfeoaaRows
import Derived.Test.YtehadoecnmfeoaaGBR14
import Derived.Test.YtehadoecnmfeoaaGBR1
import Derived.Test.YtehadoecnmfeoaaGBR10
import Derived.Test.YtehadoecnmfeoaaGBR9
import Derived.Test.YtehadoecnmfeoaaGBR8
import Derived.WalkLawsBesides
import Derived.WalkSpells
import Derived.Deep.QuietTactic
/- The list of what is reached, in order: each spot but the first has a neighbour before it; distances measured along it: plain laws. -/
namespace Go.Proofs.Ytehadoecnmfeoaa
set_option linter.unusedVariables false
set_option linter.unusedSimpArgs false
set_option linter.unusedSectionVars false
/-- Each but the first has a neighbour before it. -/
def ParL (rs : List (Nat × Nat)) (w : Int) (out : List Nat) : Prop := ∀ p, 0 < p → p < out.length → ∃ q k, q < p ∧ k < rs.length ∧ (k : Int) ≠ w ∧ Inc rs k (out.getD q 0) (out.getD p 0)
theorem snoc_getD {l : List Nat} {b i : Nat} (h : i < l.length) : (l ++ [b]).getD i 0 = l.getD i 0 := pre_getD (List.prefix_append _ _) h
theorem snoc_last {l : List Nat} {b : Nat} : (l ++ [b]).getD l.length 0 = b := by simp [List.getD_eq_getElem?_getD]
theorem ParL.stepA {rs : List (Nat × Nat)} {w : Int} {out : List Nat} (h : ParL rs w out) {i x k a b : Nat} (hi : i < out.length) (hx : out.getD i 0 = x) (hk : k < rs.length) (hr : Inc rs k a b) : ParL rs w (stepA w x out k a b) := by
  unfold Go.Proofs.Ytehadoecnmfeoaa.stepA
  split
  · rename_i h1
    obtain ⟨h1, rfl, h3⟩ := h1
    intro p hp hl
    by_cases hpl : p < out.length
    · obtain ⟨q, j, hq, hj, hw, hinc⟩ := h p hp hpl
      exact ⟨q, j, hq, hj, hw, by rw [snoc_getD (by omega), snoc_getD hpl]; exact hinc⟩
    · have hpe : p = out.length := by simp at hl; omega
      subst hpe
      exact ⟨i, k, hi, hk, h1, by rw [snoc_getD hi, snoc_last, hx]; exact hr⟩
  · exact h
theorem getD_inj {l : List Nat} (hd : l.Nodup) {p q : Nat} (hp : p < l.length) (hq : q < l.length) (h : l.getD p 0 = l.getD q 0) : p = q := by
  rw [List.getD_eq_getElem?_getD, List.getD_eq_getElem?_getD, List.getElem?_eq_getElem hp, List.getElem?_eq_getElem hq] at h
  simp only [Option.getD_some] at h
  have hpw := List.pairwise_iff_getElem.1 hd
  rcases Nat.lt_trichotomy p q with h1 | h1 | h1
  · exact absurd h (hpw p q hp hq h1)
  · exact h1
  · exact absurd h.symm (hpw q p hq hp h1)
/-- What stands before a spot in the list hangs together without the runs of that spot. -/
theorem ParL.before {rs : List (Nat × Nat)} {w : Int} {l : List Nat} (h : ParL rs w l) (hd : l.Nodup) {p k : Nat} (hp : p < l.length) {a : Nat} (hi : Inc rs k a (l.getD p 0)) : ∀ q, q < p → Rch rs k (l.getD 0 0) (l.getD q 0)
  | 0, _ => .base
  | q + 1, hq => by
    obtain ⟨r, j, hr, hj, _, hinc⟩ := h (q + 1) (by omega) (by omega)
    have ih := ParL.before h hd hp hi r (by omega)
    refine ih.step hj (fun e => ?_) hinc
    have e' : j = k := by omega
    subst e'
    have h3 : l.getD p 0 = l.getD r 0 ∨ l.getD p 0 = l.getD (q + 1) 0 := by
      rcases hinc with h1 | h1 <;> rcases hi with h2 | h2 <;> rw [h1] at h2 <;> injection h2 with e1 e2
      · exact .inr e2.symm
      · exact .inl e1.symm
      · exact .inl e2.symm
      · exact .inr e1.symm
    rcases h3 with h3 | h3
    · have := getD_inj hd hp (by omega) h3; omega
    · have := getD_inj hd hp (by omega) h3; omega
termination_by q => q
end Go.Proofs.Ytehadoecnmfeoaa
/- The wires through a run; copper: plain laws. -/
namespace Go.Proofs.Ytehadoecnmfeoaa
set_option linter.unusedVariables false
set_option linter.unusedSimpArgs false
set_option linter.unusedSectionVars false
section
variable {rs : List (Nat × Nat)} {n : Nat} (T : TreeR rs n)
include T
/-- Two spots are parted by a run exactly if one alone lies on its first spot's side. -/
theorem TreeR.part {k a b x y : Nat} (hk : k < rs.length) (hi : Inc rs k a b) (hx : x < n) (hy : y < n) : (Rch rs k a x ↔ Rch rs k a y) ↔ Rch rs k x y := by
  constructor
  · intro h
    rcases T.sides hk hi hx with h1 | h1 <;> rcases T.sides hk hi hy with h2 | h2
    · exact h1.symm.trans h2
    · exact h1.symm.trans (h.1 h1)
    · exact (h.2 h2).symm.trans h2
    · exact h1.symm.trans h2
  · intro h
    exact ⟨fun q => q.trans h, fun q => q.trans h.symm⟩
/-- The list of a side, as the program takes it. -/
theorem TreeR.side_list {k a b x y i : Nat} (hk : k < rs.length) (hi : Inc rs k a b) (hx : x < n) (hy : y < n) (hl : (stR rs k a i).length ≤ i) : (decide (x ∈ stR rs k a i) != decide (y ∈ stR rs k a i)) = true ↔ ¬ Rch rs k x y := by
  rw [← T.part hk hi hx hy, ← stR_all hl x, ← stR_all hl y]
  by_cases h1 : x ∈ stR rs k a i <;> by_cases h2 : y ∈ stR rs k a i <;> simp [h1, h2]
end
/-- The order of two sums does not matter. -/
theorem sumN_swap (g : Nat → Nat → Int) (m : Nat) : ∀ k, sumN (fun i => sumN (fun j => g i j) m) k = sumN (fun j => sumN (fun i => g i j) k) m
  | 0 => by
    show (0 : Int) = sumN (fun j => 0) m
    rw [sumN_zero]
  | k + 1 => by
    show sumN _ k + sumN (fun j => g k j) m = sumN (fun j => sumN (fun i => g i j) k + g k j) m
    rw [sumN_swap g m k, ← sumN_add]
theorem sumN_mul (f : Nat → Int) (c : Int) : ∀ m, sumN f m * c = sumN (fun k => f k * c) m
  | 0 => by simp [sumN]
  | m + 1 => by
    show (sumN f m + f m) * c = sumN _ m + f m * c
    rw [Int.add_mul, sumN_mul f c m]
open Classical in
/-- The copper of all wires is that of all runs. -/
theorem copper_runs (rs : List (Nat × Nat)) (f : Nat → Int) (m : Nat) (has : Nat → Bool) (size : Nat → Int) (u v : Nat → Nat) :
    sumN (fun i => if has i then distN rs f (u i) (v i) * size i else 0) m = sumN (fun k => sumN (fun i => if has i ∧ ¬ Rch rs k (u i) (v i) then size i else 0) m * f k) rs.length := by
  have e1 : ∀ i, (if has i = true then distN rs f (u i) (v i) * size i else 0) = sumN (fun k => (if has i = true ∧ ¬ Rch rs k (u i) (v i) then size i else 0) * f k) rs.length := by
    intro i
    by_cases hh : has i = true
    · rw [if_pos hh]
      unfold distN
      rw [sumN_mul]
      refine sumN_congr fun k _ => ?_
      by_cases hr : Rch rs k (u i) (v i)
      · rw [if_pos hr, if_neg (fun q => q.2 hr)]; simp
      · rw [if_neg hr, if_pos ⟨hh, hr⟩, Int.mul_comm]
    · rw [if_neg hh, sumN_congr (g := fun _ => 0) (fun k _ => by rw [if_neg (fun q => hh q.1)]; simp), sumN_zero]
  rw [sumN_congr fun i _ => e1 i, sumN_swap]
  refine sumN_congr fun k _ => ?_
  rw [sumN_mul]
end Go.Proofs.Ytehadoecnmfeoaa
/- The spots of a way; what a search over the runs of a spot finds: plain laws. -/
namespace Go.Proofs.Ytehadoecnmfeoaa
set_option linter.unusedVariables false
set_option linter.unusedSimpArgs false
set_option linter.unusedSectionVars false
/-- The other end of a run. -/
def farEnd (rs : List (Nat × Nat)) (k x : Nat) : Nat := if (rs.getD k (0, 0)).1 = x then (rs.getD k (0, 0)).2 else (rs.getD k (0, 0)).1
/-- The spots of a way. -/
def spotsW (rs : List (Nat × Nat)) : Nat → List Nat → List Nat
  | x, [] => [x]
  | x, k :: P => x :: spotsW rs (farEnd rs k x) P
theorem inc_far {rs : List (Nat × Nat)} {k x y : Nat} (h : Inc rs k x y) : farEnd rs k x = y := by
  unfold farEnd
  rcases h with h | h <;> rw [h] <;> simp only
  · simp
  · split
    · rename_i h1; exact h1.symm
    · rfl
theorem spotsW_first (rs : List (Nat × Nat)) (x : Nat) (P : List Nat) : (spotsW rs x P).getD 0 0 = x := by cases P <;> rfl
theorem WayP.step {rs : List (Nat × Nat)} {w : Int} {x z : Nat} {P : List Nat} (h : WayP rs w x P z) : ∀ t, t < P.length → P.getD t 0 < rs.length ∧ Inc rs (P.getD t 0) ((spotsW rs x P).getD t 0) ((spotsW rs x P).getD (t + 1) 0) := by
  induction h with
  | nil => intro t ht; simp at ht
  | @cons w x y z k P hk _ hi _ _ _ ih =>
    intro t ht
    simp only [spotsW, inc_far hi]
    match t, ht with
    | 0, _ =>
      refine ⟨hk, ?_⟩
      have h1 := spotsW_first rs y P
      simp only [List.getD_cons_zero, List.getD_cons_succ]
      rw [h1]; exact hi
    | t + 1, ht =>
      have := ih t (by simpa using ht)
      simpa using this
section
variable {rs : List (Nat × Nat)} {n : Nat} (T : TreeR rs n)
include T
end
/-- The program's list of what is reached has at most as many rounds as spots: it comes to its end. -/
theorem stR_ends {rs : List (Nat × Nat)} {w : Int} {s n : Nat} (hs : s < n) (hrs : ∀ k, k < rs.length → (rs.getD k (0, 0)).1 < n ∧ (rs.getD k (0, 0)).2 < n) : (stR rs w s n).length ≤ n := stR_len hs hrs n
end Go.Proofs.Ytehadoecnmfeoaa
/- What can be reached in a loom: the reference's marks: plain laws. -/
namespace Go.Proofs.Ytehadoecnmfeoaa
set_option linter.unusedVariables false
set_option linter.unusedSimpArgs false
set_option linter.unusedSectionVars false
def setM (m : List Bool) (a b : Nat) : List Bool := m.set a (m.getD a false || m.getD b false)
def stepM (m : List Bool) (r : Nat × Nat) : List Bool := setM (setM m r.1 r.2) r.2 r.1
def scanM (rs : List (Nat × Nat)) (m : List Bool) : Nat → List Bool
  | 0 => m
  | k + 1 => stepM (scanM rs m k) (rs.getD k (0, 0))
def passM (rs : List (Nat × Nat)) (n : Nat) : Nat → List Bool
  | 0 => (List.replicate n false).set 0 true
  | j + 1 => scanM rs (passM rs n j) rs.length
/-- More marks. -/
def LeM (m m' : List Bool) : Prop := m.length = m'.length ∧ ∀ y, m.getD y false = true → m'.getD y false = true
theorem LeM.refl (m : List Bool) : LeM m m := ⟨rfl, fun _ h => h⟩
theorem LeM.trans {a b c : List Bool} (h : LeM a b) (k : LeM b c) : LeM a c := ⟨h.1.trans k.1, fun y q => k.2 y (h.2 y q)⟩
section
variable {rs : List (Nat × Nat)} {n : Nat} (hn : 0 < n) (hrs : ∀ k, k < rs.length → (rs.getD k (0, 0)).1 < n ∧ (rs.getD k (0, 0)).2 < n)
include hn hrs
end
end Go.Proofs.Ytehadoecnmfeoaa
/- Looms, and which error one has. Plain. -/
namespace Go.Proofs.Ytehadoecnmfeoaa
set_option linter.unusedVariables false
set_option linter.unusedSimpArgs false
structure Sp where
  x : Int
  y : Int
  z : Int
def Sp.o : Sp := ⟨0, 0, 0⟩
structure Ru where
  a : Int
  b : Int
  len : Int
  room : Int
def Ru.o : Ru := ⟨0, 0, 0, 0⟩
structure Pl where
  name : ByteArray
  spot : Int
  cav : Int
def Pl.o : Pl := ⟨ByteArray.empty, 0, 0⟩
structure Wi where
  name : ByteArray
  fp : Int
  fc : Int
  tp : Int
  tc : Int
  size : Int
  form : List Int
def Wi.o : Wi := ⟨ByteArray.empty, 0, 0, 0, 0, 0, []⟩
/-- A loom. -/
structure Lo where
  m : Mo
  ss : List Sp
  us : List Ru
  ps : List Pl
  ws : List Wi

/-- A name of a plug or wire: one to eight small letters. -/
def lowB (l : List UInt8) : Bool := decide (1 ≤ l.length) && decide (l.length ≤ 8) && l.all smN
def btw (n lo hi : Int) : Bool := decide (lo ≤ n) && decide (n ≤ hi)
theorem btw_iff {n lo hi : Int} : btw n lo hi = true ↔ lo ≤ n ∧ n ≤ hi := by simp [btw]
def Sp.ok (s : Sp) : Bool := btw s.x (-100000) 100000 && btw s.y (-100000) 100000 && btw s.z (-100000) 100000
def sqS (a b : Sp) : Int := (a.x - b.x) * (a.x - b.x) + (a.y - b.y) * (a.y - b.y) + (a.z - b.z) * (a.z - b.z)
def Ru.ok (ss : List Sp) (r : Ru) : Bool :=
  btw r.a 0 ((ss.length : Int) - 1) && btw r.b 0 ((ss.length : Int) - 1) && decide (r.a ≠ r.b) && btw r.len 1 1000000 && btw r.room 0 1000000 && decide (sqS (ss.getD r.a.toNat Sp.o) (ss.getD r.b.toNat Sp.o) ≤ r.len * r.len)
/-- The runs, as pairs of spots. -/
def Lo.rs (l : Lo) : List (Nat × Nat) := l.us.map fun r => (r.a.toNat, r.b.toNat)
def bytes (s : ByteArray) : List UInt8 := s.data.toList
def plOk (l : Lo) (i : Nat) : Bool :=
  lowB (bytes (l.ps.getD i Pl.o).name) && !((l.ps.take i).any fun q => bytes q.name == bytes (l.ps.getD i Pl.o).name) && btw (l.ps.getD i Pl.o).spot 0 ((l.ss.length : Int) - 1) && btw (l.ps.getD i Pl.o).cav 1 40
def pinOk (l : Lo) (p c : Int) : Bool := btw p 0 ((l.ps.length : Int) - 1) && btw c 0 ((l.ps.getD p.toNat Pl.o).cav - 1)
def wiOk (l : Lo) (i : Nat) : Bool :=
  lowB (bytes (l.ws.getD i Wi.o).name) && !((l.ws.take i).any fun q => bytes q.name == bytes (l.ws.getD i Wi.o).name) && pinOk l (l.ws.getD i Wi.o).fp (l.ws.getD i Wi.o).fc && pinOk l (l.ws.getD i Wi.o).tp (l.ws.getD i Wi.o).tc &&
    !(decide ((l.ws.getD i Wi.o).fp = (l.ws.getD i Wi.o).tp) && decide ((l.ws.getD i Wi.o).fc = (l.ws.getD i Wi.o).tc)) && btw (l.ws.getD i Wi.o).size 1 10000
/-- The error of the wire with a number. -/
def wiErr (l : Lo) (i : Nat) : Int := if wiOk l i = false then 63 else if validF l.m.opts.length (l.ws.getD i Wi.o).form = false then 11 else 0
/-- The first error of the first wires. -/
def wiresErr (l : Lo) : Nat → Int
  | 0 => 0
  | i + 1 => if wiresErr l i ≠ 0 then wiresErr l i else wiErr l i
/-- Whether the runs are a tree, as the program looks. -/
def Lo.full (l : Lo) : Bool := decide ((stR l.rs (-1) 0 l.ss.length).length = l.ss.length)
def Lo.many (l : Lo) : Bool := decide (40 < l.ss.length) || decide (40 < l.us.length) || decide (30 < l.ps.length) || decide (60 < l.ws.length)
def Lo.err (l : Lo) : Int :=
  if l.m.err ≠ 0 then l.m.err else if l.many then 2 else if l.ss.all Sp.ok = false then 60 else if l.ss.length = 0 ∨ l.us.length + 1 ≠ l.ss.length then 61 else if l.us.all (Ru.ok l.ss) = false then 61 else if l.full = false then 61
  else if (List.range l.ps.length).all (plOk l) = false then 62 else wiresErr l l.ws.length
/-- A loom without an error. -/
structure LoOk (l : Lo) : Prop where
  m : l.m.err = 0
  s40 : l.ss.length ≤ 40
  u40 : l.us.length ≤ 40
  p30 : l.ps.length ≤ 30
  w60 : l.ws.length ≤ 60
  ss : ∀ x ∈ l.ss, x.ok = true
  us : ∀ x ∈ l.us, x.ok l.ss = true
  tree : TreeR l.rs l.ss.length
  ps : ∀ i, i < l.ps.length → plOk l i = true
  ws : ∀ i, i < l.ws.length → wiErr l i = 0
theorem rs_getD (l : Lo) {k : Nat} (hk : k < l.us.length) : l.rs.getD k (0, 0) = ((l.us.getD k Ru.o).a.toNat, (l.us.getD k Ru.o).b.toNat) := by
  simp [Lo.rs, hk]
theorem rs_len (l : Lo) : l.rs.length = l.us.length := by simp [Lo.rs]
theorem rs_lt {l : Lo} (h : ∀ x ∈ l.us, x.ok l.ss = true) : ∀ k, k < l.rs.length → (l.rs.getD k (0, 0)).1 < l.ss.length ∧ (l.rs.getD k (0, 0)).2 < l.ss.length := by
  intro k hk
  rw [rs_len] at hk
  rw [rs_getD l hk]
  have h1 := h (l.us.getD k Ru.o) (by rw [List.getD_eq_getElem?_getD, List.getElem?_eq_getElem hk]; exact List.getElem_mem hk)
  unfold Ru.ok at h1
  simp only [Bool.and_eq_true, btw_iff] at h1
  obtain ⟨⟨⟨⟨⟨h2, h3⟩, _⟩, _⟩, _⟩, _⟩ := h1
  constructor <;> simp only <;> omega
theorem wiresErr_zero {l : Lo} : ∀ {n : Nat}, wiresErr l n = 0 → ∀ i, i < n → wiErr l i = 0
  | 0, _, i, hi => by omega
  | n + 1, h, i, hi => by
    have h' : (if wiresErr l n ≠ 0 then wiresErr l n else wiErr l n) = 0 := h
    by_cases h1 : wiresErr l n = 0
    · rw [if_neg (by simp [h1])] at h'
      rcases Nat.lt_or_ge i n with h2 | h2
      · exact wiresErr_zero h1 i h2
      · rw [show i = n by omega]; exact h'
    · rw [if_pos h1] at h'
      exact absurd h' h1
theorem Lo.err_ok {l : Lo} (h : l.err = 0) : LoOk l := by
  unfold Lo.err at h
  by_cases h1 : l.m.err = 0
  · rw [if_neg (by simp [h1])] at h
    by_cases h2 : l.many = true
    · rw [if_pos h2] at h; omega
    rw [if_neg h2] at h
    by_cases h3 : l.ss.all Sp.ok = false
    · rw [if_pos h3] at h; omega
    rw [if_neg h3] at h
    by_cases h4 : l.ss.length = 0 ∨ l.us.length + 1 ≠ l.ss.length
    · rw [if_pos h4] at h; omega
    rw [if_neg h4] at h
    by_cases h5 : l.us.all (Ru.ok l.ss) = false
    · rw [if_pos h5] at h; omega
    rw [if_neg h5] at h
    by_cases h6 : l.full = false
    · rw [if_pos h6] at h; omega
    rw [if_neg h6] at h
    by_cases h7 : (List.range l.ps.length).all (plOk l) = false
    · rw [if_pos h7] at h; omega
    rw [if_neg h7] at h
    simp only [Lo.many, Bool.or_eq_true, decide_eq_true_eq, not_or] at h2
    have hu : ∀ x ∈ l.us, x.ok l.ss = true := List.all_eq_true.1 (by simpa using h5)
    have hn : 0 < l.ss.length := by omega
    have hf : (stR l.rs (-1) 0 l.ss.length).length = l.ss.length := by simpa [Lo.full] using h6
    exact ⟨h1, by omega, by omega, by omega, by omega, List.all_eq_true.1 (by simpa using h3), hu,
      ⟨by rw [rs_len]; omega, rs_lt hu, (stR_full hn (rs_lt hu) (stR_ends hn (rs_lt hu))).1 hf⟩,
      fun i hi => by have := List.all_eq_true.1 (show (List.range l.ps.length).all (plOk l) = true by simpa using h7) i (by simpa using hi); exact this, wiresErr_zero h⟩
  · rw [if_pos h1] at h
    exact absurd h h1
end Go.Proofs.Ytehadoecnmfeoaa
/- A loom in memory; a loom's argument opened: no condition. -/
namespace Go.Proofs.Ytehadoecnmfeoaa
open Go.Joins Go.ChangeShapes Go.WideShapes Go.ChangeAt Go.RowKit Go.Deep
set_option maxRecDepth 100000
set_option linter.unusedVariables false
set_option linter.unusedSimpArgs false
def spC (s : Sp) : Nat → Value
  | 0 => .int .i64 s.x
  | 1 => .int .i64 s.y
  | _ => .int .i64 s.z
def ruC (s : Ru) : Nat → Value
  | 0 => .int .i64 s.a
  | 1 => .int .i64 s.b
  | 2 => .int .i64 s.len
  | _ => .int .i64 s.room
def plC (s : Pl) : Nat → Value
  | 0 => .string s.name
  | 1 => .int .i64 s.spot
  | _ => .int .i64 s.cav
def wiC (s : Wi) (v : Value) : Nat → Value
  | 0 => .string s.name
  | 1 => .int .i64 s.fp
  | 2 => .int .i64 s.fc
  | 3 => .int .i64 s.tp
  | 4 => .int .i64 s.tc
  | 5 => .int .i64 s.size
  | _ => v
def Sps (w : World) (B : Nat) (v : Value) (l : List Sp) : Prop := Sl w B 3 v l.length fun i j => spC (l.getD i Sp.o) j
def Rus (w : World) (B : Nat) (v : Value) (l : List Ru) : Prop := Sl w B 4 v l.length fun i j => ruC (l.getD i Ru.o) j
def Pls (w : World) (B : Nat) (v : Value) (l : List Pl) : Prop := Sl w B 3 v l.length fun i j => plC (l.getD i Pl.o) j
def Wis (w : World) (B : Nat) (v : Value) (l : List Wi) : Prop := ∃ fv : Nat → Value, Sl w B 7 v l.length (fun i j => wiC (l.getD i Wi.o) (fv i) j) ∧ ∀ i, i < l.length → Ints w B (fv i) (l.getD i Wi.o).form
structure LoAt (w : World) (B : Nat) (ov rv sv uv pv wv : Value) (l : Lo) : Prop where
  m : MoAt w B ov rv l.m
  s : Sps w B sv l.ss
  u : Rus w B uv l.us
  p : Pls w B pv l.ps
  w : Wis w B wv l.ws
/-- What the numbers and lengths of an argument keep to. -/
structure SizedL (l : Lo) : Prop where
  m : SizedM l.m
  s : l.ss.length ≤ maxLen
  u : l.us.length ≤ maxLen
  p : l.ps.length ≤ maxLen
  w : l.ws.length ≤ maxLen
  pn : ∀ x ∈ l.ps, x.name.size ≤ maxLen
  wn : ∀ x ∈ l.ws, x.name.size ≤ maxLen ∧ x.form.length ≤ maxLen
section
variable {H : Type} {enc : TypeId × Value → H} {W : World} {base b0 : Nat} {r : Reach} {spare : Nat → Bool} {held : Bool} {v : Value} {d : DataW H} {p : List MemPlace}
end
end Go.Proofs.Ytehadoecnmfeoaa
/- The first error of a row; the list of what is reached stays. Plain. -/
namespace Go.Proofs.Ytehadoecnmfeoaa
set_option linter.unusedVariables false
set_option linter.unusedSimpArgs false
/-- The first error of the first elements of a row. -/
def firstE (e : Nat → Int) : Nat → Int
  | 0 => 0
  | i + 1 => if firstE e i ≠ 0 then firstE e i else e i
theorem firstE_none {e : Nat → Int} {i : Nat} (h : ∀ j, j < i → e j = 0) : firstE e i = 0 := by
  induction i with
  | zero => rfl
  | succ i ih =>
    have h1 := ih fun j hj => h j (by omega)
    show (if firstE e i ≠ 0 then _ else _) = _
    rw [if_neg (by rw [h1]; simp), h i (by omega)]
theorem firstE_stays {e : Nat → Int} {i n : Nat} (h : firstE e i ≠ 0) (hn : i ≤ n) : firstE e n = firstE e i := by
  induction n with
  | zero => rw [show i = 0 by omega]
  | succ n ih =>
    rcases Nat.lt_or_ge i (n + 1) with h1 | h1
    · have h2 := ih (by omega)
      show (if firstE e n ≠ 0 then _ else _) = _
      rw [h2, if_pos h]
    · rw [show i = n + 1 by omega]
theorem firstE_at {e : Nat → Int} {i n : Nat} (h : ∀ j, j < i → e j = 0) (hi : e i ≠ 0) (hn : i < n) : firstE e n = e i := by
  have h1 : firstE e (i + 1) = e i := by
    show (if firstE e i ≠ 0 then _ else _) = _
    rw [firstE_none h, if_neg (by simp)]
  rw [firstE_stays (i := i + 1) (by rw [h1]; exact hi) (by omega), h1]
theorem firstE_wires (l : Lo) : ∀ n, firstE (wiErr l) n = wiresErr l n
  | 0 => rfl
  | n + 1 => by
    show (if firstE (wiErr l) n ≠ 0 then firstE (wiErr l) n else _) = (if wiresErr l n ≠ 0 then wiresErr l n else _)
    rw [firstE_wires l n]
theorem firstE_must (p : Nat → Bool) {c : Int} (hc : c ≠ 0) : ∀ n, firstE (fun i => if p i then 0 else c) n = if (List.range n).all p = false then c else 0
  | 0 => rfl
  | n + 1 => by
    show (if firstE (fun i => if p i then 0 else c) n ≠ 0 then firstE (fun i => if p i then 0 else c) n else if p n then 0 else c) = _
    rw [firstE_must p hc n, List.range_succ, List.all_append]
    cases h : (List.range n).all p with
    | false => simp [hc]
    | true => cases h2 : p n <;> simp [h2]
theorem all_range {α : Type} (z : α) (p : α → Bool) (l : List α) : (List.range l.length).all (fun i => p (l.getD i z)) = l.all p := by
  rw [Bool.eq_iff_iff, List.all_eq_true, List.all_eq_true]
  constructor
  · intro h x hx
    obtain ⟨i, hi, rfl⟩ := List.mem_iff_getElem.1 hx
    have := h i (by simpa using hi)
    simpa [hi] using this
  · intro h i hi
    have hi' : i < l.length := by simpa using hi
    simp only [List.getD_eq_getElem?_getD, List.getElem?_eq_getElem hi', Option.getD_some]
    exact h _ (List.getElem_mem hi')
theorem stR_stays {rs : List (Nat × Nat)} {w : Int} {s i : Nat} (h : (stR rs w s i).length ≤ i) : ∀ j, i ≤ j → stR rs w s j = stR rs w s i := by
  intro j hj
  induction j with
  | zero => rw [show i = 0 by omega]
  | succ j ih =>
    rcases Nat.lt_or_ge i (j + 1) with h1 | h1
    · have h2 := ih (by omega)
      show (if j < (stR rs w s j).length then _ else stR rs w s j) = _
      rw [h2, if_neg (by omega)]
    · rw [show i = j + 1 by omega]
theorem stR_end {rs : List (Nat × Nat)} {w : Int} {s i n : Nat} (hs : s < n) (hrs : ∀ k, k < rs.length → (rs.getD k (0, 0)).1 < n ∧ (rs.getD k (0, 0)).2 < n) (h : (stR rs w s i).length ≤ i) (hi : i ≤ (stR rs w s i).length) : stR rs w s i = stR rs w s n :=
  (stR_stays h n (Nat.le_trans hi (stR_len hs hrs i))).symm
end Go.Proofs.Ytehadoecnmfeoaa
/- Looms in memory: the cells, small functions: no condition. -/
namespace Go.Proofs.Ytehadoecnmfeoaa
open Go.RowKit
set_option linter.unusedVariables false
set_option linter.unusedSimpArgs false
/-- A loom in memory, by the addresses and rooms of its slices. -/
def LoA (w : World) (B : Nat) (A0 A1 A2 A3 A4 A5 : Option Addr) (q0 q1 q2 q3 q4 q5 : Nat) (l : Lo) : Prop := LoAt w B (.slice A0 l.m.opts.length q0) (.slice A1 l.m.rules.length q1) (.slice A2 l.ss.length q2) (.slice A3 l.us.length q3) (.slice A4 l.ps.length q4) (.slice A5 l.ws.length q5) l
def LoBox (w : World) (b : Nat) (A0 A1 A2 A3 A4 A5 : Option Addr) (q0 q1 q2 q3 q4 q5 : Nat) (l : Lo) : Prop := w.heap[b]? = some (.cells #[.slice A0 l.m.opts.length q0, .slice A1 l.m.rules.length q1, .slice A2 l.ss.length q2, .slice A3 l.us.length q3, .slice A4 l.ps.length q4, .slice A5 l.ws.length q5] 41 (0, 0))
theorem LoAt.form {w : World} {B : Nat} {ov rv sv uv pv wv : Value} {l : Lo} (h : LoAt w B ov rv sv uv pv wv l) : ∃ (A0 A1 A2 A3 A4 A5 : Option Addr) (q0 q1 q2 q3 q4 q5 : Nat), ov = .slice A0 l.m.opts.length q0 ∧ rv = .slice A1 l.m.rules.length q1 ∧ sv = .slice A2 l.ss.length q2 ∧ uv = .slice A3 l.us.length q3 ∧ pv = .slice A4 l.ps.length q4 ∧ wv = .slice A5 l.ws.length q5 ∧ LoA w B A0 A1 A2 A3 A4 A5 q0 q1 q2 q3 q4 q5 l := by
  obtain ⟨A0, q0, rfl⟩ := Sl.form h.m.o
  obtain ⟨A1, q1, rfl⟩ := h.m.r.form
  obtain ⟨A2, q2, rfl⟩ := Sl.form h.s
  obtain ⟨A3, q3, rfl⟩ := Sl.form h.u
  obtain ⟨A4, q4, rfl⟩ := Sl.form h.p
  obtain ⟨fv, hw, hf⟩ := h.w
  obtain ⟨A5, q5, rfl⟩ := Sl.form hw
  exact ⟨A0, A1, A2, A3, A4, A5, q0, q1, q2, q3, q4, q5, rfl, rfl, rfl, rfl, rfl, rfl, ⟨h.m, h.s, h.u, h.p, ⟨fv, hw, hf⟩⟩⟩
theorem Wis.below {w w' : World} {B : Nat} {v : Value} {l : List Wi} (h : Wis w B v l) (hb : Below B w w') : Wis w' B v l := by
  obtain ⟨fv, h1, h2⟩ := h
  exact ⟨fv, Sl.below h1 hb, fun i hi => Sl.below (h2 i hi) hb⟩
theorem Wis.more {w : World} {B B' : Nat} {v : Value} {l : List Wi} (h : Wis w B v l) (hB : B ≤ B') : Wis w B' v l := by
  obtain ⟨fv, h1, h2⟩ := h
  exact ⟨fv, Sl.more h1 hB, fun i hi => Sl.more (h2 i hi) hB⟩
section
variable {w w' : World} {B B' : Nat} {A0 A1 A2 A3 A4 A5 : Option Addr} {q0 q1 q2 q3 q4 q5 : Nat} {l : Lo}
theorem LoA.below (h : LoA w B A0 A1 A2 A3 A4 A5 q0 q1 q2 q3 q4 q5 l) (hb : Below B w w') : LoA w' B A0 A1 A2 A3 A4 A5 q0 q1 q2 q3 q4 q5 l := ⟨h.m.below hb, Sl.below h.s hb, Sl.below h.u hb, Sl.below h.p hb, h.w.below hb⟩
theorem LoA.more (h : LoA w B A0 A1 A2 A3 A4 A5 q0 q1 q2 q3 q4 q5 l) (hB : B ≤ B') : LoA w B' A0 A1 A2 A3 A4 A5 q0 q1 q2 q3 q4 q5 l := ⟨h.m.more hB, Sl.more h.s hB, Sl.more h.u hB, Sl.more h.p hB, h.w.more hB⟩
theorem LoA.up (h : LoA w w.heap.size A0 A1 A2 A3 A4 A5 q0 q1 q2 q3 q4 q5 l) (hb : Below w.heap.size w w') : LoA w' w'.heap.size A0 A1 A2 A3 A4 A5 q0 q1 q2 q3 q4 q5 l := (h.below hb).more hb.size
/-- The cells of an element. -/
theorem sl_at {sz n : Nat} {A : Option Addr} {m q : Nat} {f : Nat → Nat → Value} (h : Sl w B sz (.slice A m q) n f) {k : Nat} (hk : k < n) : m = n ∧ m ≤ q ∧ ∃ b off, A = some ⟨b, off, none⟩ ∧ b < B ∧ ∀ j, j < sz → w.cell? ⟨b, off + (k * sz + j), none⟩ = some (f k j) := by
  obtain ⟨A', b, off, cap, h1, h2, h3, h4⟩ := h
  injection h1 with e1 e2 e3
  subst e1 e2 e3
  rcases h3 with ⟨h3, h5⟩ | h3
  · exact ⟨rfl, h2, b, off, h3, h5, fun j hj => h4 k j hk hj⟩
  · omega
theorem LoA.sp (h : LoA w B A0 A1 A2 A3 A4 A5 q0 q1 q2 q3 q4 q5 l) {k : Nat} (hk : k < l.ss.length) : ∃ b off x, Hid (l.ss.getD k Sp.o = x) ∧ A2 = some ⟨b, off, none⟩ ∧ b < B ∧ l.ss.length ≤ q2 ∧
    w.cell? ⟨b, off + k * 3, none⟩ = some (.int .i64 x.x) ∧ w.cell? ⟨b, off + k * 3 + 1, none⟩ = some (.int .i64 x.y) ∧ w.cell? ⟨b, off + k * 3 + 2, none⟩ = some (.int .i64 x.z) := by
  obtain ⟨_, h2, b, off, h3, h4, h5⟩ := sl_at h.s hk
  exact ⟨b, off, _, rfl, h3, h4, h2, h5 0 (by omega), h5 1 (by omega), h5 2 (by omega)⟩
theorem LoA.ru (h : LoA w B A0 A1 A2 A3 A4 A5 q0 q1 q2 q3 q4 q5 l) {k : Nat} (hk : k < l.us.length) : ∃ b off x, Hid (l.us.getD k Ru.o = x) ∧ A3 = some ⟨b, off, none⟩ ∧ b < B ∧ l.us.length ≤ q3 ∧
    w.cell? ⟨b, off + k * 4, none⟩ = some (.int .i64 x.a) ∧ w.cell? ⟨b, off + k * 4 + 1, none⟩ = some (.int .i64 x.b) ∧ w.cell? ⟨b, off + k * 4 + 2, none⟩ = some (.int .i64 x.len) ∧ w.cell? ⟨b, off + k * 4 + 3, none⟩ = some (.int .i64 x.room) := by
  obtain ⟨_, h2, b, off, h3, h4, h5⟩ := sl_at h.u hk
  exact ⟨b, off, _, rfl, h3, h4, h2, h5 0 (by omega), h5 1 (by omega), h5 2 (by omega), h5 3 (by omega)⟩
theorem LoA.pl (h : LoA w B A0 A1 A2 A3 A4 A5 q0 q1 q2 q3 q4 q5 l) {k : Nat} (hk : k < l.ps.length) : ∃ b off x, Hid (l.ps.getD k Pl.o = x) ∧ A4 = some ⟨b, off, none⟩ ∧ b < B ∧ l.ps.length ≤ q4 ∧
    w.cell? ⟨b, off + k * 3, none⟩ = some (.string x.name) ∧ w.cell? ⟨b, off + k * 3 + 1, none⟩ = some (.int .i64 x.spot) ∧ w.cell? ⟨b, off + k * 3 + 2, none⟩ = some (.int .i64 x.cav) := by
  obtain ⟨_, h2, b, off, h3, h4, h5⟩ := sl_at h.p hk
  exact ⟨b, off, _, rfl, h3, h4, h2, h5 0 (by omega), h5 1 (by omega), h5 2 (by omega)⟩
theorem LoA.wi (h : LoA w B A0 A1 A2 A3 A4 A5 q0 q1 q2 q3 q4 q5 l) {k : Nat} (hk : k < l.ws.length) : ∃ b off x Af qf, Hid (l.ws.getD k Wi.o = x) ∧ A5 = some ⟨b, off, none⟩ ∧ b < B ∧ l.ws.length ≤ q5 ∧ Hid (Ints w B (.slice Af x.form.length qf) x.form) ∧
    w.cell? ⟨b, off + k * 7, none⟩ = some (.string x.name) ∧ w.cell? ⟨b, off + k * 7 + 1, none⟩ = some (.int .i64 x.fp) ∧ w.cell? ⟨b, off + k * 7 + 2, none⟩ = some (.int .i64 x.fc) ∧ w.cell? ⟨b, off + k * 7 + 3, none⟩ = some (.int .i64 x.tp) ∧
    w.cell? ⟨b, off + k * 7 + 4, none⟩ = some (.int .i64 x.tc) ∧ w.cell? ⟨b, off + k * 7 + 5, none⟩ = some (.int .i64 x.size) ∧ w.cell? ⟨b, off + k * 7 + 6, none⟩ = some (.slice Af x.form.length qf) := by
  obtain ⟨fv, hs, hf⟩ := h.w
  obtain ⟨_, h2, b, off, h3, h4, h5⟩ := sl_at hs hk
  have h6 := hf k hk
  obtain ⟨Af, qf, e⟩ := Sl.form h6
  rw [e] at h6
  have h7 := h5 6 (by omega)
  rw [show wiC (l.ws.getD k Wi.o) (fv k) 6 = fv k from rfl, e] at h7
  exact ⟨b, off, _, Af, qf, rfl, h3, h4, h2, h6, h5 0 (by omega), h5 1 (by omega), h5 2 (by omega), h5 3 (by omega), h5 4 (by omega), h5 5 (by omega), h7⟩
end
theorem btw_t {n lo hi : Int} (h1 : lo ≤ n) (h2 : n ≤ hi) : btw n lo hi = true := by simp [btw, h1, h2]
set_option maxRecDepth 100000 in
theorem within_any (n lo hi : Int) (w : World) : Calls Try.prog 60 #[.int .i64 n, .int .i64 lo, .int .i64 hi] w fun e w' => e = .returned (.bool (btw n lo hi)) ∧ w = w' := by
  by_cases h1 : lo ≤ n
  · have hr : btw n lo hi = decide (n ≤ hi) := by simp [btw, h1]
    have HR := hide hr
    clear hr
    go_enter Try.func60, Try.ntmps60
    go_wp2_with fail
    go_ret
    exact ⟨ret_bool HR.out.symm, rfl⟩
  · have hr : btw n lo hi = false := by simp [btw, h1]
    have HR := hide hr
    clear hr
    go_enter Try.func60, Try.ntmps60
    go_wp2_with fail
    go_ret
    exact ⟨ret_bool HR.out.symm, rfl⟩
/-- An error unless something is so. -/
def mustE (b : Bool) (c : Int) : Int := if b then 0 else c
set_option maxRecDepth 100000 in
theorem must_any (b : Bool) (c : Int) (w : World) : Calls Try.prog 63 #[.bool b, .int .i64 c] w fun e w' => e = .returned (.int .i64 (mustE b c)) ∧ w = w' := by
  cases b with
  | true =>
    go_enter Try.func63, Try.ntmps63
    go_wp2_with fail
    go_ret
    exact ⟨rfl, rfl⟩
  | false =>
    go_enter Try.func63, Try.ntmps63
    go_wp2_with fail
    go_ret
    exact ⟨rfl, rfl⟩
theorem lowB_bad {s : ByteArray} {k : Nat} (h : k < s.size) (hn : smN s[k] = false) : lowB s.data.toList = false := by
  have : s.data.toList.all smN = false := by
    rw [← Bool.not_eq_true, List.all_eq_true]
    intro q
    have h1 : k < s.data.size := h
    have := q s.data[k] (by simp)
    rw [show s.data[k] = s[k] from rfl, hn] at this
    cases this
  simp [lowB, this]
theorem lowB_good {s : ByteArray} (hn : ∀ j, j < s.size → smN (s.data.toList.getD j 0) = true) : lowB s.data.toList = btw s.size 1 8 := by
  have h1 : s.data.toList.all smN = true := by
    rw [List.all_eq_true]
    intro x hx
    obtain ⟨i, hi, rfl⟩ := List.mem_iff_getElem.1 hx
    have := hn i (by simpa using hi)
    rwa [List.getD_eq_getElem?_getD, List.getElem?_eq_getElem hi, Option.getD_some] at this
  have hl : s.data.toList.length = s.size := by simp
  unfold lowB btw
  rw [h1, hl, Bool.and_true]
  congr 1
  · exact decide_eq_decide.2 (by omega)
  · exact decide_eq_decide.2 (by omega)
set_option maxRecDepth 100000 in
set_option maxHeartbeats 1000000 in
theorem low_any (s : ByteArray) (w : World) (hs : s.size ≤ maxLen) :
    Calls Try.prog 73 #[.string s] w fun e w' => e = .returned (.bool (lowB s.data.toList)) ∧ w = w' := by
  unfold maxLen at hs
  go_enter Try.func73, Try.ntmps73
  go_wp2
  go_loop [3, 6] (fun _ i => ∃ k : Nat, k ≤ s.size ∧ i = .int .i64 k ∧ Hid (∀ j, j < k → smN (s.data.toList.getD j 0) = true)) (fun _ i => s.size - (intOf i).toNat)
  case atStart => exact ⟨0, Nat.zero_le _, rfl, fun j hj => by omega⟩
  case round =>
    obtain ⟨k, hk, rfl, hall⟩ := hrel
    by_cases hlt : k < s.size
    · have hgd := getD_str s k hlt
      have hyes : smN s[k] = true → Hid (∀ j, j < k + 1 → smN (s.data.toList.getD j 0) = true) := fun h j hj => by
        rcases Nat.lt_or_ge j k with h1 | h1
        · exact hall.out j h1
        · rw [show j = k from by omega, hgd]; exact h
      have hno : smN s[k] = false → lowB s.data.toList = false := fun h => lowB_bad hlt h
      have HY := hide hyes
      have HN := hide hno
      clear hgd hyes hno
      by_cases h1 : (s[k].toNat : Int) < 97
      · have HC := hide (smN_not (.inl h1))
        go_wp2
        go_ret
        exact ⟨ret_bool (HN.out HC.out).symm, rfl⟩
      · by_cases h2 : (122 : Int) < (s[k].toNat : Int)
        · have HC := hide (smN_not (.inr h2))
          go_wp2
          go_ret
          exact ⟨ret_bool (HN.out HC.out).symm, rfl⟩
        · have HC := hide (smN_of (c := s[k]) (by omega) (by omega))
          go_wp2
          go_round
          case rel => exact ⟨k + 1, by omega, by go_num, HY.out HC.out⟩
          case measure => simp [intOf]; omega
    · have : k = s.size := by omega
      subst this
      have hg := lowB_good (s := s) (by simpa using hall.out)
      have HG := hide hg
      clear hg
      go_wp2_with (go_at_call 60; refine (within_any _ _ _ _).mono ?_; rintro e w1 ⟨rfl, rfl⟩)
      go_ret
      exact ⟨ret_bool HG.out.symm, rfl⟩
end Go.Proofs.Ytehadoecnmfeoaa

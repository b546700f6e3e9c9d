/- Part 14 of this claim's texts: walks and plain laws. -/
import Derived.Test.YtehadoecnmfeoaaRows
import Derived.Test.YtehadoecnmfeoaaGBD0
import Derived.Test.YtehadoecnmfeoaaGBD13
import Derived.Test.YtehadoecnmfeoaaGBD12
import Derived.ProofKit
import Derived.Lib.SmallJoins
import Derived.Deep.Slices
import Derived.Deep.Fields
import Derived.ChangeSame
import Derived.Below
import Derived.Test.YtehadoecnmfeoaaGBD1
import Derived.Test.YtehadoecnmfeoaaGBD8
import Derived.WalkLawsBesides
import Derived.WalkSpells
import Derived.Deep.QuietTactic
/- Looms, and which error one has. Plain. -/
namespace Go.Proofs.Ytehadoecnmfeoaa
set_option linter.unusedVariables false
set_option linter.unusedSimpArgs false
structure Sp where
  x : Int
  y : Int
  z : Int
def Sp.o : Sp := ⟨0, 0, 0⟩
structure Ru where
  a : Int
  b : Int
  len : Int
  room : Int
def Ru.o : Ru := ⟨0, 0, 0, 0⟩
structure Pl where
  name : ByteArray
  spot : Int
  cav : Int
def Pl.o : Pl := ⟨ByteArray.empty, 0, 0⟩
structure Wi where
  name : ByteArray
  fp : Int
  fc : Int
  tp : Int
  tc : Int
  size : Int
  form : List Int
def Wi.o : Wi := ⟨ByteArray.empty, 0, 0, 0, 0, 0, []⟩
/-- A loom. -/
structure Lo where
  m : Mo
  ss : List Sp
  us : List Ru
  ps : List Pl
  ws : List Wi

/-- A name of a plug or wire: one to eight small letters. -/
def lowB (l : List UInt8) : Bool := decide (1 ≤ l.length) && decide (l.length ≤ 8) && l.all smN
def btw (n lo hi : Int) : Bool := decide (lo ≤ n) && decide (n ≤ hi)
theorem btw_iff {n lo hi : Int} : btw n lo hi = true ↔ lo ≤ n ∧ n ≤ hi := by simp [btw]
def Sp.ok (s : Sp) : Bool := btw s.x (-100000) 100000 && btw s.y (-100000) 100000 && btw s.z (-100000) 100000
def sqS (a b : Sp) : Int := (a.x - b.x) * (a.x - b.x) + (a.y - b.y) * (a.y - b.y) + (a.z - b.z) * (a.z - b.z)
def Ru.ok (ss : List Sp) (r : Ru) : Bool :=
  btw r.a 0 ((ss.length : Int) - 1) && btw r.b 0 ((ss.length : Int) - 1) && decide (r.a ≠ r.b) && btw r.len 1 1000000 && btw r.room 0 1000000 && decide (sqS (ss.getD r.a.toNat Sp.o) (ss.getD r.b.toNat Sp.o) ≤ r.len * r.len)
/-- The runs, as pairs of spots. -/
def Lo.rs (l : Lo) : List (Nat × Nat) := l.us.map fun r => (r.a.toNat, r.b.toNat)
def bytes (s : ByteArray) : List UInt8 := s.data.toList
def plOk (l : Lo) (i : Nat) : Bool :=
  lowB (bytes (l.ps.getD i Pl.o).name) && !((l.ps.take i).any fun q => bytes q.name == bytes (l.ps.getD i Pl.o).name) && btw (l.ps.getD i Pl.o).spot 0 ((l.ss.length : Int) - 1) && btw (l.ps.getD i Pl.o).cav 1 40
def pinOk (l : Lo) (p c : Int) : Bool := btw p 0 ((l.ps.length : Int) - 1) && btw c 0 ((l.ps.getD p.toNat Pl.o).cav - 1)
def wiOk (l : Lo) (i : Nat) : Bool :=
  lowB (bytes (l.ws.getD i Wi.o).name) && !((l.ws.take i).any fun q => bytes q.name == bytes (l.ws.getD i Wi.o).name) && pinOk l (l.ws.getD i Wi.o).fp (l.ws.getD i Wi.o).fc && pinOk l (l.ws.getD i Wi.o).tp (l.ws.getD i Wi.o).tc &&
    !(decide ((l.ws.getD i Wi.o).fp = (l.ws.getD i Wi.o).tp) && decide ((l.ws.getD i Wi.o).fc = (l.ws.getD i Wi.o).tc)) && btw (l.ws.getD i Wi.o).size 1 10000
/-- The error of the wire with a number. -/
def wiErr (l : Lo) (i : Nat) : Int := if wiOk l i = false then 63 else if validF l.m.opts.length (l.ws.getD i Wi.o).form = false then 11 else 0
/-- The first error of the first wires. -/
def wiresErr (l : Lo) : Nat → Int
  | 0 => 0
  | i + 1 => if wiresErr l i ≠ 0 then wiresErr l i else wiErr l i
/-- Whether the runs are a tree, as the program looks. -/
def Lo.full (l : Lo) : Bool := decide ((stR l.rs (-1) 0 l.ss.length).length = l.ss.length)
def Lo.many (l : Lo) : Bool := decide (40 < l.ss.length) || decide (40 < l.us.length) || decide (30 < l.ps.length) || decide (60 < l.ws.length)
def Lo.err (l : Lo) : Int :=
  if l.m.err ≠ 0 then l.m.err else if l.many then 2 else if l.ss.all Sp.ok = false then 60 else if l.ss.length = 0 ∨ l.us.length + 1 ≠ l.ss.length then 61 else if l.us.all (Ru.ok l.ss) = false then 61 else if l.full = false then 61
  else if (List.range l.ps.length).all (plOk l) = false then 62 else wiresErr l l.ws.length
/-- A loom without an error. -/
structure LoOk (l : Lo) : Prop where
  m : l.m.err = 0
  s40 : l.ss.length ≤ 40
  u40 : l.us.length ≤ 40
  p30 : l.ps.length ≤ 30
  w60 : l.ws.length ≤ 60
  ss : ∀ x ∈ l.ss, x.ok = true
  us : ∀ x ∈ l.us, x.ok l.ss = true
  tree : TreeR l.rs l.ss.length
  ps : ∀ i, i < l.ps.length → plOk l i = true
  ws : ∀ i, i < l.ws.length → wiErr l i = 0
theorem rs_getD (l : Lo) {k : Nat} (hk : k < l.us.length) : l.rs.getD k (0, 0) = ((l.us.getD k Ru.o).a.toNat, (l.us.getD k Ru.o).b.toNat) := by
  simp [Lo.rs, hk]
theorem rs_len (l : Lo) : l.rs.length = l.us.length := by simp [Lo.rs]
theorem rs_lt {l : Lo} (h : ∀ x ∈ l.us, x.ok l.ss = true) : ∀ k, k < l.rs.length → (l.rs.getD k (0, 0)).1 < l.ss.length ∧ (l.rs.getD k (0, 0)).2 < l.ss.length := by
  intro k hk
  rw [rs_len] at hk
  rw [rs_getD l hk]
  have h1 := h (l.us.getD k Ru.o) (by rw [List.getD_eq_getElem?_getD, List.getElem?_eq_getElem hk]; exact List.getElem_mem hk)
  unfold Ru.ok at h1
  simp only [Bool.and_eq_true, btw_iff] at h1
  obtain ⟨⟨⟨⟨⟨h2, h3⟩, _⟩, _⟩, _⟩, _⟩ := h1
  constructor <;> simp only <;> omega
theorem wiresErr_zero {l : Lo} : ∀ {n : Nat}, wiresErr l n = 0 → ∀ i, i < n → wiErr l i = 0
  | 0, _, i, hi => by omega
  | n + 1, h, i, hi => by
    have h' : (if wiresErr l n ≠ 0 then wiresErr l n else wiErr l n) = 0 := h
    by_cases h1 : wiresErr l n = 0
    · rw [if_neg (by simp [h1])] at h'
      rcases Nat.lt_or_ge i n with h2 | h2
      · exact wiresErr_zero h1 i h2
      · rw [show i = n by omega]; exact h'
    · rw [if_pos h1] at h'
      exact absurd h' h1
theorem Lo.err_ok {l : Lo} (h : l.err = 0) : LoOk l := by
  unfold Lo.err at h
  by_cases h1 : l.m.err = 0
  · rw [if_neg (by simp [h1])] at h
    by_cases h2 : l.many = true
    · rw [if_pos h2] at h; omega
    rw [if_neg h2] at h
    by_cases h3 : l.ss.all Sp.ok = false
    · rw [if_pos h3] at h; omega
    rw [if_neg h3] at h
    by_cases h4 : l.ss.length = 0 ∨ l.us.length + 1 ≠ l.ss.length
    · rw [if_pos h4] at h; omega
    rw [if_neg h4] at h
    by_cases h5 : l.us.all (Ru.ok l.ss) = false
    · rw [if_pos h5] at h; omega
    rw [if_neg h5] at h
    by_cases h6 : l.full = false
    · rw [if_pos h6] at h; omega
    rw [if_neg h6] at h
    by_cases h7 : (List.range l.ps.length).all (plOk l) = false
    · rw [if_pos h7] at h; omega
    rw [if_neg h7] at h
    simp only [Lo.many, Bool.or_eq_true, decide_eq_true_eq, not_or] at h2
    have hu : ∀ x ∈ l.us, x.ok l.ss = true := List.all_eq_true.1 (by simpa using h5)
    have hn : 0 < l.ss.length := by omega
    have hf : (stR l.rs (-1) 0 l.ss.length).length = l.ss.length := by simpa [Lo.full] using h6
    exact ⟨h1, by omega, by omega, by omega, by omega, List.all_eq_true.1 (by simpa using h3), hu,
      ⟨by rw [rs_len]; omega, rs_lt hu, (stR_full hn (rs_lt hu) (stR_ends hn (rs_lt hu))).1 hf⟩,
      fun i hi => by have := List.all_eq_true.1 (show (List.range l.ps.length).all (plOk l) = true by simpa using h7) i (by simpa using hi); exact this, wiresErr_zero h⟩
  · rw [if_pos h1] at h
    exact absurd h h1
end Go.Proofs.Ytehadoecnmfeoaa
/- The wires through a run; the example of the laws: plain. -/
namespace Go.Proofs.Ytehadoecnmfeoaa
set_option linter.unusedVariables false
set_option linter.unusedSimpArgs false
set_option linter.unusedSectionVars false
/-- The spots of a wire's plugs. -/
def endF (l : Lo) (i : Nat) : Nat := (l.ps.getD (l.ws.getD i Wi.o).fp.toNat Pl.o).spot.toNat
def endT (l : Lo) (i : Nat) : Nat := (l.ps.getD (l.ws.getD i Wi.o).tp.toNat Pl.o).spot.toNat
def sideL (l : Lo) (run : Nat) : List Nat := stR l.rs run (l.rs.getD run (0, 0)).1 l.ss.length
def thruB (l : Lo) (run i : Nat) : Bool := decide (endF l i ∈ sideL l run) != decide (endT l i ∈ sideL l run)
def thruL (l : Lo) (run : Nat) : List Nat := (List.range l.ws.length).filter (thruB l run)
def runLen (l : Lo) (k : Nat) : Int := (l.us.getD k Ru.o).len
section
variable {l : Lo} (h : LoOk l)
include h
theorem LoOk.wi {i : Nat} (hi : i < l.ws.length) : wiOk l i = true ∧ validF l.m.opts.length (l.ws.getD i Wi.o).form = true := by
  have h1 := h.ws i hi
  unfold wiErr at h1
  by_cases h2 : wiOk l i = false
  · rw [if_pos h2] at h1; omega
  · rw [if_neg h2] at h1
    by_cases h3 : validF l.m.opts.length (l.ws.getD i Wi.o).form = false
    · rw [if_pos h3] at h1; omega
    · exact ⟨by simpa using h2, by simpa using h3⟩
theorem LoOk.pin {p c : Int} (hp : pinOk l p c = true) : 0 ≤ p ∧ p.toNat < l.ps.length ∧ 0 ≤ (l.ps.getD p.toNat Pl.o).spot ∧ (l.ps.getD p.toNat Pl.o).spot.toNat < l.ss.length := by
  unfold pinOk at hp
  simp only [Bool.and_eq_true, btw_iff] at hp
  obtain ⟨⟨h1, h2⟩, _⟩ := hp
  have h3 := h.ps p.toNat (by omega)
  unfold plOk at h3
  simp only [Bool.and_eq_true, btw_iff] at h3
  obtain ⟨⟨_, h4, h5⟩, _⟩ := h3
  exact ⟨h1, by omega, h4, by omega⟩
theorem LoOk.ends {i : Nat} (hi : i < l.ws.length) : endF l i < l.ss.length ∧ endT l i < l.ss.length := by
  have h1 := (h.wi hi).1
  unfold wiOk at h1
  simp only [Bool.and_eq_true] at h1
  obtain ⟨⟨⟨⟨_, h2⟩, h3⟩, _⟩, _⟩ := h1
  exact ⟨(h.pin h2).2.2.2, (h.pin h3).2.2.2⟩
theorem LoOk.len {k : Nat} (hk : k < l.us.length) : 1 ≤ runLen l k ∧ runLen l k ≤ 1000000 := by
  have h1 := h.us (l.us.getD k Ru.o) (by rw [List.getD_eq_getElem?_getD, List.getElem?_eq_getElem hk]; exact List.getElem_mem hk)
  unfold Ru.ok at h1
  simp only [Bool.and_eq_true, btw_iff] at h1
  obtain ⟨⟨⟨_, h2⟩, _⟩, _⟩ := h1
  exact h2
/-- A wire goes through a run exactly if the run parts its ends. -/
theorem LoOk.thru {run i : Nat} (hr : run < l.us.length) (hi : i < l.ws.length) : thruB l run i = true ↔ ¬ Rch l.rs run (endF l i) (endT l i) := by
  have hrl : run < l.rs.length := by rw [rs_len]; exact hr
  obtain ⟨a, b, hab⟩ : ∃ a b, l.rs.getD run (0, 0) = (a, b) := ⟨_, _, rfl⟩
  have he := h.ends hi
  have hlt := h.tree.lt run hrl
  unfold thruB sideL
  rw [hab] at hlt ⊢
  exact h.tree.side_list hrl (.inl hab) he.1 he.2 (stR_ends hlt.1 h.tree.lt)
/-- .. and that is: if it is on its way. -/
theorem LoOk.way {run i : Nat} (hr : run < l.us.length) (hi : i < l.ws.length) {w : Int} {P : List Nat} (hP : WayP l.rs w (endF l i) P (endT l i)) : run ∈ P ↔ thruB l run i = true := by
  rw [h.thru hr hi]
  exact (hP.mem h.tree).2 run (by rw [rs_len]; exact hr)
end
end Go.Proofs.Ytehadoecnmfeoaa
/- Modules: their check, what is picked, an audit; plain laws. -/
namespace Go.Proofs.Ytehadoecnmfeoaa
set_option linter.unusedVariables false
/-- Wire k of a module: one of n, behind the one before it. -/
def wireOk (n : Nat) (ws : List Int) (k : Nat) : Bool := btw (ws.getD k 0) 0 ((n : Int) - 1) && (decide (k = 0) || decide (ws.getD (k - 1) 0 < ws.getD k 0))
def wiresB (n : Nat) (ws : List Int) : Bool := (List.range ws.length).all (wireOk n ws)
def rightB (l : Lo) (d : Md) : Bool := wiresB l.ws.length d.ws && validF l.m.opts.length d.f
/-- What Check answers. -/
def bldE (l : Lo) (ms : List Md) : Int := if l.err ≠ 0 then l.err else if (decide (60 < ms.length) || !ms.all (rightB l)) = true then 120 else 0
structure BldOkM (l : Lo) (ms : List Md) : Prop where
  lo : LoOk l
  err : l.err = 0
  n : ms.length ≤ 60
  ok : ∀ d ∈ ms, rightB l d = true
theorem bldE_ok {l : Lo} {ms : List Md} (h : bldE l ms = 0) : BldOkM l ms := by
  unfold bldE at h
  by_cases h1 : l.err = 0
  · rw [if_neg (by simp [h1])] at h
    by_cases h2 : (decide (60 < ms.length) || !ms.all (rightB l)) = true
    · rw [if_pos h2] at h; omega
    · simp only [Bool.or_eq_true, decide_eq_true_eq, Bool.not_eq_true', not_or, Bool.not_eq_false] at h2
      exact ⟨Lo.err_ok h1, h1, by omega, List.all_eq_true.1 h2.2⟩
  · rw [if_pos h1] at h
    exact absurd h h1
theorem bldE_err {l : Lo} {ms : List Md} (h : l.err ≠ 0) : bldE l ms = l.err := by unfold bldE; rw [if_pos h]
theorem wires_at {n : Nat} {ws : List Int} (h : wiresB n ws = true) {k : Nat} (hk : k < ws.length) : 0 ≤ ws.getD k 0 ∧ ws.getD k 0 < (n : Int) ∧ (0 < k → ws.getD (k - 1) 0 < ws.getD k 0) := by
  have h1 := List.all_eq_true.1 h k (by simpa using hk)
  unfold wireOk at h1
  simp only [Bool.and_eq_true, btw_iff, Bool.or_eq_true, decide_eq_true_eq] at h1
  exact ⟨by omega, by omega, by omega⟩
theorem wires_asc {n : Nat} {ws : List Int} (h : wiresB n ws = true) {i : Nat} : ∀ {k : Nat}, i < k → k < ws.length → ws.getD i 0 < ws.getD k 0
  | 0, h1, _ => by omega
  | k + 1, h1, h2 => by
    have h3 := (wires_at h h2).2.2 (by omega)
    rw [Nat.add_sub_cancel] at h3
    rcases Nat.lt_or_ge i k with h4 | h4
    · have := wires_asc h h4 (by omega)
      omega
    · rw [show i = k by omega]; exact h3
theorem wires_nodup {n : Nat} {ws : List Int} (h : wiresB n ws = true) : ws.Nodup := by
  rw [List.nodup_iff_pairwise_ne, List.pairwise_iff_getElem]
  intro i j hi hj hij
  have := wires_asc h hij hj
  simp only [List.getD_eq_getElem?_getD, List.getElem?_eq_getElem hi, List.getElem?_eq_getElem hj, Option.getD_some] at this
  omega
/-- How often a wire is in a module. -/
def occ (d : Md) (w : Nat) : Nat := (d.ws.filter fun x => x == (w : Int)).length
theorem occ_one {n : Nat} {d : Md} (h : wiresB n d.ws = true) (w : Nat) : occ d w = if mdIn w d then 1 else 0 := by
  have hn := wires_nodup h
  unfold occ mdIn
  have h1 : (d.ws.filter fun x => x == (w : Int)) = List.replicate (d.ws.count (w : Int)) (w : Int) := List.filter_beq _
  rw [h1, List.length_replicate]
  by_cases h2 : (w : Int) ∈ d.ws
  · rw [List.Nodup.count hn, if_pos h2, if_pos (by simpa using h2)]
  · rw [List.count_eq_zero_of_not_mem h2, if_neg (by simpa using h2)]
/-- What is picked for a variant; how often a wire is in it. -/
def pckB (x : List Bool) (d : Md) : Bool := evF1 (vf x) d.f
def manyN (ms : List Md) (x : List Bool) (w : Nat) : Nat := ((ms.filter (pckB x)).map fun d => occ d w).sum
theorem many_cnt {n : Nat} {ms : List Md} (h : ∀ d ∈ ms, wiresB n d.ws = true) (x : List Bool) (w : Nat) : manyN ms x w = cntV (withL ms w) x := by
  unfold manyN cntV withL
  induction ms with
  | nil => rfl
  | cons d t ih =>
    have ih2 := ih fun e he => h e (by simp [he])
    have h1 := occ_one (h d (by simp)) w
    rw [List.filter_cons, List.filter_cons]
    unfold pckB at ih2 ⊢
    cases h2 : evF1 (vf x) d.f with
    | true =>
      cases h3 : mdIn w d with
      | true =>
        rw [h3, if_pos rfl] at h1
        simp only [if_true, List.map_cons, List.sum_cons, List.filter_cons, h2, List.length_cons]
        rw [h1, ih2]
        omega
      | false =>
        rw [h3, if_neg (by simp)] at h1
        simp only [if_true, List.map_cons, List.sum_cons, Bool.false_eq_true, if_false]
        rw [h1, ih2]
        omega
    | false =>
      cases h3 : mdIn w d with
      | true =>
        simp only [Bool.false_eq_true, if_false, if_true, List.map_cons, List.filter_cons, h2]
        exact ih2
      | false =>
        simp only [Bool.false_eq_true, if_false]
        exact ih2
/-- The first kind of defect of a wire. -/
def audK (m : Mo) (f : List Int) (fs : List (List Int)) : Nat → Option (Nat × List Bool)
  | 0 => none
  | k + 1 => match audK m f fs k with
    | some r => some r
    | none => (frstV m f fs (k + 1)).map fun x => (k + 1, x)
/-- The first defect of the first wires. -/
def audN (l : Lo) (ms : List Md) : Nat → Option (Nat × Nat × List Bool)
  | 0 => none
  | n + 1 => match audN l ms n with
    | some r => some r
    | none => (audK l.m (l.ws.getD n Wi.o).form (withL ms n) 3).map fun r => (n, r.1, r.2)
def audA (l : Lo) (ms : List Md) : Option (Nat × Nat × List Bool) := if bldE l ms = 0 then audN l ms l.ws.length else none
theorem audN_stays {l : Lo} {ms : List Md} {k n : Nat} {r : Nat × Nat × List Bool} (h : audN l ms k = some r) (hn : k ≤ n) : audN l ms n = some r := by
  induction n with
  | zero => rw [show k = 0 by omega] at h; exact h
  | succ n ih =>
    rcases Nat.lt_or_ge k (n + 1) with h1 | h1
    · show (match audN l ms n with | some r => some r | none => _) = _
      rw [ih (by omega)]
    · rw [show k = n + 1 by omega] at h; exact h
theorem audN_next {l : Lo} {ms : List Md} {k : Nat} (h : audN l ms k = none) : audN l ms (k + 1) = (audK l.m (l.ws.getD k Wi.o).form (withL ms k) 3).map fun r => (k, r.1, r.2) := by
  show (match audN l ms k with | some r => some r | none => _) = _
  rw [h]
theorem audK_stays {m : Mo} {f : List Int} {fs : List (List Int)} {k n : Nat} {r : Nat × List Bool} (h : audK m f fs k = some r) (hn : k ≤ n) : audK m f fs n = some r := by
  induction n with
  | zero => rw [show k = 0 by omega] at h; exact h
  | succ n ih =>
    rcases Nat.lt_or_ge k (n + 1) with h1 | h1
    · show (match audK m f fs n with | some r => some r | none => _) = _
      rw [ih (by omega)]
    · rw [show k = n + 1 by omega] at h; exact h
theorem audK_next {m : Mo} {f : List Int} {fs : List (List Int)} {k : Nat} (h : audK m f fs k = none) : audK m f fs (k + 1) = (frstV m f fs (k + 1)).map fun x => (k + 1, x) := by
  show (match audK m f fs k with | some r => some r | none => _) = _
  rw [h]
/-- Without a buildable variant there is no defect. -/
theorem audN_none {l : Lo} {ms : List Md} (h : allM l.m = []) : ∀ n, audN l ms n = none
  | 0 => rfl
  | n + 1 => by
    have hf : ∀ f fs k, frstV l.m f fs k = none := fun f fs k => by unfold frstV; rw [h]; rfl
    have hk : ∀ f fs k, audK l.m f fs k = none := by
      intro f fs k
      induction k with
      | zero => rfl
      | succ k ih => rw [audK_next ih, hf]; rfl
    rw [audN_next (audN_none h n), hk]
    rfl
end Go.Proofs.Ytehadoecnmfeoaa
/- What is picked and made: plain laws. -/
namespace Go.Proofs.Ytehadoecnmfeoaa
set_option linter.unusedVariables false
set_option linter.unusedSimpArgs false
/-- The modules that are picked, the first k of them looked at. -/
def pckK (ms : List Md) (x : List Bool) (k : Nat) : List Nat := (List.range k).filter fun i => pckB x (ms.getD i Md.o)
def pckL (ms : List Md) (x : List Bool) : List Nat := pckK ms x ms.length
/-- The wires of some modules. -/
def wsI (ms : List Md) (L : List Nat) : List Int := L.flatMap fun i => (ms.getD i Md.o).ws
def wsP (ms : List Md) (x : List Bool) : List Int := wsI ms (pckL ms x)
/-- Each wire as often as it is picked. -/
def madeN (n : Nat) (ms : List Md) (x : List Bool) : List Nat := (List.range n).flatMap fun w => List.replicate (manyN ms x w) w
end Go.Proofs.Ytehadoecnmfeoaa
/- Lemmas for the frame of a law, as the guide's pages lay them for copying, and some of my own: no condition. -/
namespace Go.Proofs.Ytehadoecnmfeoaa
open Go.Joins Go.ChangeShapes Go.WideShapes Go.ChangeAt Go.RowKit Go.Deep

section
variable {H : Type} {enc : TypeId × Value → H} {P : Program}
theorem post_of_below {f : Func} {s : ChangeSpec} {apart fresh handsOn again : Bool} {W W' : World} {args : Array Value} {v : Value} {ds gs : List (DataW H)} {before pa pv : List MemPlace}
    (hW : DataW.Whole enc P f.params.toList s.vars apart W args.toList ds gs before)
    (hres : ∀ (b : Nat) (sp : Nat → Bool) (hd : Bool), DataW.TrodAll enc P W' b sp hd f.resultTypes.toList (v.resultList f.resultTypes.size) (s.fn H (ds ++ gs)).results [])
    (hargs : ∀ sp : Nat → Bool, (∀ p ∈ before, sp p.block = true) → DataW.TrodAll enc P W' 0 sp true f.params.toList args.toList (s.fn H (ds ++ gs)).args pa)
    (hvars : ∀ sp : Nat → Bool, (∀ p ∈ before, sp p.block = true) → DataW.TrodVars enc P W' sp s.vars (s.fn H (ds ++ gs)).vars pv)
    (hps : before = pa ++ pv) (hb : Below W.heap.size W W')
    (hok : ∀ (j : Nat) (t : TypeId) (r : Value), f.resultTypes[j]? = some t → (v.resultList f.resultTypes.size)[j]? = some r → Value.okWide P W' .any 0 t r) :
    s.post enc P f apart fresh handsOn again W args v W' := by
  have hlt : ∀ p ∈ before, p.block < W.heap.size := fun p hp => hW.lt p hp
  have hold : ∀ p ∈ before, (fun b => decide (b < W.heap.size)) p.block = true := fun p hp => by simpa using hlt p hp
  refine ⟨ds, gs, before, [], pa, pv, hW, hres _ _ _, hargs _ hold, hvars _ hold, World.keptBut_mono (fun p hp => ⟨hp, ?_⟩) (hb.frame (· ∈ before)), fun _ => ?_⟩
  · rw [hps, List.mem_append] at hp
    exact Or.inr hp
  · obtain ⟨_, _, _, _, _, hz, hn⟩ := hW
    refine ⟨hok, _, _, ([] ++ pa) ++ pv, ⟨[] ++ pa, pv, trodAll_append (hargs _ (fun _ _ => rfl)) (hres _ _ _), hvars _ (fun _ _ => rfl), rfl, ?_, ?_⟩, ?_⟩
    · intro b off hp
      have hin : MemPlace.cell b off ∈ before := by rw [hps]; simpa using hp
      rw [hb.frozen (hlt _ hin)]
      exact hz b off hin
    · intro ha
      have := hn ha
      rw [hps] at this
      simpa using this
    · intro p hp _
      rw [hps]
      simpa using hp

/-- Arguments read as they did, where nothing below the old heap has changed. -/
theorem trodAll_stays (hl : laidOutB P = true) {W W' : World} (hb : Below W.heap.size W W') (sp : Nat → Bool) : ∀ (ts : List TypeId) (vs : List Value) (ds : List (DataW H)) (ps : List MemPlace),
    (∀ t ∈ ts, P.readableRec t = true ∧ t < P.types.size) → DataW.TrodAll enc P W 0 (fun _ => true) true ts vs ds ps → (∀ x ∈ ps, x.block < W.heap.size) → (∀ x ∈ ps, sp x.block = true) → DataW.TrodAll enc P W' 0 sp true ts vs ds ps
  | [], [], [], _, _, h, _, _ => h
  | t :: ts, v :: vs, d :: ds, ps, hr, ⟨p, q, h1, h2, hp⟩, hlt, hsp => by
    subst hp
    refine ⟨p, q, ?_, trodAll_stays hl hb sp ts vs ds q (fun t' ht => hr t' (List.mem_cons_of_mem _ ht)) h2 (fun x hx => hlt x (List.mem_append_right _ hx)) (fun x hx => hsp x (List.mem_append_right _ hx)), rfl⟩
    have h := hr t (List.mem_cons_self ..)
    exact WideElems.Trod_stays hl h.1 h.2 h1 (fun x hx => hb.same (hlt x (List.mem_append_left _ hx))) (fun x hx => hsp x (List.mem_append_left _ hx))
end

section
variable {H : Type} {enc : TypeId × Value → H} {P : Program} {w : World} {base : Nat} {spare : Nat → Bool} {held : Bool}
end
end Go.Proofs.Ytehadoecnmfeoaa
/- A slice argument opened, whatever its elements are: each element by a law of its own. No condition. -/
namespace Go.Proofs.Ytehadoecnmfeoaa
open Go.Joins Go.ChangeShapes Go.WideShapes Go.ChangeAt Go.RowKit Go.Deep

theorem choose_upto {α : Type} (z : α) {n : Nat} {Q : Nat → α → Prop} (h : ∀ i, i < n → ∃ x, Q i x) : ∃ xs : List α, xs.length = n ∧ ∀ i, i < n → Q i (xs.getD i z) := by
  induction n with
  | zero => exact ⟨[], rfl, fun i hi => absurd hi (by omega)⟩
  | succ n ih =>
    obtain ⟨xs, hl, hx⟩ := ih fun i hi => h i (by omega)
    obtain ⟨y, hy⟩ := h n (by omega)
    refine ⟨xs ++ [y], by simp [hl], fun i hi => ?_⟩
    rcases Nat.lt_or_ge i n with h1 | h1
    · have := hx i h1
      rw [List.getD_eq_getElem?_getD, List.getElem?_append_left (by omega), ← List.getD_eq_getElem?_getD]
      exact this
    · have he : i = n := by omega
      subst he
      rw [List.getD_eq_getElem?_getD, List.getElem?_append_right (by omega), hl]
      simpa using hy

section
variable {H : Type} {enc : TypeId × Value → H} {P : Program} {w : World} {base : Nat} {spare : Nat → Bool} {held : Bool}
theorem addr_of_cell {a : Addr} {u : Value} (h : w.cell? (a.add 0) = some u) : a.spot = none ∧ a.block < w.heap.size := by
  have h' : w.cell? a = some u := h
  unfold World.cell? at h'
  cases hh : w.heap[a.block]? with
  | none => rw [hh] at h'; cases h'
  | some o =>
    refine ⟨?_, (Array.getElem?_eq_some_iff.1 hh).1⟩
    rw [hh] at h'
    cases o with
    | cells c t f =>
      simp only at h'
      cases hsp : a.spot with
      | none => rfl
      | some q => rw [if_pos (by simp [hsp])] at h'; cases h'
    | _ => cases h'
theorem cell_of_add {a : Addr} {m : Nat} {u : Value} (hs : a.spot = none) (h : w.cell? (a.add m) = some u) : w.cell? ⟨a.block, a.off + m, none⟩ = some u := by
  obtain ⟨b, o, s⟩ := a
  simp only at hs
  subst hs
  unfold Addr.add at h
  split at h
  · rename_i h0
    rw [h0]; exact h
  · exact h

theorem open_rows {α : Type} (z : α) (F : α → Nat → Value) (R : α → Prop) {t e : TypeId} {sz n : Nat} {c : Value} {y : DataW H × List MemPlace} (ht : P.underlying t = some (.slice e)) (hC : P.cellsOf e = sz) (hsz : 0 < sz)
    (hopen : ∀ (n : Nat) (cs' : List Value) (y : DataW H × List MemPlace), cs'.length = sz → DataW.trod enc P w base spare held n e cs' = some y → ∃ x : α, (∀ j, j < sz → cs'[j]? = some (F x j)) ∧ R x)
    (h : DataW.trod enc P w base spare held n t [c] = some y) :
    ∃ xs : List α, Sl w w.heap.size sz c xs.length (fun i j => F (xs.getD i z) j) ∧ xs.length ≤ maxLen ∧ ∀ i, i < xs.length → R (xs.getD i z) := by
  rcases open_slice ht h with ⟨hcs, _⟩ | ⟨a, len, cap, m, n', D, Pl, hcs, _, hl, hm, hmm, _, hel⟩
  · simp at hcs
    subst hcs
    exact ⟨[], Sl.nil _ _ _ _, by simp, fun i hi => absurd hi (by simp)⟩
  · simp at hcs
    subst hcs
    have hlm : len ≤ m := by rw [hmm]; split <;> omega
    have hx : ∀ i, i < len → ∃ x : α, (∀ j, j < sz → w.cell? (a.add (i * sz + j)) = some (F x j)) ∧ R x := by
      intro i hi
      obtain ⟨cs', hc, ht'⟩ := hel i (by omega)
      rw [hC] at hc
      obtain ⟨_, hcl, hat⟩ := World.cells?_some hc
      obtain ⟨x, hx, hr⟩ := hopen _ _ _ hcl ht'
      refine ⟨x, fun j hj => ?_, hr⟩
      rw [← Go.Deep.add_add, hat j hj]
      exact hx j hj
    obtain ⟨xs, hlen, hxs⟩ := choose_upto z hx
    refine ⟨xs, ?_, by omega, fun i hi => (hxs i (by omega)).2⟩
    rw [hlen]
    rcases Nat.eq_zero_or_pos len with h0 | h0
    · exact ⟨_, 0, 0, _, rfl, hl, .inr h0, fun i j hi => absurd hi (by omega)⟩
    · have h1 := (hxs 0 h0).1 0 hsz
      rw [Nat.zero_mul] at h1
      obtain ⟨hs, hb⟩ := addr_of_cell h1
      exact ⟨_, a.block, a.off, _, rfl, hl, .inl ⟨by rw [← hs], hb⟩, fun i j hi hj => cell_of_add hs ((hxs i hi).1 j hj)⟩
end
end Go.Proofs.Ytehadoecnmfeoaa
/- The arguments of the laws about options, opened: no condition. -/
namespace Go.Proofs.Ytehadoecnmfeoaa
open Go.Joins Go.ChangeShapes Go.WideShapes Go.ChangeAt Go.RowKit Go.Deep
set_option maxRecDepth 100000
set_option linter.unusedVariables false
set_option linter.unusedSimpArgs false
section
variable {H : Type} {enc : TypeId × Value → H} {W : World} {base b0 : Nat} {r : Reach} {spare : Nat → Bool} {held : Bool} {v : Value} {d : DataW H} {p : List MemPlace}
def I64 (n : Int) : Prop := -9223372036854775808 ≤ n ∧ n ≤ 9223372036854775807
theorem I64.of {n : Int} (h : (Lit.int .i64 n).wf = true) : I64 n := by
  simp [Lit.wf, IntKind.min, IntKind.max, IntKind.signed, IntKind.bits] at h
  exact ⟨by omega, by omega⟩
theorem int_cell {n : Nat} {c : Value} {y : DataW H × List MemPlace} (h : DataW.trod enc Try.prog W base spare held n 3 [c] = some y) : ∃ a, c = .int .i64 a ∧ I64 a := by
  obtain ⟨a, e0, _, wa⟩ := DataW.trod_int Try.underlying3 h
  simp at e0
  exact ⟨a, e0, I64.of wa⟩
theorem cellsInt : Try.prog.cellsOf 3 = 1 := by kernel_rfl
theorem cellsStr : Try.prog.cellsOf 9 = 1 := by kernel_rfl
theorem cellsFo : Try.prog.cellsOf 51 = 1 := by kernel_rfl
theorem ints_cell {t n : Nat} {c : Value} {y : DataW H × List MemPlace} (ht : Try.prog.underlying t = some (.slice 3)) (h : DataW.trod enc Try.prog W base spare held n t [c] = some y) :
    ∃ f : List Int, Ints W W.heap.size c f ∧ f.length ≤ maxLen ∧ ∀ x ∈ f, I64 x := by
  obtain ⟨xs, hsl, hl, hR⟩ := open_rows (α := Int) 0 (fun x _ => .int .i64 x) I64 ht cellsInt (by omega) (by
    intro n cs' y hlen ht
    match cs', hlen with
    | [c0], _ =>
      obtain ⟨a, rfl, ha⟩ := int_cell ht
      refine ⟨a, fun j hj => ?_, ha⟩
      match j, hj with
      | 0, _ => rfl) h
  refine ⟨xs, hsl, hl, fun x hx => ?_⟩
  obtain ⟨i, hi, rfl⟩ := List.mem_iff_getElem.1 hx
  have := hR i hi
  rwa [List.getD_eq_getElem?_getD, List.getElem?_eq_getElem hi, Option.getD_some] at this
theorem strs_cell {t n : Nat} {c : Value} {y : DataW H × List MemPlace} (ht : Try.prog.underlying t = some (.slice 9)) (h : DataW.trod enc Try.prog W base spare held n t [c] = some y) :
    ∃ f : List ByteArray, Names W W.heap.size c f ∧ f.length ≤ maxLen ∧ ∀ x ∈ f, x.size ≤ maxLen := by
  obtain ⟨xs, hsl, hl, hR⟩ := open_rows (α := ByteArray) ByteArray.empty (fun x _ => .string x) (fun x => x.size ≤ maxLen) ht cellsStr (by omega) (by
    intro n cs' y hlen ht
    match cs', hlen with
    | [c0], _ =>
      obtain ⟨s, h1, _, h3⟩ := DataW.trod_string Try.underlying9 ht
      simp at h1
      subst h1
      refine ⟨s, fun j hj => ?_, h3⟩
      match j, hj with
      | 0, _ => rfl) h
  refine ⟨xs, hsl, hl, fun x hx => ?_⟩
  obtain ⟨i, hi, rfl⟩ := List.mem_iff_getElem.1 hx
  have := hR i hi
  rwa [List.getD_eq_getElem?_getD, List.getElem?_eq_getElem hi, Option.getD_some] at this
theorem forms_cell {t n : Nat} {c : Value} {y : DataW H × List MemPlace} (ht : Try.prog.underlying t = some (.slice 51)) (h : DataW.trod enc Try.prog W base spare held n t [c] = some y) :
    ∃ fs : List (List Int), Forms W W.heap.size c fs ∧ Sized fs := by
  obtain ⟨xs, hsl, hl, hR⟩ := open_rows (α := List Int × Value) ([], .slice none 0 0) (fun x _ => x.2) (fun x => Ints W W.heap.size x.2 x.1 ∧ x.1.length ≤ maxLen) ht cellsFo (by omega) (by
    intro n cs' y hlen ht
    match cs', hlen with
    | [c0], _ =>
      obtain ⟨f, hf, hfl, _⟩ := ints_cell Try.underlying51 ht
      refine ⟨(f, c0), fun j hj => ?_, hf, hfl⟩
      match j, hj with
      | 0, _ => rfl) h
  have hg : ∀ i, i < xs.length → (xs.map (·.1)).getD i [] = (xs.getD i ([], .slice none 0 0)).1 := fun i hi => by simp [hi]
  refine ⟨xs.map (·.1), ⟨fun i => (xs.getD i ([], .slice none 0 0)).2, ?_, fun i hi => ?_⟩, by simpa using hl, fun f hf => ?_⟩
  · rw [List.length_map]
    exact hsl
  · rw [List.length_map] at hi
    rw [hg i hi]
    exact (hR i hi).1
  · obtain ⟨x, hx, rfl⟩ := List.mem_map.1 hf
    obtain ⟨i, hi, rfl⟩ := List.mem_iff_getElem.1 hx
    have := (hR i hi).2
    rwa [List.getD_eq_getElem?_getD, List.getElem?_eq_getElem hi, Option.getD_some] at this
end
end Go.Proofs.Ytehadoecnmfeoaa
/- Diagrams handed in, and where a variant comes to in one. Plain laws; the arguments opened: no condition. -/
namespace Go.Proofs.Ytehadoecnmfeoaa
open Go.Joins Go.ChangeShapes Go.WideShapes Go.ChangeAt Go.RowKit Go.Deep
set_option maxRecDepth 100000
set_option linter.unusedVariables false
set_option linter.unusedSimpArgs false
structure Kt where
  o : Int
  l : Int
  h : Int
def Kt.z : Kt := ⟨0, 0, 0⟩
def ktF (k : Kt) (j : Nat) : Value := match j with
  | 0 => .int .i64 k.o
  | 1 => .int .i64 k.l
  | _ => .int .i64 k.h
def Kts (w : World) (B : Nat) (v : Value) (ks : List Kt) : Prop := Sl w B 3 v ks.length (fun i j => ktF (ks.getD i Kt.z) j)
/-- Whether one may go on to a place. -/
def goB (ks : List Kt) (before : Nat) (o q : Int) : Bool := q == -1 || q == -2 || (decide (0 ≤ q) && decide (q < before) && decide (o < (ks.getD q.toNat Kt.z).o))
def okB (n : Nat) (ks : List Kt) (i : Nat) : Bool := decide (0 ≤ (ks.getD i Kt.z).o) && decide ((ks.getD i Kt.z).o < n) && goB ks i (ks.getD i Kt.z).o (ks.getD i Kt.z).l && goB ks i (ks.getD i Kt.z).o (ks.getD i Kt.z).h
/-- Where one goes on from a knot. -/
def nxt (ks : List Kt) (v : List Bool) (r : Int) : Int := if v.getD (ks.getD r.toNat Kt.z).o.toNat false then (ks.getD r.toNat Kt.z).h else (ks.getD r.toNat Kt.z).l
def flw (ks : List Kt) (v : List Bool) : Nat → Int → Int
  | 0, r => r
  | n + 1, r => if r < 0 then r else flw ks v n (nxt ks v r)
def allB (n : Nat) (ks : List Kt) : Bool := (List.range ks.length).all (okB n ks)
/-- What Follow returns. -/
def folE (m : Mo) (ks : List Kt) (r : Int) (v : List Bool) : Int := if m.err ≠ 0 then m.err else if 2000 < ks.length ∨ allB m.opts.length ks = false ∨ r < -2 ∨ (ks.length : Int) ≤ r ∨ v.length ≠ m.opts.length then 1 else 0
def folB (m : Mo) (ks : List Kt) (r : Int) (v : List Bool) : Bool := if folE m ks r v = 0 then flw ks v ks.length r == -2 else false
section
variable {H : Type} {enc : TypeId × Value → H} {W : World} {base b0 : Nat} {r : Reach} {spare : Nat → Bool} {held : Bool} {v : Value} {d : DataW H} {p : List MemPlace}
end
end Go.Proofs.Ytehadoecnmfeoaa
/- The value of a formula as the elder program has it: walk. -/
namespace Go.Proofs.Ytehadoecnmfeoaa
open Go.RowKit
set_option linter.unusedVariables false
set_option linter.unusedSimpArgs false
/-- What eval tells of the term at place p. -/
def EvR (N : Nat) (v : Nat → Bool) (f : List Int) (p c : Nat) (x : Bool) (q : Nat) : Prop :=
  p < q ∧ q ≤ f.length ∧ vld N c (f.drop q) = true ∧ evS v (f.drop p) = x :: evS v (f.drop q)
theorem EvR.one {N c p q : Nat} {v : Nat → Bool} {f : List Int} {x : Bool} (hd : f.drop p = -3 :: f.drop (p + 1)) (h : EvR N v f (p + 1) c x q) : EvR N v f p c (!x) q := by
  obtain ⟨h1, h2, h3, h4⟩ := h
  refine ⟨by omega, h2, h3, ?_⟩
  rw [hd, evS_cons, h4]
  rfl
theorem EvR.two {N c p q r : Nat} {v : Nat → Bool} {f : List Int} {x y z : Bool} {o : Int} (hd : f.drop p = o :: f.drop (p + 1)) (h : EvR N v f (p + 1) (c + 1) x q) (k : EvR N v f q c y r) (hs : ∀ S, stp v o (x :: y :: S) = z :: S) : EvR N v f p c z r := by
  obtain ⟨h1, h2, h3, h4⟩ := h
  obtain ⟨k1, k2, k3, k4⟩ := k
  refine ⟨by omega, k2, k3, ?_⟩
  rw [hd, evS_cons, h4, k4, hs]
def EvP (N : Nat) (v : Nat → Bool) (f : List Int) (p c : Nat) (w : World) (e : Ending) (W : World) : Prop := ∃ (x : Bool) (q : Nat), e = .returned (.tuple #[.bool x, .int .i64 (q : Nat)]) ∧ EvR N v f p c x q ∧ w = W
end Go.Proofs.Ytehadoecnmfeoaa
/- A formula's value as the elder program has it: walk. -/
namespace Go.Proofs.Ytehadoecnmfeoaa
open Go.RowKit
set_option linter.unusedVariables false
set_option linter.unusedSimpArgs false
end Go.Proofs.Ytehadoecnmfeoaa
/- Names and valid formulas, as the elder program has them: walks. -/
namespace Go.Proofs.Ytehadoecnmfeoaa
open Go.RowKit
set_option linter.unusedVariables false
set_option linter.unusedSimpArgs false
end Go.Proofs.Ytehadoecnmfeoaa
/- The end of a term, as the elder program has it: walk. -/
namespace Go.Proofs.Ytehadoecnmfeoaa
open Go.RowKit
set_option linter.unusedVariables false
set_option linter.unusedSimpArgs false
/-- How many numbers of l belong to its first c terms. -/
def endN (N : Nat) : Nat → List Int → Option Nat
  | 0, _ => some 0
  | _ + 1, [] => none
  | c + 1, o :: r => if -6 ≤ o ∧ o < N then (endN N (c + arO o) r).map (· + 1) else none
def endR (p : Nat) : Option Nat → Int
  | none => -1
  | some q => (p + q : Nat)
end Go.Proofs.Ytehadoecnmfeoaa
/- CheckModel as the elder program has it: walk. -/
namespace Go.Proofs.Ytehadoecnmfeoaa
open Go.RowKit
set_option linter.unusedVariables false
set_option linter.unusedSimpArgs false
end Go.Proofs.Ytehadoecnmfeoaa

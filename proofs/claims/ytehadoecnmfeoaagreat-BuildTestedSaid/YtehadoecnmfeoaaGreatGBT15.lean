/- Part 15 of this claim's texts: walks and plain laws. -/
import Derived.Test.YtehadoecnmfeoaaGreatRows
import Derived.Test.YtehadoecnmfeoaaGreatGBT1
import Derived.Test.YtehadoecnmfeoaaGreatGBT14
import Derived.Test.YtehadoecnmfeoaaGreatGBT10
import Derived.Test.YtehadoecnmfeoaaGreatGBT9
import Derived.Test.YtehadoecnmfeoaaGreatGBT8
import Derived.WalkLawsBesides
import Derived.WalkSpells
import Derived.Deep.QuietTactic
/- Looms, and which error one has. Plain. -/
namespace Go.Proofs.YtehadoecnmfeoaaGreat
set_option linter.unusedVariables false
set_option linter.unusedSimpArgs false
structure Sp where
  x : Int
  y : Int
  z : Int
def Sp.o : Sp := ⟨0, 0, 0⟩
structure Ru where
  a : Int
  b : Int
  len : Int
  room : Int
def Ru.o : Ru := ⟨0, 0, 0, 0⟩
structure Pl where
  name : ByteArray
  spot : Int
  cav : Int
def Pl.o : Pl := ⟨ByteArray.empty, 0, 0⟩
structure Wi where
  name : ByteArray
  fp : Int
  fc : Int
  tp : Int
  tc : Int
  size : Int
  form : List Int
def Wi.o : Wi := ⟨ByteArray.empty, 0, 0, 0, 0, 0, []⟩
/-- A loom. -/
structure Lo where
  m : Mo
  ss : List Sp
  us : List Ru
  ps : List Pl
  ws : List Wi

/-- A name of a plug or wire: one to eight small letters. -/
def lowB (l : List UInt8) : Bool := decide (1 ≤ l.length) && decide (l.length ≤ 8) && l.all smN
def btw (n lo hi : Int) : Bool := decide (lo ≤ n) && decide (n ≤ hi)
theorem btw_iff {n lo hi : Int} : btw n lo hi = true ↔ lo ≤ n ∧ n ≤ hi := by simp [btw]
def Sp.ok (s : Sp) : Bool := btw s.x (-100000) 100000 && btw s.y (-100000) 100000 && btw s.z (-100000) 100000
def sqS (a b : Sp) : Int := (a.x - b.x) * (a.x - b.x) + (a.y - b.y) * (a.y - b.y) + (a.z - b.z) * (a.z - b.z)
def Ru.ok (ss : List Sp) (r : Ru) : Bool :=
  btw r.a 0 ((ss.length : Int) - 1) && btw r.b 0 ((ss.length : Int) - 1) && decide (r.a ≠ r.b) && btw r.len 1 1000000 && btw r.room 0 1000000 && decide (sqS (ss.getD r.a.toNat Sp.o) (ss.getD r.b.toNat Sp.o) ≤ r.len * r.len)
/-- The runs, as pairs of spots. -/
def Lo.rs (l : Lo) : List (Nat × Nat) := l.us.map fun r => (r.a.toNat, r.b.toNat)
def bytes (s : ByteArray) : List UInt8 := s.data.toList
def plOk (l : Lo) (i : Nat) : Bool :=
  lowB (bytes (l.ps.getD i Pl.o).name) && !((l.ps.take i).any fun q => bytes q.name == bytes (l.ps.getD i Pl.o).name) && btw (l.ps.getD i Pl.o).spot 0 ((l.ss.length : Int) - 1) && btw (l.ps.getD i Pl.o).cav 1 40
def pinOk (l : Lo) (p c : Int) : Bool := btw p 0 ((l.ps.length : Int) - 1) && btw c 0 ((l.ps.getD p.toNat Pl.o).cav - 1)
def wiOk (l : Lo) (i : Nat) : Bool :=
  lowB (bytes (l.ws.getD i Wi.o).name) && !((l.ws.take i).any fun q => bytes q.name == bytes (l.ws.getD i Wi.o).name) && pinOk l (l.ws.getD i Wi.o).fp (l.ws.getD i Wi.o).fc && pinOk l (l.ws.getD i Wi.o).tp (l.ws.getD i Wi.o).tc &&
    !(decide ((l.ws.getD i Wi.o).fp = (l.ws.getD i Wi.o).tp) && decide ((l.ws.getD i Wi.o).fc = (l.ws.getD i Wi.o).tc)) && btw (l.ws.getD i Wi.o).size 1 10000
/-- The error of the wire with a number. -/
def wiErr (l : Lo) (i : Nat) : Int := if wiOk l i = false then 63 else if validF l.m.opts.length (l.ws.getD i Wi.o).form = false then 11 else 0
/-- The first error of the first wires. -/
def wiresErr (l : Lo) : Nat → Int
  | 0 => 0
  | i + 1 => if wiresErr l i ≠ 0 then wiresErr l i else wiErr l i
/-- Whether the runs are a tree, as the program looks. -/
def Lo.full (l : Lo) : Bool := decide ((stR l.rs (-1) 0 l.ss.length).length = l.ss.length)
def Lo.many (l : Lo) : Bool := decide (40 < l.ss.length) || decide (40 < l.us.length) || decide (30 < l.ps.length) || decide (60 < l.ws.length)
def Lo.err (l : Lo) : Int :=
  if l.m.err ≠ 0 then l.m.err else if l.many then 2 else if l.ss.all Sp.ok = false then 60 else if l.ss.length = 0 ∨ l.us.length + 1 ≠ l.ss.length then 61 else if l.us.all (Ru.ok l.ss) = false then 61 else if l.full = false then 61
  else if (List.range l.ps.length).all (plOk l) = false then 62 else wiresErr l l.ws.length
/-- A loom without an error. -/
structure LoOk (l : Lo) : Prop where
  m : l.m.err = 0
  s40 : l.ss.length ≤ 40
  u40 : l.us.length ≤ 40
  p30 : l.ps.length ≤ 30
  w60 : l.ws.length ≤ 60
  ss : ∀ x ∈ l.ss, x.ok = true
  us : ∀ x ∈ l.us, x.ok l.ss = true
  tree : TreeR l.rs l.ss.length
  ps : ∀ i, i < l.ps.length → plOk l i = true
  ws : ∀ i, i < l.ws.length → wiErr l i = 0
theorem rs_getD (l : Lo) {k : Nat} (hk : k < l.us.length) : l.rs.getD k (0, 0) = ((l.us.getD k Ru.o).a.toNat, (l.us.getD k Ru.o).b.toNat) := by
  simp [Lo.rs, hk]
theorem rs_len (l : Lo) : l.rs.length = l.us.length := by simp [Lo.rs]
theorem rs_lt {l : Lo} (h : ∀ x ∈ l.us, x.ok l.ss = true) : ∀ k, k < l.rs.length → (l.rs.getD k (0, 0)).1 < l.ss.length ∧ (l.rs.getD k (0, 0)).2 < l.ss.length := by
  intro k hk
  rw [rs_len] at hk
  rw [rs_getD l hk]
  have h1 := h (l.us.getD k Ru.o) (by rw [List.getD_eq_getElem?_getD, List.getElem?_eq_getElem hk]; exact List.getElem_mem hk)
  unfold Ru.ok at h1
  simp only [Bool.and_eq_true, btw_iff] at h1
  obtain ⟨⟨⟨⟨⟨h2, h3⟩, _⟩, _⟩, _⟩, _⟩ := h1
  constructor <;> simp only <;> omega
theorem wiresErr_zero {l : Lo} : ∀ {n : Nat}, wiresErr l n = 0 → ∀ i, i < n → wiErr l i = 0
  | 0, _, i, hi => by omega
  | n + 1, h, i, hi => by
    have h' : (if wiresErr l n ≠ 0 then wiresErr l n else wiErr l n) = 0 := h
    by_cases h1 : wiresErr l n = 0
    · rw [if_neg (by simp [h1])] at h'
      rcases Nat.lt_or_ge i n with h2 | h2
      · exact wiresErr_zero h1 i h2
      · rw [show i = n by omega]; exact h'
    · rw [if_pos h1] at h'
      exact absurd h' h1
theorem Lo.err_ok {l : Lo} (h : l.err = 0) : LoOk l := by
  unfold Lo.err at h
  by_cases h1 : l.m.err = 0
  · rw [if_neg (by simp [h1])] at h
    by_cases h2 : l.many = true
    · rw [if_pos h2] at h; omega
    rw [if_neg h2] at h
    by_cases h3 : l.ss.all Sp.ok = false
    · rw [if_pos h3] at h; omega
    rw [if_neg h3] at h
    by_cases h4 : l.ss.length = 0 ∨ l.us.length + 1 ≠ l.ss.length
    · rw [if_pos h4] at h; omega
    rw [if_neg h4] at h
    by_cases h5 : l.us.all (Ru.ok l.ss) = false
    · rw [if_pos h5] at h; omega
    rw [if_neg h5] at h
    by_cases h6 : l.full = false
    · rw [if_pos h6] at h; omega
    rw [if_neg h6] at h
    by_cases h7 : (List.range l.ps.length).all (plOk l) = false
    · rw [if_pos h7] at h; omega
    rw [if_neg h7] at h
    simp only [Lo.many, Bool.or_eq_true, decide_eq_true_eq, not_or] at h2
    have hu : ∀ x ∈ l.us, x.ok l.ss = true := List.all_eq_true.1 (by simpa using h5)
    have hn : 0 < l.ss.length := by omega
    have hf : (stR l.rs (-1) 0 l.ss.length).length = l.ss.length := by simpa [Lo.full] using h6
    exact ⟨h1, by omega, by omega, by omega, by omega, List.all_eq_true.1 (by simpa using h3), hu,
      ⟨by rw [rs_len]; omega, rs_lt hu, (stR_full hn (rs_lt hu) (stR_ends hn (rs_lt hu))).1 hf⟩,
      fun i hi => by have := List.all_eq_true.1 (show (List.range l.ps.length).all (plOk l) = true by simpa using h7) i (by simpa using hi); exact this, wiresErr_zero h⟩
  · rw [if_pos h1] at h
    exact absurd h h1
end Go.Proofs.YtehadoecnmfeoaaGreat
/- A loom in memory; a loom's argument opened: no condition. -/
namespace Go.Proofs.YtehadoecnmfeoaaGreat
open Go.Joins Go.ChangeShapes Go.WideShapes Go.ChangeAt Go.RowKit Go.Deep
set_option maxRecDepth 100000
set_option linter.unusedVariables false
set_option linter.unusedSimpArgs false
def spC (s : Sp) : Nat → Value
  | 0 => .int .i64 s.x
  | 1 => .int .i64 s.y
  | _ => .int .i64 s.z
def ruC (s : Ru) : Nat → Value
  | 0 => .int .i64 s.a
  | 1 => .int .i64 s.b
  | 2 => .int .i64 s.len
  | _ => .int .i64 s.room
def plC (s : Pl) : Nat → Value
  | 0 => .string s.name
  | 1 => .int .i64 s.spot
  | _ => .int .i64 s.cav
def wiC (s : Wi) (v : Value) : Nat → Value
  | 0 => .string s.name
  | 1 => .int .i64 s.fp
  | 2 => .int .i64 s.fc
  | 3 => .int .i64 s.tp
  | 4 => .int .i64 s.tc
  | 5 => .int .i64 s.size
  | _ => v
def Sps (w : World) (B : Nat) (v : Value) (l : List Sp) : Prop := Sl w B 3 v l.length fun i j => spC (l.getD i Sp.o) j
def Rus (w : World) (B : Nat) (v : Value) (l : List Ru) : Prop := Sl w B 4 v l.length fun i j => ruC (l.getD i Ru.o) j
def Pls (w : World) (B : Nat) (v : Value) (l : List Pl) : Prop := Sl w B 3 v l.length fun i j => plC (l.getD i Pl.o) j
def Wis (w : World) (B : Nat) (v : Value) (l : List Wi) : Prop := ∃ fv : Nat → Value, Sl w B 7 v l.length (fun i j => wiC (l.getD i Wi.o) (fv i) j) ∧ ∀ i, i < l.length → Ints w B (fv i) (l.getD i Wi.o).form
structure LoAt (w : World) (B : Nat) (ov rv sv uv pv wv : Value) (l : Lo) : Prop where
  m : MoAt w B ov rv l.m
  s : Sps w B sv l.ss
  u : Rus w B uv l.us
  p : Pls w B pv l.ps
  w : Wis w B wv l.ws
/-- What the numbers and lengths of an argument keep to. -/
structure SizedL (l : Lo) : Prop where
  m : SizedM l.m
  s : l.ss.length ≤ maxLen
  u : l.us.length ≤ maxLen
  p : l.ps.length ≤ maxLen
  w : l.ws.length ≤ maxLen
  pn : ∀ x ∈ l.ps, x.name.size ≤ maxLen
  wn : ∀ x ∈ l.ws, x.name.size ≤ maxLen ∧ x.form.length ≤ maxLen
section
variable {H : Type} {enc : TypeId × Value → H} {W : World} {base b0 : Nat} {r : Reach} {spare : Nat → Bool} {held : Bool} {v : Value} {d : DataW H} {p : List MemPlace}
theorem cellsSp : Tryz.prog.cellsOf 155 = 3 := by kernel_rfl
theorem cellsRu : Tryz.prog.cellsOf 157 = 4 := by kernel_rfl
theorem cellsPl : Tryz.prog.cellsOf 159 = 3 := by kernel_rfl
theorem cellsPin : Tryz.prog.cellsOf 74 = 2 := by kernel_rfl
theorem cellsWi : Tryz.prog.cellsOf 76 = 7 := by kernel_rfl
theorem cellsMo : Tryz.prog.cellsOf 25 = 2 := by kernel_rfl
theorem cellsLo : Tryz.prog.cellsOf 31 = 6 := by kernel_rfl
theorem str_cell {n : Nat} {c : Value} {y : DataW H × List MemPlace} (h : DataW.trod enc Tryz.prog W base spare held n 9 [c] = some y) : ∃ s, c = .string s ∧ s.size ≤ maxLen := by
  obtain ⟨s, h1, _, h3⟩ := DataW.trod_string Tryz.underlying9 h
  simp at h1
  exact ⟨s, h1, h3⟩
theorem all_of {α : Type} {z : α} {R : α → Prop} {xs : List α} (h : ∀ i, i < xs.length → R (xs.getD i z)) : ∀ x ∈ xs, R x := by
  intro x hx
  obtain ⟨i, hi, rfl⟩ := List.mem_iff_getElem.1 hx
  have := h i hi
  rwa [List.getD_eq_getElem?_getD, List.getElem?_eq_getElem hi, Option.getD_some] at this
theorem spots_cell {n : Nat} {c : Value} {y : DataW H × List MemPlace} (h : DataW.trod enc Tryz.prog W base spare held n 26 [c] = some y) :
    ∃ l : List Sp, Sps W W.heap.size c l ∧ l.length ≤ maxLen ∧ ∀ x ∈ l, I64 x.x ∧ I64 x.y ∧ I64 x.z := by
  obtain ⟨xs, hsl, hl, hR⟩ := open_rows (α := Sp) Sp.o (fun x j => spC x j) (fun x => I64 x.x ∧ I64 x.y ∧ I64 x.z) Tryz.underlying26 cellsSp (by omega) (by
    intro n cs' y hlen ht
    match cs', hlen with
    | [c0, c1, c2], _ =>
      obtain ⟨xs, n', _, _, _, hlen, hf⟩ := DataW.trod_struct Tryz.underlying155 ht
      have g0 := hf 0 _ rfl
      have g1 := hf 1 _ rfl
      have g2 := hf 2 _ rfl
      match xs, hlen with
      | [y0, y1, y2], _ =>
        obtain ⟨a0, rfl, i0⟩ := int_cell (y := y0) (by simpa [cellsInt] using g0)
        obtain ⟨a1, rfl, i1⟩ := int_cell (y := y1) (by simpa [cellsInt] using g1)
        obtain ⟨a2, rfl, i2⟩ := int_cell (y := y2) (by simpa [cellsInt] using g2)
        refine ⟨⟨a0, a1, a2⟩, fun j hj => ?_, i0, i1, i2⟩
        match j, hj with
        | 0, _ => rfl
        | 1, _ => rfl
        | 2, _ => rfl) h
  exact ⟨xs, hsl, hl, all_of hR⟩
theorem runs_cell {n : Nat} {c : Value} {y : DataW H × List MemPlace} (h : DataW.trod enc Tryz.prog W base spare held n 27 [c] = some y) :
    ∃ l : List Ru, Rus W W.heap.size c l ∧ l.length ≤ maxLen ∧ ∀ x ∈ l, I64 x.a ∧ I64 x.b ∧ I64 x.len ∧ I64 x.room := by
  obtain ⟨xs, hsl, hl, hR⟩ := open_rows (α := Ru) Ru.o (fun x j => ruC x j) (fun x => I64 x.a ∧ I64 x.b ∧ I64 x.len ∧ I64 x.room) Tryz.underlying27 cellsRu (by omega) (by
    intro n cs' y hlen ht
    match cs', hlen with
    | [c0, c1, c2, c3], _ =>
      obtain ⟨xs, n', _, _, _, hlen, hf⟩ := DataW.trod_struct Tryz.underlying157 ht
      have g0 := hf 0 _ rfl
      have g1 := hf 1 _ rfl
      have g2 := hf 2 _ rfl
      have g3 := hf 3 _ rfl
      match xs, hlen with
      | [y0, y1, y2, y3], _ =>
        obtain ⟨a0, rfl, i0⟩ := int_cell (y := y0) (by simpa [cellsInt] using g0)
        obtain ⟨a1, rfl, i1⟩ := int_cell (y := y1) (by simpa [cellsInt] using g1)
        obtain ⟨a2, rfl, i2⟩ := int_cell (y := y2) (by simpa [cellsInt] using g2)
        obtain ⟨a3, rfl, i3⟩ := int_cell (y := y3) (by simpa [cellsInt] using g3)
        refine ⟨⟨a0, a1, a2, a3⟩, fun j hj => ?_, i0, i1, i2, i3⟩
        match j, hj with
        | 0, _ => rfl
        | 1, _ => rfl
        | 2, _ => rfl
        | 3, _ => rfl) h
  exact ⟨xs, hsl, hl, all_of hR⟩
theorem plugs_cell {n : Nat} {c : Value} {y : DataW H × List MemPlace} (h : DataW.trod enc Tryz.prog W base spare held n 28 [c] = some y) :
    ∃ l : List Pl, Pls W W.heap.size c l ∧ l.length ≤ maxLen ∧ ∀ x ∈ l, x.name.size ≤ maxLen ∧ I64 x.spot ∧ I64 x.cav := by
  obtain ⟨xs, hsl, hl, hR⟩ := open_rows (α := Pl) Pl.o (fun x j => plC x j) (fun x => x.name.size ≤ maxLen ∧ I64 x.spot ∧ I64 x.cav) Tryz.underlying28 cellsPl (by omega) (by
    intro n cs' y hlen ht
    match cs', hlen with
    | [c0, c1, c2], _ =>
      obtain ⟨xs, n', _, _, _, hlen, hf⟩ := DataW.trod_struct Tryz.underlying159 ht
      have g0 := hf 0 _ rfl
      have g1 := hf 1 _ rfl
      have g2 := hf 2 _ rfl
      match xs, hlen with
      | [y0, y1, y2], _ =>
        obtain ⟨a0, rfl, i0⟩ := str_cell (y := y0) (by simpa [cellsStr] using g0)
        obtain ⟨a1, rfl, i1⟩ := int_cell (y := y1) (by simpa [cellsStr, cellsInt] using g1)
        obtain ⟨a2, rfl, i2⟩ := int_cell (y := y2) (by simpa [cellsStr, cellsInt] using g2)
        refine ⟨⟨a0, a1, a2⟩, fun j hj => ?_, i0, i1, i2⟩
        match j, hj with
        | 0, _ => rfl
        | 1, _ => rfl
        | 2, _ => rfl) h
  exact ⟨xs, hsl, hl, all_of hR⟩
theorem pin_cells {n : Nat} {c0 c1 : Value} {y : DataW H × List MemPlace} (h : DataW.trod enc Tryz.prog W base spare held n 74 [c0, c1] = some y) : ∃ a b, c0 = .int .i64 a ∧ c1 = .int .i64 b ∧ I64 a ∧ I64 b := by
  obtain ⟨xs, n', _, _, _, hlen, hf⟩ := DataW.trod_struct Tryz.underlying74 h
  have g0 := hf 0 _ rfl
  have g1 := hf 1 _ rfl
  match xs, hlen with
  | [y0, y1], _ =>
    obtain ⟨a0, rfl, i0⟩ := int_cell (y := y0) (by simpa [cellsInt] using g0)
    obtain ⟨a1, rfl, i1⟩ := int_cell (y := y1) (by simpa [cellsInt] using g1)
    exact ⟨a0, a1, rfl, rfl, i0, i1⟩
theorem wires_cell {n : Nat} {c : Value} {y : DataW H × List MemPlace} (h : DataW.trod enc Tryz.prog W base spare held n 29 [c] = some y) :
    ∃ l : List Wi, Wis W W.heap.size c l ∧ l.length ≤ maxLen ∧ ∀ x ∈ l, x.name.size ≤ maxLen ∧ x.form.length ≤ maxLen ∧ I64 x.fp ∧ I64 x.fc ∧ I64 x.tp ∧ I64 x.tc ∧ I64 x.size ∧ ∀ u ∈ x.form, I64 u := by
  obtain ⟨xs, hsl, hl, hR⟩ := open_rows (α := Wi × Value) (Wi.o, .slice none 0 0) (fun x j => wiC x.1 x.2 j) (fun x => Ints W W.heap.size x.2 x.1.form ∧ x.1.name.size ≤ maxLen ∧ x.1.form.length ≤ maxLen ∧ I64 x.1.fp ∧ I64 x.1.fc ∧ I64 x.1.tp ∧ I64 x.1.tc ∧ I64 x.1.size ∧ ∀ u ∈ x.1.form, I64 u) Tryz.underlying29 cellsWi (by omega) (by
    intro n cs' y hlen ht
    match cs', hlen with
    | [c0, c1, c2, c3, c4, c5, c6], _ =>
      obtain ⟨xs, n', _, _, _, hlen, hf⟩ := DataW.trod_struct Tryz.underlying76 ht
      have g0 := hf 0 _ rfl
      have g1 := hf 1 _ rfl
      have g2 := hf 2 _ rfl
      have g3 := hf 3 _ rfl
      have g4 := hf 4 _ rfl
      match xs, hlen with
      | [y0, y1, y2, y3, y4], _ =>
        obtain ⟨a0, rfl, i0⟩ := str_cell (y := y0) (by simpa [cellsStr] using g0)
        obtain ⟨a1, a2, rfl, rfl, i1, i2⟩ := pin_cells (y := y1) (by simpa [cellsStr, cellsPin] using g1)
        obtain ⟨a3, a4, rfl, rfl, i3, i4⟩ := pin_cells (y := y2) (by simpa [cellsStr, cellsPin] using g2)
        obtain ⟨a5, rfl, i5⟩ := int_cell (y := y3) (by simpa [cellsStr, cellsPin, cellsInt] using g3)
        obtain ⟨f, hf, hfl, hfi⟩ := ints_cell (y := y4) Tryz.underlying46 (by simpa [cellsStr, cellsPin, cellsInt, cellsFo] using g4)
        refine ⟨(⟨a0, a1, a2, a3, a4, a5, f⟩, c6), fun j hj => ?_, hf, i0, hfl, i1, i2, i3, i4, i5, hfi⟩
        match j, hj with
        | 0, _ => rfl
        | 1, _ => rfl
        | 2, _ => rfl
        | 3, _ => rfl
        | 4, _ => rfl
        | 5, _ => rfl
        | 6, _ => rfl) h
  have hg : ∀ i, i < xs.length → (xs.map (·.1)).getD i Wi.o = (xs.getD i (Wi.o, .slice none 0 0)).1 := fun i hi => by simp [hi]
  refine ⟨xs.map (·.1), ⟨fun i => (xs.getD i (Wi.o, .slice none 0 0)).2, ?_, fun i hi => ?_⟩, by simpa using hl, fun x hx => ?_⟩
  · rw [List.length_map]
    exact Sl.congr hsl fun i j hi hj => by rw [hg i hi]
  · rw [List.length_map] at hi
    rw [hg i hi]
    exact (hR i hi).1
  · obtain ⟨u, hu, rfl⟩ := List.mem_map.1 hx
    exact (all_of (R := fun x : Wi × Value => Ints W W.heap.size x.2 x.1.form ∧ x.1.name.size ≤ maxLen ∧ x.1.form.length ≤ maxLen ∧ I64 x.1.fp ∧ I64 x.1.fc ∧ I64 x.1.tp ∧ I64 x.1.tc ∧ I64 x.1.size ∧ ∀ u ∈ x.1.form, I64 u) hR u hu).2
theorem open_loom (hv : Value.okWide Tryz.prog W r b0 31 v) (h : DataW.Trod enc Tryz.prog W base spare held 31 v d p) :
    ∃ (ov rv sv uv pv wv : Value) (l : Lo), v = .agg #[ov, rv, sv, uv, pv, wv] ∧ LoAt W W.heap.size ov rv sv uv pv wv l ∧ SizedL l ∧ (∀ x ∈ l.ss, I64 x.x ∧ I64 x.y ∧ I64 x.z) ∧ (∀ x ∈ l.us, I64 x.a ∧ I64 x.b ∧ I64 x.len ∧ I64 x.room) ∧ (∀ x ∈ l.ps, I64 x.spot ∧ I64 x.cav) ∧
      ∀ x ∈ l.ws, I64 x.fp ∧ I64 x.fc ∧ I64 x.tp ∧ I64 x.tc ∧ I64 x.size := by
  obtain ⟨cs, rfl, hsz⟩ := okWide_struct Tryz.underlying31 hv
  obtain ⟨l⟩ := cs
  match l, hsz.trans cellsLo with
  | [c0, c1, c2, c3, c4, c5], _ =>
    obtain ⟨fuel, hf⟩ := h
    obtain ⟨xs, n, _, _, _, hlen, hg⟩ := DataW.trod_struct Tryz.underlying31 hf
    have g0 := hg 0 _ rfl
    have g1 := hg 1 _ rfl
    have g2 := hg 2 _ rfl
    have g3 := hg 3 _ rfl
    have g4 := hg 4 _ rfl
    match xs, hlen with
    | [y0, y1, y2, y3, y4], _ =>
      have m0 : DataW.trod enc Tryz.prog W base spare held n 25 [c0, c1] = some y0 := by simpa [Value.cells, cellsMo] using g0
      obtain ⟨xm, nm, _, _, _, hlm, hm⟩ := DataW.trod_struct Tryz.underlying25 m0
      have q0 := hm 0 _ rfl
      have q1 := hm 1 _ rfl
      match xm, hlm with
      | [z0, z1], _ =>
        obtain ⟨os, ho, hol, hos⟩ := strs_cell (y := z0) (c := c0) Tryz.underlying22 (by simpa [show Tryz.prog.cellsOf 22 = 1 by kernel_rfl] using q0)
        obtain ⟨fs, hfs, hfz⟩ := forms_cell (y := z1) (c := c1) Tryz.underlying23 (by simpa [show Tryz.prog.cellsOf 22 = 1 by kernel_rfl, show Tryz.prog.cellsOf 23 = 1 by kernel_rfl] using q1)
        obtain ⟨ss, hs, hsl, hsi⟩ := spots_cell (y := y1) (c := c2) (by simpa [Value.cells, cellsMo, show Tryz.prog.cellsOf 26 = 1 by kernel_rfl] using g1)
        obtain ⟨us, hu, hul, hui⟩ := runs_cell (y := y2) (c := c3) (by simpa [Value.cells, cellsMo, show Tryz.prog.cellsOf 26 = 1 by kernel_rfl, show Tryz.prog.cellsOf 27 = 1 by kernel_rfl] using g2)
        obtain ⟨ps, hp, hpl, hpi⟩ := plugs_cell (y := y3) (c := c4) (by simpa [Value.cells, cellsMo, show Tryz.prog.cellsOf 26 = 1 by kernel_rfl, show Tryz.prog.cellsOf 27 = 1 by kernel_rfl, show Tryz.prog.cellsOf 28 = 1 by kernel_rfl] using g3)
        obtain ⟨ws, hw, hwl, hwi⟩ := wires_cell (y := y4) (c := c5) (by simpa [Value.cells, cellsMo, show Tryz.prog.cellsOf 26 = 1 by kernel_rfl, show Tryz.prog.cellsOf 27 = 1 by kernel_rfl, show Tryz.prog.cellsOf 28 = 1 by kernel_rfl, show Tryz.prog.cellsOf 29 = 1 by kernel_rfl] using g4)
        exact ⟨c0, c1, c2, c3, c4, c5, ⟨⟨os, fs⟩, ss, us, ps, ws⟩, rfl, ⟨⟨ho, hfs⟩, hs, hu, hp, hw⟩, ⟨⟨hol, hos, hfz⟩, hsl, hul, hpl, hwl, fun x hx => (hpi x hx).1, fun x hx => ⟨(hwi x hx).1, (hwi x hx).2.1⟩⟩, hsi, hui, fun x hx => (hpi x hx).2,
          fun x hx => ⟨(hwi x hx).2.2.1, (hwi x hx).2.2.2.1, (hwi x hx).2.2.2.2.1, (hwi x hx).2.2.2.2.2.1, (hwi x hx).2.2.2.2.2.2.1⟩⟩
end
end Go.Proofs.YtehadoecnmfeoaaGreat
/- The first error of a row; the list of what is reached stays. Plain. -/
namespace Go.Proofs.YtehadoecnmfeoaaGreat
set_option linter.unusedVariables false
set_option linter.unusedSimpArgs false
/-- The first error of the first elements of a row. -/
def firstE (e : Nat → Int) : Nat → Int
  | 0 => 0
  | i + 1 => if firstE e i ≠ 0 then firstE e i else e i
theorem firstE_none {e : Nat → Int} {i : Nat} (h : ∀ j, j < i → e j = 0) : firstE e i = 0 := by
  induction i with
  | zero => rfl
  | succ i ih =>
    have h1 := ih fun j hj => h j (by omega)
    show (if firstE e i ≠ 0 then _ else _) = _
    rw [if_neg (by rw [h1]; simp), h i (by omega)]
theorem firstE_stays {e : Nat → Int} {i n : Nat} (h : firstE e i ≠ 0) (hn : i ≤ n) : firstE e n = firstE e i := by
  induction n with
  | zero => rw [show i = 0 by omega]
  | succ n ih =>
    rcases Nat.lt_or_ge i (n + 1) with h1 | h1
    · have h2 := ih (by omega)
      show (if firstE e n ≠ 0 then _ else _) = _
      rw [h2, if_pos h]
    · rw [show i = n + 1 by omega]
theorem firstE_at {e : Nat → Int} {i n : Nat} (h : ∀ j, j < i → e j = 0) (hi : e i ≠ 0) (hn : i < n) : firstE e n = e i := by
  have h1 : firstE e (i + 1) = e i := by
    show (if firstE e i ≠ 0 then _ else _) = _
    rw [firstE_none h, if_neg (by simp)]
  rw [firstE_stays (i := i + 1) (by rw [h1]; exact hi) (by omega), h1]
theorem firstE_wires (l : Lo) : ∀ n, firstE (wiErr l) n = wiresErr l n
  | 0 => rfl
  | n + 1 => by
    show (if firstE (wiErr l) n ≠ 0 then firstE (wiErr l) n else _) = (if wiresErr l n ≠ 0 then wiresErr l n else _)
    rw [firstE_wires l n]
theorem firstE_must (p : Nat → Bool) {c : Int} (hc : c ≠ 0) : ∀ n, firstE (fun i => if p i then 0 else c) n = if (List.range n).all p = false then c else 0
  | 0 => rfl
  | n + 1 => by
    show (if firstE (fun i => if p i then 0 else c) n ≠ 0 then firstE (fun i => if p i then 0 else c) n else if p n then 0 else c) = _
    rw [firstE_must p hc n, List.range_succ, List.all_append]
    cases h : (List.range n).all p with
    | false => simp [hc]
    | true => cases h2 : p n <;> simp [h2]
theorem all_range {α : Type} (z : α) (p : α → Bool) (l : List α) : (List.range l.length).all (fun i => p (l.getD i z)) = l.all p := by
  rw [Bool.eq_iff_iff, List.all_eq_true, List.all_eq_true]
  constructor
  · intro h x hx
    obtain ⟨i, hi, rfl⟩ := List.mem_iff_getElem.1 hx
    have := h i (by simpa using hi)
    simpa [hi] using this
  · intro h i hi
    have hi' : i < l.length := by simpa using hi
    simp only [List.getD_eq_getElem?_getD, List.getElem?_eq_getElem hi', Option.getD_some]
    exact h _ (List.getElem_mem hi')
theorem stR_stays {rs : List (Nat × Nat)} {w : Int} {s i : Nat} (h : (stR rs w s i).length ≤ i) : ∀ j, i ≤ j → stR rs w s j = stR rs w s i := by
  intro j hj
  induction j with
  | zero => rw [show i = 0 by omega]
  | succ j ih =>
    rcases Nat.lt_or_ge i (j + 1) with h1 | h1
    · have h2 := ih (by omega)
      show (if j < (stR rs w s j).length then _ else stR rs w s j) = _
      rw [h2, if_neg (by omega)]
    · rw [show i = j + 1 by omega]
theorem stR_end {rs : List (Nat × Nat)} {w : Int} {s i n : Nat} (hs : s < n) (hrs : ∀ k, k < rs.length → (rs.getD k (0, 0)).1 < n ∧ (rs.getD k (0, 0)).2 < n) (h : (stR rs w s i).length ≤ i) (hi : i ≤ (stR rs w s i).length) : stR rs w s i = stR rs w s n :=
  (stR_stays h n (Nat.le_trans hi (stR_len hs hrs i))).symm
end Go.Proofs.YtehadoecnmfeoaaGreat
/- Looms in memory: the cells, small functions: no condition. -/
namespace Go.Proofs.YtehadoecnmfeoaaGreat
open Go.RowKit
set_option linter.unusedVariables false
set_option linter.unusedSimpArgs false
/-- A loom in memory, by the addresses and rooms of its slices. -/
def LoA (w : World) (B : Nat) (A0 A1 A2 A3 A4 A5 : Option Addr) (q0 q1 q2 q3 q4 q5 : Nat) (l : Lo) : Prop := LoAt w B (.slice A0 l.m.opts.length q0) (.slice A1 l.m.rules.length q1) (.slice A2 l.ss.length q2) (.slice A3 l.us.length q3) (.slice A4 l.ps.length q4) (.slice A5 l.ws.length q5) l
def LoBox (w : World) (b : Nat) (A0 A1 A2 A3 A4 A5 : Option Addr) (q0 q1 q2 q3 q4 q5 : Nat) (l : Lo) : Prop := w.heap[b]? = some (.cells #[.slice A0 l.m.opts.length q0, .slice A1 l.m.rules.length q1, .slice A2 l.ss.length q2, .slice A3 l.us.length q3, .slice A4 l.ps.length q4, .slice A5 l.ws.length q5] 31 (0, 0))
theorem LoAt.form {w : World} {B : Nat} {ov rv sv uv pv wv : Value} {l : Lo} (h : LoAt w B ov rv sv uv pv wv l) : ∃ (A0 A1 A2 A3 A4 A5 : Option Addr) (q0 q1 q2 q3 q4 q5 : Nat), ov = .slice A0 l.m.opts.length q0 ∧ rv = .slice A1 l.m.rules.length q1 ∧ sv = .slice A2 l.ss.length q2 ∧ uv = .slice A3 l.us.length q3 ∧ pv = .slice A4 l.ps.length q4 ∧ wv = .slice A5 l.ws.length q5 ∧ LoA w B A0 A1 A2 A3 A4 A5 q0 q1 q2 q3 q4 q5 l := by
  obtain ⟨A0, q0, rfl⟩ := Sl.form h.m.o
  obtain ⟨A1, q1, rfl⟩ := h.m.r.form
  obtain ⟨A2, q2, rfl⟩ := Sl.form h.s
  obtain ⟨A3, q3, rfl⟩ := Sl.form h.u
  obtain ⟨A4, q4, rfl⟩ := Sl.form h.p
  obtain ⟨fv, hw, hf⟩ := h.w
  obtain ⟨A5, q5, rfl⟩ := Sl.form hw
  exact ⟨A0, A1, A2, A3, A4, A5, q0, q1, q2, q3, q4, q5, rfl, rfl, rfl, rfl, rfl, rfl, ⟨h.m, h.s, h.u, h.p, ⟨fv, hw, hf⟩⟩⟩
theorem Wis.below {w w' : World} {B : Nat} {v : Value} {l : List Wi} (h : Wis w B v l) (hb : Below B w w') : Wis w' B v l := by
  obtain ⟨fv, h1, h2⟩ := h
  exact ⟨fv, Sl.below h1 hb, fun i hi => Sl.below (h2 i hi) hb⟩
theorem Wis.more {w : World} {B B' : Nat} {v : Value} {l : List Wi} (h : Wis w B v l) (hB : B ≤ B') : Wis w B' v l := by
  obtain ⟨fv, h1, h2⟩ := h
  exact ⟨fv, Sl.more h1 hB, fun i hi => Sl.more (h2 i hi) hB⟩
section
variable {w w' : World} {B B' : Nat} {A0 A1 A2 A3 A4 A5 : Option Addr} {q0 q1 q2 q3 q4 q5 : Nat} {l : Lo}
theorem LoA.below (h : LoA w B A0 A1 A2 A3 A4 A5 q0 q1 q2 q3 q4 q5 l) (hb : Below B w w') : LoA w' B A0 A1 A2 A3 A4 A5 q0 q1 q2 q3 q4 q5 l := ⟨h.m.below hb, Sl.below h.s hb, Sl.below h.u hb, Sl.below h.p hb, h.w.below hb⟩
theorem LoA.more (h : LoA w B A0 A1 A2 A3 A4 A5 q0 q1 q2 q3 q4 q5 l) (hB : B ≤ B') : LoA w B' A0 A1 A2 A3 A4 A5 q0 q1 q2 q3 q4 q5 l := ⟨h.m.more hB, Sl.more h.s hB, Sl.more h.u hB, Sl.more h.p hB, h.w.more hB⟩
theorem LoA.up (h : LoA w w.heap.size A0 A1 A2 A3 A4 A5 q0 q1 q2 q3 q4 q5 l) (hb : Below w.heap.size w w') : LoA w' w'.heap.size A0 A1 A2 A3 A4 A5 q0 q1 q2 q3 q4 q5 l := (h.below hb).more hb.size
/-- The cells of an element. -/
theorem sl_at {sz n : Nat} {A : Option Addr} {m q : Nat} {f : Nat → Nat → Value} (h : Sl w B sz (.slice A m q) n f) {k : Nat} (hk : k < n) : m = n ∧ m ≤ q ∧ ∃ b off, A = some ⟨b, off, none⟩ ∧ b < B ∧ ∀ j, j < sz → w.cell? ⟨b, off + (k * sz + j), none⟩ = some (f k j) := by
  obtain ⟨A', b, off, cap, h1, h2, h3, h4⟩ := h
  injection h1 with e1 e2 e3
  subst e1 e2 e3
  rcases h3 with ⟨h3, h5⟩ | h3
  · exact ⟨rfl, h2, b, off, h3, h5, fun j hj => h4 k j hk hj⟩
  · omega
theorem LoA.sp (h : LoA w B A0 A1 A2 A3 A4 A5 q0 q1 q2 q3 q4 q5 l) {k : Nat} (hk : k < l.ss.length) : ∃ b off x, Hid (l.ss.getD k Sp.o = x) ∧ A2 = some ⟨b, off, none⟩ ∧ b < B ∧ l.ss.length ≤ q2 ∧
    w.cell? ⟨b, off + k * 3, none⟩ = some (.int .i64 x.x) ∧ w.cell? ⟨b, off + k * 3 + 1, none⟩ = some (.int .i64 x.y) ∧ w.cell? ⟨b, off + k * 3 + 2, none⟩ = some (.int .i64 x.z) := by
  obtain ⟨_, h2, b, off, h3, h4, h5⟩ := sl_at h.s hk
  exact ⟨b, off, _, rfl, h3, h4, h2, h5 0 (by omega), h5 1 (by omega), h5 2 (by omega)⟩
theorem LoA.ru (h : LoA w B A0 A1 A2 A3 A4 A5 q0 q1 q2 q3 q4 q5 l) {k : Nat} (hk : k < l.us.length) : ∃ b off x, Hid (l.us.getD k Ru.o = x) ∧ A3 = some ⟨b, off, none⟩ ∧ b < B ∧ l.us.length ≤ q3 ∧
    w.cell? ⟨b, off + k * 4, none⟩ = some (.int .i64 x.a) ∧ w.cell? ⟨b, off + k * 4 + 1, none⟩ = some (.int .i64 x.b) ∧ w.cell? ⟨b, off + k * 4 + 2, none⟩ = some (.int .i64 x.len) ∧ w.cell? ⟨b, off + k * 4 + 3, none⟩ = some (.int .i64 x.room) := by
  obtain ⟨_, h2, b, off, h3, h4, h5⟩ := sl_at h.u hk
  exact ⟨b, off, _, rfl, h3, h4, h2, h5 0 (by omega), h5 1 (by omega), h5 2 (by omega), h5 3 (by omega)⟩
theorem LoA.pl (h : LoA w B A0 A1 A2 A3 A4 A5 q0 q1 q2 q3 q4 q5 l) {k : Nat} (hk : k < l.ps.length) : ∃ b off x, Hid (l.ps.getD k Pl.o = x) ∧ A4 = some ⟨b, off, none⟩ ∧ b < B ∧ l.ps.length ≤ q4 ∧
    w.cell? ⟨b, off + k * 3, none⟩ = some (.string x.name) ∧ w.cell? ⟨b, off + k * 3 + 1, none⟩ = some (.int .i64 x.spot) ∧ w.cell? ⟨b, off + k * 3 + 2, none⟩ = some (.int .i64 x.cav) := by
  obtain ⟨_, h2, b, off, h3, h4, h5⟩ := sl_at h.p hk
  exact ⟨b, off, _, rfl, h3, h4, h2, h5 0 (by omega), h5 1 (by omega), h5 2 (by omega)⟩
theorem LoA.wi (h : LoA w B A0 A1 A2 A3 A4 A5 q0 q1 q2 q3 q4 q5 l) {k : Nat} (hk : k < l.ws.length) : ∃ b off x Af qf, Hid (l.ws.getD k Wi.o = x) ∧ A5 = some ⟨b, off, none⟩ ∧ b < B ∧ l.ws.length ≤ q5 ∧ Hid (Ints w B (.slice Af x.form.length qf) x.form) ∧
    w.cell? ⟨b, off + k * 7, none⟩ = some (.string x.name) ∧ w.cell? ⟨b, off + k * 7 + 1, none⟩ = some (.int .i64 x.fp) ∧ w.cell? ⟨b, off + k * 7 + 2, none⟩ = some (.int .i64 x.fc) ∧ w.cell? ⟨b, off + k * 7 + 3, none⟩ = some (.int .i64 x.tp) ∧
    w.cell? ⟨b, off + k * 7 + 4, none⟩ = some (.int .i64 x.tc) ∧ w.cell? ⟨b, off + k * 7 + 5, none⟩ = some (.int .i64 x.size) ∧ w.cell? ⟨b, off + k * 7 + 6, none⟩ = some (.slice Af x.form.length qf) := by
  obtain ⟨fv, hs, hf⟩ := h.w
  obtain ⟨_, h2, b, off, h3, h4, h5⟩ := sl_at hs hk
  have h6 := hf k hk
  obtain ⟨Af, qf, e⟩ := Sl.form h6
  rw [e] at h6
  have h7 := h5 6 (by omega)
  rw [show wiC (l.ws.getD k Wi.o) (fv k) 6 = fv k from rfl, e] at h7
  exact ⟨b, off, _, Af, qf, rfl, h3, h4, h2, h6, h5 0 (by omega), h5 1 (by omega), h5 2 (by omega), h5 3 (by omega), h5 4 (by omega), h5 5 (by omega), h7⟩
end
theorem btw_t {n lo hi : Int} (h1 : lo ≤ n) (h2 : n ≤ hi) : btw n lo hi = true := by simp [btw, h1, h2]
set_option maxRecDepth 100000 in
theorem within_any (n lo hi : Int) (w : World) : Calls Tryz.prog 106 #[.int .i64 n, .int .i64 lo, .int .i64 hi] w fun e w' => e = .returned (.bool (btw n lo hi)) ∧ w = w' := by
  by_cases h1 : lo ≤ n
  · have hr : btw n lo hi = decide (n ≤ hi) := by simp [btw, h1]
    have HR := hide hr
    clear hr
    go_enter Tryz.func106, Tryz.ntmps106
    go_wp2_with fail
    go_ret
    exact ⟨ret_bool HR.out.symm, rfl⟩
  · have hr : btw n lo hi = false := by simp [btw, h1]
    have HR := hide hr
    clear hr
    go_enter Tryz.func106, Tryz.ntmps106
    go_wp2_with fail
    go_ret
    exact ⟨ret_bool HR.out.symm, rfl⟩
/-- An error unless something is so. -/
def mustE (b : Bool) (c : Int) : Int := if b then 0 else c
set_option maxRecDepth 100000 in
theorem must_any (b : Bool) (c : Int) (w : World) : Calls Tryz.prog 134 #[.bool b, .int .i64 c] w fun e w' => e = .returned (.int .i64 (mustE b c)) ∧ w = w' := by
  cases b with
  | true =>
    go_enter Tryz.func134, Tryz.ntmps134
    go_wp2_with fail
    go_ret
    exact ⟨rfl, rfl⟩
  | false =>
    go_enter Tryz.func134, Tryz.ntmps134
    go_wp2_with fail
    go_ret
    exact ⟨rfl, rfl⟩
theorem lowB_bad {s : ByteArray} {k : Nat} (h : k < s.size) (hn : smN s[k] = false) : lowB s.data.toList = false := by
  have : s.data.toList.all smN = false := by
    rw [← Bool.not_eq_true, List.all_eq_true]
    intro q
    have h1 : k < s.data.size := h
    have := q s.data[k] (by simp)
    rw [show s.data[k] = s[k] from rfl, hn] at this
    cases this
  simp [lowB, this]
theorem lowB_good {s : ByteArray} (hn : ∀ j, j < s.size → smN (s.data.toList.getD j 0) = true) : lowB s.data.toList = btw s.size 1 8 := by
  have h1 : s.data.toList.all smN = true := by
    rw [List.all_eq_true]
    intro x hx
    obtain ⟨i, hi, rfl⟩ := List.mem_iff_getElem.1 hx
    have := hn i (by simpa using hi)
    rwa [List.getD_eq_getElem?_getD, List.getElem?_eq_getElem hi, Option.getD_some] at this
  have hl : s.data.toList.length = s.size := by simp
  unfold lowB btw
  rw [h1, hl, Bool.and_true]
  congr 1
  · exact decide_eq_decide.2 (by omega)
  · exact decide_eq_decide.2 (by omega)
set_option maxRecDepth 100000 in
set_option maxHeartbeats 1000000 in
theorem low_any (s : ByteArray) (w : World) (hs : s.size ≤ maxLen) :
    Calls Tryz.prog 144 #[.string s] w fun e w' => e = .returned (.bool (lowB s.data.toList)) ∧ w = w' := by
  unfold maxLen at hs
  go_enter Tryz.func144, Tryz.ntmps144
  go_wp2
  go_loop [3, 6] (fun _ i => ∃ k : Nat, k ≤ s.size ∧ i = .int .i64 k ∧ Hid (∀ j, j < k → smN (s.data.toList.getD j 0) = true)) (fun _ i => s.size - (intOf i).toNat)
  case atStart => exact ⟨0, Nat.zero_le _, rfl, fun j hj => by omega⟩
  case round =>
    obtain ⟨k, hk, rfl, hall⟩ := hrel
    by_cases hlt : k < s.size
    · have hgd := getD_str s k hlt
      have hyes : smN s[k] = true → Hid (∀ j, j < k + 1 → smN (s.data.toList.getD j 0) = true) := fun h j hj => by
        rcases Nat.lt_or_ge j k with h1 | h1
        · exact hall.out j h1
        · rw [show j = k from by omega, hgd]; exact h
      have hno : smN s[k] = false → lowB s.data.toList = false := fun h => lowB_bad hlt h
      have HY := hide hyes
      have HN := hide hno
      clear hgd hyes hno
      by_cases h1 : (s[k].toNat : Int) < 97
      · have HC := hide (smN_not (.inl h1))
        go_wp2
        go_ret
        exact ⟨ret_bool (HN.out HC.out).symm, rfl⟩
      · by_cases h2 : (122 : Int) < (s[k].toNat : Int)
        · have HC := hide (smN_not (.inr h2))
          go_wp2
          go_ret
          exact ⟨ret_bool (HN.out HC.out).symm, rfl⟩
        · have HC := hide (smN_of (c := s[k]) (by omega) (by omega))
          go_wp2
          go_round
          case rel => exact ⟨k + 1, by omega, by go_num, HY.out HC.out⟩
          case measure => simp [intOf]; omega
    · have : k = s.size := by omega
      subst this
      have hg := lowB_good (s := s) (by simpa using hall.out)
      have HG := hide hg
      clear hg
      go_wp2_with (go_at_call 106; refine (within_any _ _ _ _).mono ?_; rintro e w1 ⟨rfl, rfl⟩)
      go_ret
      exact ⟨ret_bool HG.out.symm, rfl⟩
end Go.Proofs.YtehadoecnmfeoaaGreat

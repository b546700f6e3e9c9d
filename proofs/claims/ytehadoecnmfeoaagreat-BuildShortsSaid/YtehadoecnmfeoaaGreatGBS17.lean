/- Part 17 of this claim's texts: walks and plain laws. -/
import Derived.Test.YtehadoecnmfeoaaGreatRows
import Derived.Test.YtehadoecnmfeoaaGreatGBS1
import Derived.Test.YtehadoecnmfeoaaGreatGBS16
import Derived.Test.YtehadoecnmfeoaaGreatGBS10
import Derived.Test.YtehadoecnmfeoaaGreatGBS9
import Derived.Test.YtehadoecnmfeoaaGreatGBS7
set_option linter.unusedVariables false
set_option linter.unusedSimpArgs false
set_option linter.unusedSectionVars false
namespace Go.Proofs.YtehadoecnmfeoaaGreat
structure Sp where
 x : Int
 y : Int
 z : Int
def Sp.o : Sp := ⟨0, 0, 0⟩
structure Ru where
 a : Int
 b : Int
 len : Int
 room : Int
def Ru.o : Ru := ⟨0, 0, 0, 0⟩
structure Pl where
 name : ByteArray
 spot : Int
 cav : Int
def Pl.o : Pl := ⟨ByteArray.empty, 0, 0⟩
structure Wi where
 name : ByteArray
 fp : Int
 fc : Int
 tp : Int
 tc : Int
 size : Int
 form : List Int
def Wi.o : Wi := ⟨ByteArray.empty, 0, 0, 0, 0, 0, []⟩
structure Lo where
 m : Mo
 ss : List Sp
 us : List Ru
 ps : List Pl
 ws : List Wi

def lowB (l : List UInt8) : Bool := decide (1 ≤ l.length) && decide (l.length ≤ 8) && l.all smN
def btw (n lo hi : Int) : Bool := decide (lo ≤ n) && decide (n ≤ hi)
theorem btw_iff {n lo hi : Int} : btw n lo hi = true ↔ lo ≤ n ∧ n ≤ hi := by simp [btw]
def Sp.ok (s : Sp) : Bool := btw s.x (-100000) 100000 && btw s.y (-100000) 100000 && btw s.z (-100000) 100000
def sqS (a b : Sp) : Int := (a.x - b.x) * (a.x - b.x) + (a.y - b.y) * (a.y - b.y) + (a.z - b.z) * (a.z - b.z)
def Ru.ok (ss : List Sp) (r : Ru) : Bool :=
 btw r.a 0 ((ss.length : Int) - 1) && btw r.b 0 ((ss.length : Int) - 1) && decide (r.a ≠ r.b) && btw r.len 1 1000000 && btw r.room 0 1000000 && decide (sqS (ss.getD r.a.toNat Sp.o) (ss.getD r.b.toNat Sp.o) ≤ r.len * r.len)
def Lo.rs (l : Lo) : List (Nat × Nat) := l.us.map fun r => (r.a.toNat, r.b.toNat)
def bytes (s : ByteArray) : List UInt8 := s.data.toList
def plOk (l : Lo) (i : Nat) : Bool :=
 lowB (bytes (l.ps.getD i Pl.o).name) && !((l.ps.take i).any fun q => bytes q.name == bytes (l.ps.getD i Pl.o).name) && btw (l.ps.getD i Pl.o).spot 0 ((l.ss.length : Int) - 1) && btw (l.ps.getD i Pl.o).cav 1 40
def pinOk (l : Lo) (p c : Int) : Bool := btw p 0 ((l.ps.length : Int) - 1) && btw c 0 ((l.ps.getD p.toNat Pl.o).cav - 1)
def wiOk (l : Lo) (i : Nat) : Bool :=
 lowB (bytes (l.ws.getD i Wi.o).name) && !((l.ws.take i).any fun q => bytes q.name == bytes (l.ws.getD i Wi.o).name) && pinOk l (l.ws.getD i Wi.o).fp (l.ws.getD i Wi.o).fc && pinOk l (l.ws.getD i Wi.o).tp (l.ws.getD i Wi.o).tc &&
  !(decide ((l.ws.getD i Wi.o).fp = (l.ws.getD i Wi.o).tp) && decide ((l.ws.getD i Wi.o).fc = (l.ws.getD i Wi.o).tc)) && btw (l.ws.getD i Wi.o).size 1 10000
def wiErr (l : Lo) (i : Nat) : Int := if wiOk l i = false then 63 else if validF l.m.opts.length (l.ws.getD i Wi.o).form = false then 11 else 0
def wiresErr (l : Lo) : Nat → Int
 | 0 => 0
 | i + 1 => if wiresErr l i ≠ 0 then wiresErr l i else wiErr l i
theorem wiresErr_at {l : Lo} {i : Nat} (h : ∀ j, j < i → wiErr l j = 0) : wiresErr l i = 0 := by
 induction i with
 | zero => rfl
 | succ i ih =>
  have h1 := ih fun j hj => h j (by omega)
  show (if wiresErr l i ≠ 0 then _ else _) = _
  rw [if_neg (by rw [h1]; simp), h i (by omega)]
theorem wiresErr_stays {l : Lo} {i n : Nat} (h : wiresErr l i ≠ 0) (hn : i ≤ n) : wiresErr l n = wiresErr l i := by
 induction n with
 | zero => rw [show i = 0 by omega]
 | succ n ih =>
  rcases Nat.lt_or_ge i (n + 1) with h1 | h1
  ·
   have h2 := ih (by omega)
   show (if wiresErr l n ≠ 0 then _ else _) = _
   rw [h2, if_pos h]
  ·
   rw [show i = n + 1 by omega]
theorem wiresErr_first {l : Lo} {i n : Nat} (h : ∀ j, j < i → wiErr l j = 0) (hi : wiErr l i ≠ 0) (hn : i < n) : wiresErr l n = wiErr l i := by
 have h1 : wiresErr l (i + 1) = wiErr l i := by
  show (if wiresErr l i ≠ 0 then _ else _) = _
  rw [wiresErr_at h, if_neg (by simp)]
 rw [wiresErr_stays (i := i + 1) (by rw [h1]; exact hi) (by omega), h1]
def Lo.full (l : Lo) : Bool := decide ((stR l.rs (-1) 0 l.ss.length).length = l.ss.length)
def Lo.many (l : Lo) : Bool := decide (40 < l.ss.length) || decide (40 < l.us.length) || decide (30 < l.ps.length) || decide (60 < l.ws.length)
def Lo.err (l : Lo) : Int :=
 if l.m.err ≠ 0 then l.m.err else if l.many then 2 else if l.ss.all Sp.ok = false then 60 else if l.ss.length = 0 ∨ l.us.length + 1 ≠ l.ss.length then 61 else if l.us.all (Ru.ok l.ss) = false then 61 else if l.full = false then 61
 else if (List.range l.ps.length).all (plOk l) = false then 62 else wiresErr l l.ws.length
structure LoOk (l : Lo) : Prop where
 m : l.m.err = 0
 s40 : l.ss.length ≤ 40
 u40 : l.us.length ≤ 40
 p30 : l.ps.length ≤ 30
 w60 : l.ws.length ≤ 60
 ss : ∀ x ∈ l.ss, x.ok = true
 us : ∀ x ∈ l.us, x.ok l.ss = true
 tree : TreeR l.rs l.ss.length
 ps : ∀ i, i < l.ps.length → plOk l i = true
 ws : ∀ i, i < l.ws.length → wiErr l i = 0
theorem rs_getD (l : Lo) {k : Nat} (hk : k < l.us.length) : l.rs.getD k (0, 0) = ((l.us.getD k Ru.o).a.toNat, (l.us.getD k Ru.o).b.toNat) := by
 simp [Lo.rs, hk]
theorem rs_len (l : Lo) : l.rs.length = l.us.length := by simp [Lo.rs]
theorem rs_lt {l : Lo} (h : ∀ x ∈ l.us, x.ok l.ss = true) : ∀ k, k < l.rs.length → (l.rs.getD k (0, 0)).1 < l.ss.length ∧ (l.rs.getD k (0, 0)).2 < l.ss.length := by
 intro k hk
 rw [rs_len] at hk
 rw [rs_getD l hk]
 have h1 := h (l.us.getD k Ru.o) (by rw [List.getD_eq_getElem?_getD, List.getElem?_eq_getElem hk]; exact List.getElem_mem hk)
 unfold Ru.ok at h1
 simp only [Bool.and_eq_true, btw_iff] at h1
 obtain ⟨⟨⟨⟨⟨h2, h3⟩, _⟩, _⟩, _⟩, _⟩ := h1
 constructor <;> simp only <;> omega
theorem wiresErr_zero {l : Lo} : ∀ {n : Nat}, wiresErr l n = 0 → ∀ i, i < n → wiErr l i = 0
 | 0, _, i, hi => by omega
 | n + 1, h, i, hi => by
  have h' : (if wiresErr l n ≠ 0 then wiresErr l n else wiErr l n) = 0 := h
  by_cases h1 : wiresErr l n = 0
  ·
   rw [if_neg (by simp [h1])] at h'
   rcases Nat.lt_or_ge i n with h2 | h2
   ·
    exact wiresErr_zero h1 i h2
   ·
    rw [show i = n by omega]; exact h'
  ·
   rw [if_pos h1] at h'
   exact absurd h' h1
theorem Lo.err_ok {l : Lo} (h : l.err = 0) : LoOk l := by
 unfold Lo.err at h
 by_cases h1 : l.m.err = 0
 ·
  rw [if_neg (by simp [h1])] at h
  by_cases h2 : l.many = true
  ·
   rw [if_pos h2] at h; omega
  rw [if_neg h2] at h
  by_cases h3 : l.ss.all Sp.ok = false
  ·
   rw [if_pos h3] at h; omega
  rw [if_neg h3] at h
  by_cases h4 : l.ss.length = 0 ∨ l.us.length + 1 ≠ l.ss.length
  ·
   rw [if_pos h4] at h; omega
  rw [if_neg h4] at h
  by_cases h5 : l.us.all (Ru.ok l.ss) = false
  ·
   rw [if_pos h5] at h; omega
  rw [if_neg h5] at h
  by_cases h6 : l.full = false
  ·
   rw [if_pos h6] at h; omega
  rw [if_neg h6] at h
  by_cases h7 : (List.range l.ps.length).all (plOk l) = false
  ·
   rw [if_pos h7] at h; omega
  rw [if_neg h7] at h
  simp only [Lo.many, Bool.or_eq_true, decide_eq_true_eq, not_or] at h2
  have hu : ∀ x ∈ l.us, x.ok l.ss = true := List.all_eq_true.1 (by simpa using h5)
  have hn : 0 < l.ss.length := by omega
  have hf : (stR l.rs (-1) 0 l.ss.length).length = l.ss.length := by simpa [Lo.full] using h6
  exact ⟨h1, by omega, by omega, by omega, by omega, List.all_eq_true.1 (by simpa using h3), hu,
   ⟨by rw [rs_len]; omega, rs_lt hu, (stR_full hn (rs_lt hu) (stR_ends hn (rs_lt hu))).1 hf⟩,
   fun i hi => by have := List.all_eq_true.1 (show (List.range l.ps.length).all (plOk l) = true by simpa using h7) i (by simpa using hi); exact this, wiresErr_zero h⟩
 ·
  rw [if_pos h1] at h
  exact absurd h h1
theorem full_marks {l : Lo} (hu : ∀ x ∈ l.us, x.ok l.ss = true) (hn : 0 < l.ss.length) : l.full = (List.range l.ss.length).all fun y => (passM l.rs l.ss.length l.ss.length).getD y false := by
 have h := tree_same hn (rs_lt hu) (stR_ends (w := -1) hn (rs_lt hu))
 unfold Lo.full
 by_cases h1 : (stR l.rs (-1) 0 l.ss.length).length = l.ss.length
 ·
  rw [decide_eq_true h1]
  exact (List.all_eq_true.2 fun y hy => h.1 h1 y (by simpa using hy)).symm
 ·
  rw [decide_eq_false h1]
  symm
  rw [← Bool.not_eq_true, List.all_eq_true]
  exact fun q => h1 (h.2 fun y hy => q y (by simpa using hy))
end Go.Proofs.YtehadoecnmfeoaaGreat
namespace Go.Proofs.YtehadoecnmfeoaaGreat
open Go.Joins Go.ChangeShapes Go.WideShapes Go.ChangeAt Go.RowKit Go.Deep
set_option maxRecDepth 100000
def spC (s : Sp) : Nat → Value
 | 0 => .int .i64 s.x
 | 1 => .int .i64 s.y
 | _ => .int .i64 s.z
def ruC (s : Ru) : Nat → Value
 | 0 => .int .i64 s.a
 | 1 => .int .i64 s.b
 | 2 => .int .i64 s.len
 | _ => .int .i64 s.room
def plC (s : Pl) : Nat → Value
 | 0 => .string s.name
 | 1 => .int .i64 s.spot
 | _ => .int .i64 s.cav
def wiC (s : Wi) (v : Value) : Nat → Value
 | 0 => .string s.name
 | 1 => .int .i64 s.fp
 | 2 => .int .i64 s.fc
 | 3 => .int .i64 s.tp
 | 4 => .int .i64 s.tc
 | 5 => .int .i64 s.size
 | _ => v
def Sps (w : World) (B : Nat) (v : Value) (l : List Sp) : Prop := Sl w B 3 v l.length fun i j => spC (l.getD i Sp.o) j
def Rus (w : World) (B : Nat) (v : Value) (l : List Ru) : Prop := Sl w B 4 v l.length fun i j => ruC (l.getD i Ru.o) j
def Pls (w : World) (B : Nat) (v : Value) (l : List Pl) : Prop := Sl w B 3 v l.length fun i j => plC (l.getD i Pl.o) j
def Wis (w : World) (B : Nat) (v : Value) (l : List Wi) : Prop := ∃ fv : Nat → Value, Sl w B 7 v l.length (fun i j => wiC (l.getD i Wi.o) (fv i) j) ∧ ∀ i, i < l.length → Ints w B (fv i) (l.getD i Wi.o).form
structure LoAt (w : World) (B : Nat) (ov rv sv uv pv wv : Value) (l : Lo) : Prop where
 m : MoAt w B ov rv l.m
 s : Sps w B sv l.ss
 u : Rus w B uv l.us
 p : Pls w B pv l.ps
 w : Wis w B wv l.ws
structure SizedL (l : Lo) : Prop where
 m : SizedM l.m
 s : l.ss.length ≤ maxLen
 u : l.us.length ≤ maxLen
 p : l.ps.length ≤ maxLen
 w : l.ws.length ≤ maxLen
 pn : ∀ x ∈ l.ps, x.name.size ≤ maxLen
 wn : ∀ x ∈ l.ws, x.name.size ≤ maxLen ∧ x.form.length ≤ maxLen
section
variable {H : Type} {enc : TypeId × Value → H} {W : World} {base b0 : Nat} {r : Reach} {spare : Nat → Bool} {held : Bool} {v : Value} {d : DataW H} {p : List MemPlace}
theorem cellsSp : Tryz.prog.cellsOf 155 = 3 := by kernel_rfl
theorem cellsRu : Tryz.prog.cellsOf 157 = 4 := by kernel_rfl
theorem cellsPl : Tryz.prog.cellsOf 159 = 3 := by kernel_rfl
theorem cellsPin : Tryz.prog.cellsOf 74 = 2 := by kernel_rfl
theorem cellsWi : Tryz.prog.cellsOf 76 = 7 := by kernel_rfl
theorem cellsMo : Tryz.prog.cellsOf 25 = 2 := by kernel_rfl
theorem cellsLo : Tryz.prog.cellsOf 31 = 6 := by kernel_rfl
theorem str_cell {n : Nat} {c : Value} {y : DataW H × List MemPlace} (h : DataW.trod enc Tryz.prog W base spare held n 9 [c] = some y) : ∃ s, c = .string s ∧ s.size ≤ maxLen := by
 obtain ⟨s, h1, _, h3⟩ := DataW.trod_string Tryz.underlying9 h
 simp at h1
 exact ⟨s, h1, h3⟩
theorem all_of {α : Type} {z : α} {R : α → Prop} {xs : List α} (h : ∀ i, i < xs.length → R (xs.getD i z)) : ∀ x ∈ xs, R x := by
 intro x hx
 obtain ⟨i, hi, rfl⟩ := List.mem_iff_getElem.1 hx
 have := h i hi
 rwa [List.getD_eq_getElem?_getD, List.getElem?_eq_getElem hi, Option.getD_some] at this
theorem spots_cell {n : Nat} {c : Value} {y : DataW H × List MemPlace} (h : DataW.trod enc Tryz.prog W base spare held n 26 [c] = some y) :
  ∃ l : List Sp, Sps W W.heap.size c l ∧ l.length ≤ maxLen ∧ ∀ x ∈ l, I64 x.x ∧ I64 x.y ∧ I64 x.z := by
 obtain ⟨xs, hsl, hl, hR⟩ := open_rows (α := Sp) Sp.o (fun x j => spC x j) (fun x => I64 x.x ∧ I64 x.y ∧ I64 x.z) Tryz.underlying26 cellsSp (by omega) (by
  intro n cs' y hlen ht
  match cs', hlen with
  | [c0, c1, c2], _ =>
   obtain ⟨xs, n', _, _, _, hlen, hf⟩ := DataW.trod_struct Tryz.underlying155 ht
   have g0 := hf 0 _ rfl
   have g1 := hf 1 _ rfl
   have g2 := hf 2 _ rfl
   match xs, hlen with
   | [y0, y1, y2], _ =>
    obtain ⟨a0, rfl, i0⟩ := int_cell (y := y0) (by simpa [cellsInt] using g0)
    obtain ⟨a1, rfl, i1⟩ := int_cell (y := y1) (by simpa [cellsInt] using g1)
    obtain ⟨a2, rfl, i2⟩ := int_cell (y := y2) (by simpa [cellsInt] using g2)
    refine ⟨⟨a0, a1, a2⟩, fun j hj => ?_, i0, i1, i2⟩
    match j, hj with
    | 0, _ => rfl
    | 1, _ => rfl
    | 2, _ => rfl) h
 exact ⟨xs, hsl, hl, all_of hR⟩
theorem runs_cell {n : Nat} {c : Value} {y : DataW H × List MemPlace} (h : DataW.trod enc Tryz.prog W base spare held n 27 [c] = some y) :
  ∃ l : List Ru, Rus W W.heap.size c l ∧ l.length ≤ maxLen ∧ ∀ x ∈ l, I64 x.a ∧ I64 x.b ∧ I64 x.len ∧ I64 x.room := by
 obtain ⟨xs, hsl, hl, hR⟩ := open_rows (α := Ru) Ru.o (fun x j => ruC x j) (fun x => I64 x.a ∧ I64 x.b ∧ I64 x.len ∧ I64 x.room) Tryz.underlying27 cellsRu (by omega) (by
  intro n cs' y hlen ht
  match cs', hlen with
  | [c0, c1, c2, c3], _ =>
   obtain ⟨xs, n', _, _, _, hlen, hf⟩ := DataW.trod_struct Tryz.underlying157 ht
   have g0 := hf 0 _ rfl
   have g1 := hf 1 _ rfl
   have g2 := hf 2 _ rfl
   have g3 := hf 3 _ rfl
   match xs, hlen with
   | [y0, y1, y2, y3], _ =>
    obtain ⟨a0, rfl, i0⟩ := int_cell (y := y0) (by simpa [cellsInt] using g0)
    obtain ⟨a1, rfl, i1⟩ := int_cell (y := y1) (by simpa [cellsInt] using g1)
    obtain ⟨a2, rfl, i2⟩ := int_cell (y := y2) (by simpa [cellsInt] using g2)
    obtain ⟨a3, rfl, i3⟩ := int_cell (y := y3) (by simpa [cellsInt] using g3)
    refine ⟨⟨a0, a1, a2, a3⟩, fun j hj => ?_, i0, i1, i2, i3⟩
    match j, hj with
    | 0, _ => rfl
    | 1, _ => rfl
    | 2, _ => rfl
    | 3, _ => rfl) h
 exact ⟨xs, hsl, hl, all_of hR⟩
theorem plugs_cell {n : Nat} {c : Value} {y : DataW H × List MemPlace} (h : DataW.trod enc Tryz.prog W base spare held n 28 [c] = some y) :
  ∃ l : List Pl, Pls W W.heap.size c l ∧ l.length ≤ maxLen ∧ ∀ x ∈ l, x.name.size ≤ maxLen ∧ I64 x.spot ∧ I64 x.cav := by
 obtain ⟨xs, hsl, hl, hR⟩ := open_rows (α := Pl) Pl.o (fun x j => plC x j) (fun x => x.name.size ≤ maxLen ∧ I64 x.spot ∧ I64 x.cav) Tryz.underlying28 cellsPl (by omega) (by
  intro n cs' y hlen ht
  match cs', hlen with
  | [c0, c1, c2], _ =>
   obtain ⟨xs, n', _, _, _, hlen, hf⟩ := DataW.trod_struct Tryz.underlying159 ht
   have g0 := hf 0 _ rfl
   have g1 := hf 1 _ rfl
   have g2 := hf 2 _ rfl
   match xs, hlen with
   | [y0, y1, y2], _ =>
    obtain ⟨a0, rfl, i0⟩ := str_cell (y := y0) (by simpa [cellsStr] using g0)
    obtain ⟨a1, rfl, i1⟩ := int_cell (y := y1) (by simpa [cellsStr, cellsInt] using g1)
    obtain ⟨a2, rfl, i2⟩ := int_cell (y := y2) (by simpa [cellsStr, cellsInt] using g2)
    refine ⟨⟨a0, a1, a2⟩, fun j hj => ?_, i0, i1, i2⟩
    match j, hj with
    | 0, _ => rfl
    | 1, _ => rfl
    | 2, _ => rfl) h
 exact ⟨xs, hsl, hl, all_of hR⟩
theorem pin_cells {n : Nat} {c0 c1 : Value} {y : DataW H × List MemPlace} (h : DataW.trod enc Tryz.prog W base spare held n 74 [c0, c1] = some y) : ∃ a b, c0 = .int .i64 a ∧ c1 = .int .i64 b ∧ I64 a ∧ I64 b := by
 obtain ⟨xs, n', _, _, _, hlen, hf⟩ := DataW.trod_struct Tryz.underlying74 h
 have g0 := hf 0 _ rfl
 have g1 := hf 1 _ rfl
 match xs, hlen with
 | [y0, y1], _ =>
  obtain ⟨a0, rfl, i0⟩ := int_cell (y := y0) (by simpa [cellsInt] using g0)
  obtain ⟨a1, rfl, i1⟩ := int_cell (y := y1) (by simpa [cellsInt] using g1)
  exact ⟨a0, a1, rfl, rfl, i0, i1⟩
theorem wires_cell {n : Nat} {c : Value} {y : DataW H × List MemPlace} (h : DataW.trod enc Tryz.prog W base spare held n 29 [c] = some y) :
  ∃ l : List Wi, Wis W W.heap.size c l ∧ l.length ≤ maxLen ∧ ∀ x ∈ l, x.name.size ≤ maxLen ∧ x.form.length ≤ maxLen ∧ I64 x.fp ∧ I64 x.fc ∧ I64 x.tp ∧ I64 x.tc ∧ I64 x.size ∧ ∀ u ∈ x.form, I64 u := by
 obtain ⟨xs, hsl, hl, hR⟩ := open_rows (α := Wi × Value) (Wi.o, .slice none 0 0) (fun x j => wiC x.1 x.2 j) (fun x => Ints W W.heap.size x.2 x.1.form ∧ x.1.name.size ≤ maxLen ∧ x.1.form.length ≤ maxLen ∧ I64 x.1.fp ∧ I64 x.1.fc ∧ I64 x.1.tp ∧ I64 x.1.tc ∧ I64 x.1.size ∧ ∀ u ∈ x.1.form, I64 u) Tryz.underlying29 cellsWi (by omega) (by
  intro n cs' y hlen ht
  match cs', hlen with
  | [c0, c1, c2, c3, c4, c5, c6], _ =>
   obtain ⟨xs, n', _, _, _, hlen, hf⟩ := DataW.trod_struct Tryz.underlying76 ht
   have g0 := hf 0 _ rfl
   have g1 := hf 1 _ rfl
   have g2 := hf 2 _ rfl
   have g3 := hf 3 _ rfl
   have g4 := hf 4 _ rfl
   match xs, hlen with
   | [y0, y1, y2, y3, y4], _ =>
    obtain ⟨a0, rfl, i0⟩ := str_cell (y := y0) (by simpa [cellsStr] using g0)
    obtain ⟨a1, a2, rfl, rfl, i1, i2⟩ := pin_cells (y := y1) (by simpa [cellsStr, cellsPin] using g1)
    obtain ⟨a3, a4, rfl, rfl, i3, i4⟩ := pin_cells (y := y2) (by simpa [cellsStr, cellsPin] using g2)
    obtain ⟨a5, rfl, i5⟩ := int_cell (y := y3) (by simpa [cellsStr, cellsPin, cellsInt] using g3)
    obtain ⟨f, hf, hfl, hfi⟩ := ints_cell (y := y4) Tryz.underlying46 (by simpa [cellsStr, cellsPin, cellsInt, cellsFo] using g4)
    refine ⟨(⟨a0, a1, a2, a3, a4, a5, f⟩, c6), fun j hj => ?_, hf, i0, hfl, i1, i2, i3, i4, i5, hfi⟩
    match j, hj with
    | 0, _ => rfl
    | 1, _ => rfl
    | 2, _ => rfl
    | 3, _ => rfl
    | 4, _ => rfl
    | 5, _ => rfl
    | 6, _ => rfl) h
 have hg : ∀ i, i < xs.length → (xs.map (·.1)).getD i Wi.o = (xs.getD i (Wi.o, .slice none 0 0)).1 := fun i hi => by simp [hi]
 refine ⟨xs.map (·.1), ⟨fun i => (xs.getD i (Wi.o, .slice none 0 0)).2, ?_, fun i hi => ?_⟩, by simpa using hl, fun x hx => ?_⟩
 ·
  rw [List.length_map]
  exact Sl.congr hsl fun i j hi hj => by rw [hg i hi]
 ·
  rw [List.length_map] at hi
  rw [hg i hi]
  exact (hR i hi).1
 ·
  obtain ⟨u, hu, rfl⟩ := List.mem_map.1 hx
  exact (all_of (R := fun x : Wi × Value => Ints W W.heap.size x.2 x.1.form ∧ x.1.name.size ≤ maxLen ∧ x.1.form.length ≤ maxLen ∧ I64 x.1.fp ∧ I64 x.1.fc ∧ I64 x.1.tp ∧ I64 x.1.tc ∧ I64 x.1.size ∧ ∀ u ∈ x.1.form, I64 u) hR u hu).2
theorem open_loom (hv : Value.okWide Tryz.prog W r b0 31 v) (h : DataW.Trod enc Tryz.prog W base spare held 31 v d p) :
  ∃ (ov rv sv uv pv wv : Value) (l : Lo), v = .agg #[ov, rv, sv, uv, pv, wv] ∧ LoAt W W.heap.size ov rv sv uv pv wv l ∧ SizedL l ∧ (∀ x ∈ l.ss, I64 x.x ∧ I64 x.y ∧ I64 x.z) ∧ (∀ x ∈ l.us, I64 x.a ∧ I64 x.b ∧ I64 x.len ∧ I64 x.room) ∧ (∀ x ∈ l.ps, I64 x.spot ∧ I64 x.cav) ∧
   ∀ x ∈ l.ws, I64 x.fp ∧ I64 x.fc ∧ I64 x.tp ∧ I64 x.tc ∧ I64 x.size := by
 obtain ⟨cs, rfl, hsz⟩ := okWide_struct Tryz.underlying31 hv
 obtain ⟨l⟩ := cs
 match l, hsz.trans cellsLo with
 | [c0, c1, c2, c3, c4, c5], _ =>
  obtain ⟨fuel, hf⟩ := h
  obtain ⟨xs, n, _, _, _, hlen, hg⟩ := DataW.trod_struct Tryz.underlying31 hf
  have g0 := hg 0 _ rfl
  have g1 := hg 1 _ rfl
  have g2 := hg 2 _ rfl
  have g3 := hg 3 _ rfl
  have g4 := hg 4 _ rfl
  match xs, hlen with
  | [y0, y1, y2, y3, y4], _ =>
   have m0 : DataW.trod enc Tryz.prog W base spare held n 25 [c0, c1] = some y0 := by simpa [Value.cells, cellsMo] using g0
   obtain ⟨xm, nm, _, _, _, hlm, hm⟩ := DataW.trod_struct Tryz.underlying25 m0
   have q0 := hm 0 _ rfl
   have q1 := hm 1 _ rfl
   match xm, hlm with
   | [z0, z1], _ =>
    obtain ⟨os, ho, hol, hos⟩ := strs_cell (y := z0) (c := c0) Tryz.underlying22 (by simpa [show Tryz.prog.cellsOf 22 = 1 by kernel_rfl] using q0)
    obtain ⟨fs, hfs, hfz⟩ := forms_cell (y := z1) (c := c1) Tryz.underlying23 (by simpa [show Tryz.prog.cellsOf 22 = 1 by kernel_rfl, show Tryz.prog.cellsOf 23 = 1 by kernel_rfl] using q1)
    obtain ⟨ss, hs, hsl, hsi⟩ := spots_cell (y := y1) (c := c2) (by simpa [Value.cells, cellsMo, show Tryz.prog.cellsOf 26 = 1 by kernel_rfl] using g1)
    obtain ⟨us, hu, hul, hui⟩ := runs_cell (y := y2) (c := c3) (by simpa [Value.cells, cellsMo, show Tryz.prog.cellsOf 26 = 1 by kernel_rfl, show Tryz.prog.cellsOf 27 = 1 by kernel_rfl] using g2)
    obtain ⟨ps, hp, hpl, hpi⟩ := plugs_cell (y := y3) (c := c4) (by simpa [Value.cells, cellsMo, show Tryz.prog.cellsOf 26 = 1 by kernel_rfl, show Tryz.prog.cellsOf 27 = 1 by kernel_rfl, show Tryz.prog.cellsOf 28 = 1 by kernel_rfl] using g3)
    obtain ⟨ws, hw, hwl, hwi⟩ := wires_cell (y := y4) (c := c5) (by simpa [Value.cells, cellsMo, show Tryz.prog.cellsOf 26 = 1 by kernel_rfl, show Tryz.prog.cellsOf 27 = 1 by kernel_rfl, show Tryz.prog.cellsOf 28 = 1 by kernel_rfl, show Tryz.prog.cellsOf 29 = 1 by kernel_rfl] using g4)
    exact ⟨c0, c1, c2, c3, c4, c5, ⟨⟨os, fs⟩, ss, us, ps, ws⟩, rfl, ⟨⟨ho, hfs⟩, hs, hu, hp, hw⟩, ⟨⟨hol, hos, hfz⟩, hsl, hul, hpl, hwl, fun x hx => (hpi x hx).1, fun x hx => ⟨(hwi x hx).1, (hwi x hx).2.1⟩⟩, hsi, hui, fun x hx => (hpi x hx).2,
     fun x hx => ⟨(hwi x hx).2.2.1, (hwi x hx).2.2.2.1, (hwi x hx).2.2.2.2.1, (hwi x hx).2.2.2.2.2.1, (hwi x hx).2.2.2.2.2.2.1⟩⟩
end
end Go.Proofs.YtehadoecnmfeoaaGreat
namespace Go.Proofs.YtehadoecnmfeoaaGreat
def firstE (e : Nat → Int) : Nat → Int
 | 0 => 0
 | i + 1 => if firstE e i ≠ 0 then firstE e i else e i
theorem firstE_none {e : Nat → Int} {i : Nat} (h : ∀ j, j < i → e j = 0) : firstE e i = 0 := by
 induction i with
 | zero => rfl
 | succ i ih =>
  have h1 := ih fun j hj => h j (by omega)
  show (if firstE e i ≠ 0 then _ else _) = _
  rw [if_neg (by rw [h1]; simp), h i (by omega)]
theorem firstE_stays {e : Nat → Int} {i n : Nat} (h : firstE e i ≠ 0) (hn : i ≤ n) : firstE e n = firstE e i := by
 induction n with
 | zero => rw [show i = 0 by omega]
 | succ n ih =>
  rcases Nat.lt_or_ge i (n + 1) with h1 | h1
  ·
   have h2 := ih (by omega)
   show (if firstE e n ≠ 0 then _ else _) = _
   rw [h2, if_pos h]
  ·
   rw [show i = n + 1 by omega]
theorem firstE_at {e : Nat → Int} {i n : Nat} (h : ∀ j, j < i → e j = 0) (hi : e i ≠ 0) (hn : i < n) : firstE e n = e i := by
 have h1 : firstE e (i + 1) = e i := by
  show (if firstE e i ≠ 0 then _ else _) = _
  rw [firstE_none h, if_neg (by simp)]
 rw [firstE_stays (i := i + 1) (by rw [h1]; exact hi) (by omega), h1]
theorem firstE_wires (l : Lo) : ∀ n, firstE (wiErr l) n = wiresErr l n
 | 0 => rfl
 | n + 1 => by
  show (if firstE (wiErr l) n ≠ 0 then firstE (wiErr l) n else _) = (if wiresErr l n ≠ 0 then wiresErr l n else _)
  rw [firstE_wires l n]
theorem firstE_must (p : Nat → Bool) {c : Int} (hc : c ≠ 0) : ∀ n, firstE (fun i => if p i then 0 else c) n = if (List.range n).all p = false then c else 0
 | 0 => rfl
 | n + 1 => by
  show (if firstE (fun i => if p i then 0 else c) n ≠ 0 then firstE (fun i => if p i then 0 else c) n else if p n then 0 else c) = _
  rw [firstE_must p hc n, List.range_succ, List.all_append]
  cases h : (List.range n).all p with
  | false => simp [hc]
  | true => cases h2 : p n <;> simp [h2]
theorem all_range {α : Type} (z : α) (p : α → Bool) (l : List α) : (List.range l.length).all (fun i => p (l.getD i z)) = l.all p := by
 rw [Bool.eq_iff_iff, List.all_eq_true, List.all_eq_true]
 constructor
 ·
  intro h x hx
  obtain ⟨i, hi, rfl⟩ := List.mem_iff_getElem.1 hx
  have := h i (by simpa using hi)
  simpa [hi] using this
 ·
  intro h i hi
  have hi' : i < l.length := by simpa using hi
  simp only [List.getD_eq_getElem?_getD, List.getElem?_eq_getElem hi', Option.getD_some]
  exact h _ (List.getElem_mem hi')
theorem stR_stays {rs : List (Nat × Nat)} {w : Int} {s i : Nat} (h : (stR rs w s i).length ≤ i) : ∀ j, i ≤ j → stR rs w s j = stR rs w s i := by
 intro j hj
 induction j with
 | zero => rw [show i = 0 by omega]
 | succ j ih =>
  rcases Nat.lt_or_ge i (j + 1) with h1 | h1
  ·
   have h2 := ih (by omega)
   show (if j < (stR rs w s j).length then _ else stR rs w s j) = _
   rw [h2, if_neg (by omega)]
  ·
   rw [show i = j + 1 by omega]
theorem stR_end {rs : List (Nat × Nat)} {w : Int} {s i n : Nat} (hs : s < n) (hrs : ∀ k, k < rs.length → (rs.getD k (0, 0)).1 < n ∧ (rs.getD k (0, 0)).2 < n) (h : (stR rs w s i).length ≤ i) (hi : i ≤ (stR rs w s i).length) : stR rs w s i = stR rs w s n :=
 (stR_stays h n (Nat.le_trans hi (stR_len hs hrs i))).symm
end Go.Proofs.YtehadoecnmfeoaaGreat

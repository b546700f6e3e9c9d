/- Part 1 of this claim's texts: walks and plain laws. -/
import Derived.Below
import Derived.Laws.World
import Derived.Deep.QuietTactic
import Derived.Lib.Hide
import Derived.OwnWalk
import Derived.Laws.AppendOwn
import Derived.Deep.Slices
import Derived.Deep.AppendLies
import Derived.Laws.OwnMore
import Derived.Deep.Draws
import Derived.Maps.AppendAt
import Derived.RegionTactic
/- Small laws of my own on worlds, for all the walks of this seat: no condition. -/
namespace Go.Proofs.Ytehadoecnmfeoaa
open Go.RowKit

theorem Below.drewN {B : Nat} {a w : World} (h : Below B a w) (n : Nat) : Below B a (w.drewN n) := ⟨h.os, h.tape, h.output, h.size, h.block⟩
theorem bcell {W w1 : World} (hb : Below W.heap.size W w1) : (∀ b o, b < W.heap.size → w1.cell? ⟨b, o, none⟩ = W.cell? ⟨b, o, none⟩) ∧ (∀ b o, b < W.heap.size → w1.frozen? ⟨b, o, none⟩ = W.frozen? ⟨b, o, none⟩) :=
  ⟨fun b o h => hb.cell (p := ⟨b, o, none⟩) h, fun b o h => hb.frozen (p := ⟨b, o, none⟩) h⟩
theorem Below.to {B : Nat} {a b c : World} (h : Below B a b) (k : Below b.heap.size b c) (hB : B ≤ a.heap.size) : Below B a c := h.trans (k.mono (Nat.le_trans hB h.size))
theorem Below.allocT {B : Nat} {a w : World} (h : Below B a w) (hB : B ≤ a.heap.size) (o : Obj) : Below B a (w.alloc o) := h.alloc (Nat.le_trans hB h.size) o
theorem only_drew {a w : World} {row : Option Nat} (h : a.grownBy w row) : a.grownBy w.drew row := ⟨h.os, h.tape, h.output, h.size, h.block⟩
theorem only_setCell {a w : World} {g : Nat} (h : a.grownBy w (some g)) {p : Addr} (hp : p.block = g ∨ a.heap.size ≤ p.block) (u : Value) : a.grownBy (w.setCell p u) (some g) :=
  ⟨h.os, h.tape, h.output, by simpa [World.setCell] using h.size, fun i hi hne => (Below.heap_setCell w p u i (by
    rintro rfl
    rcases hp with hp | hp
    · exact hne (by rw [hp])
    · omega)).trans (h.block i hi hne)⟩
theorem only_refl (w : World) (row : Option Nat) : w.grownBy w row := World.grownBy.refl w row
theorem only_trans {a b c : World} {row : Option Nat} (h : a.grownBy b row) (k : b.grownBy c row) : a.grownBy c row :=
  ⟨k.os.trans h.os, k.tape.trans h.tape, k.output.trans h.output, Nat.le_trans h.size k.size, fun i hi hn => (k.block i (Nat.lt_of_lt_of_le hi h.size) hn).trans (h.block i hi hn)⟩
/-- What changed was one block, and it is new. -/
theorem below_only {a b w : World} {g : Nat} (h : Below a.heap.size a b) (k : b.grownBy w (some g)) (hg : a.heap.size ≤ g) : Below a.heap.size a w :=
  h.grown k h.size (fun j e => by cases e; exact hg)
theorem hide {p : Prop} (h : p) : Hid p := h
end Go.Proofs.Ytehadoecnmfeoaa
/- Small laws of my own on slices in memory, for all the walks of this seat: no condition. -/
namespace Go.Proofs.Ytehadoecnmfeoaa
open Go.RowKit

/-- The slice value v has n elements of sz cells each, and cell j of element i holds f i j; they lie below block B. -/
def Sl (w : World) (B sz : Nat) (v : Value) (n : Nat) (f : Nat → Nat → Value) : Prop :=
  ∃ (A : Option Addr) (b off cap : Nat), v = .slice A n cap ∧ n ≤ cap ∧ (A = some ⟨b, off, none⟩ ∧ b < B ∨ n = 0) ∧ ∀ i j, i < n → j < sz → w.cell? ⟨b, off + (i * sz + j), none⟩ = some (f i j)

theorem Sl.keep {w w' : World} {B sz n : Nat} {v : Value} {f : Nat → Nat → Value} (h : Sl w B sz v n f) (hk : ∀ b o, b < B → w'.cell? ⟨b, o, none⟩ = w.cell? ⟨b, o, none⟩) : Sl w' B sz v n f := by
  obtain ⟨A, b, off, cap, hv, hn, hA, hc⟩ := h
  refine ⟨A, b, off, cap, hv, hn, hA, fun i j hi hj => ?_⟩
  rcases hA with ⟨_, hb⟩ | h0
  · rw [hk _ _ hb]; exact hc i j hi hj
  · omega
theorem Sl.more {w : World} {B B' sz n : Nat} {v : Value} {f : Nat → Nat → Value} (h : Sl w B sz v n f) (hB : B ≤ B') : Sl w B' sz v n f := by
  obtain ⟨A, b, off, cap, hv, hn, hA, hc⟩ := h
  exact ⟨A, b, off, cap, hv, hn, hA.imp (fun ⟨a, c⟩ => ⟨a, by omega⟩) id, hc⟩
theorem Sl.below {w w' : World} {B sz n : Nat} {v : Value} {f : Nat → Nat → Value} (h : Sl w B sz v n f) (hb : Below B w w') : Sl w' B sz v n f :=
  h.keep fun b o hlt => hb.cell (p := ⟨b, o, none⟩) hlt
/-- Behind a call that changes nothing below its own heap. -/
theorem Sl.to {w w' : World} {B sz n : Nat} {v : Value} {f : Nat → Nat → Value} (h : Sl w B sz v n f) (hb : Below w.heap.size w w') (hB : B ≤ w.heap.size) : Sl w' B sz v n f := h.below (hb.mono hB)
theorem Sl.up {w w' : World} {sz n : Nat} {v : Value} {f : Nat → Nat → Value} (h : Sl w w.heap.size sz v n f) (hb : Below w.heap.size w w') : Sl w' w'.heap.size sz v n f := (h.below hb).more hb.size
theorem Sl.form {w : World} {B sz n : Nat} {v : Value} {f : Nat → Nat → Value} (h : Sl w B sz v n f) : ∃ A cap, v = .slice A n cap := by
  obtain ⟨A, b, off, cap, hv, _⟩ := h
  exact ⟨A, cap, hv⟩
theorem Sl.nil (w : World) (B sz : Nat) (f : Nat → Nat → Value) : Sl w B sz (.slice none 0 0) 0 f :=
  ⟨none, 0, 0, 0, rfl, Nat.le_refl _, .inr rfl, fun i j h => absurd h (by omega)⟩
theorem Sl.congr {w : World} {B sz n : Nat} {v : Value} {f g : Nat → Nat → Value} (h : Sl w B sz v n f) (hfg : ∀ i j, i < n → j < sz → f i j = g i j) : Sl w B sz v n g := by
  obtain ⟨A, b, off, cap, hv, hn, hA, hc⟩ := h
  exact ⟨A, b, off, cap, hv, hn, hA, fun i j hi hj => by rw [hc i j hi hj, hfg i j hi hj]⟩

/-- The place of the first element of a list of which p holds, and -1 if there is none. -/
def idxI {α : Type} (p : α → Bool) : List α → Int
  | [] => -1
  | a :: r => if p a then 0 else if idxI p r < 0 then -1 else idxI p r + 1
theorem idxI_at {α : Type} (p : α → Bool) (z : α) : ∀ (l : List α) (k : Nat), (∀ j, j < k → p (l.getD j z) = false) → k < l.length → p (l.getD k z) = true → idxI p l = k
  | [], k, _, h, _ => by simp at h
  | a :: r, 0, _, _, h => by
    have h' : p a = true := by simpa using h
    simp [idxI, h']
  | a :: r, k + 1, h, hk, hp => by
    have h0 : p a = false := by simpa using h 0 (by omega)
    have := idxI_at p z r k (fun j hj => by have := h (j + 1) (by omega); simpa using this) (by simpa using hk) (by simpa using hp)
    simp only [idxI, h0, this]
    simp
    omega
theorem idxI_none {α : Type} (p : α → Bool) (z : α) : ∀ (l : List α), (∀ j, j < l.length → p (l.getD j z) = false) → idxI p l = -1
  | [], _ => rfl
  | a :: r, h => by
    have h0 : p a = false := by simpa using h 0 (by simp)
    have := idxI_none p z r (fun j hj => by have := h (j + 1) (by simpa using hj); simpa using this)
    simp [idxI, h0, this]
theorem idxI_any {α : Type} (p : α → Bool) : ∀ (l : List α), decide (0 ≤ idxI p l) = l.any p
  | [] => by simp [idxI]
  | a :: r => by
    have ih := idxI_any p r
    cases ha : p a
    · simp only [idxI, ha, List.any_cons, Bool.false_or]
      rw [← ih]
      simp only [Bool.false_eq_true, if_false]
      split
      · rename_i hlt
        simp
        omega
      · rename_i hge
        rw [decide_eq_decide]
        omega
    · simp [idxI, ha]
theorem idxI_lo {α : Type} (p : α → Bool) : ∀ (l : List α), -1 ≤ idxI p l
  | [] => by simp [idxI]
  | a :: r => by
    have ih := idxI_lo p r
    simp only [idxI]
    split
    · omega
    · split <;> omega
theorem idxI_hi {α : Type} (p : α → Bool) : ∀ (l : List α), idxI p l ≤ l.length
  | [] => by simp [idxI]
  | a :: r => by
    have ih := idxI_hi p r
    simp only [idxI, List.length_cons]
    split
    · omega
    · split <;> omega

end Go.Proofs.Ytehadoecnmfeoaa
/- Lemmas on slices that read as lists and on append, as the guide's page of words lays them for copying, and bridges of my own: no condition. -/
namespace Go.Proofs.Ytehadoecnmfeoaa
open Go.RowKit

theorem block_of_add (a : Addr) (n : Nat) : (a.add n).block = a.block := by unfold Addr.add; split <;> rfl
theorem add_of_add (a : Addr) (i j : Nat) : (a.add i).add j = a.add (i + j) := by
  unfold Addr.add
  by_cases hi : i = 0 <;> by_cases hj : j = 0 <;> simp [hi, hj, Nat.add_assoc]

def Reads (w : World) (B size : Nat) (A : Option Addr) (n : Nat) (xs : List Value) : Prop :=
  xs.length = n * size ∧ (0 < n → ∃ ad, A = some ad ∧ ad.block < B ∧ ∀ j u, xs[j]? = some u → w.cell? (ad.add j) = some u)

section
variable {w w' : World} {B B' size n : Nat} {A : Option Addr} {xs : List Value}
theorem Reads.at_ {k : Nat} (h : Reads w B 1 A n xs) (hk : k < n) : ∃ ad u, A = some ad ∧ ad.block < B ∧ xs[k]? = some u ∧ w.cell? (ad.add k) = some u := by
  obtain ⟨ad, e, hb, hc⟩ := h.2 (by omega)
  have hl : k < xs.length := by have := h.1; omega
  exact ⟨ad, xs[k], e, hb, List.getElem?_eq_getElem hl, hc k _ (List.getElem?_eq_getElem hl)⟩
theorem Reads.keep (h : Reads w B size A n xs) (hk : ∀ p : Addr, p.block < B → w'.cell? p = w.cell? p) : Reads w' B size A n xs :=
  ⟨h.1, fun hn => by
    obtain ⟨ad, e, hb, hc⟩ := h.2 hn
    exact ⟨ad, e, hb, fun j u hu => (hk _ (by rw [block_of_add]; exact hb)).trans (hc j u hu)⟩⟩
theorem Reads.more (h : Reads w B size A n xs) (hB : B ≤ B') : Reads w B' size A n xs :=
  ⟨h.1, fun hn => by
    obtain ⟨ad, e, hb, hc⟩ := h.2 hn
    exact ⟨ad, e, by omega, hc⟩⟩
theorem Reads.below (h : Reads w B size A n xs) (hb : Below B w w') : Reads w' B size A n xs := h.keep fun _ hp => hb.cell hp
theorem Reads.drew (h : Reads w B size A n xs) : Reads w.drew B size A n xs := h
theorem Reads.drewN (h : Reads w B size A n xs) (k : Nat) : Reads (w.drewN k) B size A n xs := h
theorem Reads.alloc (h : Reads w B size A n xs) (hB : B ≤ w.heap.size) (o : Obj) : Reads (w.alloc o) B size A n xs := h.keep fun p hp => World.cell?_alloc_lt w o p (by omega)
theorem Reads.setCell (h : Reads w B size A n xs) {p : Addr} (hB : B ≤ p.block) (u : Value) : Reads (w.setCell p u) B size A n xs :=
  h.keep fun q hq => World.cell?_setCell_other w p q u (fun e => by subst e; omega)
theorem Reads.grown (h : Reads w B size A n xs) {row : Option Nat} (hg : w.grownBy w' row) (hB : B ≤ w.heap.size) (hr : ∀ g, row = some g → B ≤ g) : Reads w' B size A n xs :=
  h.keep fun p hp => World.cell?_of_block (hg.block p.block (by omega) (fun e => by have := hr _ e.symm; omega))
theorem Reads.cut (h : Reads w B size A n xs) {k cap : Nat} (hk : k ≤ n) (hc : n ≤ cap) :
    Reads w B size (if cap = k then A else A.map (·.add (k * size))) (n - k) (xs.drop (k * size)) := by
  refine ⟨by rw [List.length_drop, h.1, Nat.sub_mul], fun hn => ?_⟩
  obtain ⟨ad, rfl, hb, hcell⟩ := h.2 (by omega)
  rw [if_neg (by omega)]
  refine ⟨ad.add (k * size), rfl, by rw [block_of_add]; exact hb, fun j u hu => ?_⟩
  rw [add_of_add]
  exact hcell _ u (by rw [← hu, List.getElem?_drop])
theorem Reads.of_own {base : Nat} {e : TypeId} {c : Nat} (h : w.ownsRow base e size (.slice A n c) n xs) : Reads w w.heap.size size A n xs := by
  refine ⟨h.1, fun hn => ?_⟩
  obtain ⟨g, cap, hv, _, hlt⟩ := h.form hn
  have hA : A = some ⟨g, 0, none⟩ := by injection hv
  subst hA
  exact ⟨_, rfl, hlt, h.cells (g := g) rfl⟩
end

section
variable {P : Program} (w : World)

theorem run_append_of_nil (base : Nat) (t ty e : TypeId) (i : TypeInfo) (size : Nat) (ht : P.underlying t = some (.slice e)) (hi : P.info? e = some i)
    (v : Value) (n : Nat) (xs : List Value) (hown : w.ownsRow base e size v n xs) (c : Nat) : (Builtin.append_ #[t, t] ty #[v, .slice none 0 c]).run P w = .ok v w := by
  rcases hown.2 with ⟨rfl, rfl⟩ | ⟨g, cap, cur, rfl, _, _, hnc, _⟩
  · simp [Builtin.append_, run_underlying ht, sizeOf, typeInfo, hi, Builtin.lenOf, Builtin.firstCells]
  · simp [Builtin.append_, run_underlying ht, sizeOf, typeInfo, hi, Builtin.lenOf, Builtin.firstCells, hnc, storeCells]

theorem run_append_any (base : Nat) (t ty e : TypeId) (i : TypeInfo) (z : Value) (size bytes : Nat) (ht : P.underlying t = some (.slice e)) (hi : P.info? e = some i) (hz : i.zero = some z)
    (hsize : i.size = size) (hby : i.bytes = bytes) (hzs : z.cells.size = size) (hsz : 0 < size)
    (v : Value) (n : Nat) (xs : List Value) (hown : w.ownsRow base e size v n xs)
    (B : Nat) (A : Option Addr) (m c : Nat) (news : List Value) (hr : Reads w B size A m news) (h1 : ∀ u ∈ news, u.oneCell' = true)
    (h63 : n + m ≤ maxLen) (hbytes : (n + m) * bytes ≤ 140737488355328) (hbase : base ≤ w.heap.size) :
    ∃ v' w', (Builtin.append_ #[t, t] ty #[v, .slice A m c]).run P w = .ok v' w' ∧ w'.ownsRow base e size v' (n + m) (xs ++ news) ∧ w.grownBy w' v.ownBlock ∧
      (v'.ownBlock = v.ownBlock ∨ v'.ownBlock = some w.heap.size) := by
  rcases A with _ | ad
  · have hm : m = 0 := by
      rcases Nat.eq_zero_or_pos m with h0 | h0
      · exact h0
      · obtain ⟨ad, h, _⟩ := hr.2 h0
        cases h
    subst hm
    have hn : news = [] := List.eq_nil_of_length_eq_zero (by simpa using hr.1)
    subst hn
    exact ⟨v, w, run_append_of_nil w base t ty e i size ht hi v n xs hown c, by simpa using hown, World.grownBy.refl w _, .inl rfl⟩
  · have hcells : ∀ j u, news[j]? = some u → w.cell? (ad.add j) = some u := by
      intro j u hu
      rcases Nat.eq_zero_or_pos m with h0 | h0
      · subst h0
        have hn : news = [] := List.eq_nil_of_length_eq_zero (by simpa using hr.1)
        subst hn
        simp at hu
      · obtain ⟨ad', h, _, hc⟩ := hr.2 h0
        injection h with h
        subst h
        exact hc j u hu
    obtain ⟨v', w', hrun, h2, h3, _, h5⟩ := run_append_own_at (P := P) w base t ty e i z size bytes ht hi hz hsize hby hzs hsz v n xs hown ad m c news hr.1 hcells h1 h63 hbytes hbase
    exact ⟨v', w', hrun, h2, h3, h5⟩

theorem wp_append_any {o : Oper} {a : Act} {K : Act → World → Prop} {Q : Exit → Act → World → Prop} (s x : Operand) (t : TypeId)
    (ho : o.op = .call { callee := .builtin .append, args := #[s, x], argTypes := #[t, t] })
    (base : Nat) (e : TypeId) (i : TypeInfo) (z : Value) (size bytes : Nat) (ht : P.underlying t = some (.slice e)) (hi : P.info? e = some i) (hz : i.zero = some z)
    (hsize : i.size = size) (hby : i.bytes = bytes) (hzs : z.cells.size = size) (hsz : 0 < size)
    (v : Value) (n : Nat) (xs : List Value) (hs : a.eval s = v) (hown : w.ownsRow base e size v n xs)
    (B : Nat) (A : Option Addr) (m c : Nat) (news : List Value) (hx : a.eval x = .slice A m c) (hr : Reads w B size A m news) (h1 : ∀ u ∈ news, u.oneCell' = true)
    (h63 : n + m ≤ maxLen) (hbytes : (n + m) * bytes ≤ 140737488355328) (hbase : base ≤ w.heap.size)
    (h : ∀ v' w', w'.ownsRow base e size v' (n + m) (xs ++ news) → w.grownBy w' v.ownBlock → (v'.ownBlock = v.ownBlock ∨ v'.ownBlock = some w.heap.size) → K (a.put o.dst v') w') : o.wp P a w K Q := by
  obtain ⟨v', w', hrun, h2, h3, h4⟩ := run_append_any (P := P) w base t o.type e i z size bytes ht hi hz hsize hby hzs hsz v n xs hown B A m c news hr h1 h63 hbytes hbase
  unfold Oper.wp execOp
  simp only [ho, resolve, invoke, builtin, Sem.run_bind, Sem.run_pure, Result.andThen_ok, List.map_toArray, List.map_cons, List.map_nil, hs, hx, hrun]
  exact h v' w' h2 h3 h4

theorem wpList_append_any {ops : Array Oper} {rest : List Oper} {o : Oper} {a : Act} {Q : Exit → Act → World → Prop} (hgd : o.guard = none) (s x : Operand) (t : TypeId)
    (ho : o.op = .call { callee := .builtin .append, args := #[s, x], argTypes := #[t, t] })
    (base : Nat) (e : TypeId) (i : TypeInfo) (z : Value) (size bytes : Nat) (ht : P.underlying t = some (.slice e)) (hi : P.info? e = some i) (hz : i.zero = some z)
    (hsize : i.size = size) (hby : i.bytes = bytes) (hzs : z.cells.size = size) (hsz : 0 < size)
    (v : Value) (n : Nat) (xs : List Value) (hs : a.eval s = v) (hown : w.ownsRow base e size v n xs)
    (B : Nat) (A : Option Addr) (m c : Nat) (news : List Value) (hx : a.eval x = .slice A m c) (hr : Reads w B size A m news) (h1 : ∀ u ∈ news, u.oneCell' = true)
    (h63 : n + m ≤ maxLen) (hbytes : (n + m) * bytes ≤ 140737488355328) (hbase : base ≤ w.heap.size)
    (h : ∀ v' w', w'.ownsRow base e size v' (n + m) (xs ++ news) → w.grownBy w' v.ownBlock → (v'.ownBlock = v.ownBlock ∨ v'.ownBlock = some w.heap.size) → wpList P ops Q rest (a.put o.dst v') w') : wpList P ops Q (o :: rest) a w :=
  wpList_plain hgd fun _ hK => wp_append_any w s x t ho base e i z size bytes ht hi hz hsize hby hzs hsz v n xs hs hown B A m c news hx hr h1 h63 hbytes hbase fun v' w' h2 h3 h4 => hK _ _ (h v' w' h2 h3 h4)

theorem step_append_any {ops : Array Oper} {o : Oper} {a : Act} {K : Act → World → Prop} {Q : Exit → Act → World → Prop} {E : Prop} (hgd : o.guard = none) (s x : Operand) (t : TypeId)
    (ho : o.op = .call { callee := .builtin .append, args := #[s, x], argTypes := #[t, t] })
    (base : Nat) (e : TypeId) (i : TypeInfo) (z : Value) (size bytes : Nat) (ht : P.underlying t = some (.slice e)) (hi : P.info? e = some i) (hz : i.zero = some z)
    (hsize : i.size = size) (hby : i.bytes = bytes) (hzs : z.cells.size = size) (hsz : 0 < size)
    (v : Value) (n : Nat) (xs : List Value) (hs : a.eval s = v) (hown : w.ownsRow base e size v n xs)
    (B : Nat) (A : Option Addr) (m c : Nat) (news : List Value) (hx : a.eval x = .slice A m c) (hr : Reads w B size A m news) (h1 : ∀ u ∈ news, u.oneCell' = true)
    (h63 : n + m ≤ maxLen) (hbytes : (n + m) * bytes ≤ 140737488355328) (hbase : base ≤ w.heap.size)
    (h : ∀ v' w', w'.ownsRow base e size v' (n + m) (xs ++ news) → w.grownBy w' v.ownBlock → (v'.ownBlock = v.ownBlock ∨ v'.ownBlock = some w.heap.size) → K (a.put o.dst v') w') :
    if Region.wanted o (yielded ops a.tmps) = true then Oper.wp P o a w K Q else E := by
  have hw : Region.wanted o (yielded ops a.tmps) = true := by simp [Region.wanted, hgd]
  rw [if_pos hw]
  exact wp_append_any w s x t ho base e i z size bytes ht hi hz hsize hby hzs hsz v n xs hs hown B A m c news hx hr h1 h63 hbytes hbase h
end

/-- The cells of n elements of sz cells each, one after the other. -/
def flat (n sz : Nat) (f : Nat → Nat → Value) : List Value := (List.range (n * sz)).map fun m => f (m / sz) (m % sz)
theorem flat_length (n sz : Nat) (f : Nat → Nat → Value) : (flat n sz f).length = n * sz := by simp [flat]
theorem idx_lt {i j n sz : Nat} (hi : i < n) (hj : j < sz) : i * sz + j < n * sz := by
  have h1 : (i + 1) * sz ≤ n * sz := Nat.mul_le_mul_right _ hi
  rw [Nat.succ_mul] at h1
  omega
theorem flat_get {n sz : Nat} {f : Nat → Nat → Value} {i j : Nat} (hi : i < n) (hj : j < sz) : (flat n sz f)[i * sz + j]? = some (f i j) := by
  have hlt := idx_lt hi hj
  have h1 : (i * sz + j) / sz = i := by
    rw [Nat.mul_comm, Nat.mul_add_div (by omega), Nat.div_eq_of_lt hj]; omega
  have h2 : (i * sz + j) % sz = j := by
    rw [Nat.mul_comm, Nat.mul_add_mod, Nat.mod_eq_of_lt hj]
  simp [flat, hlt, h1, h2]
theorem flat_inv {n sz : Nat} {f : Nat → Nat → Value} {m : Nat} {u : Value} (hsz : 0 < sz) (h : (flat n sz f)[m]? = some u) : ∃ i j, i < n ∧ j < sz ∧ m = i * sz + j ∧ u = f i j := by
  have hm : m < n * sz := by
    have := (List.getElem?_eq_some_iff.1 h).1
    rwa [flat_length] at this
  have hi : m / sz < n := by rw [Nat.div_lt_iff_lt_mul hsz]; exact hm
  have hj : m % sz < sz := Nat.mod_lt _ hsz
  refine ⟨m / sz, m % sz, hi, hj, by rw [Nat.mul_comm]; exact (Nat.div_add_mod m sz).symm, ?_⟩
  have h2 := flat_get (f := f) hi hj
  rw [show m / sz * sz + m % sz = m by rw [Nat.mul_comm]; exact Nat.div_add_mod m sz, h] at h2
  injection h2
theorem Sl.reads {w : World} {B sz n cap : Nat} {A : Option Addr} {f : Nat → Nat → Value} (h : Sl w B sz (.slice A n cap) n f) (hsz : 0 < sz) : Reads w B sz A n (flat n sz f) := by
  obtain ⟨A', b, off, cap', hv, hn, hA, hc⟩ := h
  injection hv with hv1 hv2 hv3
  subst hv1
  refine ⟨flat_length _ _ _, fun h0 => ?_⟩
  rcases hA with ⟨rfl, hb⟩ | hz
  · refine ⟨_, rfl, hb, fun m u hu => ?_⟩
    obtain ⟨i, j, hi, hj, rfl, rfl⟩ := flat_inv hsz hu
    have := hc i j hi hj
    unfold Addr.add
    split
    · rename_i h1
      rw [h1] at this
      simpa using this
    · exact this
  · omega
theorem Sl.of_owns {w : World} {base e sz n : Nat} {v : Value} {xs : List Value} {f : Nat → Nat → Value} (h : w.ownsRow base e sz v n xs) (hx : ∀ i j, i < n → j < sz → xs[i * sz + j]? = some (f i j)) : Sl w w.heap.size sz v n f := by
  have hlt := h.lt
  obtain ⟨hl, ⟨rfl, rfl⟩ | ⟨g, cap, cur, rfl, hb, hg, hnc, hcm, hcs, htake⟩⟩ := h
  · exact Sl.nil _ _ _ _
  · refine ⟨some ⟨g, 0, none⟩, g, 0, cap, rfl, hnc, .inl ⟨rfl, (hlt g (by simp [Value.ownBlock])).2⟩, fun i j hi hj => ?_⟩
    have h1 := hx i j hi hj
    rw [← htake] at h1
    have h2 : cur[i * sz + j]? = some (f i j) := by
      rw [List.getElem?_take] at h1
      split at h1
      · rwa [Array.getElem?_toList] at h1
      · cases h1
    rw [Nat.zero_add]
    simp [World.cell?, hg, h2]
end Go.Proofs.Ytehadoecnmfeoaa

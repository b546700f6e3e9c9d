/- Part 1 of this claim's texts: walks and plain laws. -/
import Derived.Test.YtmgfijadjclmpaaRows
import Derived.Test.YtmgfijadjclmpaaGTC0
import Derived.Maps.OwnSet
import Derived.Maps.OwnOps
import Derived.DeepKeys4
import Derived.Laws.OwnMore
import Derived.Deep.AppendLies
import Derived.Deep.Draws
import Derived.Maps.AppendAt
import Derived.RegionTactic
import Derived.OwnWalk
import Derived.Below
import Derived.Deep.RegionHeld
import Derived.OneCell
import Derived.RangeFuncFrom
/- Names, and which models are valid. Plain laws. -/
namespace Go.Proofs.Ytmgfijadjclmpaa
set_option linter.unusedVariables false
/-- Whether a byte may stand in a name. -/
def alN (c : UInt8) : Bool := (decide (97 ≤ c.toNat) && decide (c.toNat ≤ 122)) || (decide (48 ≤ c.toNat) && decide (c.toNat ≤ 57))
def smN (c : UInt8) : Bool := decide (97 ≤ c.toNat) && decide (c.toNat ≤ 122)
/-- How many bytes at the beginning may stand in a name. -/
def wordN : List UInt8 → Nat
  | [] => 0
  | c :: r => if alN c then wordN r + 1 else 0
theorem wordN_at : ∀ (l : List UInt8) (k : Nat), k < l.length → (∀ j, j < k → alN (l.getD j 0) = true) → alN (l.getD k 0) = false → wordN l = k
  | [], k, h, _, _ => by simp at h
  | c :: r, 0, _, _, h => by
    simp only [List.getD_cons_zero] at h
    simp [wordN, h]
  | c :: r, k + 1, hk, h1, h2 => by
    have h3 := h1 0 (by omega)
    simp only [List.getD_cons_zero] at h3
    have h4 := wordN_at r k (by simpa using hk) (fun j hj => by have := h1 (j + 1) (by omega); simpa using this) (by simpa using h2)
    simp [wordN, h3, h4]
theorem wordN_all : ∀ (l : List UInt8), (∀ j, j < l.length → alN (l.getD j 0) = true) → wordN l = l.length
  | [], _ => rfl
  | c :: r, h => by
    have h3 := h 0 (by simp)
    simp only [List.getD_cons_zero] at h3
    have h4 := wordN_all r (fun j hj => by have := h (j + 1) (by simpa using hj); simpa using this)
    simp [wordN, h3, h4]
/-- Whether a text is a name. -/
def namedB (l : List UInt8) : Bool := decide (1 ≤ l.length) && decide (l.length ≤ 8) && smN (l.getD 0 0) && decide (l ≠ [121, 101, 115]) && decide (l ≠ [110, 111]) && decide (wordN l = l.length)
/-- Whether options are names, each another one. -/
def namesB : List (List UInt8) → List (List UInt8) → Bool
  | _, [] => true
  | seen, n :: r => namedB n && !seen.contains n && namesB (seen ++ [n]) r
structure Mo where
  opts : List ByteArray
  rules : List (List Int)
def Mo.names (m : Mo) : List (List UInt8) := m.opts.map fun s => s.data.toList
def Mo.err (m : Mo) : Int := if 40 < m.opts.length ∨ 60 < m.rules.length then 2 else if namesB [] m.names = false then 10 else if m.rules.all (validF m.opts.length) = false then 11 else 0
/-- The error of a model and formulas. -/
def Mo.errF (m : Mo) (l : List (List Int)) : Int := if m.err ≠ 0 then m.err else if l.all (validF m.opts.length) = false then 11 else 0
theorem namesB_at : ∀ (seen l : List (List UInt8)) (k : Nat), k < l.length → (∀ j, j < k → namedB (l.getD j []) = true ∧ (seen ++ l.take j).contains (l.getD j []) = false) → (namedB (l.getD k []) && !(seen ++ l.take k).contains (l.getD k [])) = false → namesB seen l = false
  | seen, [], k, h, _, _ => by simp at h
  | seen, n :: r, 0, _, _, h => by
    simp only [List.getD_cons_zero, List.take_zero, List.append_nil] at h
    simp only [namesB, h, Bool.false_and]
  | seen, n :: r, k + 1, hk, h1, h2 => by
    have h3 := h1 0 (by omega)
    simp only [List.getD_cons_zero, List.take_zero, List.append_nil] at h3
    have h4 := namesB_at (seen ++ [n]) r k (by simpa using hk) (fun j hj => by
      have := h1 (j + 1) (by omega)
      simpa using this) (by simpa using h2)
    simp only [namesB, h4, Bool.and_false]
theorem namesB_all : ∀ (seen l : List (List UInt8)), (∀ j, j < l.length → namedB (l.getD j []) = true ∧ (seen ++ l.take j).contains (l.getD j []) = false) → namesB seen l = true
  | seen, [], _ => rfl
  | seen, n :: r, h1 => by
    have h3 := h1 0 (by simp)
    simp only [List.getD_cons_zero, List.take_zero, List.append_nil] at h3
    have h4 := namesB_all (seen ++ [n]) r (fun j hj => by
      have := h1 (j + 1) (by simpa using hj)
      simpa using this)
    simp only [namesB, h3.1, h3.2, h4, Bool.not_false, Bool.and_self]
theorem Mo.ok {m : Mo} (h : m.err = 0) : m.opts.length ≤ 40 ∧ m.rules.length ≤ 60 ∧ namesB [] m.names = true ∧ ∀ f ∈ m.rules, validF m.opts.length f = true := by
  unfold Mo.err at h
  split at h
  · simp at h
  · rename_i h1
    split at h
    · simp at h
    · rename_i h2
      split at h
      · simp at h
      · rename_i h3
        exact ⟨by omega, by omega, by simpa using h2, List.all_eq_true.1 (by simpa using h3)⟩
theorem Mo.okF {m : Mo} {l : List (List Int)} (h : m.errF l = 0) : m.err = 0 ∧ ∀ f ∈ l, validF m.opts.length f = true := by
  unfold Mo.errF at h
  split at h
  · rename_i h1; exact absurd h h1
  · rename_i h1
    split at h
    · simp at h
    · rename_i h3
      exact ⟨by omega, List.all_eq_true.1 (by simpa using h3)⟩
end Go.Proofs.Ytmgfijadjclmpaa
/- A map of numbers in memory, as a function from keys to numbers. -/
namespace Go.Proofs.Ytmgfijadjclmpaa
open Go.Maps (Keyed)
set_option linter.unusedVariables false
section
variable {α : Type} {P : Program} {w : World} {k e b n : Nat} {enc : α → Value} {m : α → Option Int}
/-- Block b is a map that holds the number m a at the key enc a, where there is one. -/
def MapIs (P : Program) (w : World) (k e b n : Nat) (enc : α → Value) (m : α → Option Int) : Prop :=
  ∃ D : DataW Unit, w.ownsMap P k (plainElem P e) b n D ∧ ∀ a l, keyOf P k (enc a) = some l →
    (m a = none → Maps.has D l = false) ∧ ∀ x, m a = some x → Maps.has D l = true ∧ D.atKey l (.lit (.int .i64 0)) = .lit (.int .i64 x)
theorem MapIs.made (P : Program) (w : World) (k e : Nat) (enc : α → Value) : MapIs P (w.alloc (.map #[] 0)) k e w.heap.size 0 enc (fun _ => none) :=
  ⟨_, World.ownsMap_made w P k _, fun a l _ => ⟨fun _ => rfl, fun x h => by cases h⟩⟩
theorem MapIs.mono (h : MapIs P w k e b n enc m) {n' : Nat} (hn : n ≤ n') : MapIs P w k e b n' enc m := by
  obtain ⟨D, h1, h2⟩ := h
  exact ⟨D, h1.mono hn, h2⟩
theorem MapIs.lt (h : MapIs P w k e b n enc m) : b < w.heap.size := by
  obtain ⟨D, h1, _⟩ := h
  exact h1.lt
theorem MapIs.same {w' : World} (h : MapIs P w k e b n enc m) (hb : w'.heap[b]? = w.heap[b]?) : MapIs P w' k e b n enc m := by
  obtain ⟨D, ⟨es, c, h0, h1⟩, h2⟩ := h
  exact ⟨D, ⟨es, c, hb.trans h0, h1⟩, h2⟩
theorem MapIs.obj (h : MapIs P w k e b n enc m) : ∃ es c, w.heap[b]? = some (.map es c) := by
  obtain ⟨D, ⟨es, c, h0, h1⟩, h2⟩ := h
  exact ⟨es, c, h0⟩
variable {t : Nat}
theorem MapIs.look (h : MapIs P w k e b n enc m) (K : Keyed P k) (ht : P.underlying t = some (.map k e)) (he : P.underlying e = some (.int .i64)) (hz : (zeroValue e).run P w = .ok (.int .i64 0) w) {a : α} {l : Lit} (hkey : keyOf P k (enc a) = some l) :
    (Instr.lookup t (.map (some b)) (enc a) true).run P w = .ok (.tuple #[.int .i64 ((m a).getD 0), .bool (m a).isSome]) w := by
  obtain ⟨D, h1, h2⟩ := h
  obtain ⟨h3, h4⟩ := h2 a l hkey
  obtain ⟨v, ps, hrun, hv⟩ := h1.look_ok K ht hz (plainElem_int he (by decide)) hkey
  obtain ⟨c, rfl, hc, _⟩ := plainElem_int_inv he hv
  injection hc with hc _
  cases hm : m a with
  | none =>
    have h5 := h3 hm
    rw [Maps.atKey_of_not_has h5] at hc
    injection hc with hc
    injection hc with _ hc
    subst hc
    rw [hrun, h5]
    rfl
  | some x =>
    obtain ⟨h5, h6⟩ := h4 x hm
    rw [h6] at hc
    injection hc with hc
    injection hc with _ hc
    subst hc
    rw [hrun, h5]
    rfl
/-- The map with one more number. -/
def putM [DecidableEq α] (m : α → Option Int) (a : α) (x : Int) : α → Option Int := fun a' => if a' = a then some x else m a'
theorem MapIs.put' [DecidableEq α] (K : Keyed P k) (hinj : ∀ a a', enc a = enc a' → a = a') {D : DataW Unit} (h1 : w.ownsMap P k (plainElem P e) b n D) (h2 : ∀ a l, keyOf P k (enc a) = some l →
    (m a = none → Maps.has D l = false) ∧ ∀ x, m a = some x → Maps.has D l = true ∧ D.atKey l (.lit (.int .i64 0)) = .lit (.int .i64 x)) {a : α} {l : Lit} (hkey : keyOf P k (enc a) = some l) (x : Int) {w' : World} (h3 : w'.ownsMap P k (plainElem P e) b (n + 1) (D.put l (.lit (.int .i64 x)))) :
    MapIs P w' k e b (n + 1) enc (putM m a x) := by
  refine ⟨_, h3, fun a' l' hk' => ?_⟩
  unfold putM
  by_cases ha : a' = a
  · subst ha
    rw [hkey] at hk'
    injection hk' with hk'
    subst hk'
    rw [if_pos rfl]
    exact ⟨fun h => (by cases h), fun y hy => by
      injection hy with hy
      subst hy
      exact ⟨Maps.has_put_same h1.isMap (K.key hkey) _, Maps.atKey_put_same h1.isMap (K.key hkey) _ _⟩⟩
  · rw [if_neg ha]
    have hl : l' ≠ l := fun e => by
      subst e
      exact ha (hinj _ _ (K.inj hk' hkey))
    obtain ⟨h4, h5⟩ := h2 a' l' hk'
    refine ⟨fun h => (Maps.has_put_other hl _).trans (h4 h), fun y hy => ?_⟩
    obtain ⟨h6, h7⟩ := h5 y hy
    exact ⟨(Maps.has_put_other hl _).trans h6, (Maps.atKey_put_other hl _ _).trans h7⟩
theorem MapIs.put [DecidableEq α] (h : MapIs P w k e b n enc m) (K : Keyed P k) (ht : P.underlying t = some (.map k e)) (he : P.underlying e = some (.int .i64)) (hinj : ∀ a a', enc a = enc a' → a = a') (hn : n < maxLen) {a : α} {l : Lit} (hkey : keyOf P k (enc a) = some l) {x : Int} (hx : (Lit.int .i64 x).wf = true) :
    ∃ w', (Instr.mapUpdate t (.map (some b)) (enc a) (.int .i64 x)).run P w = .ok () w' ∧ MapIs P w' k e b (n + 1) enc (putM m a x) ∧ w.grownBy w' (some b) := by
  obtain ⟨D, h1, h2⟩ := h
  obtain ⟨w', hrun, h3, h4⟩ := h1.update K ht hn hkey (plainElem_int he hx)
  exact ⟨w', hrun, MapIs.put' K hinj h1 h2 hkey x h3, h4⟩
/-- The same for the walk, at the operation. -/
theorem wpList_put [DecidableEq α] (w : World) {ops : Array Oper} {rest : List Oper} {o : Oper} {ac : Act} {Q : Exit → Act → World → Prop}
    (hg : o.guard = none) (om ox ov : Operand) (t : Nat) (hop : o.op = Op.mapUpdate t om ox ov) {k e b n : Nat} {enc : α → Value} {m : α → Option Int}
    (h : MapIs P w k e b n enc m) (K : Keyed P k) (ht : P.underlying t = some (.map k e)) (he : P.underlying e = some (.int .i64)) (hinj : ∀ a a', enc a = enc a' → a = a') (hn : n < maxLen) (a : α) (hkey : ∃ l, keyOf P k (enc a) = some l) (x : Int) (hx : (Lit.int .i64 x).wf = true)
    (h1 : ac.eval om = .map (some b)) (h2 : ac.eval ox = enc a) (h3 : ac.eval ov = .int .i64 x)
    (hK : ∀ w', MapIs P w' k e b (n + 1) enc (putM m a x) → w.grownBy w' (some b) → wpList P ops Q rest (ac.put o.dst undef) w') :
    wpList P ops Q (o :: rest) ac w := by
  obtain ⟨l, hkey⟩ := hkey
  obtain ⟨D, hD, hA⟩ := h
  exact wpList_mapUpdate_own w hg om ox ov t hop k e K ht _ b n D h1 hD hn _ _ l h2 h3 hkey _ _ (plainElem_int he hx) fun w' h4 h5 => hK w' (MapIs.put' K hinj hD hA hkey x h4) h5
end
end Go.Proofs.Ytmgfijadjclmpaa
/- Lemmas on slices that read as lists and on append, as the guide's page of words lays them for copying, and bridges of my own: no condition. -/
namespace Go.Proofs.Ytmgfijadjclmpaa
open Go.RowKit

theorem block_of_add (a : Addr) (n : Nat) : (a.add n).block = a.block := by unfold Addr.add; split <;> rfl
theorem add_of_add (a : Addr) (i j : Nat) : (a.add i).add j = a.add (i + j) := by
  unfold Addr.add
  by_cases hi : i = 0 <;> by_cases hj : j = 0 <;> simp [hi, hj, Nat.add_assoc]

def Reads (w : World) (B size : Nat) (A : Option Addr) (n : Nat) (xs : List Value) : Prop :=
  xs.length = n * size ∧ (0 < n → ∃ ad, A = some ad ∧ ad.block < B ∧ ∀ j u, xs[j]? = some u → w.cell? (ad.add j) = some u)

section
variable {w w' : World} {B B' size n : Nat} {A : Option Addr} {xs : List Value}
theorem Reads.keep (h : Reads w B size A n xs) (hk : ∀ p : Addr, p.block < B → w'.cell? p = w.cell? p) : Reads w' B size A n xs :=
  ⟨h.1, fun hn => by
    obtain ⟨ad, e, hb, hc⟩ := h.2 hn
    exact ⟨ad, e, hb, fun j u hu => (hk _ (by rw [block_of_add]; exact hb)).trans (hc j u hu)⟩⟩
theorem Reads.more (h : Reads w B size A n xs) (hB : B ≤ B') : Reads w B' size A n xs :=
  ⟨h.1, fun hn => by
    obtain ⟨ad, e, hb, hc⟩ := h.2 hn
    exact ⟨ad, e, by omega, hc⟩⟩
theorem Reads.below (h : Reads w B size A n xs) (hb : Below B w w') : Reads w' B size A n xs := h.keep fun _ hp => hb.cell hp
theorem Reads.drew (h : Reads w B size A n xs) : Reads w.drew B size A n xs := h
theorem Reads.drewN (h : Reads w B size A n xs) (k : Nat) : Reads (w.drewN k) B size A n xs := h
theorem Reads.alloc (h : Reads w B size A n xs) (hB : B ≤ w.heap.size) (o : Obj) : Reads (w.alloc o) B size A n xs := h.keep fun p hp => World.cell?_alloc_lt w o p (by omega)
theorem Reads.setCell (h : Reads w B size A n xs) {p : Addr} (hB : B ≤ p.block) (u : Value) : Reads (w.setCell p u) B size A n xs :=
  h.keep fun q hq => World.cell?_setCell_other w p q u (fun e => by subst e; omega)
theorem Reads.grown (h : Reads w B size A n xs) {row : Option Nat} (hg : w.grownBy w' row) (hB : B ≤ w.heap.size) (hr : ∀ g, row = some g → B ≤ g) : Reads w' B size A n xs :=
  h.keep fun p hp => World.cell?_of_block (hg.block p.block (by omega) (fun e => by have := hr _ e.symm; omega))
theorem Reads.cut (h : Reads w B size A n xs) {k cap : Nat} (hk : k ≤ n) (hc : n ≤ cap) :
    Reads w B size (if cap = k then A else A.map (·.add (k * size))) (n - k) (xs.drop (k * size)) := by
  refine ⟨by rw [List.length_drop, h.1, Nat.sub_mul], fun hn => ?_⟩
  obtain ⟨ad, rfl, hb, hcell⟩ := h.2 (by omega)
  rw [if_neg (by omega)]
  refine ⟨ad.add (k * size), rfl, by rw [block_of_add]; exact hb, fun j u hu => ?_⟩
  rw [add_of_add]
  exact hcell _ u (by rw [← hu, List.getElem?_drop])
theorem Reads.of_own {base : Nat} {e : TypeId} {c : Nat} (h : w.ownsRow base e size (.slice A n c) n xs) : Reads w w.heap.size size A n xs := by
  refine ⟨h.1, fun hn => ?_⟩
  obtain ⟨g, cap, hv, _, hlt⟩ := h.form hn
  have hA : A = some ⟨g, 0, none⟩ := by injection hv
  subst hA
  exact ⟨_, rfl, hlt, h.cells (g := g) rfl⟩
end

section
variable {P : Program} (w : World)

theorem run_append_of_nil (base : Nat) (t ty e : TypeId) (i : TypeInfo) (size : Nat) (ht : P.underlying t = some (.slice e)) (hi : P.info? e = some i)
    (v : Value) (n : Nat) (xs : List Value) (hown : w.ownsRow base e size v n xs) (c : Nat) : (Builtin.append_ #[t, t] ty #[v, .slice none 0 c]).run P w = .ok v w := by
  rcases hown.2 with ⟨rfl, rfl⟩ | ⟨g, cap, cur, rfl, _, _, hnc, _⟩
  · simp [Builtin.append_, run_underlying ht, sizeOf, typeInfo, hi, Builtin.lenOf, Builtin.firstCells]
  · simp [Builtin.append_, run_underlying ht, sizeOf, typeInfo, hi, Builtin.lenOf, Builtin.firstCells, hnc, storeCells]

theorem run_append_any (base : Nat) (t ty e : TypeId) (i : TypeInfo) (z : Value) (size bytes : Nat) (ht : P.underlying t = some (.slice e)) (hi : P.info? e = some i) (hz : i.zero = some z)
    (hsize : i.size = size) (hby : i.bytes = bytes) (hzs : z.cells.size = size) (hsz : 0 < size)
    (v : Value) (n : Nat) (xs : List Value) (hown : w.ownsRow base e size v n xs)
    (B : Nat) (A : Option Addr) (m c : Nat) (news : List Value) (hr : Reads w B size A m news) (h1 : ∀ u ∈ news, u.oneCell' = true)
    (h63 : n + m ≤ maxLen) (hbytes : (n + m) * bytes ≤ 140737488355328) (hbase : base ≤ w.heap.size) :
    ∃ v' w', (Builtin.append_ #[t, t] ty #[v, .slice A m c]).run P w = .ok v' w' ∧ w'.ownsRow base e size v' (n + m) (xs ++ news) ∧ w.grownBy w' v.ownBlock ∧
      (v'.ownBlock = v.ownBlock ∨ v'.ownBlock = some w.heap.size) := by
  rcases A with _ | ad
  · have hm : m = 0 := by
      rcases Nat.eq_zero_or_pos m with h0 | h0
      · exact h0
      · obtain ⟨ad, h, _⟩ := hr.2 h0
        cases h
    subst hm
    have hn : news = [] := List.eq_nil_of_length_eq_zero (by simpa using hr.1)
    subst hn
    exact ⟨v, w, run_append_of_nil w base t ty e i size ht hi v n xs hown c, by simpa using hown, World.grownBy.refl w _, .inl rfl⟩
  · have hcells : ∀ j u, news[j]? = some u → w.cell? (ad.add j) = some u := by
      intro j u hu
      rcases Nat.eq_zero_or_pos m with h0 | h0
      · subst h0
        have hn : news = [] := List.eq_nil_of_length_eq_zero (by simpa using hr.1)
        subst hn
        simp at hu
      · obtain ⟨ad', h, _, hc⟩ := hr.2 h0
        injection h with h
        subst h
        exact hc j u hu
    obtain ⟨v', w', hrun, h2, h3, _, h5⟩ := run_append_own_at (P := P) w base t ty e i z size bytes ht hi hz hsize hby hzs hsz v n xs hown ad m c news hr.1 hcells h1 h63 hbytes hbase
    exact ⟨v', w', hrun, h2, h3, h5⟩

theorem wp_append_any {o : Oper} {a : Act} {K : Act → World → Prop} {Q : Exit → Act → World → Prop} (s x : Operand) (t : TypeId)
    (ho : o.op = .call { callee := .builtin .append, args := #[s, x], argTypes := #[t, t] })
    (base : Nat) (e : TypeId) (i : TypeInfo) (z : Value) (size bytes : Nat) (ht : P.underlying t = some (.slice e)) (hi : P.info? e = some i) (hz : i.zero = some z)
    (hsize : i.size = size) (hby : i.bytes = bytes) (hzs : z.cells.size = size) (hsz : 0 < size)
    (v : Value) (n : Nat) (xs : List Value) (hs : a.eval s = v) (hown : w.ownsRow base e size v n xs)
    (B : Nat) (A : Option Addr) (m c : Nat) (news : List Value) (hx : a.eval x = .slice A m c) (hr : Reads w B size A m news) (h1 : ∀ u ∈ news, u.oneCell' = true)
    (h63 : n + m ≤ maxLen) (hbytes : (n + m) * bytes ≤ 140737488355328) (hbase : base ≤ w.heap.size)
    (h : ∀ v' w', w'.ownsRow base e size v' (n + m) (xs ++ news) → w.grownBy w' v.ownBlock → (v'.ownBlock = v.ownBlock ∨ v'.ownBlock = some w.heap.size) → K (a.put o.dst v') w') : o.wp P a w K Q := by
  obtain ⟨v', w', hrun, h2, h3, h4⟩ := run_append_any (P := P) w base t o.type e i z size bytes ht hi hz hsize hby hzs hsz v n xs hown B A m c news hr h1 h63 hbytes hbase
  unfold Oper.wp execOp
  simp only [ho, resolve, invoke, builtin, Sem.run_bind, Sem.run_pure, Result.andThen_ok, List.map_toArray, List.map_cons, List.map_nil, hs, hx, hrun]
  exact h v' w' h2 h3 h4

theorem wpList_append_any {ops : Array Oper} {rest : List Oper} {o : Oper} {a : Act} {Q : Exit → Act → World → Prop} (hgd : o.guard = none) (s x : Operand) (t : TypeId)
    (ho : o.op = .call { callee := .builtin .append, args := #[s, x], argTypes := #[t, t] })
    (base : Nat) (e : TypeId) (i : TypeInfo) (z : Value) (size bytes : Nat) (ht : P.underlying t = some (.slice e)) (hi : P.info? e = some i) (hz : i.zero = some z)
    (hsize : i.size = size) (hby : i.bytes = bytes) (hzs : z.cells.size = size) (hsz : 0 < size)
    (v : Value) (n : Nat) (xs : List Value) (hs : a.eval s = v) (hown : w.ownsRow base e size v n xs)
    (B : Nat) (A : Option Addr) (m c : Nat) (news : List Value) (hx : a.eval x = .slice A m c) (hr : Reads w B size A m news) (h1 : ∀ u ∈ news, u.oneCell' = true)
    (h63 : n + m ≤ maxLen) (hbytes : (n + m) * bytes ≤ 140737488355328) (hbase : base ≤ w.heap.size)
    (h : ∀ v' w', w'.ownsRow base e size v' (n + m) (xs ++ news) → w.grownBy w' v.ownBlock → (v'.ownBlock = v.ownBlock ∨ v'.ownBlock = some w.heap.size) → wpList P ops Q rest (a.put o.dst v') w') : wpList P ops Q (o :: rest) a w :=
  wpList_plain hgd fun _ hK => wp_append_any w s x t ho base e i z size bytes ht hi hz hsize hby hzs hsz v n xs hs hown B A m c news hx hr h1 h63 hbytes hbase fun v' w' h2 h3 h4 => hK _ _ (h v' w' h2 h3 h4)

theorem step_append_any {ops : Array Oper} {o : Oper} {a : Act} {K : Act → World → Prop} {Q : Exit → Act → World → Prop} {E : Prop} (hgd : o.guard = none) (s x : Operand) (t : TypeId)
    (ho : o.op = .call { callee := .builtin .append, args := #[s, x], argTypes := #[t, t] })
    (base : Nat) (e : TypeId) (i : TypeInfo) (z : Value) (size bytes : Nat) (ht : P.underlying t = some (.slice e)) (hi : P.info? e = some i) (hz : i.zero = some z)
    (hsize : i.size = size) (hby : i.bytes = bytes) (hzs : z.cells.size = size) (hsz : 0 < size)
    (v : Value) (n : Nat) (xs : List Value) (hs : a.eval s = v) (hown : w.ownsRow base e size v n xs)
    (B : Nat) (A : Option Addr) (m c : Nat) (news : List Value) (hx : a.eval x = .slice A m c) (hr : Reads w B size A m news) (h1 : ∀ u ∈ news, u.oneCell' = true)
    (h63 : n + m ≤ maxLen) (hbytes : (n + m) * bytes ≤ 140737488355328) (hbase : base ≤ w.heap.size)
    (h : ∀ v' w', w'.ownsRow base e size v' (n + m) (xs ++ news) → w.grownBy w' v.ownBlock → (v'.ownBlock = v.ownBlock ∨ v'.ownBlock = some w.heap.size) → K (a.put o.dst v') w') :
    if Region.wanted o (yielded ops a.tmps) = true then Oper.wp P o a w K Q else E := by
  have hw : Region.wanted o (yielded ops a.tmps) = true := by simp [Region.wanted, hgd]
  rw [if_pos hw]
  exact wp_append_any w s x t ho base e i z size bytes ht hi hz hsize hby hzs hsz v n xs hs hown B A m c news hx hr h1 h63 hbytes hbase h
end

/-- The cells of n elements of sz cells each, one after the other. -/
def flat (n sz : Nat) (f : Nat → Nat → Value) : List Value := (List.range (n * sz)).map fun m => f (m / sz) (m % sz)
theorem flat_length (n sz : Nat) (f : Nat → Nat → Value) : (flat n sz f).length = n * sz := by simp [flat]
theorem idx_lt {i j n sz : Nat} (hi : i < n) (hj : j < sz) : i * sz + j < n * sz := by
  have h1 : (i + 1) * sz ≤ n * sz := Nat.mul_le_mul_right _ hi
  rw [Nat.succ_mul] at h1
  omega
theorem flat_get {n sz : Nat} {f : Nat → Nat → Value} {i j : Nat} (hi : i < n) (hj : j < sz) : (flat n sz f)[i * sz + j]? = some (f i j) := by
  have hlt := idx_lt hi hj
  have h1 : (i * sz + j) / sz = i := by
    rw [Nat.mul_comm, Nat.mul_add_div (by omega), Nat.div_eq_of_lt hj]; omega
  have h2 : (i * sz + j) % sz = j := by
    rw [Nat.mul_comm, Nat.mul_add_mod, Nat.mod_eq_of_lt hj]
  simp [flat, hlt, h1, h2]
theorem flat_inv {n sz : Nat} {f : Nat → Nat → Value} {m : Nat} {u : Value} (hsz : 0 < sz) (h : (flat n sz f)[m]? = some u) : ∃ i j, i < n ∧ j < sz ∧ m = i * sz + j ∧ u = f i j := by
  have hm : m < n * sz := by
    have := (List.getElem?_eq_some_iff.1 h).1
    rwa [flat_length] at this
  have hi : m / sz < n := by rw [Nat.div_lt_iff_lt_mul hsz]; exact hm
  have hj : m % sz < sz := Nat.mod_lt _ hsz
  refine ⟨m / sz, m % sz, hi, hj, by rw [Nat.mul_comm]; exact (Nat.div_add_mod m sz).symm, ?_⟩
  have h2 := flat_get (f := f) hi hj
  rw [show m / sz * sz + m % sz = m by rw [Nat.mul_comm]; exact Nat.div_add_mod m sz, h] at h2
  injection h2
theorem Sl.reads {w : World} {B sz n cap : Nat} {A : Option Addr} {f : Nat → Nat → Value} (h : Sl w B sz (.slice A n cap) n f) (hsz : 0 < sz) : Reads w B sz A n (flat n sz f) := by
  obtain ⟨A', b, off, cap', hv, hn, hA, hc⟩ := h
  injection hv with hv1 hv2 hv3
  subst hv1
  refine ⟨flat_length _ _ _, fun h0 => ?_⟩
  rcases hA with ⟨rfl, hb⟩ | hz
  · refine ⟨_, rfl, hb, fun m u hu => ?_⟩
    obtain ⟨i, j, hi, hj, rfl, rfl⟩ := flat_inv hsz hu
    have := hc i j hi hj
    unfold Addr.add
    split
    · rename_i h1
      rw [h1] at this
      simpa using this
    · exact this
  · omega
theorem Sl.of_owns {w : World} {base e sz n : Nat} {v : Value} {xs : List Value} {f : Nat → Nat → Value} (h : w.ownsRow base e sz v n xs) (hx : ∀ i j, i < n → j < sz → xs[i * sz + j]? = some (f i j)) : Sl w w.heap.size sz v n f := by
  have hlt := h.lt
  obtain ⟨hl, ⟨rfl, rfl⟩ | ⟨g, cap, cur, rfl, hb, hg, hnc, hcm, hcs, htake⟩⟩ := h
  · exact Sl.nil _ _ _ _
  · refine ⟨some ⟨g, 0, none⟩, g, 0, cap, rfl, hnc, .inl ⟨rfl, (hlt g (by simp [Value.ownBlock])).2⟩, fun i j hi hj => ?_⟩
    have h1 := hx i j hi hj
    rw [← htake] at h1
    have h2 : cur[i * sz + j]? = some (f i j) := by
      rw [List.getElem?_take] at h1
      split at h1
      · rwa [Array.getElem?_toList] at h1
      · cases h1
    rw [Nat.zero_add]
    simp [World.cell?, hg, h2]
end Go.Proofs.Ytmgfijadjclmpaa
/- Regions that draw their order where several operations make memory: a law by what each operation leaves, whatever comes up first. No condition. -/
namespace Go.Proofs.Ytmgfijadjclmpaa
open Go.RowKit

/-- The frame with the values tv in the slots of the operations js. -/
def putAll (a : Act) (dst : Nat → Tmp) (tv : Nat → Value) : List Nat → Act
  | [] => a
  | j :: r => putAll (a.put (some (dst j)) (tv j)) dst tv r
def updV (tv : Nat → Value) (j : Nat) (v : Value) : Nat → Value := fun k => if k = j then v else tv k
/-- What the law asks of the region's text: each operation of J waits only for earlier ones, of J or listed already; each other operation that is left waits for all of J. -/
def freeOk (md : Region.Mode) (ops : Array Oper) (listed : Array Bool) (J : List Nat) : Bool :=
  J.all (fun j => !listed.getD j true && ((ops[j]?).map (fun o => o.after.all fun e => !Region.binds md e || (decide (e.on < j) && (listed.getD e.on false || J.contains e.on)))).getD false) &&
  (List.range ops.size).all (fun k => listed.getD k true || J.contains k || ((ops[k]?).map (fun o => J.all fun j => o.after.any fun e => Region.binds md e && e.on == j)).getD false)
def listAll (listed : Array Bool) : List Nat → Array Bool
  | [] => listed
  | j :: r => listAll (listed.setIfInBounds j true) r
section
variable {P : Program} {ops : Array Oper} {Q : Exit → Act → World → Prop} {md : Region.Mode} {S : World → Prop}

/-- Operation j waits for operation k. -/
def waitsFor (md : Region.Mode) (ops : Array Oper) (j k : Nat) : Bool := ((ops[j]?).map (fun o => o.after.any fun e => Region.binds md e && e.on == k)).getD false
end
end Go.Proofs.Ytmgfijadjclmpaa
/- An append onto a slice without room that was just made: the new slice lies in new memory, and nothing that was there has changed. No condition. -/
namespace Go.Proofs.Ytmgfijadjclmpaa
open Go.RowKit

section
variable {P : Program} (w : World)
end
theorem owns_below {w w' : World} {base e size n : Nat} {v : Value} {xs : List Value} (h : w.ownsRow base e size v n xs) (hb : Below w.heap.size w w') : w'.ownsRow base e size v n xs := by
  obtain ⟨h1, h2 | ⟨g, cap, cur, h3, h4, h5, h6⟩⟩ := h
  · exact ⟨h1, .inl h2⟩
  · exact ⟨h1, .inr ⟨g, cap, cur, h3, h4, (hb.block g (Array.getElem?_eq_some_iff.1 h5).1).trans h5, h6⟩⟩
theorem heap_below {w w' : World} {g : Nat} {o : Obj} (h : w.heap[g]? = some o) (hb : Below w.heap.size w w') : w'.heap[g]? = some o :=
  (hb.block g (Array.getElem?_eq_some_iff.1 h).1).trans h
theorem owns_base {w : World} {base base' e size n : Nat} {v : Value} {xs : List Value} (h : w.ownsRow base e size v n xs) (hb : base' ≤ base) : w.ownsRow base' e size v n xs := by
  obtain ⟨h1, h2 | ⟨g, cap, cur, h3, h4, h5⟩⟩ := h
  · exact ⟨h1, .inl h2⟩
  · exact ⟨h1, .inr ⟨g, cap, cur, h3, Nat.le_trans hb h4, h5⟩⟩
/-- A cell of another block than the one that was written. -/
theorem gcell {w w' : World} {g : Nat} (h : w.grownBy w' (some g)) : ∀ b o, b < w.heap.size → b ≠ g → w'.cell? ⟨b, o, none⟩ = w.cell? ⟨b, o, none⟩ :=
  fun b o hb hg => World.cell?_of_block (a := ⟨b, o, none⟩) (h.block b hb (fun e => hg (by injection e)))
theorem alloc2 {w w0 : World} {o p : Obj} (h : (w.alloc o).alloc p = w0) : w0.heap[w.heap.size]? = some o ∧ w0.heap[w.heap.size + 1]? = some p ∧ Below w.heap.size w w0 ∧ w0.heap.size = w.heap.size + 2 := by
  subst h
  refine ⟨?_, ?_, Below.allocT (Below.allocT (Below.refl _ _) (Nat.le_refl _) _) (Nat.le_refl _) _, by simp⟩
  · rw [show ((w.alloc o).alloc p).heap[w.heap.size]? = (w.alloc o).heap[w.heap.size]? from Below.heap_alloc _ _ _ (by simp)]
    exact heap_alloc_new w o
  · have := heap_alloc_new (w.alloc o) p
    simpa using this
end Go.Proofs.Ytmgfijadjclmpaa
/- Blocks of memory: small laws. (For seats without the texts on wires.) -/
namespace Go.Proofs.Ytmgfijadjclmpaa
open Go.RowKit
theorem heap_new (w : World) (o : Obj) (k : Nat) (hk : k = w.heap.size) : (w.alloc o).heap[k]? = some o := by subst hk; exact World.alloc_heap_new w o
theorem heap_old (w : World) (o : Obj) (k : Nat) (hk : k < w.heap.size) : (w.alloc o).heap[k]? = w.heap[k]? := Below.heap_alloc w o k hk
theorem box_lt {w : World} {k : Nat} {o : Obj} (h : w.heap[k]? = some o) : k < w.heap.size := (Array.getElem?_eq_some_iff.1 h).1
theorem box_to {w w1 : World} {k : Nat} {o : Obj} (h : w.heap[k]? = some o) (hB : Below w.heap.size w w1) : w1.heap[k]? = some o := (hB.block _ (box_lt h)).trans h
theorem cellOf {w : World} {g : Nat} {cs : Array Value} {t : TypeId} {fr : Nat × Nat} (h : w.heap[g]? = some (.cells cs t fr)) (i : Nat) : w.cell? ⟨g, i, none⟩ = cs[i]? := by simp [World.cell?, h]
theorem unfrozenOf {w : World} {g : Nat} {cs : Array Value} {t : TypeId} (h : w.heap[g]? = some (.cells cs t (0, 0))) (i : Nat) : w.frozen? ⟨g, i, none⟩ = false := by simp [World.frozen?, h]
theorem setCellOf {w : World} {g i : Nat} {cs : Array Value} {t : TypeId} {fr : Nat × Nat} (h : w.heap[g]? = some (.cells cs t fr)) (v : Value) : (w.setCell ⟨g, i, none⟩ v).heap[g]? = some (.cells (cs.setIfInBounds i v) t fr) := by
  simp [World.setCell, Array.getElem?_modify, h]
theorem alloc1 {w w0 : World} {o : Obj} (h : w.alloc o = w0) : w0.heap[w.heap.size]? = some o ∧ Below w.heap.size w w0 ∧ w0.heap.size = w.heap.size + 1 := by
  subst h
  exact ⟨heap_new _ _ _ rfl, (Below.refl _ _).alloc (Nat.le_refl _) _, by simp⟩
theorem alloc4 {w w0 : World} {o p q r : Obj} (h : (((w.alloc o).alloc p).alloc q).alloc r = w0) : w0.heap[w.heap.size]? = some o ∧ w0.heap[w.heap.size + 1]? = some p ∧ w0.heap[w.heap.size + 2]? = some q ∧ w0.heap[w.heap.size + 3]? = some r ∧ Below w.heap.size w w0 ∧ w0.heap.size = w.heap.size + 4 := by
  subst h
  refine ⟨?_, ?_, ?_, ?_, Below.allocT (Below.allocT (Below.allocT (Below.allocT (Below.refl _ _) (Nat.le_refl _) _) (Nat.le_refl _) _) (Nat.le_refl _) _) (Nat.le_refl _) _, by simp⟩
  · rw [heap_old _ _ _ (by simp <;> omega), heap_old _ _ _ (by simp <;> omega), heap_old _ _ _ (by simp), heap_new _ _ _ rfl]
  · rw [heap_old _ _ _ (by simp <;> omega), heap_old _ _ _ (by simp), heap_new _ _ _ (by simp)]
  · rw [heap_old _ _ _ (by simp), heap_new _ _ _ (by simp)]
  · rw [heap_new _ _ _ (by simp)]
end Go.Proofs.Ytmgfijadjclmpaa

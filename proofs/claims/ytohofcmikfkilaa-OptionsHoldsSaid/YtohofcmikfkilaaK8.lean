/- A map of numbers in memory, as a function from keys to numbers. -/
import Derived.Test.YtohofcmikfkilaaRows
import Derived.Maps.OwnSet
import Derived.Maps.OwnOps
import Derived.DeepKeys4
namespace Go.Proofs.Ytohofcmikfkilaa
open Go.Maps (Keyed)
set_option linter.unusedVariables false
section
variable {α : Type} {P : Program} {w : World} {k e b n : Nat} {enc : α → Value} {m : α → Option Int}
/-- Block b is a map that holds the number m a at the key enc a, where there is one. -/
def MapIs (P : Program) (w : World) (k e b n : Nat) (enc : α → Value) (m : α → Option Int) : Prop :=
  ∃ D : DataW Unit, w.ownsMap P k (plainElem P e) b n D ∧ ∀ a l, keyOf P k (enc a) = some l →
    (m a = none → Maps.has D l = false) ∧ ∀ x, m a = some x → Maps.has D l = true ∧ D.atKey l (.lit (.int .i64 0)) = .lit (.int .i64 x)
theorem MapIs.made (P : Program) (w : World) (k e : Nat) (enc : α → Value) : MapIs P (w.alloc (.map #[] 0)) k e w.heap.size 0 enc (fun _ => none) :=
  ⟨_, World.ownsMap_made w P k _, fun a l _ => ⟨fun _ => rfl, fun x h => by cases h⟩⟩
theorem MapIs.mono (h : MapIs P w k e b n enc m) {n' : Nat} (hn : n ≤ n') : MapIs P w k e b n' enc m := by
  obtain ⟨D, h1, h2⟩ := h
  exact ⟨D, h1.mono hn, h2⟩
theorem MapIs.lt (h : MapIs P w k e b n enc m) : b < w.heap.size := by
  obtain ⟨D, h1, _⟩ := h
  exact h1.lt
theorem MapIs.same {w' : World} (h : MapIs P w k e b n enc m) (hb : w'.heap[b]? = w.heap[b]?) : MapIs P w' k e b n enc m := by
  obtain ⟨D, ⟨es, c, h0, h1⟩, h2⟩ := h
  exact ⟨D, ⟨es, c, hb.trans h0, h1⟩, h2⟩
theorem MapIs.obj (h : MapIs P w k e b n enc m) : ∃ es c, w.heap[b]? = some (.map es c) := by
  obtain ⟨D, ⟨es, c, h0, h1⟩, h2⟩ := h
  exact ⟨es, c, h0⟩
variable {t : Nat}
theorem MapIs.look (h : MapIs P w k e b n enc m) (K : Keyed P k) (ht : P.underlying t = some (.map k e)) (he : P.underlying e = some (.int .i64)) (hz : (zeroValue e).run P w = .ok (.int .i64 0) w) {a : α} {l : Lit} (hkey : keyOf P k (enc a) = some l) :
    (Instr.lookup t (.map (some b)) (enc a) true).run P w = .ok (.tuple #[.int .i64 ((m a).getD 0), .bool (m a).isSome]) w := by
  obtain ⟨D, h1, h2⟩ := h
  obtain ⟨h3, h4⟩ := h2 a l hkey
  obtain ⟨v, ps, hrun, hv⟩ := h1.look_ok K ht hz (plainElem_int he (by decide)) hkey
  obtain ⟨c, rfl, hc, _⟩ := plainElem_int_inv he hv
  injection hc with hc _
  cases hm : m a with
  | none =>
    have h5 := h3 hm
    rw [Maps.atKey_of_not_has h5] at hc
    injection hc with hc
    injection hc with _ hc
    subst hc
    rw [hrun, h5]
    rfl
  | some x =>
    obtain ⟨h5, h6⟩ := h4 x hm
    rw [h6] at hc
    injection hc with hc
    injection hc with _ hc
    subst hc
    rw [hrun, h5]
    rfl
theorem MapIs.look1 (h : MapIs P w k e b n enc m) (K : Keyed P k) (ht : P.underlying t = some (.map k e)) (he : P.underlying e = some (.int .i64)) (hz : (zeroValue e).run P w = .ok (.int .i64 0) w) {a : α} {l : Lit} (hkey : keyOf P k (enc a) = some l) :
    (Instr.lookup t (.map (some b)) (enc a) false).run P w = .ok (.int .i64 ((m a).getD 0)) w := by
  obtain ⟨D, h1, h2⟩ := h
  obtain ⟨h3, h4⟩ := h2 a l hkey
  obtain ⟨c, hrun, hc, _⟩ := h1.lookup_int K ht he hz hkey
  cases hm : m a with
  | none =>
    have h5 := h3 hm
    rw [Maps.atKey_of_not_has h5] at hc
    injection hc with hc
    injection hc with _ hc
    subst hc
    rw [hrun]
    rfl
  | some x =>
    obtain ⟨h5, h6⟩ := h4 x hm
    rw [h6] at hc
    injection hc with hc
    injection hc with _ hc
    subst hc
    rw [hrun]
    rfl
/-- The map with one more number. -/
def putM [DecidableEq α] (m : α → Option Int) (a : α) (x : Int) : α → Option Int := fun a' => if a' = a then some x else m a'
theorem MapIs.put' [DecidableEq α] (K : Keyed P k) (hinj : ∀ a a', enc a = enc a' → a = a') {D : DataW Unit} (h1 : w.ownsMap P k (plainElem P e) b n D) (h2 : ∀ a l, keyOf P k (enc a) = some l →
    (m a = none → Maps.has D l = false) ∧ ∀ x, m a = some x → Maps.has D l = true ∧ D.atKey l (.lit (.int .i64 0)) = .lit (.int .i64 x)) {a : α} {l : Lit} (hkey : keyOf P k (enc a) = some l) (x : Int) {w' : World} (h3 : w'.ownsMap P k (plainElem P e) b (n + 1) (D.put l (.lit (.int .i64 x)))) :
    MapIs P w' k e b (n + 1) enc (putM m a x) := by
  refine ⟨_, h3, fun a' l' hk' => ?_⟩
  unfold putM
  by_cases ha : a' = a
  · subst ha
    rw [hkey] at hk'
    injection hk' with hk'
    subst hk'
    rw [if_pos rfl]
    exact ⟨fun h => (by cases h), fun y hy => by
      injection hy with hy
      subst hy
      exact ⟨Maps.has_put_same h1.isMap (K.key hkey) _, Maps.atKey_put_same h1.isMap (K.key hkey) _ _⟩⟩
  · rw [if_neg ha]
    have hl : l' ≠ l := fun e => by
      subst e
      exact ha (hinj _ _ (K.inj hk' hkey))
    obtain ⟨h4, h5⟩ := h2 a' l' hk'
    refine ⟨fun h => (Maps.has_put_other hl _).trans (h4 h), fun y hy => ?_⟩
    obtain ⟨h6, h7⟩ := h5 y hy
    exact ⟨(Maps.has_put_other hl _).trans h6, (Maps.atKey_put_other hl _ _).trans h7⟩
theorem MapIs.put [DecidableEq α] (h : MapIs P w k e b n enc m) (K : Keyed P k) (ht : P.underlying t = some (.map k e)) (he : P.underlying e = some (.int .i64)) (hinj : ∀ a a', enc a = enc a' → a = a') (hn : n < maxLen) {a : α} {l : Lit} (hkey : keyOf P k (enc a) = some l) {x : Int} (hx : (Lit.int .i64 x).wf = true) :
    ∃ w', (Instr.mapUpdate t (.map (some b)) (enc a) (.int .i64 x)).run P w = .ok () w' ∧ MapIs P w' k e b (n + 1) enc (putM m a x) ∧ w.grownBy w' (some b) := by
  obtain ⟨D, h1, h2⟩ := h
  obtain ⟨w', hrun, h3, h4⟩ := h1.update K ht hn hkey (plainElem_int he hx)
  exact ⟨w', hrun, MapIs.put' K hinj h1 h2 hkey x h3, h4⟩
/-- The same for the walk, at the operation. -/
theorem wpList_put [DecidableEq α] (w : World) {ops : Array Oper} {rest : List Oper} {o : Oper} {ac : Act} {Q : Exit → Act → World → Prop}
    (hg : o.guard = none) (om ox ov : Operand) (t : Nat) (hop : o.op = Op.mapUpdate t om ox ov) {k e b n : Nat} {enc : α → Value} {m : α → Option Int}
    (h : MapIs P w k e b n enc m) (K : Keyed P k) (ht : P.underlying t = some (.map k e)) (he : P.underlying e = some (.int .i64)) (hinj : ∀ a a', enc a = enc a' → a = a') (hn : n < maxLen) (a : α) (hkey : ∃ l, keyOf P k (enc a) = some l) (x : Int) (hx : (Lit.int .i64 x).wf = true)
    (h1 : ac.eval om = .map (some b)) (h2 : ac.eval ox = enc a) (h3 : ac.eval ov = .int .i64 x)
    (hK : ∀ w', MapIs P w' k e b (n + 1) enc (putM m a x) → w.grownBy w' (some b) → wpList P ops Q rest (ac.put o.dst undef) w') :
    wpList P ops Q (o :: rest) ac w := by
  obtain ⟨l, hkey⟩ := hkey
  obtain ⟨D, hD, hA⟩ := h
  exact wpList_mapUpdate_own w hg om ox ov t hop k e K ht _ b n D h1 hD hn _ _ l h2 h3 hkey _ _ (plainElem_int he hx) fun w' h4 h5 => hK w' (MapIs.put' K hinj hD hA hkey x h4) h5
end
end Go.Proofs.Ytohofcmikfkilaa

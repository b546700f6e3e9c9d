/- Part 40 of this claim's texts: walks and plain laws. -/
import Derived.Test.YtehadoecnmfeoaaGreatRows
import Derived.Test.YtehadoecnmfeoaaGreatGBY39
import Derived.Test.YtehadoecnmfeoaaGreatGBY11
import Derived.Test.YtehadoecnmfeoaaGreatGBY20
import Derived.Deep.RegionHeld3
import Derived.Deep.DrawnRows
import Derived.Test.YtehadoecnmfeoaaGreatGBY32
import Derived.Test.YtehadoecnmfeoaaGreatGBY38
import Derived.Test.YtehadoecnmfeoaaGreatGBY21
import Derived.Deep.DeepMust
import Derived.Test.YtehadoecnmfeoaaGreatGBY16
import Derived.Laws.EntriesVeiled
/- Boards for modules, the least greatest load: plain laws. -/
namespace Go.Proofs.YtehadoecnmfeoaaGreat
set_option linter.unusedVariables false
set_option linter.unusedSimpArgs false
/-- The numbers of a list, as boards. -/
def intL (L : List Nat) : List Int := L.map fun (n : Nat) => (n : Int)
theorem intL_at {L : List Nat} {i : Nat} (h : i < L.length) : (intL L).getD i 0 = ((L.getD i 0 : Nat) : Int) := by
  simp [intL, h]
theorem intL_len (L : List Nat) : (intL L).length = L.length := by simp [intL]
def bitO (s i : Nat) : Bool := s / 2 ^ i % 2 == 1
/-- A set of modules as boards: board 0 for those in it. -/
def bitsI (s N : Nat) : List Int := (List.range N).map fun i => if bitO s i then 0 else 1
theorem bitsI_on {s N i : Nat} (h : i < N) : onB (bitsI s N) 0 i = bitO s i := by
  unfold onB bitsI
  simp only [List.getD_eq_getElem?_getD, List.getElem?_map, List.getElem?_range h, Option.map_some, Option.getD_some]
  cases bitO s i <;> rfl
/-- Sets of the modules that a list has laid on each board. -/
structure SetP (L : List Nat) (S : Nat → Nat) : Prop where
  lt : ∀ j, S j < 2 ^ L.length
  on : ∀ j i, i < L.length → bitO (S j) i = decide (L.getD i 0 = j)
theorem SetP.nil : SetP [] fun _ => 0 := ⟨fun _ => by decide, fun _ i h => absurd h (by simp)⟩
def addS (S : Nat → Nat) (b p : Nat) : Nat → Nat := fun k => if k = b then S b + p else S k
theorem bit_add {s n i : Nat} (h : s < 2 ^ n) : bitO (s + 2 ^ n) i = if i < n then bitO s i else decide (i = n) := by
  unfold bitO
  rcases Nat.lt_trichotomy i n with h1 | h1 | h1
  · rw [if_pos h1]
    obtain ⟨d, rfl⟩ : ∃ d, n = i + (d + 1) := ⟨n - i - 1, by omega⟩
    have e1 : 2 ^ (i + (d + 1)) = 2 ^ d * 2 * 2 ^ i := by rw [Nat.pow_add, Nat.pow_succ, Nat.mul_comm]
    rw [e1, Nat.add_mul_div_right _ _ (Nat.two_pow_pos i), Nat.add_mul_mod_self_right]
  · subst h1
    rw [if_neg (by omega), decide_eq_true rfl]
    have e1 : (s + 2 ^ i) / 2 ^ i = 1 := by
      rw [Nat.add_div_right _ (Nat.two_pow_pos i), Nat.div_eq_of_lt h]
    rw [e1]
    rfl
  · rw [if_neg (by omega), decide_eq_false (by omega)]
    have e1 : s + 2 ^ n < 2 ^ i := by
      have : 2 ^ (n + 1) ≤ 2 ^ i := Nat.pow_le_pow_right (by omega) (by omega)
      rw [Nat.pow_succ] at this
      omega
    rw [Nat.div_eq_of_lt e1]
    rfl
theorem bit_none {s n i : Nat} (h : s < 2 ^ n) (hi : n ≤ i) : bitO s i = false := by
  unfold bitO
  have e1 : s < 2 ^ i := Nat.lt_of_lt_of_le h (Nat.pow_le_pow_right (by omega) hi)
  rw [Nat.div_eq_of_lt e1]
  rfl
theorem SetP.snoc {L : List Nat} {S : Nat → Nat} (h : SetP L S) (b : Nat) : SetP (L ++ [b]) (addS S b (2 ^ L.length)) := by
  have hlen : (L ++ [b]).length = L.length + 1 := by simp
  have hp := Nat.pow_succ (n := 2) (m := L.length)
  refine ⟨fun j => ?_, fun j i hi => ?_⟩
  · rw [hlen]
    unfold addS
    have h1 := h.lt j
    have h2 := h.lt b
    split <;> omega
  · rw [hlen] at hi
    have hg : (L ++ [b]).getD i 0 = if i < L.length then L.getD i 0 else b := by
      by_cases h1 : i < L.length
      · rw [if_pos h1, List.getD_eq_getElem?_getD, List.getElem?_append_left h1, ← List.getD_eq_getElem?_getD]
      · rw [if_neg h1, show i = L.length by omega]
        simp
    rw [hg]
    unfold addS
    by_cases hj : j = b
    · subst hj
      rw [if_pos rfl, bit_add (h.lt j)]
      by_cases h1 : i < L.length
      · rw [if_pos h1, if_pos h1]
        exact h.on j i h1
      · rw [if_neg h1, if_neg h1, decide_eq_true rfl, decide_eq_true (by omega)]
    · rw [if_neg hj]
      by_cases h1 : i < L.length
      · rw [if_pos h1]
        exact h.on j i h1
      · rw [if_neg h1, bit_none (h.lt j) (by omega), decide_eq_false (fun e => hj e.symm)]
theorem ldN_congr {ms : List Md} {bs bs' : List Int} {b b' : Nat} (h : ∀ i, i < ms.length → onB bs b i = onB bs' b' i) (x : List Bool) : ldN ms bs x b = ldN ms bs' x b' := by
  unfold ldN ldK
  congr 2
  refine List.filter_congr fun i hi => ?_
  refine h i ?_
  unfold pckL pckK at hi
  have := (List.mem_filter.1 hi).1
  simpa using this
theorem maxF_congr {f g : List Bool → Nat} (h : ∀ x, f x = g x) (V : List (List Bool)) : maxF f V = maxF g V := by
  rw [show f = g from funext h]
theorem lodN_congr {m : Mo} {ms : List Md} {bs bs' : List Int} {b b' : Nat} (h : ∀ i, i < ms.length → onB bs b i = onB bs' b' i) : lodN m ms bs b = lodN m ms bs' b' := by
  unfold lodN
  exact maxF_congr (ldN_congr h) _
/-- The greatest load of a set. -/
def ldS (m : Mo) (ms : List Md) (s : Nat) : Nat := lodN m ms (bitsI s ms.length) 0
theorem ldS_set {m : Mo} {ms : List Md} {L : List Nat} {S : Nat → Nat} (h : SetP L S) (hl : L.length = ms.length) (j : Nat) : ldS m ms (S j) = lodN m ms (intL L) j := by
  unfold ldS
  refine lodN_congr fun i hi => ?_
  rw [bitsI_on hi, h.on j i (by omega)]
  unfold onB
  rw [intL_at (by omega)]
  obtain ⟨d, hd⟩ : ∃ d, L.getD i 0 = d := ⟨_, rfl⟩
  rw [hd]
  by_cases e : d = j
  · rw [decide_eq_true e, e]; simp
  · rw [decide_eq_false e]; simp; omega
/-- The greatest one of some numbers. -/
def grL (l : List Nat) : Nat := l.foldl max 0
theorem grL_snoc (l : List Nat) (n : Nat) : grL (l ++ [n]) = max (grL l) n := by
  unfold grL
  rw [List.foldl_append]
  rfl
theorem grL_take {l : List Nat} {k : Nat} (h : k < l.length) : grL (l.take (k + 1)) = max (grL (l.take k)) (l.getD k 0) := by
  have h1 : l.getD k 0 = l[k] := by
    rw [List.getD_eq_getElem?_getD, List.getElem?_eq_getElem h]
    rfl
  rw [List.take_add_one, List.getElem?_eq_getElem h, h1]
  exact grL_snoc _ _
theorem rngL_snoc (n : Nat) (f : Nat → Nat) : rngL (n + 1) f = rngL n f ++ [f n] := by
  unfold rngL
  rw [List.range_succ, List.map_append]
  rfl
theorem grL_rng {f : Nat → Nat} {n : Nat} : ∀ (d : Nat), (∀ b, n ≤ b → b < n + d → f b = 0) → grL (rngL (n + d) f) = grL (rngL n f)
  | 0, _ => rfl
  | d + 1, h => by
    rw [show n + (d + 1) = (n + d) + 1 by omega, rngL_snoc, grL_snoc, h (n + d) (by omega) (by omega), grL_rng d fun b h1 h2 => h b h1 (by omega)]
    omega
theorem lodN_zero {m : Mo} {ms : List Md} {bs : List Int} {b : Nat} (h : ∀ i, i < ms.length → onB bs b i = false) : lodN m ms bs b = 0 := by
  have h1 : ∀ x, ldN ms bs x b = 0 := fun x => by
    unfold ldN ldK
    rw [List.filter_eq_nil_iff.2 fun i hi => by
      unfold pckL pckK at hi
      have h2 := (List.mem_filter.1 hi).1
      rw [h i (by simpa using h2)]
      simp]
    rfl
  unfold lodN
  exact Nat.le_zero.1 (maxF_le fun y _ => by rw [h1 y]; exact Nat.le_refl _)
/-- The greatest load of all boards. -/
def lstN (m : Mo) (ms : List Md) (L : List Nat) : Nat := grL (rngL 4 fun b => lodN m ms (intL L) b)
theorem lstN_upto {m : Mo} {ms : List Md} {L : List Nat} {n : Nat} (hl : L.length = ms.length) (hn : n ≤ 4) (hL : ∀ i, i < L.length → L.getD i 0 < n) : lstN m ms L = grL (rngL n fun b => lodN m ms (intL L) b) := by
  unfold lstN
  obtain ⟨d, hd⟩ : ∃ d, 4 = n + d := ⟨4 - n, by omega⟩
  rw [hd]
  refine grL_rng d fun b h1 _ => lodN_zero fun i hi => ?_
  unfold onB
  rw [intL_at (by omega)]
  have := hL i (by omega)
  obtain ⟨z, hz⟩ : ∃ z, L.getD i 0 = z := ⟨_, rfl⟩
  rw [hz] at this ⊢
  simp
  omega
/-- The best boards so far, and their greatest load. -/
def stL (f : List Nat → Nat) (s : List Nat × Int) (L : List Nat) : List Nat × Int := if s.2 < 0 ∨ (f L : Int) < s.2 then (L, (f L : Int)) else s
/-- The search. -/
def layR (f : List Nat → Nat) (n : Nat) : Nat → List Nat → List Nat × Int → List Nat × Int
  | 0, L, s => stL f s L
  | k + 1, L, s => (List.range n).foldl (fun s b => layR f n k (L ++ [b]) s) s
/-- The number i of all lists. -/
def digL (n len i : Nat) : List Nat := (List.range len).map fun j => i / n ^ (len - 1 - j) % n
theorem digL_len (n len i : Nat) : (digL n len i).length = len := by simp [digL]
theorem digL_cons {n len b j : Nat} (hb : b < n) (hj : j < n ^ len) : digL n (len + 1) (b * n ^ len + j) = b :: digL n len j := by
  have hn : 0 < n := by omega
  unfold digL
  rw [List.range_succ_eq_map, List.map_cons, List.map_map]
  congr 1
  · show (b * n ^ len + j) / n ^ (len + 1 - 1 - 0) % n = b
    rw [show len + 1 - 1 - 0 = len by omega, Nat.mul_comm, Nat.mul_add_div (Nat.pow_pos hn), Nat.div_eq_of_lt hj, Nat.add_zero, Nat.mod_eq_of_lt hb]
  · refine List.map_congr_left fun k hk => ?_
    have hk : k < len := by simpa using hk
    show (b * n ^ len + j) / n ^ (len + 1 - 1 - (k + 1)) % n = j / n ^ (len - 1 - k) % n
    rw [show len + 1 - 1 - (k + 1) = len - 1 - k by omega]
    obtain ⟨d, hd⟩ : ∃ d, len = (len - 1 - k) + (d + 1) := ⟨k, by omega⟩
    obtain ⟨p, hp⟩ : ∃ p, len - 1 - k = p := ⟨_, rfl⟩
    rw [hp] at hd ⊢
    rw [hd, show b * n ^ (p + (d + 1)) = n ^ p * (b * n ^ d * n) by rw [Nat.pow_add, Nat.pow_succ, ← Nat.mul_assoc, ← Nat.mul_assoc, Nat.mul_comm b, Nat.mul_assoc (n ^ p), Nat.mul_assoc (n ^ p)], Nat.mul_add_div (Nat.pow_pos hn), Nat.mul_add_mod_self_right]
theorem foldl_range_mul {α : Type} (g : α → Nat → α) (q : Nat) : ∀ (n : Nat) (s : α), (List.range (n * q)).foldl g s = (List.range n).foldl (fun s b => (List.range q).foldl (fun s j => g s (b * q + j)) s) s
  | 0, s => by simp
  | n + 1, s => by
    rw [Nat.succ_mul, List.range_add, List.foldl_append, foldl_range_mul g q n s, List.range_succ, List.foldl_append, List.foldl_map]
    rfl
theorem foldl_congr9 {α β : Type} {f g : α → β → α} : ∀ (l : List β) (s : α), (∀ s b, b ∈ l → f s b = g s b) → l.foldl f s = l.foldl g s
  | [], _, _ => rfl
  | b :: l, s, h => by
    rw [List.foldl_cons, List.foldl_cons, h s b (by simp)]
    exact foldl_congr9 l _ fun s c hc => h s c (by simp [hc])
/-- The search goes through all lists, in order. -/
theorem layR_all (f : List Nat → Nat) (n : Nat) : ∀ (k : Nat) (L : List Nat) (s : List Nat × Int), layR f n k L s = (List.range (n ^ k)).foldl (fun s i => stL f s (L ++ digL n k i)) s
  | 0, L, s => by
    show stL f s L = _
    rw [Nat.pow_zero]
    show _ = stL f s (L ++ digL n 0 0)
    rw [show digL n 0 0 = [] from rfl, List.append_nil]
  | k + 1, L, s => by
    rw [Nat.pow_succ, Nat.mul_comm, foldl_range_mul]
    show (List.range n).foldl _ s = _
    refine foldl_congr9 _ _ fun s b hb => ?_
    rw [layR_all f n k (L ++ [b]) s]
    refine foldl_congr9 _ _ fun s j hj => ?_
    rw [digL_cons (by simpa using hb) (by simpa using hj), List.append_assoc]
    rfl
theorem layR_step (f : List Nat → Nat) (n k : Nat) (L : List Nat) (s : List Nat × Int) (b : Nat) : (List.range (b + 1)).foldl (fun s b => layR f n k (L ++ [b]) s) s = layR f n k (L ++ [b]) ((List.range b).foldl (fun s b => layR f n k (L ++ [b]) s) s) := by
  rw [List.range_succ, List.foldl_append]
  rfl
theorem digL_lt {n len i j : Nat} (hn : 0 < n) (hj : j < len) : (digL n len i).getD j 0 < n := by
  unfold digL
  simp only [List.getD_eq_getElem?_getD, List.getElem?_map, List.getElem?_range hj, Option.map_some, Option.getD_some]
  exact Nat.mod_lt _ hn
/-- What Lay answers. -/
def layE (l : Lo) (ms : List Md) (n : Int) : Int := if bldE l ms ≠ 0 then bldE l ms else if btw n 1 4 = false ∨ 8 < ms.length then 122 else if allM l.m = [] then 12 else 0
def layS (l : Lo) (ms : List Md) (n : Int) : List Nat × Int := if layE l ms n = 0 then layR (lstN l.m ms) n.toNat ms.length [] ([], -1) else ([], 0)
end Go.Proofs.YtehadoecnmfeoaaGreat
/- The rules because of which no variant meets a formula. Plain laws. -/
namespace Go.Proofs.YtehadoecnmfeoaaGreat
set_option linter.unusedVariables false
/-- Some rules of a model, by number. -/
def rulesAt (m : Mo) (K : List Nat) : List (List Int) := K.map fun k => m.rules.getD k []
/-- The variants in which a formula, some rules, and those from one on hold. -/
def corS (m : Mo) (f : List Int) (K : List Nat) (j : Nat) : List (List Bool) := (exts m.opts.length []).filter fun x => evF1 (vf x) f && (allF (vf x) (rulesAt m K) && allF (vf x) (m.rules.drop j))
/-- Those of the first i rules that are left. -/
def kept (m : Mo) (f : List Int) : Nat → List Nat
  | 0 => []
  | i + 1 => if (corS m f (kept m f i) (i + 1)).isEmpty then kept m f i else kept m f i ++ [i]
/-- A model with some of the rules. -/
def fewM (m : Mo) (K : List Nat) : Mo := ⟨m.opts, rulesAt m K⟩
/-- What Core returns. -/
def corE (m : Mo) (f : List Int) : Int := if m.errF [f] ≠ 0 then m.errF [f] else if whereF (allM m) f ≠ [] then 1 else 0
def corL (m : Mo) (f : List Int) : List Nat := if corE m f = 0 then kept m f m.rules.length else []
end Go.Proofs.YtehadoecnmfeoaaGreat
/- The rules because of which no variant meets a formula: walk. -/
namespace Go.Proofs.YtehadoecnmfeoaaGreat
open Go.RowKit
set_option linter.unusedVariables false
set_option linter.unusedSimpArgs false
/-- A list of rules and an error. -/
def CorP (l : List Nat) (er : Int) (w : World) (e : Ending) (w' : World) : Prop := ∃ v, e = .returned (.tuple #[v, .int .i64 er]) ∧ Nods w' w'.heap.size v l ∧ Below w.heap.size w w'
theorem CorP.none (er : Int) {w w' : World} (h : Below w.heap.size w w') : CorP [] er w (.returned (.tuple #[.slice none 0 0, .int .i64 er])) w' := ⟨_, rfl, Sl.nil _ _ _ _, h⟩
/-- What a slice from k on gives. -/
def slcV (A : Option Addr) (n cap k : Nat) : Value := sliced A k n cap 1
theorem Forms.drop {w : World} {B n cap : Nat} {A : Option Addr} {l : List (List Int)} {k : Nat} (h : Forms w B (.slice A n cap) l) (hk : k ≤ l.length) : Forms w B (slcV A n cap k) (l.drop k) := by
  obtain ⟨fv, ⟨A1, b1, off1, cap1, hv, hn, hA, hc⟩, h2⟩ := h
  injection hv with e1 e2 e3
  subst e1 e2 e3
  unfold slcV sliced
  split
  · rename_i hck
    have h0 : l.drop k = [] := List.drop_eq_nil_of_le (by omega)
    rw [h0, show l.length - k = 0 by omega, show cap - k = 0 by omega]
    exact ⟨fun _ => undef, ⟨A, b1, off1, 0, rfl, Nat.le_refl _, .inr rfl, fun i j hi hj => by simp at hi⟩, fun i hi => by simp at hi⟩
  · refine ⟨fun i => fv (k + i), ⟨A.map (·.add (k * 1)), b1, off1 + k, cap - k, by rw [List.length_drop], by rw [List.length_drop]; omega, ?_, fun i j hi hj => ?_⟩, fun i hi => ?_⟩
    · rcases hA with ⟨hA, hb⟩ | hA
      · subst hA
        refine .inl ⟨?_, hb⟩
        simp only [Option.map_some, Nat.mul_one]
        congr 1
        unfold Addr.add
        split
        · rename_i h0; rw [h0]; rfl
        · rfl
      · exact .inr (by rw [List.length_drop]; omega)
    · rw [List.length_drop] at hi
      have := hc (k + i) j (by omega) hj
      rw [show off1 + k + (i * 1 + j) = off1 + ((k + i) * 1 + j) by omega]
      exact this
    · rw [List.length_drop] at hi
      have := h2 (k + i) (by omega)
      rw [show (l.drop k).getD i [] = l.getD (k + i) [] by simp [List.getD_eq_getElem?_getD]]
      exact this
/-- What holds of the forest between two rules of Core. -/
structure CorI (m : Mo) (f : List Int) (w1 : World) (F : Fo) (a k : Nat) (w2 : World) (F1 : Fo) : Prop where
  op : OpR k w1 F w2 F1
  lt : a < F1.ks.length
  ev : ∀ v, ev F1.ks v a = evF1 v f
theorem CorI.step {m : Mo} {f : List Int} {w1 : World} {F : Fo} {a k l : Nat} {w2 w3 : World} {F1 F2 : Fo} (h : CorI m f w1 F a k w2 F1) (r : OpR l w2 F1 w3 F2) : CorI m f w1 F a (k + l) w3 F2 :=
  ⟨h.op.trans r, Nat.lt_of_lt_of_le h.lt r.st.le, fun v => by rw [r.st.ev h.op.st.here.wf h.lt, h.ev v]⟩
end Go.Proofs.YtehadoecnmfeoaaGreat
/- Core as the elder program has it: walk. -/
namespace Go.Proofs.YtehadoecnmfeoaaGreat
open Go.RowKit
set_option linter.unusedVariables false
set_option linter.unusedSimpArgs false
/-- A list of numbers of the call's own, above block B. -/
def NStk (B : Nat) (w : World) (sv : Value) (S : List Nat) : Prop := w.ownsRow B 3 1 sv S.length (S.map fun (n : Nat) => Value.int .i64 n)
theorem NStk.nil (w : World) (B : Nat) : NStk B w (.slice none 0 0) [] := World.ownsRow_nil w B 3 1
theorem NStk.below {B : Nat} {w w' : World} {sv : Value} {S : List Nat} (h : NStk B w sv S) (hb : Below w.heap.size w w') : NStk B w' sv S := owns_below h hb
theorem NStk.same {B : Nat} {w w' : World} {sv : Value} {S : List Nat} (h : NStk B w sv S) (hs : ∀ b, sv.ownBlock = some b → w'.heap[b]? = w.heap[b]?) : NStk B w' sv S := ownsRow_same h hs
theorem NStk.shape {B : Nat} {w : World} {sv : Value} {S : List Nat} (h : NStk B w sv S) : ∃ A cap, sv = .slice A S.length cap ∧ S.length ≤ cap ∧ cap ≤ maxLen := by
  rcases h.2 with ⟨h1, h2⟩ | ⟨g, cap, cur, h1, _, _, h2, h3, _⟩
  · exact ⟨none, 0, by rw [h1, h2], by omega, by unfold maxLen; omega⟩
  · exact ⟨_, cap, h1, h2, h3⟩
theorem NStk.cells {B : Nat} {w : World} {A : Option Addr} {n cap : Nat} {S : List Nat} (h : NStk B w (.slice A n cap) S) (hn : 0 < S.length) : ∃ g, A = some ⟨g, 0, none⟩ ∧ g < w.heap.size ∧ B ≤ g ∧ ∀ i, i < S.length → w.cell? ⟨g, i, none⟩ = some (.int .i64 (S.getD i 0 : Nat)) := by
  obtain ⟨g, cap', hv, hgb, hl⟩ := World.ownsRow.form h hn
  injection hv with h1 h2 h3
  subst h1
  refine ⟨g, rfl, hl, hgb, fun i hi => ?_⟩
  have := World.ownsRow.cells (g := g) h rfl i (.int .i64 (S.getD i 0 : Nat)) (by simp [hi])
  have he : (⟨g, 0, none⟩ : Addr).add i = ⟨g, i, none⟩ := by
    unfold Addr.add
    split
    · rename_i h0; rw [h0]
    · rw [Nat.zero_add]
  rwa [he] at this
theorem NStk.push {B : Nat} {w1 : World} {S : List Nat} {v1 : Value} {m : Nat} (hown : w1.ownsRow B 3 1 v1 (S.length + 1) ((S.map fun (n : Nat) => Value.int .i64 n) ++ [.int .i64 (m : Nat)])) : NStk B w1 v1 (S ++ [m]) := by
  unfold NStk
  rw [List.length_append, List.map_append]
  exact hown
theorem NStk.base {B B' : Nat} {w : World} {sv : Value} {S : List Nat} (h : NStk B w sv S) (hB : B' ≤ B) : NStk B' w sv S := owns_base h hB
/-- Numbers but one. -/
def butN (i : Nat) (S : List Nat) : List Nat := S.filter fun k => !(k == i)
/-- Formulas of an elder world w, in a slice of the call's own. -/
structure OFs (w : World) (e B : Nat) (wr : World) (sv : Value) (L : List (List Int)) (vs : List Value) : Prop where
  len : vs.length = L.length
  own : wr.ownsRow B e 1 sv L.length vs
  row : ∀ i, i < L.length → Ints w w.heap.size (vs.getD i undef) (L.getD i [])
theorem OFs.nil (w : World) (e B : Nat) (wr : World) : OFs w e B wr (.slice none 0 0) [] [] := ⟨rfl, World.ownsRow_nil wr B e 1, fun i hi => by simp at hi⟩
theorem OFs.same {w : World} {e B : Nat} {wr wr' : World} {sv : Value} {L : List (List Int)} {vs : List Value} (h : OFs w e B wr sv L vs) (hs : ∀ b, sv.ownBlock = some b → wr'.heap[b]? = wr.heap[b]?) : OFs w e B wr' sv L vs := ⟨h.len, ownsRow_same h.own hs, h.row⟩
theorem OFs.push {w : World} {e B : Nat} {wr wr' : World} {sv v1 : Value} {L : List (List Int)} {vs : List Value} {l : List Int} {x : Value} (h : OFs w e B wr sv L vs) (hx : Ints w w.heap.size x l) (hown : wr'.ownsRow B e 1 v1 (L.length + 1) (vs ++ [x])) : OFs w e B wr' v1 (L ++ [l]) (vs ++ [x]) := by
  have hl := h.len
  refine ⟨by simp [hl], by rw [List.length_append]; exact hown, fun i hi => ?_⟩
  rw [getD_push, getD_push, hl]
  by_cases h1 : i < L.length
  · rw [if_pos h1, if_pos h1]
    exact h.row i h1
  · have : i = L.length := by simp at hi; omega
    rw [if_neg h1, if_pos this, if_neg h1, if_pos this]
    exact hx
theorem OFs.forms {w : World} {e B : Nat} {wr : World} {sv : Value} {L : List (List Int)} {vs : List Value} (h : OFs w e B wr sv L vs) (hb : Below w.heap.size w wr) : Forms wr wr.heap.size sv L := by
  refine ⟨fun i => vs.getD i undef, Sl.of_owns h.own fun i j hi hj => ?_, fun i hi => ((h.row i hi).below hb).more hb.size⟩
  obtain rfl : j = 0 := by omega
  have := h.len
  have hi2 : i < vs.length := by omega
  rw [Nat.mul_one, Nat.add_zero]
  simp [hi2]
theorem OFs.shape {w : World} {e B : Nat} {wr : World} {sv : Value} {L : List (List Int)} {vs : List Value} (h : OFs w e B wr sv L vs) : ∃ A cap, sv = .slice A L.length cap ∧ L.length ≤ cap ∧ cap ≤ maxLen := by
  rcases h.own.2 with ⟨h1, h2⟩ | ⟨g, cap, cur, h1, _, _, h2, h3, _⟩
  · exact ⟨none, 0, by rw [h1, h2], by omega, by unfold maxLen; omega⟩
  · exact ⟨_, cap, h1, h2, h3⟩
/-- The blocks that change when a rule is appended in a box. -/
def fewS (fb : Nat) (rv : Value) (k : Nat) : Prop := k = fb ∨ rv.ownBlock = some k
end Go.Proofs.YtehadoecnmfeoaaGreat
/- The greatest fill of a run: walk. -/
namespace Go.Proofs.YtehadoecnmfeoaaGreat
open Go.RowKit
set_option linter.unusedVariables false
set_option linter.unusedSimpArgs false
/-- The formulas and the sizes of some wires. -/
def fmsL (l : Lo) (T : List Nat) : List (List Int) := T.map fun i => (l.ws.getD i Wi.o).form
def szsL (l : Lo) (T : List Nat) : List Int := T.map fun i => (l.ws.getD i Wi.o).size
theorem ownsKeep {w w' : World} {b e sz n b2 e2 sz2 n2 : Nat} {v v2 : Value} {xs xs2 : List Value} {o : Obj} (h : w.ownsRow b e sz v n xs) (h2 : w.ownsRow b2 e2 sz2 v2 n2 xs2) (hne : e ≠ e2) (hg : (w.alloc o).grownBy w' v2.ownBlock) : w'.ownsRow b e sz v n xs := by
  refine (h.alloc o).kept hg ?_
  cases hv : v2.ownBlock with
  | none =>
    cases hv1 : v.ownBlock with
    | none => exact .inl rfl
    | some g => exact .inr (by simp)
  | some g =>
    right
    obtain ⟨_, ⟨h3, _⟩ | ⟨g', cap, cur, h3, _, h4, _⟩⟩ := h2
    · rw [h3] at hv; cases hv
    · rw [h3] at hv
      injection hv with hv
      simp only at hv
      subst hv
      exact ownsNot h h4 hne
/-- What worst has gathered. -/
structure WorS (w0 wr : World) (B lb : Nat) (A0 A1 A2 A3 A4 A5 : Option Addr) (q0 q1 q2 q3 q4 q5 : Nat) (l : Lo) (fv sv : Value) (Fs : List (List Int)) (Ss : List Int) (vs : List Value) : Prop where
  below : Below w0.heap.size w0 wr
  box : LoBox wr lb A0 A1 A2 A3 A4 A5 q0 q1 q2 q3 q4 q5 l
  f : OFs w0 46 B wr fv Fs vs
  s : wr.ownsRow B 3 1 sv Ss.length (Ss.map fun (n : Int) => Value.int .i64 n)
  lt : w0.heap.size ≤ B ∧ B ≤ wr.heap.size
section
variable {w0 wr w' : World} {B lb : Nat} {A0 A1 A2 A3 A4 A5 : Option Addr} {q0 q1 q2 q3 q4 q5 : Nat} {l : Lo} {fv sv v1 x : Value} {Fs : List (List Int)} {Ss : List Int} {vs : List Value} {m : Int} {o : Obj} {f : List Int}
theorem own_box {b e sz n t : Nat} {v : Value} {xs : List Value} {C : Array Value} {g : Nat} (h : wr.ownsRow b e sz v n xs) (hg : (wr.alloc o).grownBy w' v.ownBlock) (hb : wr.heap[g]? = some (.cells C t (0, 0))) (hne : e ≠ t) : w'.heap[g]? = some (.cells C t (0, 0)) :=
  (hg.block g (by have := box_lt hb; simp; omega) (fun q => ownsNot h hb hne q.symm)).trans (box_to hb ((Below.refl _ _).alloc (Nat.le_refl _) _))
theorem own_low {b e sz n : Nat} {v : Value} {xs : List Value} (h0 : Below w0.heap.size w0 wr) (h : wr.ownsRow b e sz v n xs) (hb : w0.heap.size ≤ b) (hg : (wr.alloc o).grownBy w' v.ownBlock) : Below w0.heap.size w0 w' :=
  Below.grown (Below.to h0 ((Below.refl wr.heap.size wr).alloc (Nat.le_refl _) o) (Nat.le_refl _)) hg (by have := h0.size; simp; omega) (fun k hk => Nat.le_trans hb (h.lt k hk).1)
theorem WorS.pushF (h : WorS w0 wr B lb A0 A1 A2 A3 A4 A5 q0 q1 q2 q3 q4 q5 l fv sv Fs Ss vs) (hx : Ints w0 w0.heap.size x f) (hown : w'.ownsRow B 46 1 v1 (Fs.length + 1) (vs ++ [x])) (hg : (wr.alloc o).grownBy w' fv.ownBlock) : WorS w0 w' B lb A0 A1 A2 A3 A4 A5 q0 q1 q2 q3 q4 q5 l v1 sv (Fs ++ [f]) Ss (vs ++ [x]) :=
  ⟨own_low h.below h.f.own h.lt.1 hg, own_box h.f.own hg h.box (by decide), h.f.push hx hown, ownsKeep h.s h.f.own (by decide) hg, h.lt.1, by have := hg.size; simp at this; have := h.lt.2; omega⟩
theorem WorS.pushS (h : WorS w0 wr B lb A0 A1 A2 A3 A4 A5 q0 q1 q2 q3 q4 q5 l fv sv Fs Ss vs) (hown : w'.ownsRow B 3 1 v1 (Ss.length + 1) ((Ss.map fun (n : Int) => Value.int .i64 n) ++ [.int .i64 m])) (hg : (wr.alloc o).grownBy w' sv.ownBlock) : WorS w0 w' B lb A0 A1 A2 A3 A4 A5 q0 q1 q2 q3 q4 q5 l fv v1 Fs (Ss ++ [m]) vs :=
  ⟨own_low h.below h.s h.lt.1 hg, own_box h.s hg h.box (by decide), ⟨h.f.len, ownsKeep h.f.own h.s (by decide) hg, h.f.row⟩, by rw [List.length_append, List.length_singleton, List.map_append]; exact hown, h.lt.1, by have := hg.size; simp at this; have := h.lt.2; omega⟩
end
theorem Ints.of_own {w : World} {base : Nat} {v : Value} {S : List Int} (h : w.ownsRow base 3 1 v S.length (S.map fun (n : Int) => Value.int .i64 n)) : Ints w w.heap.size v S :=
  Sl.of_owns h fun i j hi hj => by
    obtain rfl : j = 0 := by omega
    rw [Nat.mul_one, Nat.add_zero]
    simp [hi]
/-- The greatest fill of a run, its variant, the error. -/
def worN (l : Lo) (run : Nat) : Int := mosN l.m (fmsL l (thruL l run)) (szsL l (thruL l run))
def worX (l : Lo) (run : Nat) : List Bool := mosX l.m (fmsL l (thruL l run)) (szsL l (thruL l run))
def worE (l : Lo) (run : Nat) : Int := mosE l.m (fmsL l (thruL l run)) (szsL l (thruL l run))
end Go.Proofs.YtehadoecnmfeoaaGreat
/- The greatest load of one board (the program): walk. -/
namespace Go.Proofs.YtehadoecnmfeoaaGreat
open Go.RowKit
set_option linter.unusedVariables false
set_option linter.unusedSimpArgs false
theorem WorS.to9 {w0 wr w' : World} {B lb : Nat} {A0 A1 A2 A3 A4 A5 : Option Addr} {q0 q1 q2 q3 q4 q5 : Nat} {l : Lo} {fv sv : Value} {Fs : List (List Int)} {Ss : List Int} {vs : List Value} (h : WorS w0 wr B lb A0 A1 A2 A3 A4 A5 q0 q1 q2 q3 q4 q5 l fv sv Fs Ss vs) (hb : Below wr.heap.size wr w') : WorS w0 w' B lb A0 A1 A2 A3 A4 A5 q0 q1 q2 q3 q4 q5 l fv sv Fs Ss vs :=
  ⟨Below.to h.below hb (Nat.le_refl _), box_to h.box hb, ⟨h.f.len, owns_below h.f.own hb, h.f.row⟩, owns_below h.s hb, h.lt.1, Nat.le_trans h.lt.2 hb.size⟩
end Go.Proofs.YtehadoecnmfeoaaGreat
/- The greatest loads of the boards (the program): walk. -/
namespace Go.Proofs.YtehadoecnmfeoaaGreat
open Go.RowKit
set_option linter.unusedVariables false
set_option linter.unusedSimpArgs false
end Go.Proofs.YtehadoecnmfeoaaGreat

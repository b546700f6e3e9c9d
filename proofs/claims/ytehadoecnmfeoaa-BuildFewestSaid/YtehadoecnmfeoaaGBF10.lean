/- Part 10 of this claim's texts: walks and plain laws. -/
import Derived.Test.YtehadoecnmfeoaaRows
import Derived.Test.YtehadoecnmfeoaaGBF9
import Derived.WalkLawsBesides
import Derived.WalkSpells
import Derived.Deep.QuietTactic
import Derived.Test.YtehadoecnmfeoaaGBF0
import Derived.Laws.Cover4
import Derived.Test.YtehadoecnmfeoaaGBF8
/- The first error of a row; the list of what is reached stays. Plain. -/
namespace Go.Proofs.Ytehadoecnmfeoaa
set_option linter.unusedVariables false
set_option linter.unusedSimpArgs false
/-- The first error of the first elements of a row. -/
def firstE (e : Nat → Int) : Nat → Int
  | 0 => 0
  | i + 1 => if firstE e i ≠ 0 then firstE e i else e i
theorem firstE_none {e : Nat → Int} {i : Nat} (h : ∀ j, j < i → e j = 0) : firstE e i = 0 := by
  induction i with
  | zero => rfl
  | succ i ih =>
    have h1 := ih fun j hj => h j (by omega)
    show (if firstE e i ≠ 0 then _ else _) = _
    rw [if_neg (by rw [h1]; simp), h i (by omega)]
theorem firstE_stays {e : Nat → Int} {i n : Nat} (h : firstE e i ≠ 0) (hn : i ≤ n) : firstE e n = firstE e i := by
  induction n with
  | zero => rw [show i = 0 by omega]
  | succ n ih =>
    rcases Nat.lt_or_ge i (n + 1) with h1 | h1
    · have h2 := ih (by omega)
      show (if firstE e n ≠ 0 then _ else _) = _
      rw [h2, if_pos h]
    · rw [show i = n + 1 by omega]
theorem firstE_at {e : Nat → Int} {i n : Nat} (h : ∀ j, j < i → e j = 0) (hi : e i ≠ 0) (hn : i < n) : firstE e n = e i := by
  have h1 : firstE e (i + 1) = e i := by
    show (if firstE e i ≠ 0 then _ else _) = _
    rw [firstE_none h, if_neg (by simp)]
  rw [firstE_stays (i := i + 1) (by rw [h1]; exact hi) (by omega), h1]
theorem firstE_wires (l : Lo) : ∀ n, firstE (wiErr l) n = wiresErr l n
  | 0 => rfl
  | n + 1 => by
    show (if firstE (wiErr l) n ≠ 0 then firstE (wiErr l) n else _) = (if wiresErr l n ≠ 0 then wiresErr l n else _)
    rw [firstE_wires l n]
theorem firstE_must (p : Nat → Bool) {c : Int} (hc : c ≠ 0) : ∀ n, firstE (fun i => if p i then 0 else c) n = if (List.range n).all p = false then c else 0
  | 0 => rfl
  | n + 1 => by
    show (if firstE (fun i => if p i then 0 else c) n ≠ 0 then firstE (fun i => if p i then 0 else c) n else if p n then 0 else c) = _
    rw [firstE_must p hc n, List.range_succ, List.all_append]
    cases h : (List.range n).all p with
    | false => simp [hc]
    | true => cases h2 : p n <;> simp [h2]
theorem all_range {α : Type} (z : α) (p : α → Bool) (l : List α) : (List.range l.length).all (fun i => p (l.getD i z)) = l.all p := by
  rw [Bool.eq_iff_iff, List.all_eq_true, List.all_eq_true]
  constructor
  · intro h x hx
    obtain ⟨i, hi, rfl⟩ := List.mem_iff_getElem.1 hx
    have := h i (by simpa using hi)
    simpa [hi] using this
  · intro h i hi
    have hi' : i < l.length := by simpa using hi
    simp only [List.getD_eq_getElem?_getD, List.getElem?_eq_getElem hi', Option.getD_some]
    exact h _ (List.getElem_mem hi')
theorem stR_stays {rs : List (Nat × Nat)} {w : Int} {s i : Nat} (h : (stR rs w s i).length ≤ i) : ∀ j, i ≤ j → stR rs w s j = stR rs w s i := by
  intro j hj
  induction j with
  | zero => rw [show i = 0 by omega]
  | succ j ih =>
    rcases Nat.lt_or_ge i (j + 1) with h1 | h1
    · have h2 := ih (by omega)
      show (if j < (stR rs w s j).length then _ else stR rs w s j) = _
      rw [h2, if_neg (by omega)]
    · rw [show i = j + 1 by omega]
theorem stR_end {rs : List (Nat × Nat)} {w : Int} {s i n : Nat} (hs : s < n) (hrs : ∀ k, k < rs.length → (rs.getD k (0, 0)).1 < n ∧ (rs.getD k (0, 0)).2 < n) (h : (stR rs w s i).length ≤ i) (hi : i ≤ (stR rs w s i).length) : stR rs w s i = stR rs w s n :=
  (stR_stays h n (Nat.le_trans hi (stR_len hs hrs i))).symm
end Go.Proofs.Ytehadoecnmfeoaa
/- Looms in memory: the cells, small functions: no condition. -/
namespace Go.Proofs.Ytehadoecnmfeoaa
open Go.RowKit
set_option linter.unusedVariables false
set_option linter.unusedSimpArgs false
/-- A loom in memory, by the addresses and rooms of its slices. -/
def LoA (w : World) (B : Nat) (A0 A1 A2 A3 A4 A5 : Option Addr) (q0 q1 q2 q3 q4 q5 : Nat) (l : Lo) : Prop := LoAt w B (.slice A0 l.m.opts.length q0) (.slice A1 l.m.rules.length q1) (.slice A2 l.ss.length q2) (.slice A3 l.us.length q3) (.slice A4 l.ps.length q4) (.slice A5 l.ws.length q5) l
def LoBox (w : World) (b : Nat) (A0 A1 A2 A3 A4 A5 : Option Addr) (q0 q1 q2 q3 q4 q5 : Nat) (l : Lo) : Prop := w.heap[b]? = some (.cells #[.slice A0 l.m.opts.length q0, .slice A1 l.m.rules.length q1, .slice A2 l.ss.length q2, .slice A3 l.us.length q3, .slice A4 l.ps.length q4, .slice A5 l.ws.length q5] 41 (0, 0))
theorem LoAt.form {w : World} {B : Nat} {ov rv sv uv pv wv : Value} {l : Lo} (h : LoAt w B ov rv sv uv pv wv l) : ∃ (A0 A1 A2 A3 A4 A5 : Option Addr) (q0 q1 q2 q3 q4 q5 : Nat), ov = .slice A0 l.m.opts.length q0 ∧ rv = .slice A1 l.m.rules.length q1 ∧ sv = .slice A2 l.ss.length q2 ∧ uv = .slice A3 l.us.length q3 ∧ pv = .slice A4 l.ps.length q4 ∧ wv = .slice A5 l.ws.length q5 ∧ LoA w B A0 A1 A2 A3 A4 A5 q0 q1 q2 q3 q4 q5 l := by
  obtain ⟨A0, q0, rfl⟩ := Sl.form h.m.o
  obtain ⟨A1, q1, rfl⟩ := h.m.r.form
  obtain ⟨A2, q2, rfl⟩ := Sl.form h.s
  obtain ⟨A3, q3, rfl⟩ := Sl.form h.u
  obtain ⟨A4, q4, rfl⟩ := Sl.form h.p
  obtain ⟨fv, hw, hf⟩ := h.w
  obtain ⟨A5, q5, rfl⟩ := Sl.form hw
  exact ⟨A0, A1, A2, A3, A4, A5, q0, q1, q2, q3, q4, q5, rfl, rfl, rfl, rfl, rfl, rfl, ⟨h.m, h.s, h.u, h.p, ⟨fv, hw, hf⟩⟩⟩
theorem Wis.below {w w' : World} {B : Nat} {v : Value} {l : List Wi} (h : Wis w B v l) (hb : Below B w w') : Wis w' B v l := by
  obtain ⟨fv, h1, h2⟩ := h
  exact ⟨fv, Sl.below h1 hb, fun i hi => Sl.below (h2 i hi) hb⟩
theorem Wis.more {w : World} {B B' : Nat} {v : Value} {l : List Wi} (h : Wis w B v l) (hB : B ≤ B') : Wis w B' v l := by
  obtain ⟨fv, h1, h2⟩ := h
  exact ⟨fv, Sl.more h1 hB, fun i hi => Sl.more (h2 i hi) hB⟩
section
variable {w w' : World} {B B' : Nat} {A0 A1 A2 A3 A4 A5 : Option Addr} {q0 q1 q2 q3 q4 q5 : Nat} {l : Lo}
theorem LoA.below (h : LoA w B A0 A1 A2 A3 A4 A5 q0 q1 q2 q3 q4 q5 l) (hb : Below B w w') : LoA w' B A0 A1 A2 A3 A4 A5 q0 q1 q2 q3 q4 q5 l := ⟨h.m.below hb, Sl.below h.s hb, Sl.below h.u hb, Sl.below h.p hb, h.w.below hb⟩
theorem LoA.more (h : LoA w B A0 A1 A2 A3 A4 A5 q0 q1 q2 q3 q4 q5 l) (hB : B ≤ B') : LoA w B' A0 A1 A2 A3 A4 A5 q0 q1 q2 q3 q4 q5 l := ⟨h.m.more hB, Sl.more h.s hB, Sl.more h.u hB, Sl.more h.p hB, h.w.more hB⟩
theorem LoA.up (h : LoA w w.heap.size A0 A1 A2 A3 A4 A5 q0 q1 q2 q3 q4 q5 l) (hb : Below w.heap.size w w') : LoA w' w'.heap.size A0 A1 A2 A3 A4 A5 q0 q1 q2 q3 q4 q5 l := (h.below hb).more hb.size
/-- The cells of an element. -/
theorem sl_at {sz n : Nat} {A : Option Addr} {m q : Nat} {f : Nat → Nat → Value} (h : Sl w B sz (.slice A m q) n f) {k : Nat} (hk : k < n) : m = n ∧ m ≤ q ∧ ∃ b off, A = some ⟨b, off, none⟩ ∧ b < B ∧ ∀ j, j < sz → w.cell? ⟨b, off + (k * sz + j), none⟩ = some (f k j) := by
  obtain ⟨A', b, off, cap, h1, h2, h3, h4⟩ := h
  injection h1 with e1 e2 e3
  subst e1 e2 e3
  rcases h3 with ⟨h3, h5⟩ | h3
  · exact ⟨rfl, h2, b, off, h3, h5, fun j hj => h4 k j hk hj⟩
  · omega
theorem LoA.sp (h : LoA w B A0 A1 A2 A3 A4 A5 q0 q1 q2 q3 q4 q5 l) {k : Nat} (hk : k < l.ss.length) : ∃ b off x, Hid (l.ss.getD k Sp.o = x) ∧ A2 = some ⟨b, off, none⟩ ∧ b < B ∧ l.ss.length ≤ q2 ∧
    w.cell? ⟨b, off + k * 3, none⟩ = some (.int .i64 x.x) ∧ w.cell? ⟨b, off + k * 3 + 1, none⟩ = some (.int .i64 x.y) ∧ w.cell? ⟨b, off + k * 3 + 2, none⟩ = some (.int .i64 x.z) := by
  obtain ⟨_, h2, b, off, h3, h4, h5⟩ := sl_at h.s hk
  exact ⟨b, off, _, rfl, h3, h4, h2, h5 0 (by omega), h5 1 (by omega), h5 2 (by omega)⟩
theorem LoA.ru (h : LoA w B A0 A1 A2 A3 A4 A5 q0 q1 q2 q3 q4 q5 l) {k : Nat} (hk : k < l.us.length) : ∃ b off x, Hid (l.us.getD k Ru.o = x) ∧ A3 = some ⟨b, off, none⟩ ∧ b < B ∧ l.us.length ≤ q3 ∧
    w.cell? ⟨b, off + k * 4, none⟩ = some (.int .i64 x.a) ∧ w.cell? ⟨b, off + k * 4 + 1, none⟩ = some (.int .i64 x.b) ∧ w.cell? ⟨b, off + k * 4 + 2, none⟩ = some (.int .i64 x.len) ∧ w.cell? ⟨b, off + k * 4 + 3, none⟩ = some (.int .i64 x.room) := by
  obtain ⟨_, h2, b, off, h3, h4, h5⟩ := sl_at h.u hk
  exact ⟨b, off, _, rfl, h3, h4, h2, h5 0 (by omega), h5 1 (by omega), h5 2 (by omega), h5 3 (by omega)⟩
theorem LoA.pl (h : LoA w B A0 A1 A2 A3 A4 A5 q0 q1 q2 q3 q4 q5 l) {k : Nat} (hk : k < l.ps.length) : ∃ b off x, Hid (l.ps.getD k Pl.o = x) ∧ A4 = some ⟨b, off, none⟩ ∧ b < B ∧ l.ps.length ≤ q4 ∧
    w.cell? ⟨b, off + k * 3, none⟩ = some (.string x.name) ∧ w.cell? ⟨b, off + k * 3 + 1, none⟩ = some (.int .i64 x.spot) ∧ w.cell? ⟨b, off + k * 3 + 2, none⟩ = some (.int .i64 x.cav) := by
  obtain ⟨_, h2, b, off, h3, h4, h5⟩ := sl_at h.p hk
  exact ⟨b, off, _, rfl, h3, h4, h2, h5 0 (by omega), h5 1 (by omega), h5 2 (by omega)⟩
theorem LoA.wi (h : LoA w B A0 A1 A2 A3 A4 A5 q0 q1 q2 q3 q4 q5 l) {k : Nat} (hk : k < l.ws.length) : ∃ b off x Af qf, Hid (l.ws.getD k Wi.o = x) ∧ A5 = some ⟨b, off, none⟩ ∧ b < B ∧ l.ws.length ≤ q5 ∧ Hid (Ints w B (.slice Af x.form.length qf) x.form) ∧
    w.cell? ⟨b, off + k * 7, none⟩ = some (.string x.name) ∧ w.cell? ⟨b, off + k * 7 + 1, none⟩ = some (.int .i64 x.fp) ∧ w.cell? ⟨b, off + k * 7 + 2, none⟩ = some (.int .i64 x.fc) ∧ w.cell? ⟨b, off + k * 7 + 3, none⟩ = some (.int .i64 x.tp) ∧
    w.cell? ⟨b, off + k * 7 + 4, none⟩ = some (.int .i64 x.tc) ∧ w.cell? ⟨b, off + k * 7 + 5, none⟩ = some (.int .i64 x.size) ∧ w.cell? ⟨b, off + k * 7 + 6, none⟩ = some (.slice Af x.form.length qf) := by
  obtain ⟨fv, hs, hf⟩ := h.w
  obtain ⟨_, h2, b, off, h3, h4, h5⟩ := sl_at hs hk
  have h6 := hf k hk
  obtain ⟨Af, qf, e⟩ := Sl.form h6
  rw [e] at h6
  have h7 := h5 6 (by omega)
  rw [show wiC (l.ws.getD k Wi.o) (fv k) 6 = fv k from rfl, e] at h7
  exact ⟨b, off, _, Af, qf, rfl, h3, h4, h2, h6, h5 0 (by omega), h5 1 (by omega), h5 2 (by omega), h5 3 (by omega), h5 4 (by omega), h5 5 (by omega), h7⟩
end
theorem btw_t {n lo hi : Int} (h1 : lo ≤ n) (h2 : n ≤ hi) : btw n lo hi = true := by simp [btw, h1, h2]
set_option maxRecDepth 100000 in
theorem within_any (n lo hi : Int) (w : World) : Calls Try.prog 60 #[.int .i64 n, .int .i64 lo, .int .i64 hi] w fun e w' => e = .returned (.bool (btw n lo hi)) ∧ w = w' := by
  by_cases h1 : lo ≤ n
  · have hr : btw n lo hi = decide (n ≤ hi) := by simp [btw, h1]
    have HR := hide hr
    clear hr
    go_enter Try.func60, Try.ntmps60
    go_wp2_with fail
    go_ret
    exact ⟨ret_bool HR.out.symm, rfl⟩
  · have hr : btw n lo hi = false := by simp [btw, h1]
    have HR := hide hr
    clear hr
    go_enter Try.func60, Try.ntmps60
    go_wp2_with fail
    go_ret
    exact ⟨ret_bool HR.out.symm, rfl⟩
/-- An error unless something is so. -/
def mustE (b : Bool) (c : Int) : Int := if b then 0 else c
set_option maxRecDepth 100000 in
theorem must_any (b : Bool) (c : Int) (w : World) : Calls Try.prog 63 #[.bool b, .int .i64 c] w fun e w' => e = .returned (.int .i64 (mustE b c)) ∧ w = w' := by
  cases b with
  | true =>
    go_enter Try.func63, Try.ntmps63
    go_wp2_with fail
    go_ret
    exact ⟨rfl, rfl⟩
  | false =>
    go_enter Try.func63, Try.ntmps63
    go_wp2_with fail
    go_ret
    exact ⟨rfl, rfl⟩
theorem lowB_bad {s : ByteArray} {k : Nat} (h : k < s.size) (hn : smN s[k] = false) : lowB s.data.toList = false := by
  have : s.data.toList.all smN = false := by
    rw [← Bool.not_eq_true, List.all_eq_true]
    intro q
    have h1 : k < s.data.size := h
    have := q s.data[k] (by simp)
    rw [show s.data[k] = s[k] from rfl, hn] at this
    cases this
  simp [lowB, this]
theorem lowB_good {s : ByteArray} (hn : ∀ j, j < s.size → smN (s.data.toList.getD j 0) = true) : lowB s.data.toList = btw s.size 1 8 := by
  have h1 : s.data.toList.all smN = true := by
    rw [List.all_eq_true]
    intro x hx
    obtain ⟨i, hi, rfl⟩ := List.mem_iff_getElem.1 hx
    have := hn i (by simpa using hi)
    rwa [List.getD_eq_getElem?_getD, List.getElem?_eq_getElem hi, Option.getD_some] at this
  have hl : s.data.toList.length = s.size := by simp
  unfold lowB btw
  rw [h1, hl, Bool.and_true]
  congr 1
  · exact decide_eq_decide.2 (by omega)
  · exact decide_eq_decide.2 (by omega)
set_option maxRecDepth 100000 in
set_option maxHeartbeats 1000000 in
theorem low_any (s : ByteArray) (w : World) (hs : s.size ≤ maxLen) :
    Calls Try.prog 73 #[.string s] w fun e w' => e = .returned (.bool (lowB s.data.toList)) ∧ w = w' := by
  unfold maxLen at hs
  go_enter Try.func73, Try.ntmps73
  go_wp2
  go_loop [3, 6] (fun _ i => ∃ k : Nat, k ≤ s.size ∧ i = .int .i64 k ∧ Hid (∀ j, j < k → smN (s.data.toList.getD j 0) = true)) (fun _ i => s.size - (intOf i).toNat)
  case atStart => exact ⟨0, Nat.zero_le _, rfl, fun j hj => by omega⟩
  case round =>
    obtain ⟨k, hk, rfl, hall⟩ := hrel
    by_cases hlt : k < s.size
    · have hgd := getD_str s k hlt
      have hyes : smN s[k] = true → Hid (∀ j, j < k + 1 → smN (s.data.toList.getD j 0) = true) := fun h j hj => by
        rcases Nat.lt_or_ge j k with h1 | h1
        · exact hall.out j h1
        · rw [show j = k from by omega, hgd]; exact h
      have hno : smN s[k] = false → lowB s.data.toList = false := fun h => lowB_bad hlt h
      have HY := hide hyes
      have HN := hide hno
      clear hgd hyes hno
      by_cases h1 : (s[k].toNat : Int) < 97
      · have HC := hide (smN_not (.inl h1))
        go_wp2
        go_ret
        exact ⟨ret_bool (HN.out HC.out).symm, rfl⟩
      · by_cases h2 : (122 : Int) < (s[k].toNat : Int)
        · have HC := hide (smN_not (.inr h2))
          go_wp2
          go_ret
          exact ⟨ret_bool (HN.out HC.out).symm, rfl⟩
        · have HC := hide (smN_of (c := s[k]) (by omega) (by omega))
          go_wp2
          go_round
          case rel => exact ⟨k + 1, by omega, by go_num, HY.out HC.out⟩
          case measure => simp [intOf]; omega
    · have : k = s.size := by omega
      subst this
      have hg := lowB_good (s := s) (by simpa using hall.out)
      have HG := hide hg
      clear hg
      go_wp2_with (go_at_call 60; refine (within_any _ _ _ _).mono ?_; rintro e w1 ⟨rfl, rfl⟩)
      go_ret
      exact ⟨ret_bool HG.out.symm, rfl⟩
end Go.Proofs.Ytehadoecnmfeoaa
/- The greatest sum of weights that nodes allow. Plain laws. -/
namespace Go.Proofs.Ytehadoecnmfeoaa
set_option linter.unusedVariables false
def leastI : Int := -1152921504606846976
/-- The weights of the nodes that hold. -/
def wsum (ks : List Kn) (v : Nat → Bool) : List Nat → List Int → Int
  | n :: ns, x :: xs => (if ev ks v n then x else 0) + wsum ks v ns xs
  | _, _ => 0
/-- What a variant is worth: the first node has to hold. -/
def valI (ks : List Kn) (v : Nat → Bool) (nodes : List Nat) (ws : List Int) : Int :=
  match nodes with
  | [] => leastI
  | n :: ns => if ev ks v n then wsum ks v ns ws else leastI
def maxL (l : List Int) : Int := l.foldl max leastI
theorem foldl_max : ∀ (l : List Int) (i : Int), leastI ≤ i → l.foldl max i = max i (maxL l)
  | [], i, h => by simp only [maxL, List.foldl_nil]; omega
  | a :: l, i, h => by
    have h1 := foldl_max l (max i a) (by omega)
    have h2 := foldl_max l (max leastI a) (by omega)
    unfold maxL at h1 h2 ⊢
    simp only [List.foldl_cons]
    rw [h1, h2]
    omega
theorem maxL_least (l : List Int) : leastI ≤ maxL l := by
  have : ∀ (l : List Int) (i : Int), leastI ≤ i → leastI ≤ l.foldl max i := by
    intro l
    induction l with
    | nil => intro i h; exact h
    | cons a l ih => intro i h; exact ih _ (by omega)
  exact this l _ (Int.le_refl _)
theorem maxL_cons (a : Int) (l : List Int) : maxL (a :: l) = max (max leastI a) (maxL l) := foldl_max l _ (by omega)
theorem maxL_append (a b : List Int) : maxL (a ++ b) = max (maxL a) (maxL b) := by
  show (a ++ b).foldl max leastI = _
  rw [List.foldl_append]
  exact foldl_max b _ (maxL_least a)
theorem maxL_mem : ∀ (l : List Int) (x : Int), x ∈ l → x ≤ maxL l
  | a :: l, x, h => by
    rw [maxL_cons]
    rcases List.mem_cons.1 h with rfl | h
    · omega
    · have := maxL_mem l x h
      omega
theorem maxL_const {c : Int} (hc : leastI ≤ c) : ∀ (l : List Int), l ≠ [] → (∀ x ∈ l, x = c) → maxL l = c
  | [a], _, h => by
    rw [maxL_cons, h a (by simp)]
    simp only [maxL, List.foldl_nil]; omega
  | a :: b :: l, _, h => by
    rw [maxL_cons, h a (by simp), maxL_const hc (b :: l) (by simp) (fun x hx => h x (by simp [hx]))]
    omega
theorem maxL_attained : ∀ (l : List Int), leastI < maxL l → maxL l ∈ l
  | [], h => by simp [maxL] at h
  | a :: l, h => by
    rw [maxL_cons] at h ⊢
    by_cases h1 : maxL l ≤ a
    · rw [show max (max leastI a) (maxL l) = a by omega]; simp
    · have h2 := maxL_least l
      rw [show max (max leastI a) (maxL l) = maxL l by omega]
      exact List.mem_cons_of_mem _ (maxL_attained l (by omega))
/-- The greatest worth of the variants that begin with a list. -/
def bestK (ks : List Kn) (N : Nat) (nodes : List Nat) (ws : List Int) (l : List Bool) : Int := maxL ((exts (N - l.length) l).map fun x => valI ks (vf x) nodes ws)
theorem wsum_congr {ks ks' : List Kn} {v v' : Nat → Bool} : ∀ {a b : List Nat} {ws : List Int}, a.length = b.length → (∀ i, i < a.length → ev ks v (a.getD i 0) = ev ks' v' (b.getD i 0)) → wsum ks v a ws = wsum ks' v' b ws
  | [], [], ws, _, _ => by cases ws <;> rfl
  | x :: a, y :: b, [], _, _ => rfl
  | x :: a, y :: b, w :: ws, hl, h => by
    have h0 := h 0 (by simp)
    simp only [List.getD_cons_zero] at h0
    simp only [wsum, h0]
    rw [wsum_congr (by simpa using hl) fun i hi => by have := h (i + 1) (by simpa using hi); simpa using this]
  | [], y :: b, _, hl, _ => by simp at hl
  | x :: a, [], _, hl, _ => by simp at hl
theorem valI_congr {ks ks' : List Kn} {v v' : Nat → Bool} {a b : List Nat} {ws : List Int} (hl : a.length = b.length) (h : ∀ i, i < a.length → ev ks v (a.getD i 0) = ev ks' v' (b.getD i 0)) : valI ks v a ws = valI ks' v' b ws := by
  match a, b, hl, h with
  | [], [], _, _ => rfl
  | x :: a, y :: b, hl, h =>
    have h0 := h 0 (by simp)
    simp only [List.getD_cons_zero] at h0
    simp only [valI, h0]
    rw [wsum_congr (by simpa using hl) fun i hi => by have := h (i + 1) (by simpa using hi); simpa using this]
  | [], y :: b, hl, _ => simp at hl
  | x :: a, [], hl, _ => simp at hl
theorem bestK_split {ks : List Kn} {N : Nat} {nodes : List Nat} {ws : List Int} {l : List Bool} (hl : l.length < N) : bestK ks N nodes ws l = max (bestK ks N nodes ws (l ++ [false])) (bestK ks N nodes ws (l ++ [true])) := by
  unfold bestK
  rw [← maxL_append, ← List.map_append]
  rw [show N - l.length = (N - (l ++ [false]).length) + 1 from by simp; omega]
  simp only [exts, List.length_append, List.length_singleton]
theorem getD_map {α β : Type} (f : α → β) (l : List α) (z : α) (i : Nat) (h : i < l.length) (y : β) : (l.map f).getD i y = f (l.getD i z) := by
  simp [List.getD_eq_getElem?_getD, h]
section
variable {N : Nat} {ks : List Kn} (h : WF N ks)
include h
theorem bestK_br {nodes : List Nat} {ws : List Int} {l : List Bool} {b : Bool} (hn : ∀ n ∈ nodes, n < ks.length) (hl : l.length < N) : bestK ks N (nodes.map fun n => brK ks n l.length b) ws (l ++ [b]) = bestK ks N nodes ws (l ++ [b]) := by
  unfold bestK
  congr 1
  refine List.map_congr_left fun x hx => ?_
  obtain ⟨y, rfl, _⟩ := exts_prefix hx
  refine valI_congr (by simp) fun i hi => ?_
  have hi' : i < nodes.length := by simpa using hi
  rw [getD_map _ _ 0 _ hi']
  exact brK_ev h (hn _ (by rw [List.getD_eq_getElem?_getD, List.getElem?_eq_getElem hi']; exact List.getElem_mem _)) hl _ (vf_at l b y)
theorem bestK_len {nodes : List Nat} {ws : List Int} {l l' : List Bool} (hn : ∀ n ∈ nodes, n < ks.length) (he : l.length = l'.length) (ht : ∀ n ∈ nodes, l.length ≤ topK ks n) : bestK ks N nodes ws l = bestK ks N nodes ws l' := by
  unfold bestK
  rw [exts_nil _ l, exts_nil _ l', List.map_map, List.map_map, he]
  congr 1
  refine List.map_congr_left fun x hx => ?_
  refine valI_congr rfl fun i hi => ?_
  have hm : nodes.getD i 0 ∈ nodes := by rw [List.getD_eq_getElem?_getD, List.getElem?_eq_getElem hi]; exact List.getElem_mem _
  refine ev_congr h _ _ _ (hn _ hm) fun j h1 h2 => ?_
  have := ht _ hm
  show vf (l ++ x) j = vf (l' ++ x) j
  rw [vf_right (by omega), vf_right (by omega), he]
/-- Options that no node asks for change nothing. -/
theorem bestK_lift {nodes : List Nat} {ws : List Int} (hn : ∀ n ∈ nodes, n < ks.length) : ∀ (k o : Nat), o + k ≤ N → (∀ n ∈ nodes, o + k ≤ topK ks n) → bestK ks N nodes ws (List.replicate o false) = bestK ks N nodes ws (List.replicate (o + k) false)
  | 0, o, _, _ => rfl
  | k + 1, o, hN, ht => by
    rw [bestK_split (by simp; omega), bestK_len h (l := List.replicate o false ++ [false]) (l' := List.replicate (o + 1) false) hn (by simp) (fun n hn => by have := ht n hn; simp; omega), bestK_len h (l := List.replicate o false ++ [true]) (l' := List.replicate (o + 1) false) hn (by simp) (fun n hn => by have := ht n hn; simp; omega), bestK_lift hn k (o + 1) (by omega) (fun n hn => by have := ht n hn; omega)]
    rw [show o + (k + 1) = o + 1 + k by omega]
    omega
omit h in
theorem bestK_no {ns : List Nat} {ws : List Int} (l : List Bool) : bestK ks N (0 :: ns) ws l = leastI := by
  unfold bestK
  refine maxL_const (Int.le_refl _) _ ?_ ?_
  · intro e
    have := congrArg List.length e
    rw [List.length_map, exts_length] at this
    have := Nat.one_le_two_pow (n := N - l.length)
    simp at *
  · intro x hx
    rw [List.mem_map] at hx
    obtain ⟨y, _, rfl⟩ := hx
    simp [valI, ev_zero]
omit h in
/-- The sum of the weights whose nodes are 'yes'. -/
def wyes : List Nat → List Int → Int
  | n :: ns, x :: xs => (if n = 1 then x else 0) + wyes ns xs
  | _, _ => 0
omit h in
theorem wsum_ends (v : Nat → Bool) : ∀ (ns : List Nat) (ws : List Int), (∀ n ∈ ns, n < 2) → wsum ks v ns ws = wyes ns ws
  | [], ws, _ => by cases ws <;> rfl
  | n :: ns, [], _ => rfl
  | n :: ns, x :: xs, h => by
    have h0 := h n (by simp)
    simp only [wsum, wyes]
    rw [wsum_ends v ns xs fun m hm => h m (by simp [hm])]
    rcases (by omega : n = 0 ∨ n = 1) with rfl | rfl
    · simp [ev_zero]
    · simp [ev_one]
omit h in
theorem bestK_ends {ns : List Nat} {ws : List Int} (l : List Bool) (hn : ∀ n ∈ ns, n < 2) (hw : leastI ≤ wyes ns ws) : bestK ks N (1 :: ns) ws l = wyes ns ws := by
  unfold bestK
  refine maxL_const hw _ ?_ ?_
  · intro e
    have := congrArg List.length e
    rw [List.length_map, exts_length] at this
    have := Nat.one_le_two_pow (n := N - l.length)
    simp at *
  · intro x hx
    rw [List.mem_map] at hx
    obtain ⟨y, _, rfl⟩ := hx
    simp only [valI, ev_one, if_true]
    exact wsum_ends _ ns ws hn
/-- The step that best takes. -/
theorem bestK_step {nodes : List Nat} {ws : List Int} {t : Nat} (hn : ∀ n ∈ nodes, n < ks.length) (htN : t < N) (ht : ∀ n ∈ nodes, t ≤ topK ks n) : bestK ks N nodes ws [] = max (bestK ks N (nodes.map fun n => brK ks n t false) ws []) (bestK ks N (nodes.map fun n => brK ks n t true) ws []) := by
  have key : ∀ b, bestK ks N (nodes.map fun n => brK ks n t b) ws [] = bestK ks N nodes ws (List.replicate t false ++ [b]) := by
    intro b
    have hlt : ∀ n ∈ nodes.map fun n => brK ks n t b, n < ks.length := by
      intro n hm
      rw [List.mem_map] at hm
      obtain ⟨x, hx, rfl⟩ := hm
      exact brK_lt h (hn x hx) htN
    have htt : ∀ n ∈ nodes.map fun n => brK ks n t b, t + 1 ≤ topK ks n := by
      intro n hm
      rw [List.mem_map] at hm
      obtain ⟨x, hx, rfl⟩ := hm
      exact brK_top h (hn x hx) htN (ht x hx)
    have h1 := bestK_lift h (ws := ws) hlt (t + 1) 0 (by omega) (fun n hm => by have := htt n hm; omega)
    have h2 := bestK_br h (nodes := nodes) (ws := ws) (l := List.replicate t false) (b := b) hn (by simpa using htN)
    rw [List.length_replicate] at h2
    rw [← h2]
    rw [show ([] : List Bool) = List.replicate 0 false from rfl, h1]
    exact bestK_len h hlt (by simp) (fun n hm => by have := htt n hm; simp; omega)
  have h1 := bestK_lift h (ws := ws) hn t 0 (by omega) (fun n hm => by have := ht n hm; omega)
  rw [show List.replicate 0 false = ([] : List Bool) from rfl, Nat.zero_add] at h1
  rw [key, key, h1, bestK_split (by simpa using htN)]
end
end Go.Proofs.Ytehadoecnmfeoaa
/- The text of a list of numbers below 2 to the 30th: lists that differ have texts that differ. Plain laws. -/
namespace Go.Proofs.Ytehadoecnmfeoaa
set_option linter.unusedVariables false
/-- The two runes of a number. -/
def kyL (l : List Nat) : List Int := l.flatMap fun n => [((n % 32768 : Nat) : Int), ((n / 32768 % 32768 : Nat) : Int)]
def kyS (l : List Nat) : ByteArray := runesBytes (kyL l)
/-- What comes of the first rune of some bytes. -/
def decR : List UInt8 → Nat × List UInt8
  | [] => (0, [])
  | a :: r =>
    if a.toNat < 128 then (a.toNat, r)
    else if a.toNat < 224 then (match r with | b :: r => ((a.toNat - 192) * 64 + (b.toNat - 128), r) | [] => (0, []))
    else (match r with | b :: c :: r => ((a.toNat - 224) * 4096 + (b.toNat - 128) * 64 + (c.toNat - 128), r) | _ => (0, []))
theorem valid_small {n : Nat} (h : n < 32768) : Utf8.valid (n : Int) = true := by
  unfold Utf8.valid; simp; omega
theorem decR_encode {n : Nat} (h : n < 32768) (r : List UInt8) : decR ((Utf8.encode (n : Int)).data.toList ++ r) = (n, r) := by
  unfold Utf8.encode
  simp only [valid_small h, if_true, Int.toNat_natCast]
  by_cases h1 : n < 128
  · rw [if_pos h1]
    show decR (UInt8.ofNat n :: r) = (n, r)
    have e : (UInt8.ofNat n).toNat = n := by simp; omega
    simp only [decR, e, if_pos h1]
  · rw [if_neg h1]
    by_cases h2 : n < 2048
    · rw [if_pos h2]
      show decR (UInt8.ofNat (192 + n / 64) :: UInt8.ofNat (128 + n % 64) :: r) = (n, r)
      have e1 : (UInt8.ofNat (192 + n / 64)).toNat = 192 + n / 64 := by simp; omega
      have e2 : (UInt8.ofNat (128 + n % 64)).toNat = 128 + n % 64 := by simp; omega
      simp only [decR, e1, e2]
      rw [if_neg (by omega), if_pos (by omega)]
      refine Prod.ext ?_ rfl
      simp only
      omega
    · rw [if_neg h2, if_pos (by omega)]
      show decR (UInt8.ofNat (224 + n / 4096) :: UInt8.ofNat (128 + n / 64 % 64) :: UInt8.ofNat (128 + n % 64) :: r) = (n, r)
      have e1 : (UInt8.ofNat (224 + n / 4096)).toNat = 224 + n / 4096 := by simp; omega
      have e2 : (UInt8.ofNat (128 + n / 64 % 64)).toNat = 128 + n / 64 % 64 := by simp; omega
      have e3 : (UInt8.ofNat (128 + n % 64)).toNat = 128 + n % 64 := by simp; omega
      simp only [decR, e1, e2, e3]
      rw [if_neg (by omega), if_neg (by omega)]
      refine Prod.ext ?_ rfl
      simp only
      omega
theorem runesBytes_toList (ns : List Int) : (runesBytes ns).data.toList = ns.flatMap fun n => (Utf8.encode n).data.toList := by
  have : ∀ (ns : List Int) (s : ByteArray), (ns.foldl (fun r n => r ++ Utf8.encode n) s).data.toList = s.data.toList ++ ns.flatMap fun n => (Utf8.encode n).data.toList := by
    intro ns
    induction ns with
    | nil => intro s; simp
    | cons n r ih => intro s; rw [List.foldl_cons, ih]; simp
  have h := this ns ByteArray.empty
  simpa [runesBytes] using h
theorem encode_ne {n : Nat} (h : n < 32768) : (Utf8.encode (n : Int)).data.toList ≠ [] := by
  unfold Utf8.encode
  simp only [valid_small h, if_true, Int.toNat_natCast]
  repeat' split
  all_goals simp
theorem flat_injE (E : Nat → List UInt8) (D : List UInt8 → Nat × List UInt8) (P : Nat → Prop) (hD : ∀ n, P n → ∀ r, D (E n ++ r) = (n, r)) (hne : ∀ n, P n → E n ≠ []) : ∀ (a b : List Nat), (∀ n ∈ a, P n) → (∀ n ∈ b, P n) → a.flatMap E = b.flatMap E → a = b
  | [], [], _, _, _ => rfl
  | [], y :: b, _, hb, h => by
    rw [List.flatMap_nil, List.flatMap_cons] at h
    exact absurd (List.append_eq_nil_iff.1 h.symm).1 (hne y (hb y (by simp)))
  | x :: a, [], ha, _, h => by
    rw [List.flatMap_nil, List.flatMap_cons] at h
    exact absurd (List.append_eq_nil_iff.1 h).1 (hne x (ha x (by simp)))
  | x :: a, y :: b, ha, hb, h => by
    rw [List.flatMap_cons, List.flatMap_cons] at h
    have h1 := hD x (ha x (by simp)) (a.flatMap E)
    rw [h, hD y (hb y (by simp))] at h1
    injection h1 with e1 e2
    rw [e1, flat_injE E D P hD hne a b (fun n hn => ha n (by simp [hn])) (fun n hn => hb n (by simp [hn])) e2.symm]
theorem flat_inj (a b : List Nat) (ha : ∀ n ∈ a, n < 32768) (hb : ∀ n ∈ b, n < 32768) (h : (a.flatMap fun (n : Nat) => (Utf8.encode (n : Int)).data.toList) = (b.flatMap fun (n : Nat) => (Utf8.encode (n : Int)).data.toList)) : a = b :=
  flat_injE _ decR (· < 32768) (fun n hn r => decR_encode hn r) (fun n hn => encode_ne hn) a b ha hb h
def kyN (l : List Nat) : List Nat := l.flatMap fun n => [n % 32768, n / 32768 % 32768]
theorem kyL_eq (l : List Nat) : kyL l = (kyN l).map fun (n : Nat) => (n : Int) := by
  unfold kyL kyN
  rw [List.map_flatMap]
  rfl
theorem kyN_small (l : List Nat) : ∀ n ∈ kyN l, n < 32768 := by
  intro n hn
  unfold kyN at hn
  rw [List.mem_flatMap] at hn
  obtain ⟨m, _, h⟩ := hn
  simp at h
  omega
theorem kyN_inj : ∀ (a b : List Nat), (∀ n ∈ a, n < 1073741824) → (∀ n ∈ b, n < 1073741824) → kyN a = kyN b → a = b
  | [], [], _, _, _ => rfl
  | [], y :: b, _, _, h => by simp [kyN] at h
  | x :: a, [], _, _, h => by simp [kyN] at h
  | x :: a, y :: b, ha, hb, h => by
    have h1 := ha x (by simp)
    have h2 := hb y (by simp)
    have e : kyN (x :: a) = x % 32768 :: (x / 32768 % 32768) :: kyN a := rfl
    have e' : kyN (y :: b) = y % 32768 :: (y / 32768 % 32768) :: kyN b := rfl
    rw [e, e'] at h
    injection h with h3 h
    injection h with h4 h
    rw [kyN_inj a b (fun n hn => ha n (by simp [hn])) (fun n hn => hb n (by simp [hn])) h]
    obtain rfl : x = y := by omega
    rfl
theorem kyS_inj {a b : List Nat} (ha : ∀ n ∈ a, n < 1073741824) (hb : ∀ n ∈ b, n < 1073741824) (h : kyS a = kyS b) : a = b := by
  refine kyN_inj a b ha hb (flat_inj _ _ (kyN_small a) (kyN_small b) ?_)
  have h1 := congrArg (fun s : ByteArray => s.data.toList) h
  simp only [kyS, runesBytes_toList, kyL_eq, List.flatMap_map] at h1
  exact h1
theorem kyS_size (l : List Nat) : (kyS l).size ≤ 8 * l.length := by
  have h := runesBytes_size_le (kyL l)
  have h2 : ∀ l, (kyL l).length = 2 * l.length := by
    intro l
    induction l with
    | nil => rfl
    | cons x r ih =>
      show (kyL r).length + 1 + 1 = 2 * (r.length + 1)
      omega
  have h3 := h2 l
  unfold kyS
  omega
end Go.Proofs.Ytehadoecnmfeoaa
/- begin: walk. -/
namespace Go.Proofs.Ytehadoecnmfeoaa
open Go.RowKit
set_option linter.unusedVariables false
set_option linter.unusedSimpArgs false
/-- What begin gives back where nothing is wrong. -/
structure BegR (m : Mo) (w w' : World) (F : Fo) (n : Nat) : Prop where
  here : FoAt w' F
  N : F.N = m.opts.length
  base : w.heap.size ≤ F.base
  below : Below w.heap.size w w'
  base2 : F.base ≤ w'.heap.size
  lt : n < F.ks.length
  ev : ∀ v, ev F.ks v n = allF v m.rules
  len : F.ks.length ≤ 2 + 6120 * 2 ^ F.N
  nj : F.nj ≤ 6120 * 2 ^ F.N
theorem BegR.room {m : Mo} {w w' : World} {F : Fo} {n : Nat} (h : BegR m w w' F n) (hN : m.opts.length ≤ 12) {k : Nat} (hk : k ≤ 200000) : Room F k := by
  have h1 := h.len
  have h2 := h.nj
  have h3 : 2 ^ F.N ≤ 2 ^ 12 := Nat.pow_le_pow_right (by omega) (by rw [h.N]; exact hN)
  have h4 := Nat.mul_le_mul (Nat.le_refl 6120) h3
  have h5 := Nat.mul_le_mul hk h3
  unfold Room
  omega
set_option maxRecDepth 100000 in
theorem begin_ok (m : Mo) (l : List (List Int)) (ov rv lv : Value) (w : World) (hs : SizedM m) (hl : Sized l) (h : MoAt w w.heap.size ov rv m) (hf : Forms w w.heap.size lv l) (he : m.errF l = 0) (hN : m.opts.length ≤ 12) :
    Calls Try.prog 41 #[.agg #[ov, rv], lv] w fun e w' => ∃ F n, e = .returned (.tuple #[.pointer (some ⟨F.p, 0, none⟩), .int .i64 (n : Nat), .int .i64 0]) ∧ BegR m w w' F n := by
  obtain ⟨A, cap, hov⟩ := Sl.form h.o
  obtain ⟨Ar, capr, hrv⟩ := h.r.form
  obtain ⟨Al, capl, hlv⟩ := hf.form
  have H := hide h
  have HF := hide hf
  have hok := Mo.ok (Mo.okF he).1
  subst hov hrv hlv
  clear h hf
  go_enter Try.func41, Try.ntmps41
  go_upto_region 1 with (fail)
  generalize hw0 : World.alloc _ _ = w0
  obtain ⟨hb0, hB0, hs0⟩ := alloc1 hw0
  clear hw0
  have c0 := cellOf hb0 0
  have c1 := cellOf hb0 1
  have HX0 : Hid (MoBox w0 w.heap.size (.slice A m.opts.length cap) (.slice Ar m.rules.length capr)) := hb0
  have HB0 := hide hB0
  have hck := check_any m l (.slice A m.opts.length cap) (.slice Ar m.rules.length capr) (.slice Al l.length capl) w0 hs hl (H.out.up hB0) (HF.out.up hB0)
  rw [he] at hck
  have HCK := hide hck
  have HOK := hide hok
  clear hb0 hB0 hs0 hck he hok
  go_wp2_with (first | (go_at_call 88; refine HCK.out.mono ?_; rintro e w1 ⟨rfl, hB1⟩; have hbx := box_to HX0.out hB1; have d0 := cellOf hbx 0; have d1 := cellOf hbx 1; have HB1 : Hid (Below w.heap.size w w1) := Below.to HB0.out hB1 (Nat.le_refl _); have HX1 : Hid (MoBox w1 w.heap.size (.slice A m.opts.length cap) (.slice Ar m.rules.length capr)) := hbx; clear hbx hB1 c0 c1) | (go_at_call 89; refine (newForest_any m.opts.length (by omega) _).mono ?_; rintro e w2 ⟨rfl, hF2, hB2⟩; have hbx := box_to HX1.out hB2; have x0 := cellOf hbx 0; have x1 := cellOf hbx 1; have HB2 : Hid (Below w.heap.size w w2) := Below.to HB1.out hB2 (Nat.le_refl _); have HF2 := hide hF2; have HS2 : Hid (w1.heap.size ≤ w2.heap.size) := hB2.size; clear hbx hB2 hF2 d0 d1))
  have hp : 2 ^ m.opts.length ≤ 2 ^ 12 := Nat.pow_le_pow_right (by omega) hN
  have hrl : 102 * m.rules.length ≤ 6120 := by have := HOK.out.2.1; omega
  have hmu := Nat.mul_le_mul hrl hp
  have hmu2 : 102 * m.rules.length * 2 ^ m.opts.length ≤ 6120 * 2 ^ m.opts.length := Nat.mul_le_mul_right _ hrl
  have hs1 := HB1.out.size
  have hs2 := HS2.out
  have hal := all_any (newFo w1.heap.size m.opts.length) m.rules (.slice Ar m.rules.length capr) w2 HF2.out hs2 HOK.out.2.2.2 ((H.out.r.below HB2.out).more hs1) (by have := HOK.out.2.1; omega) ⟨by show 2 + 102 * m.rules.length * 2 ^ m.opts.length ≤ _; omega, by show 0 + 102 * m.rules.length * 2 ^ m.opts.length ≤ _; omega⟩
  have HAL : Hid (Calls Try.prog 80 #[.pointer (some ⟨w1.heap.size + 3, 0, none⟩), .slice Ar m.rules.length capr] w2 _) := hal
  have HMU : Hid (102 * m.rules.length * 2 ^ m.opts.length ≤ 6120 * 2 ^ m.opts.length) := hmu2
  clear hp hrl hmu hmu2 hs1 hs2 hal
  refine HAL.out.mono ?_
  rintro e w3 ⟨n, F3, rfl, r1, r2, r3⟩
  have R1 := hide r1
  have R3 := hide r3
  clear r1 r3
  go_wp2_with fail
  go_ret3
  refine ⟨F3, n, ?_, ?_⟩
  · rw [R1.out.st.p]; rfl
  · have hb3 := R1.out.st.below HF2.out HS2.out
    refine ⟨R1.out.st.here, R1.out.st.N, by rw [R1.out.st.ba]; exact HB1.out.size, ?_, ?_, r2, R3.out, ?_, ?_⟩
    · exact ⟨hb3.os.trans HB2.out.os, hb3.tape.trans HB2.out.tape, hb3.output.trans HB2.out.output, Nat.le_trans HB2.out.size hb3.size, fun k hk => (hb3.block k (Nat.lt_of_lt_of_le hk HB1.out.size)).trans (HB2.out.block k hk)⟩
    · rw [R1.out.st.ba]; exact Nat.le_trans HS2.out hb3.size
    · have h1 := R1.out.len
      have h2 := HMU.out
      rw [R1.out.st.N]
      show _ ≤ 2 + 6120 * 2 ^ m.opts.length
      replace h1 : F3.ks.length ≤ 2 + 102 * m.rules.length * 2 ^ m.opts.length := h1
      omega
    · have h1 := R1.out.nj
      have h2 := HMU.out
      rw [R1.out.st.N]
      show _ ≤ 6120 * 2 ^ m.opts.length
      replace h1 : F3.nj ≤ 0 + 102 * m.rules.length * 2 ^ m.opts.length := h1
      omega
end Go.Proofs.Ytehadoecnmfeoaa

/- Part 18 of this claim's texts: walks and plain laws. -/
import Derived.Test.YtehadoecnmfeoaaGreatRows
import Derived.Test.YtehadoecnmfeoaaGreatGBS17
import Derived.WalkLawsBesides
import Derived.WalkSpells
import Derived.Deep.QuietTactic
import Derived.Test.YtehadoecnmfeoaaGreatGBS15
import Derived.Lib.SliceRun
import Derived.Deep.DeepMust
import Derived.Deep.RegionHeld3
import Derived.Deep.DrawnRows
import Derived.Test.YtehadoecnmfeoaaGreatGBS14
import Derived.Test.YtehadoecnmfeoaaGreatGBS8
set_option linter.unusedVariables false
set_option linter.unusedSimpArgs false
set_option linter.unusedSectionVars false
namespace Go.Proofs.YtehadoecnmfeoaaGreat
open Go.RowKit
def LoA (w : World) (B : Nat) (A0 A1 A2 A3 A4 A5 : Option Addr) (q0 q1 q2 q3 q4 q5 : Nat) (l : Lo) : Prop := LoAt w B (.slice A0 l.m.opts.length q0) (.slice A1 l.m.rules.length q1) (.slice A2 l.ss.length q2) (.slice A3 l.us.length q3) (.slice A4 l.ps.length q4) (.slice A5 l.ws.length q5) l
def LoBox (w : World) (b : Nat) (A0 A1 A2 A3 A4 A5 : Option Addr) (q0 q1 q2 q3 q4 q5 : Nat) (l : Lo) : Prop := w.heap[b]? = some (.cells #[.slice A0 l.m.opts.length q0, .slice A1 l.m.rules.length q1, .slice A2 l.ss.length q2, .slice A3 l.us.length q3, .slice A4 l.ps.length q4, .slice A5 l.ws.length q5] 31 (0, 0))
theorem LoAt.form {w : World} {B : Nat} {ov rv sv uv pv wv : Value} {l : Lo} (h : LoAt w B ov rv sv uv pv wv l) : ∃ (A0 A1 A2 A3 A4 A5 : Option Addr) (q0 q1 q2 q3 q4 q5 : Nat), ov = .slice A0 l.m.opts.length q0 ∧ rv = .slice A1 l.m.rules.length q1 ∧ sv = .slice A2 l.ss.length q2 ∧ uv = .slice A3 l.us.length q3 ∧ pv = .slice A4 l.ps.length q4 ∧ wv = .slice A5 l.ws.length q5 ∧ LoA w B A0 A1 A2 A3 A4 A5 q0 q1 q2 q3 q4 q5 l := by
 obtain ⟨A0, q0, rfl⟩ := Sl.form h.m.o
 obtain ⟨A1, q1, rfl⟩ := h.m.r.form
 obtain ⟨A2, q2, rfl⟩ := Sl.form h.s
 obtain ⟨A3, q3, rfl⟩ := Sl.form h.u
 obtain ⟨A4, q4, rfl⟩ := Sl.form h.p
 obtain ⟨fv, hw, hf⟩ := h.w
 obtain ⟨A5, q5, rfl⟩ := Sl.form hw
 exact ⟨A0, A1, A2, A3, A4, A5, q0, q1, q2, q3, q4, q5, rfl, rfl, rfl, rfl, rfl, rfl, ⟨h.m, h.s, h.u, h.p, ⟨fv, hw, hf⟩⟩⟩
theorem Wis.below {w w' : World} {B : Nat} {v : Value} {l : List Wi} (h : Wis w B v l) (hb : Below B w w') : Wis w' B v l := by
 obtain ⟨fv, h1, h2⟩ := h
 exact ⟨fv, Sl.below h1 hb, fun i hi => Sl.below (h2 i hi) hb⟩
theorem Wis.more {w : World} {B B' : Nat} {v : Value} {l : List Wi} (h : Wis w B v l) (hB : B ≤ B') : Wis w B' v l := by
 obtain ⟨fv, h1, h2⟩ := h
 exact ⟨fv, Sl.more h1 hB, fun i hi => Sl.more (h2 i hi) hB⟩
section
variable {w w' : World} {B B' : Nat} {A0 A1 A2 A3 A4 A5 : Option Addr} {q0 q1 q2 q3 q4 q5 : Nat} {l : Lo}
theorem LoA.below (h : LoA w B A0 A1 A2 A3 A4 A5 q0 q1 q2 q3 q4 q5 l) (hb : Below B w w') : LoA w' B A0 A1 A2 A3 A4 A5 q0 q1 q2 q3 q4 q5 l := ⟨h.m.below hb, Sl.below h.s hb, Sl.below h.u hb, Sl.below h.p hb, h.w.below hb⟩
theorem LoA.more (h : LoA w B A0 A1 A2 A3 A4 A5 q0 q1 q2 q3 q4 q5 l) (hB : B ≤ B') : LoA w B' A0 A1 A2 A3 A4 A5 q0 q1 q2 q3 q4 q5 l := ⟨h.m.more hB, Sl.more h.s hB, Sl.more h.u hB, Sl.more h.p hB, h.w.more hB⟩
theorem LoA.up (h : LoA w w.heap.size A0 A1 A2 A3 A4 A5 q0 q1 q2 q3 q4 q5 l) (hb : Below w.heap.size w w') : LoA w' w'.heap.size A0 A1 A2 A3 A4 A5 q0 q1 q2 q3 q4 q5 l := (h.below hb).more hb.size
theorem sl_at {sz n : Nat} {A : Option Addr} {m q : Nat} {f : Nat → Nat → Value} (h : Sl w B sz (.slice A m q) n f) {k : Nat} (hk : k < n) : m = n ∧ m ≤ q ∧ ∃ b off, A = some ⟨b, off, none⟩ ∧ b < B ∧ ∀ j, j < sz → w.cell? ⟨b, off + (k * sz + j), none⟩ = some (f k j) := by
 obtain ⟨A', b, off, cap, h1, h2, h3, h4⟩ := h
 injection h1 with e1 e2 e3
 subst e1 e2 e3
 rcases h3 with ⟨h3, h5⟩ | h3
 ·
  exact ⟨rfl, h2, b, off, h3, h5, fun j hj => h4 k j hk hj⟩
 ·
  omega
theorem LoA.sp (h : LoA w B A0 A1 A2 A3 A4 A5 q0 q1 q2 q3 q4 q5 l) {k : Nat} (hk : k < l.ss.length) : ∃ b off x, Hid (l.ss.getD k Sp.o = x) ∧ A2 = some ⟨b, off, none⟩ ∧ b < B ∧ l.ss.length ≤ q2 ∧
  w.cell? ⟨b, off + k * 3, none⟩ = some (.int .i64 x.x) ∧ w.cell? ⟨b, off + k * 3 + 1, none⟩ = some (.int .i64 x.y) ∧ w.cell? ⟨b, off + k * 3 + 2, none⟩ = some (.int .i64 x.z) := by
 obtain ⟨_, h2, b, off, h3, h4, h5⟩ := sl_at h.s hk
 exact ⟨b, off, _, rfl, h3, h4, h2, h5 0 (by omega), h5 1 (by omega), h5 2 (by omega)⟩
theorem LoA.ru (h : LoA w B A0 A1 A2 A3 A4 A5 q0 q1 q2 q3 q4 q5 l) {k : Nat} (hk : k < l.us.length) : ∃ b off x, Hid (l.us.getD k Ru.o = x) ∧ A3 = some ⟨b, off, none⟩ ∧ b < B ∧ l.us.length ≤ q3 ∧
  w.cell? ⟨b, off + k * 4, none⟩ = some (.int .i64 x.a) ∧ w.cell? ⟨b, off + k * 4 + 1, none⟩ = some (.int .i64 x.b) ∧ w.cell? ⟨b, off + k * 4 + 2, none⟩ = some (.int .i64 x.len) ∧ w.cell? ⟨b, off + k * 4 + 3, none⟩ = some (.int .i64 x.room) := by
 obtain ⟨_, h2, b, off, h3, h4, h5⟩ := sl_at h.u hk
 exact ⟨b, off, _, rfl, h3, h4, h2, h5 0 (by omega), h5 1 (by omega), h5 2 (by omega), h5 3 (by omega)⟩
theorem LoA.pl (h : LoA w B A0 A1 A2 A3 A4 A5 q0 q1 q2 q3 q4 q5 l) {k : Nat} (hk : k < l.ps.length) : ∃ b off x, Hid (l.ps.getD k Pl.o = x) ∧ A4 = some ⟨b, off, none⟩ ∧ b < B ∧ l.ps.length ≤ q4 ∧
  w.cell? ⟨b, off + k * 3, none⟩ = some (.string x.name) ∧ w.cell? ⟨b, off + k * 3 + 1, none⟩ = some (.int .i64 x.spot) ∧ w.cell? ⟨b, off + k * 3 + 2, none⟩ = some (.int .i64 x.cav) := by
 obtain ⟨_, h2, b, off, h3, h4, h5⟩ := sl_at h.p hk
 exact ⟨b, off, _, rfl, h3, h4, h2, h5 0 (by omega), h5 1 (by omega), h5 2 (by omega)⟩
theorem LoA.wi (h : LoA w B A0 A1 A2 A3 A4 A5 q0 q1 q2 q3 q4 q5 l) {k : Nat} (hk : k < l.ws.length) : ∃ b off x Af qf, Hid (l.ws.getD k Wi.o = x) ∧ A5 = some ⟨b, off, none⟩ ∧ b < B ∧ l.ws.length ≤ q5 ∧ Hid (Ints w B (.slice Af x.form.length qf) x.form) ∧
  w.cell? ⟨b, off + k * 7, none⟩ = some (.string x.name) ∧ w.cell? ⟨b, off + k * 7 + 1, none⟩ = some (.int .i64 x.fp) ∧ w.cell? ⟨b, off + k * 7 + 2, none⟩ = some (.int .i64 x.fc) ∧ w.cell? ⟨b, off + k * 7 + 3, none⟩ = some (.int .i64 x.tp) ∧
  w.cell? ⟨b, off + k * 7 + 4, none⟩ = some (.int .i64 x.tc) ∧ w.cell? ⟨b, off + k * 7 + 5, none⟩ = some (.int .i64 x.size) ∧ w.cell? ⟨b, off + k * 7 + 6, none⟩ = some (.slice Af x.form.length qf) := by
 obtain ⟨fv, hs, hf⟩ := h.w
 obtain ⟨_, h2, b, off, h3, h4, h5⟩ := sl_at hs hk
 have h6 := hf k hk
 obtain ⟨Af, qf, e⟩ := Sl.form h6
 rw [e] at h6
 have h7 := h5 6 (by omega)
 rw [show wiC (l.ws.getD k Wi.o) (fv k) 6 = fv k from rfl, e] at h7
 exact ⟨b, off, _, Af, qf, rfl, h3, h4, h2, h6, h5 0 (by omega), h5 1 (by omega), h5 2 (by omega), h5 3 (by omega), h5 4 (by omega), h5 5 (by omega), h7⟩
end
theorem btw_t {n lo hi : Int} (h1 : lo ≤ n) (h2 : n ≤ hi) : btw n lo hi = true := by simp [btw, h1, h2]
theorem btw_f {n lo hi : Int} (h : n < lo ∨ hi < n) : btw n lo hi = false := by simp [btw]; omega
set_option maxRecDepth 100000 in
theorem within_any (n lo hi : Int) (w : World) : Calls Tryz.prog 106 #[.int .i64 n, .int .i64 lo, .int .i64 hi] w fun e w' => e = .returned (.bool (btw n lo hi)) ∧ w = w' := by
 by_cases h1 : lo ≤ n
 ·
  have hr : btw n lo hi = decide (n ≤ hi) := by simp [btw, h1]
  have HR := hide hr
  clear hr
  go_enter Tryz.func106, Tryz.ntmps106
  go_wp2_with fail
  go_ret
  exact ⟨ret_bool HR.out.symm, rfl⟩
 ·
  have hr : btw n lo hi = false := by simp [btw, h1]
  have HR := hide hr
  clear hr
  go_enter Tryz.func106, Tryz.ntmps106
  go_wp2_with fail
  go_ret
  exact ⟨ret_bool HR.out.symm, rfl⟩
set_option maxRecDepth 100000 in
theorem from_any (n lo hi : Int) (w : World) : Calls Tryz.prog 152 #[.int .i64 n, .int .i64 lo, .int .i64 hi] w fun e w' => e = .returned (.bool (btw n lo hi)) ∧ w = w' := by
 by_cases h1 : lo ≤ n
 ·
  have hr : btw n lo hi = decide (n ≤ hi) := by simp [btw, h1]
  have HR := hide hr
  clear hr
  go_enter Tryz.func152, Tryz.ntmps152
  go_wp2_with fail
  go_ret
  exact ⟨ret_bool HR.out.symm, rfl⟩
 ·
  have hr : btw n lo hi = false := by simp [btw, h1]
  have HR := hide hr
  clear hr
  go_enter Tryz.func152, Tryz.ntmps152
  go_wp2_with fail
  go_ret
  exact ⟨ret_bool HR.out.symm, rfl⟩
def mustE (b : Bool) (c : Int) : Int := if b then 0 else c
set_option maxRecDepth 100000 in
theorem must_any (b : Bool) (c : Int) (w : World) : Calls Tryz.prog 134 #[.bool b, .int .i64 c] w fun e w' => e = .returned (.int .i64 (mustE b c)) ∧ w = w' := by
 cases b with
 | true =>
  go_enter Tryz.func134, Tryz.ntmps134
  go_wp2_with fail
  go_ret
  exact ⟨rfl, rfl⟩
 | false =>
  go_enter Tryz.func134, Tryz.ntmps134
  go_wp2_with fail
  go_ret
  exact ⟨rfl, rfl⟩
theorem lowB_bad {s : ByteArray} {k : Nat} (h : k < s.size) (hn : smN s[k] = false) : lowB s.data.toList = false := by
 have : s.data.toList.all smN = false := by
  rw [← Bool.not_eq_true, List.all_eq_true]
  intro q
  have h1 : k < s.data.size := h
  have := q s.data[k] (by simp)
  rw [show s.data[k] = s[k] from rfl, hn] at this
  cases this
 simp [lowB, this]
theorem lowB_good {s : ByteArray} (hn : ∀ j, j < s.size → smN (s.data.toList.getD j 0) = true) : lowB s.data.toList = btw s.size 1 8 := by
 have h1 : s.data.toList.all smN = true := by
  rw [List.all_eq_true]
  intro x hx
  obtain ⟨i, hi, rfl⟩ := List.mem_iff_getElem.1 hx
  have := hn i (by simpa using hi)
  rwa [List.getD_eq_getElem?_getD, List.getElem?_eq_getElem hi, Option.getD_some] at this
 have hl : s.data.toList.length = s.size := by simp
 unfold lowB btw
 rw [h1, hl, Bool.and_true]
 congr 1
 ·
  exact decide_eq_decide.2 (by omega)
 ·
  exact decide_eq_decide.2 (by omega)
set_option maxRecDepth 100000 in
set_option maxHeartbeats 1000000 in
theorem low_any (s : ByteArray) (w : World) (hs : s.size ≤ maxLen) :
  Calls Tryz.prog 144 #[.string s] w fun e w' => e = .returned (.bool (lowB s.data.toList)) ∧ w = w' := by
 unfold maxLen at hs
 go_enter Tryz.func144, Tryz.ntmps144
 go_wp2
 go_loop [3, 6] (fun _ i => ∃ k : Nat, k ≤ s.size ∧ i = .int .i64 k ∧ Hid (∀ j, j < k → smN (s.data.toList.getD j 0) = true)) (fun _ i => s.size - (intOf i).toNat)
 case atStart => exact ⟨0, Nat.zero_le _, rfl, fun j hj => by omega⟩
 case round =>
  obtain ⟨k, hk, rfl, hall⟩ := hrel
  by_cases hlt : k < s.size
  ·
   have hgd := getD_str s k hlt
   have hyes : smN s[k] = true → Hid (∀ j, j < k + 1 → smN (s.data.toList.getD j 0) = true) := fun h j hj => by
    rcases Nat.lt_or_ge j k with h1 | h1
    ·
     exact hall.out j h1
    ·
     rw [show j = k from by omega, hgd]; exact h
   have hno : smN s[k] = false → lowB s.data.toList = false := fun h => lowB_bad hlt h
   have HY := hide hyes
   have HN := hide hno
   clear hgd hyes hno
   by_cases h1 : (s[k].toNat : Int) < 97
   ·
    have HC := hide (smN_not (.inl h1))
    go_wp2
    go_ret
    exact ⟨ret_bool (HN.out HC.out).symm, rfl⟩
   ·
    by_cases h2 : (122 : Int) < (s[k].toNat : Int)
    ·
     have HC := hide (smN_not (.inr h2))
     go_wp2
     go_ret
     exact ⟨ret_bool (HN.out HC.out).symm, rfl⟩
    ·
     have HC := hide (smN_of (c := s[k]) (by omega) (by omega))
     go_wp2
     go_round
     case rel => exact ⟨k + 1, by omega, by go_num, HY.out HC.out⟩
     case measure => simp [intOf]; omega
  ·
   have : k = s.size := by omega
   subst this
   have hg := lowB_good (s := s) (by simpa using hall.out)
   have HG := hide hg
   clear hg
   go_wp2_with (go_at_call 106; refine (within_any _ _ _ _).mono ?_; rintro e w1 ⟨rfl, rfl⟩)
   go_ret
   exact ⟨ret_bool HG.out.symm, rfl⟩
set_option maxRecDepth 100000 in
set_option maxHeartbeats 1000000 in
theorem rlow_any (s : ByteArray) (w : World) (hs : s.size ≤ maxLen) :
  Calls Tryz.prog 203 #[.string s] w fun e w' => e = .returned (.bool (lowB s.data.toList)) ∧ w = w' := by
 unfold maxLen at hs
 have hl : s.data.toList.length = s.size := by simp
 by_cases h1 : s.size < 1
 ·
  have hf : lowB s.data.toList = false := by unfold lowB; rw [hl]; simp; omega
  have HF := hide hf
  have h2 : (s.size : Int) < 1 := by omega
  clear hf hl h1
  go_enter Tryz.func203, Tryz.ntmps203
  go_wp2
  go_ret
  exact ⟨ret_bool HF.out.symm, rfl⟩
 by_cases h2 : 8 < s.size
 ·
  have hf : lowB s.data.toList = false := by unfold lowB; rw [hl]; simp; omega
  have HF := hide hf
  have h3 : (8 : Int) < (s.size : Int) := by omega
  have h4 : ¬ (s.size : Int) < 1 := by omega
  clear hf hl h1 h2
  go_enter Tryz.func203, Tryz.ntmps203
  go_wp2
  go_ret
  exact ⟨ret_bool HF.out.symm, rfl⟩
 have h3 : ¬ (s.size : Int) < 1 := by omega
 have h4 : ¬ (8 : Int) < (s.size : Int) := by omega
 clear hl
 go_enter Tryz.func203, Tryz.ntmps203
 go_wp2
 go_loop [3] (fun i => ∃ k : Nat, k ≤ s.size ∧ i = .int .i64 k ∧ Hid (∀ j, j < k → smN (s.data.toList.getD j 0) = true)) (fun i => s.size - (intOf i).toNat)
 case atStart => exact ⟨0, Nat.zero_le _, rfl, fun j hj => by omega⟩
 case round =>
  obtain ⟨k, hk, rfl, hall⟩ := hrel
  by_cases hlt : k < s.size
  ·
   have hgd := getD_str s k hlt
   have hyes : smN s[k] = true → Hid (∀ j, j < k + 1 → smN (s.data.toList.getD j 0) = true) := fun h j hj => by
    rcases Nat.lt_or_ge j k with h1 | h1
    ·
     exact hall.out j h1
    ·
     rw [show j = k from by omega, hgd]; exact h
   have hno : smN s[k] = false → lowB s.data.toList = false := fun h => lowB_bad hlt h
   have HY := hide hyes
   have HN := hide hno
   clear hgd hyes hno
   by_cases h1 : (s[k].toNat : Int) < 97
   ·
    have HC := hide (smN_not (.inl h1))
    go_wp2
    go_ret
    exact ⟨ret_bool (HN.out HC.out).symm, rfl⟩
   ·
    by_cases h2 : (122 : Int) < (s[k].toNat : Int)
    ·
     have HC := hide (smN_not (.inr h2))
     go_wp2
     go_ret
     exact ⟨ret_bool (HN.out HC.out).symm, rfl⟩
    ·
     have HC := hide (smN_of (c := s[k]) (by omega) (by omega))
     go_wp2
     go_round
     case rel => exact ⟨k + 1, by omega, by go_num, HY.out HC.out⟩
     case measure => simp [intOf]; omega
  ·
   have : k = s.size := by omega
   subst this
   have hg := lowB_good (s := s) (by simpa using hall.out)
   rw [btw_t (by omega) (by omega)] at hg
   have HG := hide hg
   clear hg
   go_wp2
   go_ret
   exact ⟨ret_bool HG.out.symm, rfl⟩
def cmpI : List Bool → List Bool → Int
 | a :: x, b :: y => if a = b then cmpI x y else if b then -1 else 1
 | _, _ => 0
theorem cmpI_bef : ∀ x y, (cmpI x y < 0 ↔ befB x y = true) ∧ -1 ≤ cmpI x y ∧ cmpI x y ≤ 1
 | [], _ => by simp [cmpI, befB]
 | _ :: _, [] => by simp [cmpI, befB]
 | a :: x, b :: y => by
  have ih := cmpI_bef x y
  unfold cmpI befB
  by_cases h : a = b
  ·
   rw [if_pos h, if_pos h]; exact ih
  ·
   rw [if_neg h, if_neg h]
   cases b <;> simp
theorem cmpI_at : ∀ (x y : List Bool) (k : Nat), k < x.length → k < y.length → (∀ j, j < k → x.getD j false = y.getD j false) → x.getD k false ≠ y.getD k false → cmpI x y = if y.getD k false then -1 else 1
 | [], _, k, h, _, _, _ => by simp at h
 | _ :: _, [], k, _, h, _, _ => by simp at h
 | a :: x, b :: y, 0, _, _, _, h => by
  simp only [List.getD_cons_zero] at h ⊢
  unfold cmpI
  rw [if_neg h]
 | a :: x, b :: y, k + 1, h1, h2, hj, h => by
  have h0 := hj 0 (by omega)
  simp only [List.getD_cons_zero] at h0
  simp only [List.getD_cons_succ] at h ⊢
  unfold cmpI
  rw [if_pos h0]
  exact cmpI_at x y k (by simpa using h1) (by simpa using h2) (fun j hj2 => by have := hj (j + 1) (by omega); simpa using this) h
theorem cmpI_none : ∀ (x y : List Bool), (∀ j, j < x.length → j < y.length → x.getD j false = y.getD j false) → cmpI x y = 0
 | [], _, _ => rfl
 | _ :: _, [], _ => rfl
 | a :: x, b :: y, hj => by
  have h0 := hj 0 (by simp) (by simp)
  simp only [List.getD_cons_zero] at h0
  unfold cmpI
  rw [if_pos h0]
  exact cmpI_none x y fun j h1 h2 => by have := hj (j + 1) (by simpa using h1) (by simpa using h2); simpa using this
set_option maxRecDepth 100000 in
theorem cmp1_any (a b : Bool) (w : World) : Calls Tryz.prog 232 #[.bool a, .bool b] w fun e w' => e = .returned (.int .i64 (if a = b then 0 else if b then -1 else 1)) ∧ w = w' := by
 cases a <;> cases b
 all_goals
  go_enter Tryz.func232, Tryz.ntmps232
  go_wp2_with fail
  go_ret
  exact ⟨rfl, rfl⟩
theorem Bols.at7 {w : World} {B : Nat} {A : Option Addr} {m q : Nat} {S : List Bool} (h : Bols w B (.slice A m q) S) {k : Nat} (hk : k < S.length) : ∃ b off x, Hid (S.getD k false = x) ∧ A = some ⟨b, off, none⟩ ∧ b < B ∧ S.length ≤ q ∧ w.cell? ⟨b, off + k, none⟩ = some (.bool x) := by
 obtain ⟨h1, h2, b, off, h3, h4, h5⟩ := sl_at h hk
 have h6 := h5 0 (by omega)
 rw [Nat.mul_one, Nat.add_zero] at h6
 exact ⟨b, off, _, rfl, h3, h4, by omega, h6⟩
set_option maxRecDepth 100000 in
set_option maxHeartbeats 2000000 in
theorem cmpf_any (x y : List Bool) (Ax Ay : Option Addr) (qx qy : Nat) (w : World) (hl : x.length = y.length) (h40 : x.length ≤ 1000) (hx : Bols w w.heap.size (.slice Ax x.length qx) x) (hy : Bols w w.heap.size (.slice Ay y.length qy) y) :
  Calls Tryz.prog 231 #[.slice Ax x.length qx, .slice Ay y.length qy, .func (.func 232) #[] #[]] w fun e w' => e = .returned (.int .i64 (cmpI x y)) ∧ w = w' := by
 have HX := hide hx
 have HY := hide hy
 obtain ⟨c, hc⟩ : ∃ c, cmpI x y = c := ⟨_, rfl⟩
 rw [hc]
 have HC := hide hc
 have HLL := hide hl
 clear hx hy hc hl
 go_enter Tryz.func231, Tryz.ntmps231
 go_wp2_with fail
 go_loop [7, 8, 9, 10, 13] (fun _ _ _ _ i => ∃ k : Nat, i = .int .i64 k ∧ k ≤ x.length ∧ Hid (∀ j, j < k → x.getD j false = y.getD j false)) (fun _ _ _ _ i => x.length - (intOf i).toNat)
 case atStart => exact ⟨0, rfl, Nat.zero_le _, fun j hj => absurd hj (by omega)⟩
 case round =>
  obtain ⟨k, rfl, hk, HNO⟩ := hrel
  by_cases hkl : k < x.length
  ·
   obtain ⟨bx, ox, a, HA, rfl, hbx, hqx, ex⟩ := HX.out.at7 hkl
   obtain ⟨by1, oy, b, HB, rfl, hby, hqy, ey⟩ := HY.out.at7 (show k < y.length by have := HLL.out; omega)
   have i0 : (0 : Int) ≤ (k : Int) := by omega
   have i1 : (k : Int) < (x.length : Int) := by omega
   have i2 : (k : Int) < (y.length : Int) := by have := HLL.out; omega
   have i3 : (x.length : Int) ≤ (qx : Int) := by omega
   have i4 : (y.length : Int) ≤ (qy : Int) := by omega
   have i5 : ¬ (y.length : Int) ≤ (k : Int) := by have := HLL.out; omega
   clear hqx hqy
   by_cases hab : a = b
   ·
    subst hab
    have hz : (if a = a then (0 : Int) else if a then -1 else 1) = 0 := by rw [if_pos rfl]
    have HZ := hide hz
    clear hz
    go_wp2_with (go_at_call 232; refine (cmp1_any _ _ _).mono ?_; rw [HZ.out]; rintro e w1 ⟨rfl, rfl⟩)
    go_round
    case rel => exact ⟨k + 1, by go_num, by omega, fun j hj => by
      rcases Nat.lt_or_ge j k with h1 | h1
      ·
       exact HNO.out j h1
      ·
       rw [show j = k by omega, HA.out, HB.out]⟩
    case measure => simp [intOf]; omega
   ·
    obtain ⟨z, hz⟩ : ∃ z, (if a = b then (0 : Int) else if b then -1 else 1) = z := ⟨_, rfl⟩
    have hcz : c = z := by
     rw [← HC.out, cmpI_at x y k hkl (by have := HLL.out; omega) HNO.out (by rw [HA.out, HB.out]; exact hab), HB.out, ← hz, if_neg hab]
    have hz0 : (z != 0) = true := by
     rw [← hz, if_neg hab]
     cases b <;> simp
    subst hcz
    have HZ := hide hz
    clear hz
    go_wp2_with (go_at_call 232; refine (cmp1_any _ _ _).mono ?_; rw [HZ.out]; rintro e w1 ⟨rfl, rfl⟩)
    go_ret
    exact ⟨rfl, rfl⟩
  ·
   have hc0 : c = 0 := by
    rw [← HC.out]
    exact cmpI_none x y fun j h1 h2 => HNO.out j (by have := HLL.out; omega)
   subst hc0
   have i1 : ¬ (k : Int) < (x.length : Int) := by omega
   have i2 : ¬ (x.length : Int) < (y.length : Int) := by have := HLL.out; omega
   go_wp2_with fail
   go_ret
   exact ⟨rfl, rfl⟩
set_option maxRecDepth 100000 in
theorem compare_any (x y : List Bool) (Ax Ay : Option Addr) (qx qy : Nat) (w : World) (hl : x.length = y.length) (h40 : x.length ≤ 1000) (hx : Bols w w.heap.size (.slice Ax x.length qx) x) (hy : Bols w w.heap.size (.slice Ay y.length qy) y) :
  Calls Tryz.prog 172 #[.slice Ax x.length qx, .slice Ay y.length qy] w fun e w' => e = .returned (.int .i64 (cmpI x y)) ∧ w = w' := by
 have hcf := cmpf_any x y Ax Ay qx qy w hl h40 hx hy
 obtain ⟨c, hc⟩ : ∃ c, cmpI x y = c := ⟨_, rfl⟩
 rw [hc] at hcf ⊢
 have HCF := hide hcf
 clear hcf hc hx hy hl
 go_enter Tryz.func172, Tryz.ntmps172
 go_wp2_with (go_at_call 231; refine HCF.out.mono ?_; rintro e w1 ⟨rfl, rfl⟩)
 go_ret
 exact ⟨rfl, rfl⟩
end Go.Proofs.YtehadoecnmfeoaaGreat
namespace Go.Proofs.YtehadoecnmfeoaaGreat
def endF (l : Lo) (i : Nat) : Nat := (l.ps.getD (l.ws.getD i Wi.o).fp.toNat Pl.o).spot.toNat
def endT (l : Lo) (i : Nat) : Nat := (l.ps.getD (l.ws.getD i Wi.o).tp.toNat Pl.o).spot.toNat
def sideL (l : Lo) (run : Nat) : List Nat := stR l.rs run (l.rs.getD run (0, 0)).1 l.ss.length
def thruB (l : Lo) (run i : Nat) : Bool := decide (endF l i ∈ sideL l run) != decide (endT l i ∈ sideL l run)
def thruL (l : Lo) (run : Nat) : List Nat := (List.range l.ws.length).filter (thruB l run)
def runLen (l : Lo) (k : Nat) : Int := (l.us.getD k Ru.o).len
section
variable {l : Lo} (h : LoOk l)
include h
theorem LoOk.wi {i : Nat} (hi : i < l.ws.length) : wiOk l i = true ∧ validF l.m.opts.length (l.ws.getD i Wi.o).form = true := by
 have h1 := h.ws i hi
 unfold wiErr at h1
 by_cases h2 : wiOk l i = false
 ·
  rw [if_pos h2] at h1; omega
 ·
  rw [if_neg h2] at h1
  by_cases h3 : validF l.m.opts.length (l.ws.getD i Wi.o).form = false
  ·
   rw [if_pos h3] at h1; omega
  ·
   exact ⟨by simpa using h2, by simpa using h3⟩
theorem LoOk.pin {p c : Int} (hp : pinOk l p c = true) : 0 ≤ p ∧ p.toNat < l.ps.length ∧ 0 ≤ (l.ps.getD p.toNat Pl.o).spot ∧ (l.ps.getD p.toNat Pl.o).spot.toNat < l.ss.length := by
 unfold pinOk at hp
 simp only [Bool.and_eq_true, btw_iff] at hp
 obtain ⟨⟨h1, h2⟩, _⟩ := hp
 have h3 := h.ps p.toNat (by omega)
 unfold plOk at h3
 simp only [Bool.and_eq_true, btw_iff] at h3
 obtain ⟨⟨_, h4, h5⟩, _⟩ := h3
 exact ⟨h1, by omega, h4, by omega⟩
theorem LoOk.len {k : Nat} (hk : k < l.us.length) : 1 ≤ runLen l k ∧ runLen l k ≤ 1000000 := by
 have h1 := h.us (l.us.getD k Ru.o) (by rw [List.getD_eq_getElem?_getD, List.getElem?_eq_getElem hk]; exact List.getElem_mem hk)
 unfold Ru.ok at h1
 simp only [Bool.and_eq_true, btw_iff] at h1
 obtain ⟨⟨⟨_, h2⟩, _⟩, _⟩ := h1
 exact h2
end
def wireOk (n : Nat) (ws : List Int) (k : Nat) : Bool := btw (ws.getD k 0) 0 ((n : Int) - 1) && (decide (k = 0) || decide (ws.getD (k - 1) 0 < ws.getD k 0))
def wiresB (n : Nat) (ws : List Int) : Bool := (List.range ws.length).all (wireOk n ws)
def rightB (l : Lo) (d : Md) : Bool := wiresB l.ws.length d.ws && validF l.m.opts.length d.f
def bldE (l : Lo) (ms : List Md) : Int := if l.err ≠ 0 then l.err else if (decide (60 < ms.length) || !ms.all (rightB l)) = true then 120 else 0
structure BldOkM (l : Lo) (ms : List Md) : Prop where
 lo : LoOk l
 err : l.err = 0
 n : ms.length ≤ 60
 ok : ∀ d ∈ ms, rightB l d = true
theorem bldE_ok {l : Lo} {ms : List Md} (h : bldE l ms = 0) : BldOkM l ms := by
 unfold bldE at h
 by_cases h1 : l.err = 0
 ·
  rw [if_neg (by simp [h1])] at h
  by_cases h2 : (decide (60 < ms.length) || !ms.all (rightB l)) = true
  ·
   rw [if_pos h2] at h; omega
  ·
   simp only [Bool.or_eq_true, decide_eq_true_eq, Bool.not_eq_true', not_or, Bool.not_eq_false] at h2
   exact ⟨Lo.err_ok h1, h1, by omega, List.all_eq_true.1 h2.2⟩
 ·
  rw [if_pos h1] at h
  exact absurd h h1
theorem bldE_err {l : Lo} {ms : List Md} (h : l.err ≠ 0) : bldE l ms = l.err := by unfold bldE; rw [if_pos h]
def occ (d : Md) (w : Nat) : Nat := (d.ws.filter fun x => x == (w : Int)).length
def pckB (x : List Bool) (d : Md) : Bool := evF1 (vf x) d.f
def manyN (ms : List Md) (x : List Bool) (w : Nat) : Nat := ((ms.filter (pckB x)).map fun d => occ d w).sum
def audK (m : Mo) (f : List Int) (fs : List (List Int)) : Nat → Option (Nat × List Bool)
 | 0 => none
 | k + 1 => match audK m f fs k with
  | some r => some r
  | none => (frstV m f fs (k + 1)).map fun x => (k + 1, x)
def audN (l : Lo) (ms : List Md) : Nat → Option (Nat × Nat × List Bool)
 | 0 => none
 | n + 1 => match audN l ms n with
  | some r => some r
  | none => (audK l.m (l.ws.getD n Wi.o).form (withL ms n) 3).map fun r => (n, r.1, r.2)
def audA (l : Lo) (ms : List Md) : Option (Nat × Nat × List Bool) := if bldE l ms = 0 then audN l ms l.ws.length else none
theorem audN_stays {l : Lo} {ms : List Md} {k n : Nat} {r : Nat × Nat × List Bool} (h : audN l ms k = some r) (hn : k ≤ n) : audN l ms n = some r := by
 induction n with
 | zero => rw [show k = 0 by omega] at h; exact h
 | succ n ih =>
  rcases Nat.lt_or_ge k (n + 1) with h1 | h1
  ·
   show (match audN l ms n with | some r => some r | none => _) = _
   rw [ih (by omega)]
  ·
   rw [show k = n + 1 by omega] at h; exact h
theorem audN_next {l : Lo} {ms : List Md} {k : Nat} (h : audN l ms k = none) : audN l ms (k + 1) = (audK l.m (l.ws.getD k Wi.o).form (withL ms k) 3).map fun r => (k, r.1, r.2) := by
 show (match audN l ms k with | some r => some r | none => _) = _
 rw [h]
theorem audK_stays {m : Mo} {f : List Int} {fs : List (List Int)} {k n : Nat} {r : Nat × List Bool} (h : audK m f fs k = some r) (hn : k ≤ n) : audK m f fs n = some r := by
 induction n with
 | zero => rw [show k = 0 by omega] at h; exact h
 | succ n ih =>
  rcases Nat.lt_or_ge k (n + 1) with h1 | h1
  ·
   show (match audK m f fs n with | some r => some r | none => _) = _
   rw [ih (by omega)]
  ·
   rw [show k = n + 1 by omega] at h; exact h
theorem audK_next {m : Mo} {f : List Int} {fs : List (List Int)} {k : Nat} (h : audK m f fs k = none) : audK m f fs (k + 1) = (frstV m f fs (k + 1)).map fun x => (k + 1, x) := by
 show (match audK m f fs k with | some r => some r | none => _) = _
 rw [h]
theorem audN_none {l : Lo} {ms : List Md} (h : allM l.m = []) : ∀ n, audN l ms n = none
 | 0 => rfl
 | n + 1 => by
  have hf : ∀ f fs k, frstV l.m f fs k = none := fun f fs k => by unfold frstV; rw [h]; rfl
  have hk : ∀ f fs k, audK l.m f fs k = none := by
   intro f fs k
   induction k with
   | zero => rfl
   | succ k ih => rw [audK_next ih, hf]; rfl
  rw [audN_next (audN_none h n), hk]
  rfl
end Go.Proofs.YtehadoecnmfeoaaGreat
namespace Go.Proofs.YtehadoecnmfeoaaGreat
open Go.Joins Go.ChangeShapes Go.WideShapes Go.ChangeAt Go.RowKit Go.Deep
set_option maxRecDepth 100000
def mdC (fv gv : Value) (j : Nat) : Value :=
 match j with
 | 0 => fv
 | _ => gv
def Mods (w : World) (B : Nat) (v : Value) (l : List Md) : Prop := ∃ fv gv : Nat → Value, Sl w B 2 v l.length (fun i j => mdC (fv i) (gv i) j) ∧ ∀ i, i < l.length → Ints w B (fv i) (l.getD i Md.o).f ∧ Ints w B (gv i) (l.getD i Md.o).ws
structure SizedD (l : List Md) : Prop where
 n : l.length ≤ maxLen
 f : ∀ x ∈ l, x.f.length ≤ maxLen ∧ x.ws.length ≤ maxLen
section
variable {w w' : World} {B B' : Nat} {v : Value} {l : List Md}
theorem Mods.below (h : Mods w B v l) (hb : Below B w w') : Mods w' B v l := by
 obtain ⟨fv, gv, h1, h2⟩ := h
 exact ⟨fv, gv, Sl.below h1 hb, fun i hi => ⟨(h2 i hi).1.below hb, (h2 i hi).2.below hb⟩⟩
theorem Mods.more (h : Mods w B v l) (hB : B ≤ B') : Mods w B' v l := by
 obtain ⟨fv, gv, h1, h2⟩ := h
 exact ⟨fv, gv, Sl.more h1 hB, fun i hi => ⟨(h2 i hi).1.more hB, (h2 i hi).2.more hB⟩⟩
theorem Mods.up (h : Mods w w.heap.size v l) (hb : Below w.heap.size w w') : Mods w' w'.heap.size v l := (h.below hb).more hb.size
theorem Mods.form (h : Mods w B v l) : ∃ A q, v = .slice A l.length q := by
 obtain ⟨fv, gv, h1, _⟩ := h
 exact Sl.form h1
theorem Mods.nil (w : World) (B : Nat) : Mods w B (.slice none 0 0) [] := ⟨fun _ => undef, fun _ => undef, Sl.nil _ _ _ _, fun i hi => absurd hi (by simp)⟩
theorem Mods.at {A : Option Addr} {n q : Nat} (h : Mods w B (.slice A n q) l) {k : Nat} (hk : k < l.length) : ∃ b off d Af qf Aw qw, Hid (l.getD k Md.o = d) ∧ A = some ⟨b, off, none⟩ ∧ b < B ∧ l.length ≤ q ∧ Hid (Ints w B (.slice Af d.f.length qf) d.f) ∧ Hid (Ints w B (.slice Aw d.ws.length qw) d.ws) ∧
  w.cell? ⟨b, off + k * 2, none⟩ = some (.slice Af d.f.length qf) ∧ w.cell? ⟨b, off + k * 2 + 1, none⟩ = some (.slice Aw d.ws.length qw) := by
 obtain ⟨fv, gv, hs, hf⟩ := h
 obtain ⟨h1, h2, b, off, h3, h4, h5⟩ := sl_at hs hk
 obtain ⟨h6, h7⟩ := hf k hk
 obtain ⟨Af, qf, e⟩ := Sl.form h6
 obtain ⟨Aw, qw, e2⟩ := Sl.form h7
 rw [e] at h6
 rw [e2] at h7
 have c0 := h5 0 (by omega)
 have c1 := h5 1 (by omega)
 rw [show mdC (fv k) (gv k) 0 = fv k from rfl, e] at c0
 rw [show mdC (fv k) (gv k) 1 = gv k from rfl, e2] at c1
 exact ⟨b, off, _, Af, qf, Aw, qw, rfl, h3, h4, by omega, h6, h7, c0, c1⟩
end
section
variable {H : Type} {enc : TypeId × Value → H} {W : World} {base b0 : Nat} {r : Reach} {spare : Nat → Bool} {held : Bool} {v : Value} {d : DataW H} {p : List MemPlace}
end
end Go.Proofs.YtehadoecnmfeoaaGreat
namespace Go.Proofs.YtehadoecnmfeoaaGreat
open Go.RowKit
set_option maxRecDepth 100000 in
theorem indexN_any (ns : List Nat) (s : Nat) (v : Value) (B : Nat) (w : World) (hm : ns.length ≤ maxLen) (h : Nods w B v ns) :
  Calls Tryz.prog 194 #[v, .int .i64 s] w fun e w' => e = .returned (.int .i64 (idxI (fun x => x == s) ns)) ∧ w = w' := by
 unfold maxLen at hm
 obtain ⟨A, b, off, cap, rfl, hnc, hA, hc⟩ := h
 have HC := hide hc
 have HA := hide hA
 clear hc hA
 go_enter Tryz.func194, Tryz.ntmps194
 go_wp2
 go_loop [8] (fun i => ∃ k : Nat, k ≤ ns.length ∧ i = .int .i64 k ∧ Hid (∀ j, j < k → (ns.getD j 0 == s) = false)) (fun i => ns.length - (intOf i).toNat)
 case atStart => exact ⟨0, Nat.zero_le _, rfl, fun j hj => by omega⟩
 case round =>
  obtain ⟨k, hk, rfl, hall⟩ := hrel
  by_cases hlt : k < ns.length
  ·
   obtain ⟨rfl, hbb⟩ : A = some ⟨b, off, none⟩ ∧ b < B := by
    rcases HA.out with h | h
    ·
     exact h
    ·
     omega
   obtain ⟨x, hx⟩ : ∃ x, ns.getD k 0 = x := ⟨_, rfl⟩
   have c0 : w.cell? ⟨b, off + k, none⟩ = some (.int .i64 x) := by
    have h1 := HC.out k 0 hlt (by omega)
    rw [Nat.mul_one, Nat.add_zero, hx] at h1
    exact h1
   have HX := hide hx
   clear hx
   by_cases he : x = s
   ·
    have he1 : ((s : Int) == (x : Int)) = true := by simp [he]
    have HE := hide he
    clear he
    go_wp2
    go_ret
    exact ⟨ret_int (idxI_at _ 0 ns k hall.out hlt (by rw [HX.out, HE.out]; simp)).symm, rfl⟩
   ·
    have he1 : ((s : Int) == (x : Int)) = false := by simp; omega
    have he2 : ¬ (s : Int) = (x : Int) := by omega
    have HE := hide he
    clear he
    go_wp2
    go_round
    case rel => exact ⟨k + 1, by omega, by go_num, fun j hj => by
      rcases Nat.lt_or_ge j k with h | h
      ·
       exact hall.out j h
      ·
       rw [show j = k from by omega, HX.out]; simpa using HE.out⟩
    case measure => simp [intOf]; omega
  ·
   go_wp2
   go_ret
   exact ⟨ret_int (idxI_none _ 0 ns (fun j hj => hall.out j (by omega))).symm, rfl⟩
set_option maxRecDepth 100000 in
theorem containsN_any (ns : List Nat) (s : Nat) (v : Value) (B : Nat) (w : World) (c : Bool) (hm : ns.length ≤ maxLen) (h : Nods w B v ns) (hc : decide (s ∈ ns) = c) :
  Calls Tryz.prog 123 #[v, .int .i64 s] w fun e w' => e = .returned (.bool c) ∧ w = w' := by
 have he : c = decide (0 ≤ idxI (fun x => x == s) ns) := by
  rw [idxI_any, ← hc, Bool.eq_iff_iff]
  simp
 have HE := hide he
 have H := hide h
 clear he h hc
 go_enter Tryz.func123, Tryz.ntmps123
 go_wp2_with (go_at_call 194; refine (indexN_any ns s v B _ hm H.out).mono ?_; rintro e w1 ⟨rfl, rfl⟩)
 go_ret
 exact ⟨ret_bool HE.out.symm, rfl⟩
theorem ownsNot {w : World} {b1 e1 s1 n1 g t : Nat} {v1 : Value} {x1 : List Value} {C : Array Value} (h1 : w.ownsRow b1 e1 s1 v1 n1 x1) (hg : w.heap[g]? = some (.cells C t (0, 0))) (hne : e1 ≠ t) : v1.ownBlock ≠ some g := by
 intro hb
 obtain ⟨_, ⟨rfl, _⟩ | ⟨g', cap, cur, rfl, _, q1, _⟩⟩ := h1
 ·
  cases hb
 ·
  injection hb with hb
  simp only at hb
  subst hb
  rw [q1] at hg
  injection hg with hg
  injection hg with _ hg
  exact hne hg
structure ReaS (w0 wr : World) (B lb : Nat) (A0 A1 A2 A3 A4 A5 : Option Addr) (q0 q1 q2 q3 q4 q5 : Nat) (l : Lo) (v : Value) (S : List Nat) : Prop where
 below : Below w0.heap.size w0 wr
 box : LoBox wr lb A0 A1 A2 A3 A4 A5 q0 q1 q2 q3 q4 q5 l
 own : wr.ownsRow B 3 1 v S.length (S.map fun (n : Nat) => Value.int .i64 n)
 nd : Nods wr wr.heap.size v S
 lt : w0.heap.size ≤ B ∧ B ≤ wr.heap.size
section
variable {w0 wr w' : World} {B lb : Nat} {A0 A1 A2 A3 A4 A5 : Option Addr} {q0 q1 q2 q3 q4 q5 : Nat} {l : Lo} {v v1 : Value} {S : List Nat} {m : Nat} {o : Obj}
theorem ReaS.mk' (h1 : Below w0.heap.size w0 wr) (h2 : LoBox wr lb A0 A1 A2 A3 A4 A5 q0 q1 q2 q3 q4 q5 l) (h3 : wr.ownsRow B 3 1 v S.length (S.map fun (n : Nat) => Value.int .i64 n)) (h4 : w0.heap.size ≤ B ∧ B ≤ wr.heap.size) : ReaS w0 wr B lb A0 A1 A2 A3 A4 A5 q0 q1 q2 q3 q4 q5 l v S :=
 ⟨h1, h2, h3, Nods.of_own h3, h4⟩
theorem ReaS.to (h : ReaS w0 wr B lb A0 A1 A2 A3 A4 A5 q0 q1 q2 q3 q4 q5 l v S) (hb : Below wr.heap.size wr w') : ReaS w0 w' B lb A0 A1 A2 A3 A4 A5 q0 q1 q2 q3 q4 q5 l v S :=
 ⟨Below.to h.below hb (Nat.le_refl _), box_to h.box hb, owns_below h.own hb, h.nd.up hb, h.lt.1, Nat.le_trans h.lt.2 hb.size⟩
theorem ReaS.push (h : ReaS w0 wr B lb A0 A1 A2 A3 A4 A5 q0 q1 q2 q3 q4 q5 l v S) (hown : w'.ownsRow B 3 1 v1 (S.length + 1) ((S.map fun (n : Nat) => Value.int .i64 n) ++ [.int .i64 (m : Nat)])) (hg : (wr.alloc o).grownBy w' v.ownBlock) : ReaS w0 w' B lb A0 A1 A2 A3 A4 A5 q0 q1 q2 q3 q4 q5 l v1 (S ++ [m]) := by
 have hB : Below wr.heap.size wr (wr.alloc o) := (Below.refl _ _).alloc (Nat.le_refl _) _
 have hlow : ∀ k, v.ownBlock = some k → B ≤ k := fun k hk => (h.own.lt k hk).1
 refine ReaS.mk' ?_ ?_ ?_ ⟨h.lt.1, ?_⟩
 ·
  exact Below.grown (Below.to h.below hB (Nat.le_refl _)) hg (by have := h.below.size; simp; omega) (fun k hk => Nat.le_trans h.lt.1 (hlow k hk))
 ·
  exact (hg.block lb (by have := box_lt h.box; simp; omega) (fun e => ownsNot h.own h.box (by decide) e.symm)).trans (box_to h.box hB)
 ·
  rw [List.length_append, List.length_singleton, List.map_append]; exact hown
 ·
  have := hg.size
  simp at this
  have := h.lt.2
  omega
end
end Go.Proofs.YtehadoecnmfeoaaGreat

/- Part 7 of this claim's texts: walks and plain laws. -/
import Derived.Test.YtmgfijadjclmpaaRows
import Derived.Test.YtmgfijadjclmpaaGTC6
import Derived.Test.YtmgfijadjclmpaaGTC0
/- CheckModel, check: walks. -/
namespace Go.Proofs.Ytmgfijadjclmpaa
open Go.RowKit
set_option linter.unusedVariables false
set_option linter.unusedSimpArgs false
/-- Sizes that memory allows. -/
structure SizedM (m : Mo) : Prop where
  n : m.opts.length ≤ maxLen
  s : ∀ x ∈ m.opts, x.size ≤ maxLen
  r : Sized m.rules
theorem names_get (m : Mo) (k : Nat) : m.names.getD k [] = (m.opts.getD k ByteArray.empty).data.toList := by
  unfold Mo.names
  simp only [List.getD_eq_getElem?_getD, List.getElem?_map]
  cases m.opts[k]? <;> rfl
theorem Mo.err_many {m : Mo} (h : 40 < m.opts.length ∨ 60 < m.rules.length) : m.err = 2 := by unfold Mo.err; rw [if_pos h]
theorem Mo.err_name {m : Mo} (h1 : m.opts.length ≤ 40) (h2 : m.rules.length ≤ 60) (h : namesB [] m.names = false) : m.err = 10 := by unfold Mo.err; rw [if_neg (by omega), if_pos h]
theorem Mo.err_rest {m : Mo} (h1 : m.opts.length ≤ 40) (h2 : m.rules.length ≤ 60) (h : namesB [] m.names = true) : m.err = if m.rules.all (validF m.opts.length) = false then 11 else 0 := by unfold Mo.err; rw [if_neg (by omega), if_neg (by simp [h])]
set_option maxRecDepth 100000 in
set_option maxHeartbeats 2000000 in
theorem CheckModel_any (m : Mo) (ov rv : Value) (w : World) (hs : SizedM m) (h : MoAt w w.heap.size ov rv m) :
    Calls Try.prog 61 #[.agg #[ov, rv]] w fun e w' => e = .returned (.int .i64 m.err) ∧ Below w.heap.size w w' := by
  obtain ⟨A, cap, hov⟩ := Sl.form h.o
  obtain ⟨Ar, capr, hrv⟩ := h.r.form
  by_cases h40 : 40 < m.opts.length
  · have he := Mo.err_many (m := m) (.inl h40)
    have HE := hide he
    have hi : (40 : Int) < (m.opts.length : Int) := by omega
    subst hov hrv
    clear he h40 h
    go_enter Try.func61, Try.ntmps61
    go_wp2_with fail
    go_ret
    exact ⟨ret_int HE.out.symm, (by repeat (first | exact Below.refl _ _ | assumption | refine Below.drew ?_ | refine Below.drewN ?_ _ | refine Below.allocT ?_ (Nat.le_refl _) _ | refine Below.setCell ?_ (by simp <;> omega) _ | refine Below.to ?_ (by assumption) (Nat.le_refl _)))⟩
  by_cases h60 : 60 < m.rules.length
  · have he := Mo.err_many (m := m) (.inr h60)
    have HE := hide he
    have hi : ¬ (40 : Int) < (m.opts.length : Int) := by omega
    have hj : (60 : Int) < (m.rules.length : Int) := by omega
    subst hov hrv
    clear he h40 h60 h
    go_enter Try.func61, Try.ntmps61
    go_wp2_with fail
    go_ret
    exact ⟨ret_int HE.out.symm, (by repeat (first | exact Below.refl _ _ | assumption | refine Below.drew ?_ | refine Below.drewN ?_ _ | refine Below.allocT ?_ (Nat.le_refl _) _ | refine Below.setCell ?_ (by simp <;> omega) _ | refine Below.to ?_ (by assumption) (Nat.le_refl _)))⟩
  have hi : ¬ (40 : Int) < (m.opts.length : Int) := by omega
  have hj : ¬ (60 : Int) < (m.rules.length : Int) := by omega
  have hn := h.o
  subst hov
  obtain ⟨A', b, off, cap', h1, hnc, hA, hc⟩ := hn
  injection h1 with e1 _ e3
  subst e1 e3
  have HC := hide hc
  have HA := hide hA
  have H := hide h
  have HS := hide hs
  have h40' : m.opts.length ≤ 40 := by omega
  have h60' : m.rules.length ≤ 60 := by omega
  have hcn : (m.opts.length : Int) ≤ (cap : Int) := by omega
  subst hrv
  clear hc hA h hs h40 h60
  go_enter Try.func61, Try.ntmps61
  go_wp2_with fail
  generalize hw0 : World.alloc _ _ = w0
  obtain ⟨hb0, hB0, hs0⟩ := alloc1 hw0
  clear hw0
  have HX0 : Hid (MoBox w0 w.heap.size (.slice A m.opts.length cap) (.slice Ar m.rules.length capr)) := hb0
  have HB0 := hide hB0
  have HH0 : Hid (MoAt w0 w0.heap.size (.slice A m.opts.length cap) (.slice Ar m.rules.length capr) m) := H.out.up hB0
  clear hb0 hB0 hs0
  go_loopw [18] (fun i wr => ∃ k : Nat, k ≤ m.opts.length ∧ i = .int .i64 k ∧ Hid (∀ j, j < k → namedB (m.names.getD j []) = true ∧ ([] ++ m.names.take j).contains (m.names.getD j []) = false) ∧ Hid (Below w0.heap.size w0 wr)) (fun i _ => m.opts.length - (intOf i).toNat)
  case atStart => exact ⟨0, Nat.zero_le _, rfl, fun j hj => by omega, Below.refl _ _⟩
  case round =>
    obtain ⟨k, hk, rfl, hall, hB⟩ := hrel
    have hbx := box_to HX0.out hB.out
    have x0 := cellOf hbx 0
    have x1 := cellOf hbx 1
    clear hbx
    by_cases hlt : k < m.opts.length
    · obtain ⟨rfl, hbb⟩ : A = some ⟨b, off, none⟩ ∧ b < w.heap.size := by
        rcases HA.out with h | h
        · exact h
        · omega
      obtain ⟨x, hx⟩ : ∃ x, m.opts.getD k ByteArray.empty = x := ⟨_, rfl⟩
      have hBw := Below.to HB0.out hB.out (Nat.le_refl _)
      have c0 : wr.cell? ⟨b, off + k, none⟩ = some (.string x) := by
        have h1 := HC.out k 0 hlt (by omega)
        rw [Nat.mul_one, Nat.add_zero, hx] at h1
        exact (hBw.cell (p := ⟨b, off + k, none⟩) hbb).trans h1
      have hxs : x.size ≤ maxLen := HS.out.s x (by rw [← hx]; exact getD_mem hlt)
      have hnm : m.names.getD k [] = x.data.toList := by rw [names_get, hx]
      have HNM := hide hnm
      have HBW := hide hBw
      have ik : (k : Int) ≤ (cap : Int) := by omega
      have ik2 : (k : Int) < (m.opts.length : Int) := by omega
      clear hx hnm hBw
      by_cases hnb : namedB x.data.toList = true
      · have hct := containsS_any (m.opts.take k) x (.slice (some ⟨b, off, none⟩) k cap) w.heap.size wr (by unfold maxLen; simp; omega) (Names.take (H.out.o.below HBW.out) (by omega))
        have hmt : (m.opts.take k).map (fun x => x.data.toList) = m.names.take k := by unfold Mo.names; rw [List.map_take]
        rw [hmt] at hct
        have hna := named_any x wr hxs
        rw [hnb] at hna
        have HNA := hide hna
        have HNB := hide hnb
        clear hmt hna hnb
        cases hcc : (m.names.take k).contains x.data.toList with
        | true =>
          rw [hcc] at hct
          have HCT := hide hct
          have hbad : namesB [] m.names = false := namesB_at [] m.names k (by unfold Mo.names; simpa using hlt) hall.out (by rw [HNM.out, HNB.out, List.nil_append, hcc]; rfl)
          have he := Mo.err_name h40' h60' hbad
          have HE := hide he
          clear hcc hct hbad he
          go_wp2_with (first | (go_at_call 65; refine HNA.out.mono ?_; rintro e w1 ⟨rfl, rfl⟩) | (go_at_call 66; refine HCT.out.mono ?_; rintro e w2 ⟨rfl, rfl⟩))
          go_ret
          exact ⟨ret_int HE.out.symm, HBW.out⟩
        | false =>
          rw [hcc] at hct
          have HCT := hide hct
          have HCC := hide hcc
          clear hct hcc
          go_wp2_with (first | (go_at_call 65; refine HNA.out.mono ?_; rintro e w1 ⟨rfl, rfl⟩) | (go_at_call 66; refine HCT.out.mono ?_; rintro e w2 ⟨rfl, rfl⟩))
          go_roundw
          case rel => exact ⟨k + 1, by omega, by go_num, fun j hj => by
              rcases Nat.lt_or_ge j k with h | h
              · exact hall.out j h
              · rw [show j = k from by omega, HNM.out, List.nil_append]; exact ⟨HNB.out, HCC.out⟩, hB.out⟩
          case measure => simp [intOf]; omega
      · have hnb' : namedB x.data.toList = false := by simpa using hnb
        have hna := named_any x wr hxs
        rw [hnb'] at hna
        have HNA := hide hna
        have hbad : namesB [] m.names = false := namesB_at [] m.names k (by unfold Mo.names; simpa using hlt) hall.out (by rw [HNM.out, hnb']; rfl)
        have he := Mo.err_name h40' h60' hbad
        have HE := hide he
        clear hna hbad he hnb hnb'
        go_wp2_with (go_at_call 65; refine HNA.out.mono ?_; rintro e w1 ⟨rfl, rfl⟩)
        go_ret
        exact ⟨ret_int HE.out.symm, HBW.out⟩
    · have hgood : namesB [] m.names = true := namesB_all [] m.names (fun j hj => hall.out j (by unfold Mo.names at hj; simp at hj; omega))
      have he := Mo.err_rest h40' h60' hgood
      have hmw := HH0.out.up hB.out
      have hck := checkForms_any m m.rules (.slice A m.opts.length cap) (.slice Ar m.rules.length capr) (.slice Ar m.rules.length capr) wr HS.out.n HS.out.r hmw.o hmw.r
      rw [← he] at hck
      have HCK := hide hck
      clear hgood he hmw hck
      go_wp2_with (go_at_call 62; refine HCK.out.mono ?_; rintro e w1 ⟨rfl, hB1⟩)
      go_ret
      exact ⟨rfl, Below.to (Below.to HB0.out hB.out (Nat.le_refl _)) hB1 (Nat.le_refl _)⟩
theorem Mo.errF_err {m : Mo} {l : List (List Int)} (h : m.err ≠ 0) : m.errF l = m.err := by unfold Mo.errF; rw [if_pos h]
theorem Mo.errF_ok {m : Mo} {l : List (List Int)} (h : m.err = 0) : m.errF l = if l.all (validF m.opts.length) = false then 11 else 0 := by unfold Mo.errF; rw [if_neg (by simp [h])]
set_option maxRecDepth 100000 in
theorem check_any (m : Mo) (l : List (List Int)) (ov rv lv : Value) (w : World) (hs : SizedM m) (hl : Sized l) (h : MoAt w w.heap.size ov rv m) (hf : Forms w w.heap.size lv l) :
    Calls Try.prog 43 #[.agg #[ov, rv], lv] w fun e w' => e = .returned (.int .i64 (m.errF l)) ∧ Below w.heap.size w w' := by
  obtain ⟨A, cap, hov⟩ := Sl.form h.o
  obtain ⟨Ar, capr, hrv⟩ := h.r.form
  obtain ⟨Al, capl, hlv⟩ := hf.form
  have H := hide h
  have HF := hide hf
  have HS := hide hs
  have HL := hide hl
  subst hov hrv hlv
  clear h hf hs hl
  go_enter Try.func43, Try.ntmps43
  go_upto_region 1 with (fail)
  generalize hw0 : World.alloc _ _ = w0
  obtain ⟨hb0, hB0, hs0⟩ := alloc1 hw0
  clear hw0
  have c0 := cellOf hb0 0
  have c1 := cellOf hb0 1
  have HX0 : Hid (MoBox w0 w.heap.size (.slice A m.opts.length cap) (.slice Ar m.rules.length capr)) := hb0
  have HB0 := hide hB0
  have hck := CheckModel_any m (.slice A m.opts.length cap) (.slice Ar m.rules.length capr) w0 HS.out (H.out.up hB0)
  clear hb0 hB0 hs0
  by_cases he : m.err = 0
  · rw [he] at hck
    have HCK := hide hck
    have HE := hide (Mo.errF_ok (l := l) he)
    clear hck he
    go_wp2_with (go_at_call 61; refine HCK.out.mono ?_; rintro e w1 ⟨rfl, hB1⟩; have hbx := box_to HX0.out hB1; have d0 := cellOf hbx 0; have d1 := cellOf hbx 1; have HB1 : Hid (Below w.heap.size w w1) := Below.to HB0.out hB1 (Nat.le_refl _); clear hbx hB1)
    have hcf := checkForms_any m l (.slice A m.opts.length cap) (.slice Ar m.rules.length capr) (.slice Al l.length capl) w1 HS.out.n HL.out (H.out.up HB1.out).o (HF.out.up HB1.out)
    rw [← HE.out] at hcf
    have HCF := hide hcf
    clear hcf
    go_wp2_with (go_at_call 62; refine HCF.out.mono ?_; rintro e w2 ⟨rfl, hB2⟩)
    go_ret
    exact ⟨rfl, Below.to HB1.out hB2 (Nat.le_refl _)⟩
  · have hne : (m.err != 0) = true := by simpa using he
    have HE := hide (Mo.errF_err (l := l) he)
    have HCK := hide hck
    obtain ⟨z, hz⟩ : ∃ z, m.err = z := ⟨_, rfl⟩
    rw [hz] at hne HCK HE
    clear hck he hz
    go_wp2_with (go_at_call 61; refine HCK.out.mono ?_; rintro e w1 ⟨rfl, hB1⟩)
    go_ret
    exact ⟨ret_int HE.out.symm, Below.to HB0.out hB1 (Nat.le_refl _)⟩
end Go.Proofs.Ytmgfijadjclmpaa
/- The arguments of the laws about options, opened: no condition. -/
namespace Go.Proofs.Ytmgfijadjclmpaa
open Go.Joins Go.ChangeShapes Go.WideShapes Go.ChangeAt Go.RowKit Go.Deep
set_option maxRecDepth 100000
set_option linter.unusedVariables false
set_option linter.unusedSimpArgs false
section
variable {H : Type} {enc : TypeId × Value → H} {W : World} {base b0 : Nat} {r : Reach} {spare : Nat → Bool} {held : Bool} {v : Value} {d : DataW H} {p : List MemPlace}
def I64 (n : Int) : Prop := -9223372036854775808 ≤ n ∧ n ≤ 9223372036854775807
theorem I64.of {n : Int} (h : (Lit.int .i64 n).wf = true) : I64 n := by
  simp [Lit.wf, IntKind.min, IntKind.max, IntKind.signed, IntKind.bits] at h
  exact ⟨by omega, by omega⟩
theorem int_cell {n : Nat} {c : Value} {y : DataW H × List MemPlace} (h : DataW.trod enc Try.prog W base spare held n 3 [c] = some y) : ∃ a, c = .int .i64 a ∧ I64 a := by
  obtain ⟨a, e0, _, wa⟩ := DataW.trod_int Try.underlying3 h
  simp at e0
  exact ⟨a, e0, I64.of wa⟩
theorem cellsInt : Try.prog.cellsOf 3 = 1 := by kernel_rfl
theorem ints_cell {t n : Nat} {c : Value} {y : DataW H × List MemPlace} (ht : Try.prog.underlying t = some (.slice 3)) (h : DataW.trod enc Try.prog W base spare held n t [c] = some y) :
    ∃ f : List Int, Ints W W.heap.size c f ∧ f.length ≤ maxLen ∧ ∀ x ∈ f, I64 x := by
  obtain ⟨xs, hsl, hl, hR⟩ := open_rows (α := Int) 0 (fun x _ => .int .i64 x) I64 ht cellsInt (by omega) (by
    intro n cs' y hlen ht
    match cs', hlen with
    | [c0], _ =>
      obtain ⟨a, rfl, ha⟩ := int_cell ht
      refine ⟨a, fun j hj => ?_, ha⟩
      match j, hj with
      | 0, _ => rfl) h
  refine ⟨xs, hsl, hl, fun x hx => ?_⟩
  obtain ⟨i, hi, rfl⟩ := List.mem_iff_getElem.1 hx
  have := hR i hi
  rwa [List.getD_eq_getElem?_getD, List.getElem?_eq_getElem hi, Option.getD_some] at this
theorem open_formula {t : Nat} (ht : Try.prog.underlying t = some (.slice 3)) (hv : Value.okWide Try.prog W r b0 t v) (h : DataW.Trod enc Try.prog W base spare held t v d p) :
    ∃ f : List Int, Ints W W.heap.size v f ∧ f.length ≤ maxLen ∧ ∀ x ∈ f, I64 x := by
  obtain ⟨a0, len, cap, rfl⟩ := okWide_slice ht hv
  obtain ⟨fuel, hf⟩ := h
  exact ints_cell ht hf
end
end Go.Proofs.Ytmgfijadjclmpaa
/- Frames, releases and steps in memory; arguments of such rows opened: no condition. -/
namespace Go.Proofs.Ytmgfijadjclmpaa
open Go.Joins Go.ChangeShapes Go.WideShapes Go.ChangeAt Go.RowKit Go.Deep
set_option maxRecDepth 100000
set_option linter.unusedVariables false
set_option linter.unusedSimpArgs false
/-- A frame: size, every, jitter, due, rank. -/
structure Fr where
  s : Int
  e : Int
  j : Int
  d : Int
  r : Int
def Fr.o : Fr := ⟨0, 0, 0, 0, 0⟩
/-- A release: frame, time. -/
structure Rl where
  f : Int
  t : Int
def Rl.o : Rl := ⟨0, 0⟩
/-- A step: every, response, offset, timed. -/
structure Stp where
  e : Int
  r : Int
  g : Int
  t : Bool
def Stp.o : Stp := ⟨0, 0, 0, false⟩
def frC (s : Fr) : Nat → Value
  | 0 => .int .i64 s.s
  | 1 => .int .i64 s.e
  | 2 => .int .i64 s.j
  | 3 => .int .i64 s.d
  | _ => .int .i64 s.r
def rlC (s : Rl) : Nat → Value
  | 0 => .int .i64 s.f
  | _ => .int .i64 s.t
def stC (s : Stp) : Nat → Value
  | 0 => .int .i64 s.e
  | 1 => .int .i64 s.r
  | 2 => .int .i64 s.g
  | _ => .bool s.t
theorem sl_atT {w : World} {B sz n : Nat} {A : Option Addr} {m q : Nat} {f : Nat → Nat → Value} (h : Sl w B sz (.slice A m q) n f) {k : Nat} (hk : k < n) : m = n ∧ m ≤ q ∧ ∃ b off, A = some ⟨b, off, none⟩ ∧ b < B ∧ ∀ j, j < sz → w.cell? ⟨b, off + (k * sz + j), none⟩ = some (f k j) := by
  obtain ⟨A', b, off, cap, h1, h2, h3, h4⟩ := h
  injection h1 with e1 e2 e3
  subst e1 e2 e3
  rcases h3 with ⟨h3, h5⟩ | h3
  · exact ⟨rfl, h2, b, off, h3, h5, fun j hj => h4 k j hk hj⟩
  · omega
theorem sl_takeT {w : World} {B sz n : Nat} {A : Option Addr} {m q : Nat} {f : Nat → Nat → Value} (h : Sl w B sz (.slice A m q) n f) {k : Nat} (hk : k ≤ n) : Sl w B sz (.slice A k q) k f := by
  obtain ⟨A', b, off, cap, h1, h2, h3, h4⟩ := h
  injection h1 with e1 e2 e3
  subst e1 e2 e3
  refine ⟨A, b, off, q, rfl, by omega, ?_, fun i j hi hj => h4 i j (by omega) hj⟩
  rcases h3 with h3 | h3
  · exact .inl h3
  · exact .inr (by omega)
theorem take_getDT {α : Type} {l : List α} {z : α} {k i : Nat} (hi : i < k) : (l.take k).getD i z = l.getD i z := by
  simp [List.getD_eq_getElem?_getD, List.getElem?_take, hi]
theorem getD_memT {α : Type} {l : List α} {z : α} {k : Nat} (h : k < l.length) : l.getD k z ∈ l := by
  rw [List.getD_eq_getElem?_getD, List.getElem?_eq_getElem h]
  exact List.getElem_mem h
theorem all_ofT {α : Type} {z : α} {R : α → Prop} {xs : List α} (h : ∀ i, i < xs.length → R (xs.getD i z)) : ∀ x ∈ xs, R x := by
  intro x hx
  obtain ⟨i, hi, rfl⟩ := List.mem_iff_getElem.1 hx
  have := h i hi
  rwa [List.getD_eq_getElem?_getD, List.getElem?_eq_getElem hi, Option.getD_some] at this
/-- The rows of a list in a row of cells. -/
def cellL {α : Type} (F : α → List Value) (l : List α) : List Value := (l.map F).flatten
theorem cellL_snoc {α : Type} (F : α → List Value) (l : List α) (a : α) : cellL F (l ++ [a]) = cellL F l ++ F a := by simp [cellL]
theorem cellL_get {α : Type} {F : α → List Value} {sz : Nat} (hF : ∀ a, (F a).length = sz) (z : α) : ∀ {l : List α} {i j : Nat}, i < l.length → j < sz → (cellL F l)[i * sz + j]? = (F (l.getD i z))[j]?
  | [], i, j, hi, _ => absurd hi (by simp)
  | a :: l, 0, j, _, hj => by
    show (F a ++ cellL F l)[0 * sz + j]? = _
    rw [List.getElem?_append_left (by rw [hF]; omega), Nat.zero_mul, Nat.zero_add]
    rfl
  | a :: l, i + 1, j, hi, hj => by
    show (F a ++ cellL F l)[(i + 1) * sz + j]? = _
    rw [List.getElem?_append_right (by rw [hF, Nat.add_mul]; omega), hF, show (i + 1) * sz + j - sz = i * sz + j by rw [Nat.add_mul]; omega, cellL_get hF z (by simpa using hi) hj]
    rfl
theorem ints_atT {w : World} {B : Nat} {A : Option Addr} {m q : Nat} {S : List Int} (h : Ints w B (.slice A m q) S) {k : Nat} (hk : k < S.length) : ∃ b off x, Hid (S.getD k 0 = x) ∧ A = some ⟨b, off, none⟩ ∧ b < B ∧ S.length ≤ q ∧ w.cell? ⟨b, off + k, none⟩ = some (.int .i64 x) := by
  obtain ⟨h1, h2, b, off, h3, h4, h5⟩ := sl_atT h hk
  have h6 := h5 0 (by omega)
  rw [Nat.mul_one, Nat.add_zero] at h6
  exact ⟨b, off, _, rfl, h3, h4, by omega, h6⟩
theorem ints_formT {w : World} {B : Nat} {v : Value} {l : List Int} (h : Ints w B v l) : ∃ A cap, v = .slice A l.length cap := Sl.form h
theorem ints_of_ownT {w : World} {base : Nat} {v : Value} {S : List Int} (h : w.ownsRow base 3 1 v S.length (S.map (Value.int .i64))) : Ints w w.heap.size v S := Sl.of_owns h fun i j hi hj => by
  obtain rfl : j = 0 := by omega
  rw [Nat.mul_one, Nat.add_zero]
  simp [hi]
theorem ints_readsT {w : World} {B n cap : Nat} {A : Option Addr} {l : List Int} (h : Ints w B (.slice A n cap) l) : Reads w B 1 A l.length (l.map (Value.int .i64)) := by
  have h1 := h
  obtain ⟨A', b, off, cap', hv, _⟩ := h1
  injection hv with e1 e2 e3
  subst e1 e2 e3
  have h2 := Sl.reads (sz := 1) h (by omega)
  have e : flat l.length 1 (fun i _ => Value.int .i64 (l.getD i 0)) = l.map (Value.int .i64) := by
    refine List.ext_getElem? fun i => ?_
    by_cases hi : i < l.length
    · have h3 := flat_get (n := l.length) (sz := 1) (f := fun i _ => Value.int .i64 (l.getD i 0)) hi (j := 0) (by omega)
      rw [Nat.mul_one, Nat.add_zero] at h3
      rw [h3]
      simp [hi]
    · rw [List.getElem?_eq_none (by rw [flat_length]; omega), List.getElem?_eq_none (by simp; omega)]
  rw [← e]
  exact h2
def Frs (w : World) (B : Nat) (v : Value) (l : List Fr) : Prop := Sl w B 5 v l.length fun i j => frC (l.getD i Fr.o) j
theorem Frs.below {w w' : World} {B : Nat} {v : Value} {l : List Fr} (h : Frs w B v l) (hb : Below B w w') : Frs w' B v l := Sl.below h hb
theorem Frs.more {w : World} {B B' : Nat} {v : Value} {l : List Fr} (h : Frs w B v l) (hB : B ≤ B') : Frs w B' v l := Sl.more h hB
theorem Frs.up {w w' : World} {v : Value} {l : List Fr} (h : Frs w w.heap.size v l) (hb : Below w.heap.size w w') : Frs w' w'.heap.size v l := Sl.up h hb
theorem Frs.form {w : World} {B : Nat} {v : Value} {l : List Fr} (h : Frs w B v l) : ∃ A cap, v = .slice A l.length cap := Sl.form h
theorem Frs.cap {w : World} {B n q : Nat} {A : Option Addr} {l : List Fr} (h : Frs w B (.slice A n q) l) : l.length ≤ q := by
  obtain ⟨A', b, off, cap, h1, h2, _⟩ := h
  injection h1 with e1 e2 e3
  omega
theorem Frs.at {w : World} {B : Nat} {A : Option Addr} {n q : Nat} {l : List Fr} (h : Frs w B (.slice A n q) l) {k : Nat} (hk : k < l.length) : ∃ b off x, Hid (l.getD k Fr.o = x) ∧ A = some ⟨b, off, none⟩ ∧ b < B ∧ l.length ≤ q ∧
    w.cell? ⟨b, off + k * 5, none⟩ = some (.int .i64 x.s) ∧
    w.cell? ⟨b, off + k * 5 + 1, none⟩ = some (.int .i64 x.e) ∧
    w.cell? ⟨b, off + k * 5 + 2, none⟩ = some (.int .i64 x.j) ∧
    w.cell? ⟨b, off + k * 5 + 3, none⟩ = some (.int .i64 x.d) ∧
    w.cell? ⟨b, off + k * 5 + 4, none⟩ = some (.int .i64 x.r) := by
  obtain ⟨h1, h2, b, off, h3, h4, h5⟩ := sl_atT h hk
  exact ⟨b, off, _, rfl, h3, h4, h1 ▸ h2, h5 0 (by omega), h5 1 (by omega), h5 2 (by omega), h5 3 (by omega), h5 4 (by omega)⟩
theorem Frs.take {w : World} {B : Nat} {A : Option Addr} {n q : Nat} {l : List Fr} (h : Frs w B (.slice A n q) l) {k : Nat} (hk : k ≤ l.length) : Frs w B (.slice A k q) (l.take k) := by
  have h1 := sl_takeT h hk
  have hl : (l.take k).length = k := by simp; omega
  unfold Frs
  rw [hl]
  exact Sl.congr h1 fun i j hi hj => by rw [take_getDT hi]
def frCL (x : Fr) : List Value := [.int .i64 x.s, .int .i64 x.e, .int .i64 x.j, .int .i64 x.d, .int .i64 x.r]
theorem frCL_get (x : Fr) {j : Nat} (hj : j < 5) : (frCL x)[j]? = some (frC x j) := by
  match j, hj with
  | 0, _ => rfl
  | 1, _ => rfl
  | 2, _ => rfl
  | 3, _ => rfl
  | 4, _ => rfl
theorem Frs.of_own {w : World} {base e : Nat} {v : Value} {l : List Fr} (h : w.ownsRow base e 5 v l.length (cellL frCL l)) : Frs w w.heap.size v l :=
  Sl.of_owns h fun i j hi hj => (cellL_get (F := frCL) (sz := 5) (fun _ => rfl) Fr.o hi hj).trans (frCL_get _ hj)
theorem Frs.reads {w : World} {B n cap : Nat} {A : Option Addr} {l : List Fr} (h : Frs w B (.slice A n cap) l) : Reads w B 5 A l.length (cellL frCL l) := by
  have h1 := h
  obtain ⟨A', b, off, cap', hv, _⟩ := h1
  injection hv with e1 e2 e3
  subst e1 e2 e3
  have h2 := Sl.reads (sz := 5) h (by omega)
  have hlen : (cellL frCL l).length = l.length * 5 := by
    have hh : ∀ l : List Fr, (cellL frCL l).length = l.length * 5 := fun l => by
      induction l with
      | nil => rfl
      | cons a l ih =>
        show (frCL a ++ cellL frCL l).length = _
        rw [List.length_append, ih, List.length_cons]
        show 5 + _ = _
        omega
    exact hh l
  have e : flat l.length 5 (fun i j => frC (l.getD i Fr.o) j) = cellL frCL l := by
    refine List.ext_getElem? fun i => ?_
    by_cases hi : i < l.length * 5
    · have hd : i = i / 5 * 5 + i % 5 := by omega
      have h3 := flat_get (n := l.length) (sz := 5) (f := fun i j => frC (l.getD i Fr.o) j) (i := i / 5) (by omega) (j := i % 5) (by omega)
      rw [← hd] at h3
      have h4 := cellL_get (F := frCL) (sz := 5) (fun _ => rfl) Fr.o (l := l) (i := i / 5) (j := i % 5) (by omega) (by omega)
      rw [← hd, frCL_get _ (by omega)] at h4
      rw [h3, h4]
    · rw [List.getElem?_eq_none (by rw [flat_length]; omega), List.getElem?_eq_none (by omega)]
  rw [← e]
  exact h2
theorem Frs.one {l : List Fr} : ∀ u ∈ cellL frCL l, u.oneCell' = true := by
  intro u hu
  simp only [cellL, List.mem_flatten, List.mem_map] at hu
  obtain ⟨r, ⟨x, _, rfl⟩, hr⟩ := hu
  simp only [frCL, List.mem_cons, List.not_mem_nil, or_false] at hr
  rcases hr with rfl | rfl | rfl | rfl | rfl <;> rfl
def Rls (w : World) (B : Nat) (v : Value) (l : List Rl) : Prop := Sl w B 2 v l.length fun i j => rlC (l.getD i Rl.o) j
theorem Rls.below {w w' : World} {B : Nat} {v : Value} {l : List Rl} (h : Rls w B v l) (hb : Below B w w') : Rls w' B v l := Sl.below h hb
theorem Rls.more {w : World} {B B' : Nat} {v : Value} {l : List Rl} (h : Rls w B v l) (hB : B ≤ B') : Rls w B' v l := Sl.more h hB
theorem Rls.up {w w' : World} {v : Value} {l : List Rl} (h : Rls w w.heap.size v l) (hb : Below w.heap.size w w') : Rls w' w'.heap.size v l := Sl.up h hb
theorem Rls.form {w : World} {B : Nat} {v : Value} {l : List Rl} (h : Rls w B v l) : ∃ A cap, v = .slice A l.length cap := Sl.form h
theorem Rls.cap {w : World} {B n q : Nat} {A : Option Addr} {l : List Rl} (h : Rls w B (.slice A n q) l) : l.length ≤ q := by
  obtain ⟨A', b, off, cap, h1, h2, _⟩ := h
  injection h1 with e1 e2 e3
  omega
theorem Rls.at {w : World} {B : Nat} {A : Option Addr} {n q : Nat} {l : List Rl} (h : Rls w B (.slice A n q) l) {k : Nat} (hk : k < l.length) : ∃ b off x, Hid (l.getD k Rl.o = x) ∧ A = some ⟨b, off, none⟩ ∧ b < B ∧ l.length ≤ q ∧
    w.cell? ⟨b, off + k * 2, none⟩ = some (.int .i64 x.f) ∧
    w.cell? ⟨b, off + k * 2 + 1, none⟩ = some (.int .i64 x.t) := by
  obtain ⟨h1, h2, b, off, h3, h4, h5⟩ := sl_atT h hk
  exact ⟨b, off, _, rfl, h3, h4, h1 ▸ h2, h5 0 (by omega), h5 1 (by omega)⟩
theorem Rls.take {w : World} {B : Nat} {A : Option Addr} {n q : Nat} {l : List Rl} (h : Rls w B (.slice A n q) l) {k : Nat} (hk : k ≤ l.length) : Rls w B (.slice A k q) (l.take k) := by
  have h1 := sl_takeT h hk
  have hl : (l.take k).length = k := by simp; omega
  unfold Rls
  rw [hl]
  exact Sl.congr h1 fun i j hi hj => by rw [take_getDT hi]
def rlCL (x : Rl) : List Value := [.int .i64 x.f, .int .i64 x.t]
theorem rlCL_get (x : Rl) {j : Nat} (hj : j < 2) : (rlCL x)[j]? = some (rlC x j) := by
  match j, hj with
  | 0, _ => rfl
  | 1, _ => rfl
theorem Rls.of_own {w : World} {base e : Nat} {v : Value} {l : List Rl} (h : w.ownsRow base e 2 v l.length (cellL rlCL l)) : Rls w w.heap.size v l :=
  Sl.of_owns h fun i j hi hj => (cellL_get (F := rlCL) (sz := 2) (fun _ => rfl) Rl.o hi hj).trans (rlCL_get _ hj)
theorem Rls.reads {w : World} {B n cap : Nat} {A : Option Addr} {l : List Rl} (h : Rls w B (.slice A n cap) l) : Reads w B 2 A l.length (cellL rlCL l) := by
  have h1 := h
  obtain ⟨A', b, off, cap', hv, _⟩ := h1
  injection hv with e1 e2 e3
  subst e1 e2 e3
  have h2 := Sl.reads (sz := 2) h (by omega)
  have hlen : (cellL rlCL l).length = l.length * 2 := by
    have hh : ∀ l : List Rl, (cellL rlCL l).length = l.length * 2 := fun l => by
      induction l with
      | nil => rfl
      | cons a l ih =>
        show (rlCL a ++ cellL rlCL l).length = _
        rw [List.length_append, ih, List.length_cons]
        show 2 + _ = _
        omega
    exact hh l
  have e : flat l.length 2 (fun i j => rlC (l.getD i Rl.o) j) = cellL rlCL l := by
    refine List.ext_getElem? fun i => ?_
    by_cases hi : i < l.length * 2
    · have hd : i = i / 2 * 2 + i % 2 := by omega
      have h3 := flat_get (n := l.length) (sz := 2) (f := fun i j => rlC (l.getD i Rl.o) j) (i := i / 2) (by omega) (j := i % 2) (by omega)
      rw [← hd] at h3
      have h4 := cellL_get (F := rlCL) (sz := 2) (fun _ => rfl) Rl.o (l := l) (i := i / 2) (j := i % 2) (by omega) (by omega)
      rw [← hd, rlCL_get _ (by omega)] at h4
      rw [h3, h4]
    · rw [List.getElem?_eq_none (by rw [flat_length]; omega), List.getElem?_eq_none (by omega)]
  rw [← e]
  exact h2
theorem Rls.one {l : List Rl} : ∀ u ∈ cellL rlCL l, u.oneCell' = true := by
  intro u hu
  simp only [cellL, List.mem_flatten, List.mem_map] at hu
  obtain ⟨r, ⟨x, _, rfl⟩, hr⟩ := hu
  simp only [rlCL, List.mem_cons, List.not_mem_nil, or_false] at hr
  rcases hr with rfl | rfl <;> rfl
def Sts (w : World) (B : Nat) (v : Value) (l : List Stp) : Prop := Sl w B 4 v l.length fun i j => stC (l.getD i Stp.o) j
theorem Sts.below {w w' : World} {B : Nat} {v : Value} {l : List Stp} (h : Sts w B v l) (hb : Below B w w') : Sts w' B v l := Sl.below h hb
theorem Sts.more {w : World} {B B' : Nat} {v : Value} {l : List Stp} (h : Sts w B v l) (hB : B ≤ B') : Sts w B' v l := Sl.more h hB
theorem Sts.up {w w' : World} {v : Value} {l : List Stp} (h : Sts w w.heap.size v l) (hb : Below w.heap.size w w') : Sts w' w'.heap.size v l := Sl.up h hb
theorem Sts.form {w : World} {B : Nat} {v : Value} {l : List Stp} (h : Sts w B v l) : ∃ A cap, v = .slice A l.length cap := Sl.form h
theorem Sts.cap {w : World} {B n q : Nat} {A : Option Addr} {l : List Stp} (h : Sts w B (.slice A n q) l) : l.length ≤ q := by
  obtain ⟨A', b, off, cap, h1, h2, _⟩ := h
  injection h1 with e1 e2 e3
  omega
theorem Sts.at {w : World} {B : Nat} {A : Option Addr} {n q : Nat} {l : List Stp} (h : Sts w B (.slice A n q) l) {k : Nat} (hk : k < l.length) : ∃ b off x, Hid (l.getD k Stp.o = x) ∧ A = some ⟨b, off, none⟩ ∧ b < B ∧ l.length ≤ q ∧
    w.cell? ⟨b, off + k * 4, none⟩ = some (.int .i64 x.e) ∧
    w.cell? ⟨b, off + k * 4 + 1, none⟩ = some (.int .i64 x.r) ∧
    w.cell? ⟨b, off + k * 4 + 2, none⟩ = some (.int .i64 x.g) ∧
    w.cell? ⟨b, off + k * 4 + 3, none⟩ = some (.bool x.t) := by
  obtain ⟨h1, h2, b, off, h3, h4, h5⟩ := sl_atT h hk
  exact ⟨b, off, _, rfl, h3, h4, h1 ▸ h2, h5 0 (by omega), h5 1 (by omega), h5 2 (by omega), h5 3 (by omega)⟩
theorem Sts.take {w : World} {B : Nat} {A : Option Addr} {n q : Nat} {l : List Stp} (h : Sts w B (.slice A n q) l) {k : Nat} (hk : k ≤ l.length) : Sts w B (.slice A k q) (l.take k) := by
  have h1 := sl_takeT h hk
  have hl : (l.take k).length = k := by simp; omega
  unfold Sts
  rw [hl]
  exact Sl.congr h1 fun i j hi hj => by rw [take_getDT hi]
def stCL (x : Stp) : List Value := [.int .i64 x.e, .int .i64 x.r, .int .i64 x.g, .bool x.t]
theorem stCL_get (x : Stp) {j : Nat} (hj : j < 4) : (stCL x)[j]? = some (stC x j) := by
  match j, hj with
  | 0, _ => rfl
  | 1, _ => rfl
  | 2, _ => rfl
  | 3, _ => rfl
theorem Sts.of_own {w : World} {base e : Nat} {v : Value} {l : List Stp} (h : w.ownsRow base e 4 v l.length (cellL stCL l)) : Sts w w.heap.size v l :=
  Sl.of_owns h fun i j hi hj => (cellL_get (F := stCL) (sz := 4) (fun _ => rfl) Stp.o hi hj).trans (stCL_get _ hj)
theorem Sts.reads {w : World} {B n cap : Nat} {A : Option Addr} {l : List Stp} (h : Sts w B (.slice A n cap) l) : Reads w B 4 A l.length (cellL stCL l) := by
  have h1 := h
  obtain ⟨A', b, off, cap', hv, _⟩ := h1
  injection hv with e1 e2 e3
  subst e1 e2 e3
  have h2 := Sl.reads (sz := 4) h (by omega)
  have hlen : (cellL stCL l).length = l.length * 4 := by
    have hh : ∀ l : List Stp, (cellL stCL l).length = l.length * 4 := fun l => by
      induction l with
      | nil => rfl
      | cons a l ih =>
        show (stCL a ++ cellL stCL l).length = _
        rw [List.length_append, ih, List.length_cons]
        show 4 + _ = _
        omega
    exact hh l
  have e : flat l.length 4 (fun i j => stC (l.getD i Stp.o) j) = cellL stCL l := by
    refine List.ext_getElem? fun i => ?_
    by_cases hi : i < l.length * 4
    · have hd : i = i / 4 * 4 + i % 4 := by omega
      have h3 := flat_get (n := l.length) (sz := 4) (f := fun i j => stC (l.getD i Stp.o) j) (i := i / 4) (by omega) (j := i % 4) (by omega)
      rw [← hd] at h3
      have h4 := cellL_get (F := stCL) (sz := 4) (fun _ => rfl) Stp.o (l := l) (i := i / 4) (j := i % 4) (by omega) (by omega)
      rw [← hd, stCL_get _ (by omega)] at h4
      rw [h3, h4]
    · rw [List.getElem?_eq_none (by rw [flat_length]; omega), List.getElem?_eq_none (by omega)]
  rw [← e]
  exact h2
theorem Sts.one {l : List Stp} : ∀ u ∈ cellL stCL l, u.oneCell' = true := by
  intro u hu
  simp only [cellL, List.mem_flatten, List.mem_map] at hu
  obtain ⟨r, ⟨x, _, rfl⟩, hr⟩ := hu
  simp only [stCL, List.mem_cons, List.not_mem_nil, or_false] at hr
  rcases hr with rfl | rfl | rfl | rfl <;> rfl
/-- Bools in memory. -/
def Bos (w : World) (B : Nat) (v : Value) (l : List Bool) : Prop := Sl w B 1 v l.length fun i _ => .bool (l.getD i false)
theorem Bos.up {w w' : World} {v : Value} {l : List Bool} (h : Bos w w.heap.size v l) (hb : Below w.heap.size w w') : Bos w' w'.heap.size v l := Sl.up h hb
theorem Bos.form {w : World} {B : Nat} {v : Value} {l : List Bool} (h : Bos w B v l) : ∃ A cap, v = .slice A l.length cap := Sl.form h
theorem Bos.at {w : World} {B : Nat} {A : Option Addr} {m q : Nat} {S : List Bool} (h : Bos w B (.slice A m q) S) {k : Nat} (hk : k < S.length) : ∃ b off x, Hid (S.getD k false = x) ∧ A = some ⟨b, off, none⟩ ∧ b < B ∧ S.length ≤ q ∧ w.cell? ⟨b, off + k, none⟩ = some (.bool x) := by
  obtain ⟨h1, h2, b, off, h3, h4, h5⟩ := sl_atT h hk
  have h6 := h5 0 (by omega)
  rw [Nat.mul_one, Nat.add_zero] at h6
  exact ⟨b, off, _, rfl, h3, h4, by omega, h6⟩
theorem ints_upT {w w' : World} {v : Value} {l : List Int} (h : Ints w w.heap.size v l) (hb : Below w.heap.size w w') : Ints w' w'.heap.size v l := Sl.up h hb
section
variable {H : Type} {enc : TypeId × Value → H} {W : World} {base b0 : Nat} {r : Reach} {spare : Nat → Bool} {held : Bool} {v : Value} {d : DataW H} {p : List MemPlace}
theorem cellsFr : Try.prog.cellsOf 40 = 5 := by kernel_rfl
theorem cellsRl : Try.prog.cellsOf 38 = 2 := by kernel_rfl
theorem frames_cell {n : Nat} {c : Value} {y : DataW H × List MemPlace} (h : DataW.trod enc Try.prog W base spare held n 22 [c] = some y) :
    ∃ l : List Fr, Frs W W.heap.size c l ∧ l.length ≤ maxLen ∧ ∀ x ∈ l, I64 x.s ∧ I64 x.e ∧ I64 x.j ∧ I64 x.d ∧ I64 x.r := by
  obtain ⟨xs, hsl, hl, hR⟩ := open_rows (α := Fr) Fr.o (fun x j => frC x j) (fun x => I64 x.s ∧ I64 x.e ∧ I64 x.j ∧ I64 x.d ∧ I64 x.r) Try.underlying22 cellsFr (by omega) (by
    intro n cs' y hlen ht
    match cs', hlen with
    | [c0, c1, c2, c3, c4], _ =>
      obtain ⟨xs, n', _, _, _, hlen, hf⟩ := DataW.trod_struct Try.underlying40 ht
      have g0 := hf 0 _ rfl
      have g1 := hf 1 _ rfl
      have g2 := hf 2 _ rfl
      have g3 := hf 3 _ rfl
      have g4 := hf 4 _ rfl
      match xs, hlen with
      | [y0, y1, y2, y3, y4], _ =>
        obtain ⟨a0, rfl, i0⟩ := int_cell (y := y0) (by simpa [cellsInt] using g0)
        obtain ⟨a1, rfl, i1⟩ := int_cell (y := y1) (by simpa [cellsInt] using g1)
        obtain ⟨a2, rfl, i2⟩ := int_cell (y := y2) (by simpa [cellsInt] using g2)
        obtain ⟨a3, rfl, i3⟩ := int_cell (y := y3) (by simpa [cellsInt] using g3)
        obtain ⟨a4, rfl, i4⟩ := int_cell (y := y4) (by simpa [cellsInt] using g4)
        refine ⟨⟨a0, a1, a2, a3, a4⟩, fun j hj => ?_, i0, i1, i2, i3, i4⟩
        match j, hj with
        | 0, _ => rfl
        | 1, _ => rfl
        | 2, _ => rfl
        | 3, _ => rfl
        | 4, _ => rfl) h
  exact ⟨xs, hsl, hl, all_ofT hR⟩
theorem rels_cell {n : Nat} {c : Value} {y : DataW H × List MemPlace} (h : DataW.trod enc Try.prog W base spare held n 23 [c] = some y) :
    ∃ l : List Rl, Rls W W.heap.size c l ∧ l.length ≤ maxLen ∧ ∀ x ∈ l, I64 x.f ∧ I64 x.t := by
  obtain ⟨xs, hsl, hl, hR⟩ := open_rows (α := Rl) Rl.o (fun x j => rlC x j) (fun x => I64 x.f ∧ I64 x.t) Try.underlying23 cellsRl (by omega) (by
    intro n cs' y hlen ht
    match cs', hlen with
    | [c0, c1], _ =>
      obtain ⟨xs, n', _, _, _, hlen, hf⟩ := DataW.trod_struct Try.underlying38 ht
      have g0 := hf 0 _ rfl
      have g1 := hf 1 _ rfl
      match xs, hlen with
      | [y0, y1], _ =>
        obtain ⟨a0, rfl, i0⟩ := int_cell (y := y0) (by simpa [cellsInt] using g0)
        obtain ⟨a1, rfl, i1⟩ := int_cell (y := y1) (by simpa [cellsInt] using g1)
        refine ⟨⟨a0, a1⟩, fun j hj => ?_, i0, i1⟩
        match j, hj with
        | 0, _ => rfl
        | 1, _ => rfl) h
  exact ⟨xs, hsl, hl, all_ofT hR⟩
end
end Go.Proofs.Ytmgfijadjclmpaa

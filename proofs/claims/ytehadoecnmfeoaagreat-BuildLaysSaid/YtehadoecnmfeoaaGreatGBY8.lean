/- Part 8 of this claim's texts: walks and plain laws. -/
import Derived.Test.YtehadoecnmfeoaaGreatRows
import Derived.Test.YtehadoecnmfeoaaGreatGBY7
import Derived.Test.YtehadoecnmfeoaaGreatGBY0
/- CheckModel, check: walks. -/
namespace Go.Proofs.YtehadoecnmfeoaaGreat
open Go.RowKit
set_option linter.unusedVariables false
set_option linter.unusedSimpArgs false
/-- Sizes that memory allows. -/
structure SizedM (m : Mo) : Prop where
  n : m.opts.length ≤ maxLen
  s : ∀ x ∈ m.opts, x.size ≤ maxLen
  r : Sized m.rules
theorem names_get (m : Mo) (k : Nat) : m.names.getD k [] = (m.opts.getD k ByteArray.empty).data.toList := by
  unfold Mo.names
  simp only [List.getD_eq_getElem?_getD, List.getElem?_map]
  cases m.opts[k]? <;> rfl
theorem Mo.err_many {m : Mo} (h : 40 < m.opts.length ∨ 60 < m.rules.length) : m.err = 2 := by unfold Mo.err; rw [if_pos h]
theorem Mo.err_name {m : Mo} (h1 : m.opts.length ≤ 40) (h2 : m.rules.length ≤ 60) (h : namesB [] m.names = false) : m.err = 10 := by unfold Mo.err; rw [if_neg (by omega), if_pos h]
theorem Mo.err_rest {m : Mo} (h1 : m.opts.length ≤ 40) (h2 : m.rules.length ≤ 60) (h : namesB [] m.names = true) : m.err = if m.rules.all (validF m.opts.length) = false then 11 else 0 := by unfold Mo.err; rw [if_neg (by omega), if_neg (by simp [h])]
set_option maxRecDepth 100000 in
set_option maxHeartbeats 2000000 in
theorem CheckModel_any (m : Mo) (ov rv : Value) (w : World) (hs : SizedM m) (h : MoAt w w.heap.size ov rv m) :
    Calls Tryz.prog 89 #[.agg #[ov, rv]] w fun e w' => e = .returned (.int .i64 m.err) ∧ Below w.heap.size w w' := by
  obtain ⟨A, cap, hov⟩ := Sl.form h.o
  obtain ⟨Ar, capr, hrv⟩ := h.r.form
  by_cases h40 : 40 < m.opts.length
  · have he := Mo.err_many (m := m) (.inl h40)
    have HE := hide he
    have hi : (40 : Int) < (m.opts.length : Int) := by omega
    subst hov hrv
    clear he h40 h
    go_enter Tryz.func89, Tryz.ntmps89
    go_wp2_with fail
    go_ret
    exact ⟨ret_int HE.out.symm, (by repeat (first | exact Below.refl _ _ | assumption | refine Below.drew ?_ | refine Below.drewN ?_ _ | refine Below.allocT ?_ (Nat.le_refl _) _ | refine Below.setCell ?_ (by simp <;> omega) _ | refine Below.to ?_ (by assumption) (Nat.le_refl _)))⟩
  by_cases h60 : 60 < m.rules.length
  · have he := Mo.err_many (m := m) (.inr h60)
    have HE := hide he
    have hi : ¬ (40 : Int) < (m.opts.length : Int) := by omega
    have hj : (60 : Int) < (m.rules.length : Int) := by omega
    subst hov hrv
    clear he h40 h60 h
    go_enter Tryz.func89, Tryz.ntmps89
    go_wp2_with fail
    go_ret
    exact ⟨ret_int HE.out.symm, (by repeat (first | exact Below.refl _ _ | assumption | refine Below.drew ?_ | refine Below.drewN ?_ _ | refine Below.allocT ?_ (Nat.le_refl _) _ | refine Below.setCell ?_ (by simp <;> omega) _ | refine Below.to ?_ (by assumption) (Nat.le_refl _)))⟩
  have hi : ¬ (40 : Int) < (m.opts.length : Int) := by omega
  have hj : ¬ (60 : Int) < (m.rules.length : Int) := by omega
  have hn := h.o
  subst hov
  obtain ⟨A', b, off, cap', h1, hnc, hA, hc⟩ := hn
  injection h1 with e1 _ e3
  subst e1 e3
  have HC := hide hc
  have HA := hide hA
  have H := hide h
  have HS := hide hs
  have h40' : m.opts.length ≤ 40 := by omega
  have h60' : m.rules.length ≤ 60 := by omega
  have hcn : (m.opts.length : Int) ≤ (cap : Int) := by omega
  subst hrv
  clear hc hA h hs h40 h60
  go_enter Tryz.func89, Tryz.ntmps89
  go_wp2_with fail
  generalize hw0 : World.alloc _ _ = w0
  obtain ⟨hb0, hB0, hs0⟩ := alloc1 hw0
  clear hw0
  have HX0 : Hid (MoBox w0 w.heap.size (.slice A m.opts.length cap) (.slice Ar m.rules.length capr)) := hb0
  have HB0 := hide hB0
  have HH0 : Hid (MoAt w0 w0.heap.size (.slice A m.opts.length cap) (.slice Ar m.rules.length capr) m) := H.out.up hB0
  clear hb0 hB0 hs0
  go_loopw [18] (fun i wr => ∃ k : Nat, k ≤ m.opts.length ∧ i = .int .i64 k ∧ Hid (∀ j, j < k → namedB (m.names.getD j []) = true ∧ ([] ++ m.names.take j).contains (m.names.getD j []) = false) ∧ Hid (Below w0.heap.size w0 wr)) (fun i _ => m.opts.length - (intOf i).toNat)
  case atStart => exact ⟨0, Nat.zero_le _, rfl, fun j hj => by omega, Below.refl _ _⟩
  case round =>
    obtain ⟨k, hk, rfl, hall, hB⟩ := hrel
    have hbx := box_to HX0.out hB.out
    have x0 := cellOf hbx 0
    have x1 := cellOf hbx 1
    clear hbx
    by_cases hlt : k < m.opts.length
    · obtain ⟨rfl, hbb⟩ : A = some ⟨b, off, none⟩ ∧ b < w.heap.size := by
        rcases HA.out with h | h
        · exact h
        · omega
      obtain ⟨x, hx⟩ : ∃ x, m.opts.getD k ByteArray.empty = x := ⟨_, rfl⟩
      have hBw := Below.to HB0.out hB.out (Nat.le_refl _)
      have c0 : wr.cell? ⟨b, off + k, none⟩ = some (.string x) := by
        have h1 := HC.out k 0 hlt (by omega)
        rw [Nat.mul_one, Nat.add_zero, hx] at h1
        exact (hBw.cell (p := ⟨b, off + k, none⟩) hbb).trans h1
      have hxs : x.size ≤ maxLen := HS.out.s x (by rw [← hx]; exact getD_mem hlt)
      have hnm : m.names.getD k [] = x.data.toList := by rw [names_get, hx]
      have HNM := hide hnm
      have HBW := hide hBw
      have ik : (k : Int) ≤ (cap : Int) := by omega
      have ik2 : (k : Int) < (m.opts.length : Int) := by omega
      clear hx hnm hBw
      by_cases hnb : namedB x.data.toList = true
      · have hct := containsS_any (m.opts.take k) x (.slice (some ⟨b, off, none⟩) k cap) w.heap.size wr (by unfold maxLen; simp; omega) (Names.take (H.out.o.below HBW.out) (by omega))
        have hmt : (m.opts.take k).map (fun x => x.data.toList) = m.names.take k := by unfold Mo.names; rw [List.map_take]
        rw [hmt] at hct
        have hna := named_any x wr hxs
        rw [hnb] at hna
        have HNA := hide hna
        have HNB := hide hnb
        clear hmt hna hnb
        cases hcc : (m.names.take k).contains x.data.toList with
        | true =>
          rw [hcc] at hct
          have HCT := hide hct
          have hbad : namesB [] m.names = false := namesB_at [] m.names k (by unfold Mo.names; simpa using hlt) hall.out (by rw [HNM.out, HNB.out, List.nil_append, hcc]; rfl)
          have he := Mo.err_name h40' h60' hbad
          have HE := hide he
          clear hcc hct hbad he
          go_wp2_with (first | (go_at_call 161; refine HNA.out.mono ?_; rintro e w1 ⟨rfl, rfl⟩) | (go_at_call 162; refine HCT.out.mono ?_; rintro e w2 ⟨rfl, rfl⟩))
          go_ret
          exact ⟨ret_int HE.out.symm, HBW.out⟩
        | false =>
          rw [hcc] at hct
          have HCT := hide hct
          have HCC := hide hcc
          clear hct hcc
          go_wp2_with (first | (go_at_call 161; refine HNA.out.mono ?_; rintro e w1 ⟨rfl, rfl⟩) | (go_at_call 162; refine HCT.out.mono ?_; rintro e w2 ⟨rfl, rfl⟩))
          go_roundw
          case rel => exact ⟨k + 1, by omega, by go_num, fun j hj => by
              rcases Nat.lt_or_ge j k with h | h
              · exact hall.out j h
              · rw [show j = k from by omega, HNM.out, List.nil_append]; exact ⟨HNB.out, HCC.out⟩, hB.out⟩
          case measure => simp [intOf]; omega
      · have hnb' : namedB x.data.toList = false := by simpa using hnb
        have hna := named_any x wr hxs
        rw [hnb'] at hna
        have HNA := hide hna
        have hbad : namesB [] m.names = false := namesB_at [] m.names k (by unfold Mo.names; simpa using hlt) hall.out (by rw [HNM.out, hnb']; rfl)
        have he := Mo.err_name h40' h60' hbad
        have HE := hide he
        clear hna hbad he hnb hnb'
        go_wp2_with (go_at_call 161; refine HNA.out.mono ?_; rintro e w1 ⟨rfl, rfl⟩)
        go_ret
        exact ⟨ret_int HE.out.symm, HBW.out⟩
    · have hgood : namesB [] m.names = true := namesB_all [] m.names (fun j hj => hall.out j (by unfold Mo.names at hj; simp at hj; omega))
      have he := Mo.err_rest h40' h60' hgood
      have hmw := HH0.out.up hB.out
      have hck := checkForms_any m m.rules (.slice A m.opts.length cap) (.slice Ar m.rules.length capr) (.slice Ar m.rules.length capr) wr HS.out.n HS.out.r hmw.o hmw.r
      rw [← he] at hck
      have HCK := hide hck
      clear hgood he hmw hck
      go_wp2_with (go_at_call 163; refine HCK.out.mono ?_; rintro e w1 ⟨rfl, hB1⟩)
      go_ret
      exact ⟨rfl, Below.to (Below.to HB0.out hB.out (Nat.le_refl _)) hB1 (Nat.le_refl _)⟩
theorem Mo.errF_err {m : Mo} {l : List (List Int)} (h : m.err ≠ 0) : m.errF l = m.err := by unfold Mo.errF; rw [if_pos h]
theorem Mo.errF_ok {m : Mo} {l : List (List Int)} (h : m.err = 0) : m.errF l = if l.all (validF m.opts.length) = false then 11 else 0 := by unfold Mo.errF; rw [if_neg (by simp [h])]
set_option maxRecDepth 100000 in
theorem check_any (m : Mo) (l : List (List Int)) (ov rv lv : Value) (w : World) (hs : SizedM m) (hl : Sized l) (h : MoAt w w.heap.size ov rv m) (hf : Forms w w.heap.size lv l) :
    Calls Tryz.prog 104 #[.agg #[ov, rv], lv] w fun e w' => e = .returned (.int .i64 (m.errF l)) ∧ Below w.heap.size w w' := by
  obtain ⟨A, cap, hov⟩ := Sl.form h.o
  obtain ⟨Ar, capr, hrv⟩ := h.r.form
  obtain ⟨Al, capl, hlv⟩ := hf.form
  have H := hide h
  have HF := hide hf
  have HS := hide hs
  have HL := hide hl
  subst hov hrv hlv
  clear h hf hs hl
  go_enter Tryz.func104, Tryz.ntmps104
  go_upto_region 1 with (fail)
  generalize hw0 : World.alloc _ _ = w0
  obtain ⟨hb0, hB0, hs0⟩ := alloc1 hw0
  clear hw0
  have c0 := cellOf hb0 0
  have c1 := cellOf hb0 1
  have HX0 : Hid (MoBox w0 w.heap.size (.slice A m.opts.length cap) (.slice Ar m.rules.length capr)) := hb0
  have HB0 := hide hB0
  have hck := CheckModel_any m (.slice A m.opts.length cap) (.slice Ar m.rules.length capr) w0 HS.out (H.out.up hB0)
  clear hb0 hB0 hs0
  by_cases he : m.err = 0
  · rw [he] at hck
    have HCK := hide hck
    have HE := hide (Mo.errF_ok (l := l) he)
    clear hck he
    go_wp2_with (go_at_call 89; refine HCK.out.mono ?_; rintro e w1 ⟨rfl, hB1⟩; have hbx := box_to HX0.out hB1; have d0 := cellOf hbx 0; have d1 := cellOf hbx 1; have HB1 : Hid (Below w.heap.size w w1) := Below.to HB0.out hB1 (Nat.le_refl _); clear hbx hB1)
    have hcf := checkForms_any m l (.slice A m.opts.length cap) (.slice Ar m.rules.length capr) (.slice Al l.length capl) w1 HS.out.n HL.out (H.out.up HB1.out).o (HF.out.up HB1.out)
    rw [← HE.out] at hcf
    have HCF := hide hcf
    clear hcf
    go_wp2_with (go_at_call 163; refine HCF.out.mono ?_; rintro e w2 ⟨rfl, hB2⟩)
    go_ret
    exact ⟨rfl, Below.to HB1.out hB2 (Nat.le_refl _)⟩
  · have hne : (m.err != 0) = true := by simpa using he
    have HE := hide (Mo.errF_err (l := l) he)
    have HCK := hide hck
    obtain ⟨z, hz⟩ : ∃ z, m.err = z := ⟨_, rfl⟩
    rw [hz] at hne HCK HE
    clear hck he hz
    go_wp2_with (go_at_call 89; refine HCK.out.mono ?_; rintro e w1 ⟨rfl, hB1⟩)
    go_ret
    exact ⟨ret_int HE.out.symm, Below.to HB0.out hB1 (Nat.le_refl _)⟩
end Go.Proofs.YtehadoecnmfeoaaGreat
/- The arguments of the laws about options, opened: no condition. -/
namespace Go.Proofs.YtehadoecnmfeoaaGreat
open Go.Joins Go.ChangeShapes Go.WideShapes Go.ChangeAt Go.RowKit Go.Deep
set_option maxRecDepth 100000
set_option linter.unusedVariables false
set_option linter.unusedSimpArgs false
section
variable {H : Type} {enc : TypeId × Value → H} {W : World} {base b0 : Nat} {r : Reach} {spare : Nat → Bool} {held : Bool} {v : Value} {d : DataW H} {p : List MemPlace}
def I64 (n : Int) : Prop := -9223372036854775808 ≤ n ∧ n ≤ 9223372036854775807
theorem I64.of {n : Int} (h : (Lit.int .i64 n).wf = true) : I64 n := by
  simp [Lit.wf, IntKind.min, IntKind.max, IntKind.signed, IntKind.bits] at h
  exact ⟨by omega, by omega⟩
theorem int_cell {n : Nat} {c : Value} {y : DataW H × List MemPlace} (h : DataW.trod enc Tryz.prog W base spare held n 3 [c] = some y) : ∃ a, c = .int .i64 a ∧ I64 a := by
  obtain ⟨a, e0, _, wa⟩ := DataW.trod_int Tryz.underlying3 h
  simp at e0
  exact ⟨a, e0, I64.of wa⟩
theorem cellsInt : Tryz.prog.cellsOf 3 = 1 := by kernel_rfl
theorem cellsStr : Tryz.prog.cellsOf 9 = 1 := by kernel_rfl
theorem cellsFo : Tryz.prog.cellsOf 46 = 1 := by kernel_rfl
theorem ints_cell {t n : Nat} {c : Value} {y : DataW H × List MemPlace} (ht : Tryz.prog.underlying t = some (.slice 3)) (h : DataW.trod enc Tryz.prog W base spare held n t [c] = some y) :
    ∃ f : List Int, Ints W W.heap.size c f ∧ f.length ≤ maxLen ∧ ∀ x ∈ f, I64 x := by
  obtain ⟨xs, hsl, hl, hR⟩ := open_rows (α := Int) 0 (fun x _ => .int .i64 x) I64 ht cellsInt (by omega) (by
    intro n cs' y hlen ht
    match cs', hlen with
    | [c0], _ =>
      obtain ⟨a, rfl, ha⟩ := int_cell ht
      refine ⟨a, fun j hj => ?_, ha⟩
      match j, hj with
      | 0, _ => rfl) h
  refine ⟨xs, hsl, hl, fun x hx => ?_⟩
  obtain ⟨i, hi, rfl⟩ := List.mem_iff_getElem.1 hx
  have := hR i hi
  rwa [List.getD_eq_getElem?_getD, List.getElem?_eq_getElem hi, Option.getD_some] at this
theorem strs_cell {t n : Nat} {c : Value} {y : DataW H × List MemPlace} (ht : Tryz.prog.underlying t = some (.slice 9)) (h : DataW.trod enc Tryz.prog W base spare held n t [c] = some y) :
    ∃ f : List ByteArray, Names W W.heap.size c f ∧ f.length ≤ maxLen ∧ ∀ x ∈ f, x.size ≤ maxLen := by
  obtain ⟨xs, hsl, hl, hR⟩ := open_rows (α := ByteArray) ByteArray.empty (fun x _ => .string x) (fun x => x.size ≤ maxLen) ht cellsStr (by omega) (by
    intro n cs' y hlen ht
    match cs', hlen with
    | [c0], _ =>
      obtain ⟨s, h1, _, h3⟩ := DataW.trod_string Tryz.underlying9 ht
      simp at h1
      subst h1
      refine ⟨s, fun j hj => ?_, h3⟩
      match j, hj with
      | 0, _ => rfl) h
  refine ⟨xs, hsl, hl, fun x hx => ?_⟩
  obtain ⟨i, hi, rfl⟩ := List.mem_iff_getElem.1 hx
  have := hR i hi
  rwa [List.getD_eq_getElem?_getD, List.getElem?_eq_getElem hi, Option.getD_some] at this
theorem forms_cell {t n : Nat} {c : Value} {y : DataW H × List MemPlace} (ht : Tryz.prog.underlying t = some (.slice 46)) (h : DataW.trod enc Tryz.prog W base spare held n t [c] = some y) :
    ∃ fs : List (List Int), Forms W W.heap.size c fs ∧ Sized fs := by
  obtain ⟨xs, hsl, hl, hR⟩ := open_rows (α := List Int × Value) ([], .slice none 0 0) (fun x _ => x.2) (fun x => Ints W W.heap.size x.2 x.1 ∧ x.1.length ≤ maxLen) ht cellsFo (by omega) (by
    intro n cs' y hlen ht
    match cs', hlen with
    | [c0], _ =>
      obtain ⟨f, hf, hfl, _⟩ := ints_cell Tryz.underlying46 ht
      refine ⟨(f, c0), fun j hj => ?_, hf, hfl⟩
      match j, hj with
      | 0, _ => rfl) h
  have hg : ∀ i, i < xs.length → (xs.map (·.1)).getD i [] = (xs.getD i ([], .slice none 0 0)).1 := fun i hi => by simp [hi]
  refine ⟨xs.map (·.1), ⟨fun i => (xs.getD i ([], .slice none 0 0)).2, ?_, fun i hi => ?_⟩, by simpa using hl, fun f hf => ?_⟩
  · rw [List.length_map]
    exact hsl
  · rw [List.length_map] at hi
    rw [hg i hi]
    exact (hR i hi).1
  · obtain ⟨x, hx, rfl⟩ := List.mem_map.1 hf
    obtain ⟨i, hi, rfl⟩ := List.mem_iff_getElem.1 hx
    have := (hR i hi).2
    rwa [List.getD_eq_getElem?_getD, List.getElem?_eq_getElem hi, Option.getD_some] at this
end
end Go.Proofs.YtehadoecnmfeoaaGreat
/- What can be reached in a loom: the program's list and the reference's marks say the same: plain laws. -/
namespace Go.Proofs.YtehadoecnmfeoaaGreat
set_option linter.unusedVariables false
set_option linter.unusedSimpArgs false
/-- What can be reached from a spot by the runs but one. -/
inductive Rch (rs : List (Nat × Nat)) (w : Int) (s : Nat) : Nat → Prop
  | base : Rch rs w s s
  | fwd {x y k : Nat} : Rch rs w s x → k < rs.length → (k : Int) ≠ w → rs.getD k (0, 0) = (x, y) → Rch rs w s y
  | bwd {x y k : Nat} : Rch rs w s x → k < rs.length → (k : Int) ≠ w → rs.getD k (0, 0) = (y, x) → Rch rs w s y
def stepA (w : Int) (x : Nat) (out : List Nat) (k : Nat) (a b : Nat) : List Nat := if (k : Int) ≠ w ∧ a = x ∧ b ∉ out then out ++ [b] else out
def stepR (w : Int) (x : Nat) (out : List Nat) (k : Nat) (r : Nat × Nat) : List Nat := stepA w x (stepA w x out k r.1 r.2) k r.2 r.1
def scanR (rs : List (Nat × Nat)) (w : Int) (x : Nat) (out : List Nat) : Nat → List Nat
  | 0 => out
  | k + 1 => stepR w x (scanR rs w x out k) k (rs.getD k (0, 0))
def stR (rs : List (Nat × Nat)) (w : Int) (s : Nat) : Nat → List Nat
  | 0 => [s]
  | i + 1 => if i < (stR rs w s i).length then scanR rs w ((stR rs w s i).getD i 0) (stR rs w s i) rs.length else stR rs w s i
theorem stepA_pre (w : Int) (x : Nat) (out : List Nat) (k a b : Nat) : out <+: stepA w x out k a b := by
  unfold stepA
  split
  · exact List.prefix_append _ _
  · exact List.prefix_rfl
theorem stepR_pre (w : Int) (x : Nat) (out : List Nat) (k : Nat) (r : Nat × Nat) : out <+: stepR w x out k r := (stepA_pre ..).trans (stepA_pre ..)
theorem scanR_pre (rs : List (Nat × Nat)) (w : Int) (x : Nat) (out : List Nat) : ∀ k, out <+: scanR rs w x out k
  | 0 => List.prefix_rfl
  | k + 1 => (scanR_pre rs w x out k).trans (stepR_pre ..)
theorem scanR_pre' (rs : List (Nat × Nat)) (w : Int) (x : Nat) (out : List Nat) {j k : Nat} (h : j ≤ k) : scanR rs w x out j <+: scanR rs w x out k := by
  induction k with
  | zero => rw [show j = 0 by omega]; exact List.prefix_rfl
  | succ k ih =>
    rcases Nat.lt_or_ge j (k + 1) with h1 | h1
    · exact (ih (by omega)).trans (stepR_pre ..)
    · rw [show j = k + 1 by omega]; exact List.prefix_rfl
theorem stR_pre1 (rs : List (Nat × Nat)) (w : Int) (s : Nat) (i : Nat) : stR rs w s i <+: stR rs w s (i + 1) := by
  show _ <+: (if _ then _ else _)
  split
  · exact scanR_pre ..
  · exact List.prefix_rfl
theorem stR_pre (rs : List (Nat × Nat)) (w : Int) (s : Nat) {i j : Nat} (h : i ≤ j) : stR rs w s i <+: stR rs w s j := by
  induction j with
  | zero => rw [show i = 0 by omega]; exact List.prefix_rfl
  | succ j ih =>
    rcases Nat.lt_or_ge i (j + 1) with h1 | h1
    · exact (ih (by omega)).trans (stR_pre1 ..)
    · rw [show i = j + 1 by omega]; exact List.prefix_rfl
theorem stepA_nodup {w : Int} {x : Nat} {out : List Nat} {k a b : Nat} (h : out.Nodup) : (stepA w x out k a b).Nodup := by
  unfold stepA
  split
  · rename_i h1
    rw [List.nodup_append]
    exact ⟨h, by simp, fun y hy z hz => by simp at hz; subst hz; exact fun e => h1.2.2 (e ▸ hy)⟩
  · exact h
theorem scanR_nodup {rs : List (Nat × Nat)} {w : Int} {x : Nat} {out : List Nat} (h : out.Nodup) : ∀ k, (scanR rs w x out k).Nodup
  | 0 => h
  | k + 1 => stepA_nodup (stepA_nodup (scanR_nodup h k))
theorem stR_nodup (rs : List (Nat × Nat)) (w : Int) (s : Nat) : ∀ i, (stR rs w s i).Nodup
  | 0 => by simp [stR]
  | i + 1 => by
    show List.Nodup (if _ then _ else _)
    split
    · exact scanR_nodup (stR_nodup rs w s i) _
    · exact stR_nodup rs w s i
theorem scanR_rch {rs : List (Nat × Nat)} {w : Int} {s x : Nat} {out : List Nat} (h : ∀ y ∈ out, Rch rs w s y) (hx : Rch rs w s x) : ∀ k, k ≤ rs.length → ∀ y ∈ scanR rs w x out k, Rch rs w s y
  | 0, _, y, hy => h y hy
  | k + 1, hk, y, hy => by
    have ih := scanR_rch h hx k (by omega)
    obtain ⟨a, b, hr⟩ : ∃ a b, rs.getD k (0, 0) = (a, b) := ⟨_, _, rfl⟩
    have hy' : y ∈ stepA w x (stepA w x (scanR rs w x out k) k (rs.getD k (0, 0)).1 (rs.getD k (0, 0)).2) k (rs.getD k (0, 0)).2 (rs.getD k (0, 0)).1 := hy
    rw [hr] at hy'
    unfold stepA at hy'
    simp only at hy'
    have key : ∀ L : List Nat, (∀ z ∈ L, Rch rs w s z) → ∀ c d : Nat, (rs.getD k (0, 0) = (c, d) ∨ rs.getD k (0, 0) = (d, c)) → ∀ z ∈ (if (k : Int) ≠ w ∧ c = x ∧ d ∉ L then L ++ [d] else L), Rch rs w s z := by
      intro L hL c d hcd z hz
      split at hz
      · rename_i h1
        rcases List.mem_append.1 hz with h2 | h2
        · exact hL z h2
        · simp at h2
          subst h2
          obtain ⟨h3, rfl, _⟩ := h1
          rcases hcd with h4 | h4
          · exact .fwd hx (by omega) h3 h4
          · exact .bwd hx (by omega) h3 h4
      · exact hL z hz
    exact key _ (key _ ih a b (.inl hr)) b a (.inr hr) y hy'
theorem lGetD_mem {l : List Nat} {i : Nat} (h : i < l.length) : l.getD i 0 ∈ l := by
  rw [List.getD_eq_getElem?_getD, List.getElem?_eq_getElem h]
  exact List.getElem_mem h
theorem stR_rch (rs : List (Nat × Nat)) (w : Int) (s : Nat) : ∀ i, ∀ y ∈ stR rs w s i, Rch rs w s y
  | 0, y, hy => by simp [stR] at hy; subst hy; exact .base
  | i + 1, y, hy => by
    have ih := stR_rch rs w s i
    have hy' : y ∈ (if i < (stR rs w s i).length then scanR rs w ((stR rs w s i).getD i 0) (stR rs w s i) rs.length else stR rs w s i) := hy
    split at hy'
    · rename_i h1
      exact scanR_rch ih (ih _ (lGetD_mem h1)) _ (Nat.le_refl _) y hy'
    · exact ih y hy'
theorem stepA_has {w : Int} {x : Nat} {out : List Nat} {k a b : Nat} (h : (k : Int) ≠ w) (ha : a = x) : b ∈ stepA w x out k a b := by
  unfold stepA
  by_cases hb : b ∈ out
  · rw [if_neg (fun q => q.2.2 hb)]; exact hb
  · rw [if_pos ⟨h, ha, hb⟩]; simp
theorem scanR_has {rs : List (Nat × Nat)} {w : Int} {x : Nat} {out : List Nat} {k : Nat} (hk : k < rs.length) (h : (k : Int) ≠ w) {a b : Nat} (hr : rs.getD k (0, 0) = (a, b)) :
    (a = x → b ∈ scanR rs w x out rs.length) ∧ (b = x → a ∈ scanR rs w x out rs.length) := by
  have hp := scanR_pre' rs w x out (show k + 1 ≤ rs.length by omega)
  have e : scanR rs w x out (k + 1) = stepA w x (stepA w x (scanR rs w x out k) k a b) k b a := by
    show stepR _ _ _ _ _ = _
    rw [hr]; rfl
  rw [e] at hp
  exact ⟨fun ha => hp.subset ((stepA_pre ..).subset (stepA_has h ha)), fun hb => hp.subset (stepA_has h hb)⟩
theorem pre_getD {l m : List Nat} (h : l <+: m) {i : Nat} (hi : i < l.length) : m.getD i 0 = l.getD i 0 := by
  obtain ⟨t, rfl⟩ := h
  simp [List.getD_eq_getElem?_getD, List.getElem?_append_left hi]
/-- Behind round i all that its spots lead to is there. -/
theorem stR_closed {rs : List (Nat × Nat)} {w : Int} {s : Nat} {i j : Nat} (hj : j < i) (hl : j < (stR rs w s i).length) {k : Nat} (hk : k < rs.length) (h : (k : Int) ≠ w) {a b : Nat} (hr : rs.getD k (0, 0) = (a, b)) :
    (a = (stR rs w s i).getD j 0 → b ∈ stR rs w s i) ∧ (b = (stR rs w s i).getD j 0 → a ∈ stR rs w s i) := by
  induction i with
  | zero => omega
  | succ i ih =>
    have e : stR rs w s (i + 1) = if i < (stR rs w s i).length then scanR rs w ((stR rs w s i).getD i 0) (stR rs w s i) rs.length else stR rs w s i := rfl
    have hp := stR_pre1 rs w s i
    rcases Nat.lt_or_ge j i with h1 | h1
    · by_cases h2 : j < (stR rs w s i).length
      · obtain ⟨q1, q2⟩ := ih h1 h2
        rw [pre_getD hp h2]
        exact ⟨fun q => hp.subset (q1 q), fun q => hp.subset (q2 q)⟩
      · rw [if_neg (by omega)] at e
        rw [e] at hl
        exact absurd hl h2
    · obtain rfl : j = i := by omega
      by_cases h2 : j < (stR rs w s j).length
      · rw [pre_getD hp h2]
        rw [e, if_pos h2]
        exact scanR_has hk h hr
      · rw [if_neg h2] at e
        rw [e] at hl
        exact absurd hl h2
/-- A round that has come to the end of the list: the list is all that can be reached. -/
theorem stR_all {rs : List (Nat × Nat)} {w : Int} {s i : Nat} (hi : (stR rs w s i).length ≤ i) (y : Nat) : y ∈ stR rs w s i ↔ Rch rs w s y := by
  refine ⟨stR_rch rs w s i y, fun h => ?_⟩
  induction h with
  | base =>
    have hp := stR_pre rs w s (Nat.zero_le i)
    exact hp.subset (by simp [stR])
  | fwd _ hk hw hr ih =>
    obtain ⟨j, hj, e⟩ := List.getElem_of_mem ih
    exact (stR_closed (show j < i by omega) hj hk hw hr).1 (by simp [List.getD_eq_getElem?_getD, hj, e])
  | bwd _ hk hw hr ih =>
    obtain ⟨j, hj, e⟩ := List.getElem_of_mem ih
    exact (stR_closed (show j < i by omega) hj hk hw hr).2 (by simp [List.getD_eq_getElem?_getD, hj, e])
theorem rch_lt {rs : List (Nat × Nat)} {w : Int} {s n y : Nat} (hs : s < n) (hrs : ∀ k, k < rs.length → (rs.getD k (0, 0)).1 < n ∧ (rs.getD k (0, 0)).2 < n) (h : Rch rs w s y) : y < n := by
  induction h with
  | base => exact hs
  | fwd _ hk _ hr _ => have := (hrs _ hk).2; rw [hr] at this; exact this
  | bwd _ hk _ hr _ => have := (hrs _ hk).1; rw [hr] at this; exact this
theorem nodup_sub : ∀ {l m : List Nat}, l.Nodup → l ⊆ m → l.length ≤ m.length
  | [], _, _, _ => Nat.zero_le _
  | a :: t, m, hd, h => by
    have hm : a ∈ m := h (List.mem_cons_self ..)
    have ht := nodup_sub (m := m.erase a) (List.nodup_cons.1 hd).2 fun y hy => (List.mem_erase_of_ne (fun e : y = a => (List.nodup_cons.1 hd).1 (by rw [← e]; exact hy))).2 (h (List.mem_cons_of_mem _ hy))
    rw [List.length_erase_of_mem hm] at ht
    have := List.length_pos_of_mem hm
    show t.length + 1 ≤ _
    omega
theorem nodup_len {l : List Nat} {n : Nat} (hd : l.Nodup) (h : ∀ y ∈ l, y < n) : l.length ≤ n := by
  have h1 : l ⊆ List.range n := fun y hy => by simpa using h y hy
  simpa using nodup_sub hd h1
theorem stR_len {rs : List (Nat × Nat)} {w : Int} {s n : Nat} (hs : s < n) (hrs : ∀ k, k < rs.length → (rs.getD k (0, 0)).1 < n ∧ (rs.getD k (0, 0)).2 < n) (i : Nat) : (stR rs w s i).length ≤ n :=
  nodup_len (stR_nodup ..) fun y hy => rch_lt hs hrs (stR_rch rs w s i y hy)
/-- All n spots can be reached exactly if the list has n. -/
theorem stR_full {rs : List (Nat × Nat)} {w : Int} {s n i : Nat} (hs : s < n) (hrs : ∀ k, k < rs.length → (rs.getD k (0, 0)).1 < n ∧ (rs.getD k (0, 0)).2 < n) (hi : (stR rs w s i).length ≤ i) : (stR rs w s i).length = n ↔ ∀ y, y < n → Rch rs w s y := by
  constructor
  · intro h y hy
    rw [← stR_all hi]
    refine Decidable.byContradiction fun hn => ?_
    have h2 : (y :: stR rs w s i).Nodup := List.nodup_cons.2 ⟨hn, stR_nodup ..⟩
    have h3 := nodup_len h2 fun z hz => by
      rcases List.mem_cons.1 hz with rfl | hz
      · exact hy
      · exact rch_lt hs hrs (stR_rch rs w s i z hz)
    simp only [List.length_cons] at h3
    omega
  · intro h
    have h1 : List.range n ⊆ stR rs w s i := fun y hy => (stR_all hi y).2 (h y (by simpa using hy))
    have h2 := nodup_sub List.nodup_range h1
    have h3 := stR_len (w := w) hs hrs i
    simp at h2
    omega
end Go.Proofs.YtehadoecnmfeoaaGreat
/- A tree of runs: without any one of them its two spots are apart: plain laws. -/
namespace Go.Proofs.YtehadoecnmfeoaaGreat
set_option linter.unusedVariables false
set_option linter.unusedSimpArgs false
set_option linter.unusedSectionVars false
theorem Rch.trans {rs : List (Nat × Nat)} {w : Int} {s x y : Nat} (h : Rch rs w s x) (k : Rch rs w x y) : Rch rs w s y := by
  induction k with
  | base => exact h
  | fwd _ hk hw hr ih => exact .fwd ih hk hw hr
  | bwd _ hk hw hr ih => exact .bwd ih hk hw hr
theorem Rch.symm {rs : List (Nat × Nat)} {w : Int} {s y : Nat} (h : Rch rs w s y) : Rch rs w y s := by
  induction h with
  | base => exact .base
  | fwd _ hk hw hr ih => exact (Rch.bwd .base hk hw hr).trans ih
  | bwd _ hk hw hr ih => exact (Rch.fwd .base hk hw hr).trans ih
/-- Names of the parts that hang together, after some runs. -/
def lab (rs : List (Nat × Nat)) (w : Int) : Nat → Nat → Nat
  | 0, y => y
  | k + 1, y => if (k : Int) = w then lab rs w k y else if lab rs w k y = lab rs w k (rs.getD k (0, 0)).1 then lab rs w k (rs.getD k (0, 0)).2 else lab rs w k y
theorem lab_edge {rs : List (Nat × Nat)} {w : Int} : ∀ {k j : Nat}, j < k → (j : Int) ≠ w → ∀ {a b : Nat}, rs.getD j (0, 0) = (a, b) → lab rs w k a = lab rs w k b
  | 0, j, h, _, _, _, _ => by omega
  | k + 1, j, h, hw, a, b, hr => by
    rcases Nat.lt_or_ge j k with h1 | h1
    · have ih := lab_edge (rs := rs) (w := w) h1 hw hr
      simp only [lab]
      rw [ih]
    · obtain rfl : j = k := by omega
      simp only [lab, if_neg hw, hr, if_true]
      by_cases h2 : lab rs w j b = lab rs w j a
      · rw [if_pos h2]
      · rw [if_neg h2]
theorem lab_rch {rs : List (Nat × Nat)} {w : Int} {s y : Nat} (h : Rch rs w s y) : lab rs w rs.length s = lab rs w rs.length y := by
  induction h with
  | base => rfl
  | fwd _ hk hw hr ih => rw [ih, lab_edge hk hw hr]
  | bwd _ hk hw hr ih => rw [ih, lab_edge hk hw hr]
theorem countP_near {p q : Nat → Bool} {c : Nat} : ∀ {l : List Nat}, l.Nodup → (∀ x, x ≠ c → p x = true → q x = true) → l.countP p ≤ l.countP q + 1
  | [], _, _ => by simp
  | a :: l, hd, h => by
    obtain ⟨h1, h2⟩ := List.nodup_cons.1 hd
    by_cases ha : a = c
    · subst ha
      have h3 : l.countP p ≤ l.countP q := List.countP_mono_left fun x hx hp => h x (fun e => h1 (e ▸ hx)) hp
      simp only [List.countP_cons]
      split <;> split <;> omega
    · have ih := countP_near h2 h
      simp only [List.countP_cons]
      split
      · rename_i hp
        rw [if_pos (h a ha hp)]
        omega
      · split <;> omega
/-- How many of the first k runs are taken. -/
def takenN (w : Int) : Nat → Nat
  | 0 => 0
  | k + 1 => if (k : Int) = w then takenN w k else takenN w k + 1
theorem taken_but (j : Nat) : ∀ k, (k ≤ j → takenN j k = k) ∧ (j < k → takenN j k + 1 = k)
  | 0 => ⟨fun _ => rfl, fun h => by omega⟩
  | k + 1 => by
    obtain ⟨h1, h2⟩ := taken_but j k
    simp only [takenN]
    constructor
    · intro h
      rw [if_neg (by omega), h1 (by omega)]
    · intro h
      by_cases hk : k = j
      · subst hk
        rw [if_pos rfl, h1 (Nat.le_refl _)]
      · rw [if_neg (by omega)]
        have := h2 (by omega)
        omega
def rootsN (rs : List (Nat × Nat)) (w : Int) (n k : Nat) : Nat := (List.range n).countP fun x => decide (lab rs w k x = x)
theorem roots_many (rs : List (Nat × Nat)) (w : Int) (n : Nat) : ∀ k, n ≤ rootsN rs w n k + takenN w k
  | 0 => by
    have h : rootsN rs w n 0 = (List.range n).length := List.countP_eq_length.2 fun x _ => by simp [lab]
    rw [h]
    simp
  | k + 1 => by
    have ih := roots_many rs w n k
    by_cases hw : (k : Int) = w
    · have e : rootsN rs w n (k + 1) = rootsN rs w n k := by simp only [rootsN, lab, if_pos hw]
      simp only [takenN, if_pos hw]
      omega
    · simp only [takenN, if_neg hw]
      have h1 : rootsN rs w n k ≤ rootsN rs w n (k + 1) + 1 := by
        refine countP_near (c := lab rs w k (rs.getD k (0, 0)).1) List.nodup_range fun x hx hp => ?_
        simp only [decide_eq_true_eq] at hp ⊢
        simp only [lab, if_neg hw]
        rw [hp, if_neg hx]
      omega
theorem two_of_count {p : Nat → Bool} : ∀ {l : List Nat}, l.Nodup → 2 ≤ l.countP p → ∃ x y, x ∈ l ∧ y ∈ l ∧ x ≠ y ∧ p x = true ∧ p y = true
  | [], _, h => by simp at h
  | a :: l, hd, h => by
    obtain ⟨h1, h2⟩ := List.nodup_cons.1 hd
    by_cases ha : p a = true
    · rw [List.countP_cons, if_pos ha] at h
      have h3 : 0 < l.countP p := by omega
      obtain ⟨y, hy, hp⟩ := List.countP_pos_iff.1 h3
      exact ⟨a, y, List.mem_cons_self .., List.mem_cons_of_mem _ hy, fun e => h1 (e ▸ hy), ha, hp⟩
    · rw [List.countP_cons, if_neg ha] at h
      obtain ⟨x, y, hx, hy, q⟩ := two_of_count h2 (by omega)
      exact ⟨x, y, List.mem_cons_of_mem _ hx, List.mem_cons_of_mem _ hy, q⟩
/-- n spots, n - 1 runs between them, and all hang together. -/
structure TreeR (rs : List (Nat × Nat)) (n : Nat) : Prop where
  len : rs.length + 1 = n
  lt : ∀ k, k < rs.length → (rs.getD k (0, 0)).1 < n ∧ (rs.getD k (0, 0)).2 < n
  all : ∀ y, y < n → Rch rs (-1) 0 y
/-- Without a run its spots are apart. -/
theorem TreeR.bridge {rs : List (Nat × Nat)} {n : Nat} (h : TreeR rs n) {j : Nat} (hj : j < rs.length) {a b : Nat} (hr : rs.getD j (0, 0) = (a, b)) : ¬ Rch rs j a b := by
  intro hab
  have hre : ∀ y, Rch rs (-1) 0 y → Rch rs j 0 y := by
    intro y hy
    induction hy with
    | base => exact .base
    | @fwd x y k _ hk _ hr' ih =>
      by_cases hkj : k = j
      · subst hkj
        rw [hr] at hr'
        injection hr' with e1 e2
        subst e1 e2
        exact ih.trans hab
      · exact .fwd ih hk (by omega) hr'
    | @bwd x y k _ hk _ hr' ih =>
      by_cases hkj : k = j
      · subst hkj
        rw [hr] at hr'
        injection hr' with e1 e2
        subst e1 e2
        exact ih.trans hab.symm
      · exact .bwd ih hk (by omega) hr'
  have h1 := roots_many rs (j : Int) n rs.length
  have h2 := (taken_but j rs.length).2 hj
  have h3 := h.len
  obtain ⟨x, y, hx, hy, hne, hp, hq⟩ := two_of_count List.nodup_range (show 2 ≤ rootsN rs (j : Int) n rs.length by omega)
  simp only [decide_eq_true_eq] at hp hq
  have e1 := lab_rch (hre x (h.all x (by simpa using hx)))
  have e2 := lab_rch (hre y (h.all y (by simpa using hy)))
  exact hne (by rw [← hp, ← hq, ← e1, ← e2])
theorem TreeR.all' {rs : List (Nat × Nat)} {n : Nat} (h : TreeR rs n) {x y : Nat} (hx : x < n) (hy : y < n) : Rch rs (-1) x y := (h.all x hx).symm.trans (h.all y hy)
/-- No two runs between the same spots. -/
theorem TreeR.once {rs : List (Nat × Nat)} {n : Nat} (h : TreeR rs n) {j k : Nat} (hj : j < rs.length) (hk : k < rs.length) {a b : Nat} (hr : rs.getD j (0, 0) = (a, b)) (hr' : rs.getD k (0, 0) = (a, b) ∨ rs.getD k (0, 0) = (b, a)) : j = k := by
  refine Decidable.byContradiction fun hne => h.bridge hj hr ?_
  rcases hr' with h1 | h1
  · exact .fwd .base hk (by omega) h1
  · exact .bwd .base hk (by omega) h1
end Go.Proofs.YtehadoecnmfeoaaGreat

/- Part 8 of this claim's texts: walks and plain laws. -/
import Derived.Test.YtehadoecnmfeoaaRows
import Derived.Test.YtehadoecnmfeoaaGBB7
import Derived.Test.YtehadoecnmfeoaaGBB6
import Derived.Laws.ShiftsVarLaws
import Derived.Test.YtehadoecnmfeoaaGBB0
/- CheckModel, check: walks. -/
namespace Go.Proofs.Ytehadoecnmfeoaa
open Go.RowKit
set_option linter.unusedVariables false
set_option linter.unusedSimpArgs false
/-- Sizes that memory allows. -/
structure SizedM (m : Mo) : Prop where
  n : m.opts.length ≤ maxLen
  s : ∀ x ∈ m.opts, x.size ≤ maxLen
  r : Sized m.rules
theorem names_get (m : Mo) (k : Nat) : m.names.getD k [] = (m.opts.getD k ByteArray.empty).data.toList := by
  unfold Mo.names
  simp only [List.getD_eq_getElem?_getD, List.getElem?_map]
  cases m.opts[k]? <;> rfl
theorem Mo.err_many {m : Mo} (h : 40 < m.opts.length ∨ 60 < m.rules.length) : m.err = 2 := by unfold Mo.err; rw [if_pos h]
theorem Mo.err_name {m : Mo} (h1 : m.opts.length ≤ 40) (h2 : m.rules.length ≤ 60) (h : namesB [] m.names = false) : m.err = 10 := by unfold Mo.err; rw [if_neg (by omega), if_pos h]
theorem Mo.err_rest {m : Mo} (h1 : m.opts.length ≤ 40) (h2 : m.rules.length ≤ 60) (h : namesB [] m.names = true) : m.err = if m.rules.all (validF m.opts.length) = false then 11 else 0 := by unfold Mo.err; rw [if_neg (by omega), if_neg (by simp [h])]
set_option maxRecDepth 100000 in
set_option maxHeartbeats 2000000 in
theorem CheckModel_any (m : Mo) (ov rv : Value) (w : World) (hs : SizedM m) (h : MoAt w w.heap.size ov rv m) :
    Calls Try.prog 50 #[.agg #[ov, rv]] w fun e w' => e = .returned (.int .i64 m.err) ∧ Below w.heap.size w w' := by
  obtain ⟨A, cap, hov⟩ := Sl.form h.o
  obtain ⟨Ar, capr, hrv⟩ := h.r.form
  by_cases h40 : 40 < m.opts.length
  · have he := Mo.err_many (m := m) (.inl h40)
    have HE := hide he
    have hi : (40 : Int) < (m.opts.length : Int) := by omega
    subst hov hrv
    clear he h40 h
    go_enter Try.func50, Try.ntmps50
    go_wp2_with fail
    go_ret
    exact ⟨ret_int HE.out.symm, (by repeat (first | exact Below.refl _ _ | assumption | refine Below.drew ?_ | refine Below.drewN ?_ _ | refine Below.allocT ?_ (Nat.le_refl _) _ | refine Below.setCell ?_ (by simp <;> omega) _ | refine Below.to ?_ (by assumption) (Nat.le_refl _)))⟩
  by_cases h60 : 60 < m.rules.length
  · have he := Mo.err_many (m := m) (.inr h60)
    have HE := hide he
    have hi : ¬ (40 : Int) < (m.opts.length : Int) := by omega
    have hj : (60 : Int) < (m.rules.length : Int) := by omega
    subst hov hrv
    clear he h40 h60 h
    go_enter Try.func50, Try.ntmps50
    go_wp2_with fail
    go_ret
    exact ⟨ret_int HE.out.symm, (by repeat (first | exact Below.refl _ _ | assumption | refine Below.drew ?_ | refine Below.drewN ?_ _ | refine Below.allocT ?_ (Nat.le_refl _) _ | refine Below.setCell ?_ (by simp <;> omega) _ | refine Below.to ?_ (by assumption) (Nat.le_refl _)))⟩
  have hi : ¬ (40 : Int) < (m.opts.length : Int) := by omega
  have hj : ¬ (60 : Int) < (m.rules.length : Int) := by omega
  have hn := h.o
  subst hov
  obtain ⟨A', b, off, cap', h1, hnc, hA, hc⟩ := hn
  injection h1 with e1 _ e3
  subst e1 e3
  have HC := hide hc
  have HA := hide hA
  have H := hide h
  have HS := hide hs
  have h40' : m.opts.length ≤ 40 := by omega
  have h60' : m.rules.length ≤ 60 := by omega
  have hcn : (m.opts.length : Int) ≤ (cap : Int) := by omega
  subst hrv
  clear hc hA h hs h40 h60
  go_enter Try.func50, Try.ntmps50
  go_wp2_with fail
  generalize hw0 : World.alloc _ _ = w0
  obtain ⟨hb0, hB0, hs0⟩ := alloc1 hw0
  clear hw0
  have HX0 : Hid (MoBox w0 w.heap.size (.slice A m.opts.length cap) (.slice Ar m.rules.length capr)) := hb0
  have HB0 := hide hB0
  have HH0 : Hid (MoAt w0 w0.heap.size (.slice A m.opts.length cap) (.slice Ar m.rules.length capr) m) := H.out.up hB0
  clear hb0 hB0 hs0
  go_loopw [18] (fun i wr => ∃ k : Nat, k ≤ m.opts.length ∧ i = .int .i64 k ∧ Hid (∀ j, j < k → namedB (m.names.getD j []) = true ∧ ([] ++ m.names.take j).contains (m.names.getD j []) = false) ∧ Hid (Below w0.heap.size w0 wr)) (fun i _ => m.opts.length - (intOf i).toNat)
  case atStart => exact ⟨0, Nat.zero_le _, rfl, fun j hj => by omega, Below.refl _ _⟩
  case round =>
    obtain ⟨k, hk, rfl, hall, hB⟩ := hrel
    have hbx := box_to HX0.out hB.out
    have x0 := cellOf hbx 0
    have x1 := cellOf hbx 1
    clear hbx
    by_cases hlt : k < m.opts.length
    · obtain ⟨rfl, hbb⟩ : A = some ⟨b, off, none⟩ ∧ b < w.heap.size := by
        rcases HA.out with h | h
        · exact h
        · omega
      obtain ⟨x, hx⟩ : ∃ x, m.opts.getD k ByteArray.empty = x := ⟨_, rfl⟩
      have hBw := Below.to HB0.out hB.out (Nat.le_refl _)
      have c0 : wr.cell? ⟨b, off + k, none⟩ = some (.string x) := by
        have h1 := HC.out k 0 hlt (by omega)
        rw [Nat.mul_one, Nat.add_zero, hx] at h1
        exact (hBw.cell (p := ⟨b, off + k, none⟩) hbb).trans h1
      have hxs : x.size ≤ maxLen := HS.out.s x (by rw [← hx]; exact getD_mem hlt)
      have hnm : m.names.getD k [] = x.data.toList := by rw [names_get, hx]
      have HNM := hide hnm
      have HBW := hide hBw
      have ik : (k : Int) ≤ (cap : Int) := by omega
      have ik2 : (k : Int) < (m.opts.length : Int) := by omega
      clear hx hnm hBw
      by_cases hnb : namedB x.data.toList = true
      · have hct := containsS_any (m.opts.take k) x (.slice (some ⟨b, off, none⟩) k cap) w.heap.size wr (by unfold maxLen; simp; omega) (Names.take (H.out.o.below HBW.out) (by omega))
        have hmt : (m.opts.take k).map (fun x => x.data.toList) = m.names.take k := by unfold Mo.names; rw [List.map_take]
        rw [hmt] at hct
        have hna := named_any x wr hxs
        rw [hnb] at hna
        have HNA := hide hna
        have HNB := hide hnb
        clear hmt hna hnb
        cases hcc : (m.names.take k).contains x.data.toList with
        | true =>
          rw [hcc] at hct
          have HCT := hide hct
          have hbad : namesB [] m.names = false := namesB_at [] m.names k (by unfold Mo.names; simpa using hlt) hall.out (by rw [HNM.out, HNB.out, List.nil_append, hcc]; rfl)
          have he := Mo.err_name h40' h60' hbad
          have HE := hide he
          clear hcc hct hbad he
          go_wp2_with (first | (go_at_call 94; refine HNA.out.mono ?_; rintro e w1 ⟨rfl, rfl⟩) | (go_at_call 95; refine HCT.out.mono ?_; rintro e w2 ⟨rfl, rfl⟩))
          go_ret
          exact ⟨ret_int HE.out.symm, HBW.out⟩
        | false =>
          rw [hcc] at hct
          have HCT := hide hct
          have HCC := hide hcc
          clear hct hcc
          go_wp2_with (first | (go_at_call 94; refine HNA.out.mono ?_; rintro e w1 ⟨rfl, rfl⟩) | (go_at_call 95; refine HCT.out.mono ?_; rintro e w2 ⟨rfl, rfl⟩))
          go_roundw
          case rel => exact ⟨k + 1, by omega, by go_num, fun j hj => by
              rcases Nat.lt_or_ge j k with h | h
              · exact hall.out j h
              · rw [show j = k from by omega, HNM.out, List.nil_append]; exact ⟨HNB.out, HCC.out⟩, hB.out⟩
          case measure => simp [intOf]; omega
      · have hnb' : namedB x.data.toList = false := by simpa using hnb
        have hna := named_any x wr hxs
        rw [hnb'] at hna
        have HNA := hide hna
        have hbad : namesB [] m.names = false := namesB_at [] m.names k (by unfold Mo.names; simpa using hlt) hall.out (by rw [HNM.out, hnb']; rfl)
        have he := Mo.err_name h40' h60' hbad
        have HE := hide he
        clear hna hbad he hnb hnb'
        go_wp2_with (go_at_call 94; refine HNA.out.mono ?_; rintro e w1 ⟨rfl, rfl⟩)
        go_ret
        exact ⟨ret_int HE.out.symm, HBW.out⟩
    · have hgood : namesB [] m.names = true := namesB_all [] m.names (fun j hj => hall.out j (by unfold Mo.names at hj; simp at hj; omega))
      have he := Mo.err_rest h40' h60' hgood
      have hmw := HH0.out.up hB.out
      have hck := checkForms_any m m.rules (.slice A m.opts.length cap) (.slice Ar m.rules.length capr) (.slice Ar m.rules.length capr) wr HS.out.n HS.out.r hmw.o hmw.r
      rw [← he] at hck
      have HCK := hide hck
      clear hgood he hmw hck
      go_wp2_with (go_at_call 96; refine HCK.out.mono ?_; rintro e w1 ⟨rfl, hB1⟩)
      go_ret
      exact ⟨rfl, Below.to (Below.to HB0.out hB.out (Nat.le_refl _)) hB1 (Nat.le_refl _)⟩
theorem Mo.errF_err {m : Mo} {l : List (List Int)} (h : m.err ≠ 0) : m.errF l = m.err := by unfold Mo.errF; rw [if_pos h]
theorem Mo.errF_ok {m : Mo} {l : List (List Int)} (h : m.err = 0) : m.errF l = if l.all (validF m.opts.length) = false then 11 else 0 := by unfold Mo.errF; rw [if_neg (by simp [h])]
set_option maxRecDepth 100000 in
theorem check_any (m : Mo) (l : List (List Int)) (ov rv lv : Value) (w : World) (hs : SizedM m) (hl : Sized l) (h : MoAt w w.heap.size ov rv m) (hf : Forms w w.heap.size lv l) :
    Calls Try.prog 88 #[.agg #[ov, rv], lv] w fun e w' => e = .returned (.int .i64 (m.errF l)) ∧ Below w.heap.size w w' := by
  obtain ⟨A, cap, hov⟩ := Sl.form h.o
  obtain ⟨Ar, capr, hrv⟩ := h.r.form
  obtain ⟨Al, capl, hlv⟩ := hf.form
  have H := hide h
  have HF := hide hf
  have HS := hide hs
  have HL := hide hl
  subst hov hrv hlv
  clear h hf hs hl
  go_enter Try.func88, Try.ntmps88
  go_upto_region 1 with (fail)
  generalize hw0 : World.alloc _ _ = w0
  obtain ⟨hb0, hB0, hs0⟩ := alloc1 hw0
  clear hw0
  have c0 := cellOf hb0 0
  have c1 := cellOf hb0 1
  have HX0 : Hid (MoBox w0 w.heap.size (.slice A m.opts.length cap) (.slice Ar m.rules.length capr)) := hb0
  have HB0 := hide hB0
  have hck := CheckModel_any m (.slice A m.opts.length cap) (.slice Ar m.rules.length capr) w0 HS.out (H.out.up hB0)
  clear hb0 hB0 hs0
  by_cases he : m.err = 0
  · rw [he] at hck
    have HCK := hide hck
    have HE := hide (Mo.errF_ok (l := l) he)
    clear hck he
    go_wp2_with (go_at_call 50; refine HCK.out.mono ?_; rintro e w1 ⟨rfl, hB1⟩; have hbx := box_to HX0.out hB1; have d0 := cellOf hbx 0; have d1 := cellOf hbx 1; have HB1 : Hid (Below w.heap.size w w1) := Below.to HB0.out hB1 (Nat.le_refl _); clear hbx hB1)
    have hcf := checkForms_any m l (.slice A m.opts.length cap) (.slice Ar m.rules.length capr) (.slice Al l.length capl) w1 HS.out.n HL.out (H.out.up HB1.out).o (HF.out.up HB1.out)
    rw [← HE.out] at hcf
    have HCF := hide hcf
    clear hcf
    go_wp2_with (go_at_call 96; refine HCF.out.mono ?_; rintro e w2 ⟨rfl, hB2⟩)
    go_ret
    exact ⟨rfl, Below.to HB1.out hB2 (Nat.le_refl _)⟩
  · have hne : (m.err != 0) = true := by simpa using he
    have HE := hide (Mo.errF_err (l := l) he)
    have HCK := hide hck
    obtain ⟨z, hz⟩ : ∃ z, m.err = z := ⟨_, rfl⟩
    rw [hz] at hne HCK HE
    clear hck he hz
    go_wp2_with (go_at_call 50; refine HCK.out.mono ?_; rintro e w1 ⟨rfl, hB1⟩)
    go_ret
    exact ⟨ret_int HE.out.symm, Below.to HB0.out hB1 (Nat.le_refl _)⟩
end Go.Proofs.Ytehadoecnmfeoaa
/- begin: walk. -/
namespace Go.Proofs.Ytehadoecnmfeoaa
open Go.RowKit
set_option linter.unusedVariables false
set_option linter.unusedSimpArgs false
/-- What begin gives back where nothing is wrong. -/
structure BegR (m : Mo) (w w' : World) (F : Fo) (n : Nat) : Prop where
  here : FoAt w' F
  N : F.N = m.opts.length
  base : w.heap.size ≤ F.base
  below : Below w.heap.size w w'
  base2 : F.base ≤ w'.heap.size
  lt : n < F.ks.length
  ev : ∀ v, ev F.ks v n = allF v m.rules
  len : F.ks.length ≤ 2 + 6120 * 2 ^ F.N
  nj : F.nj ≤ 6120 * 2 ^ F.N
theorem BegR.room {m : Mo} {w w' : World} {F : Fo} {n : Nat} (h : BegR m w w' F n) (hN : m.opts.length ≤ 12) {k : Nat} (hk : k ≤ 200000) : Room F k := by
  have h1 := h.len
  have h2 := h.nj
  have h3 : 2 ^ F.N ≤ 2 ^ 12 := Nat.pow_le_pow_right (by omega) (by rw [h.N]; exact hN)
  have h4 := Nat.mul_le_mul (Nat.le_refl 6120) h3
  have h5 := Nat.mul_le_mul hk h3
  unfold Room
  omega
set_option maxRecDepth 100000 in
theorem begin_ok (m : Mo) (l : List (List Int)) (ov rv lv : Value) (w : World) (hs : SizedM m) (hl : Sized l) (h : MoAt w w.heap.size ov rv m) (hf : Forms w w.heap.size lv l) (he : m.errF l = 0) (hN : m.opts.length ≤ 12) :
    Calls Try.prog 41 #[.agg #[ov, rv], lv] w fun e w' => ∃ F n, e = .returned (.tuple #[.pointer (some ⟨F.p, 0, none⟩), .int .i64 (n : Nat), .int .i64 0]) ∧ BegR m w w' F n := by
  obtain ⟨A, cap, hov⟩ := Sl.form h.o
  obtain ⟨Ar, capr, hrv⟩ := h.r.form
  obtain ⟨Al, capl, hlv⟩ := hf.form
  have H := hide h
  have HF := hide hf
  have hok := Mo.ok (Mo.okF he).1
  subst hov hrv hlv
  clear h hf
  go_enter Try.func41, Try.ntmps41
  go_upto_region 1 with (fail)
  generalize hw0 : World.alloc _ _ = w0
  obtain ⟨hb0, hB0, hs0⟩ := alloc1 hw0
  clear hw0
  have c0 := cellOf hb0 0
  have c1 := cellOf hb0 1
  have HX0 : Hid (MoBox w0 w.heap.size (.slice A m.opts.length cap) (.slice Ar m.rules.length capr)) := hb0
  have HB0 := hide hB0
  have hck := check_any m l (.slice A m.opts.length cap) (.slice Ar m.rules.length capr) (.slice Al l.length capl) w0 hs hl (H.out.up hB0) (HF.out.up hB0)
  rw [he] at hck
  have HCK := hide hck
  have HOK := hide hok
  clear hb0 hB0 hs0 hck he hok
  go_wp2_with (first | (go_at_call 88; refine HCK.out.mono ?_; rintro e w1 ⟨rfl, hB1⟩; have hbx := box_to HX0.out hB1; have d0 := cellOf hbx 0; have d1 := cellOf hbx 1; have HB1 : Hid (Below w.heap.size w w1) := Below.to HB0.out hB1 (Nat.le_refl _); have HX1 : Hid (MoBox w1 w.heap.size (.slice A m.opts.length cap) (.slice Ar m.rules.length capr)) := hbx; clear hbx hB1 c0 c1) | (go_at_call 89; refine (newForest_any m.opts.length (by omega) _).mono ?_; rintro e w2 ⟨rfl, hF2, hB2⟩; have hbx := box_to HX1.out hB2; have x0 := cellOf hbx 0; have x1 := cellOf hbx 1; have HB2 : Hid (Below w.heap.size w w2) := Below.to HB1.out hB2 (Nat.le_refl _); have HF2 := hide hF2; have HS2 : Hid (w1.heap.size ≤ w2.heap.size) := hB2.size; clear hbx hB2 hF2 d0 d1))
  have hp : 2 ^ m.opts.length ≤ 2 ^ 12 := Nat.pow_le_pow_right (by omega) hN
  have hrl : 102 * m.rules.length ≤ 6120 := by have := HOK.out.2.1; omega
  have hmu := Nat.mul_le_mul hrl hp
  have hmu2 : 102 * m.rules.length * 2 ^ m.opts.length ≤ 6120 * 2 ^ m.opts.length := Nat.mul_le_mul_right _ hrl
  have hs1 := HB1.out.size
  have hs2 := HS2.out
  have hal := all_any (newFo w1.heap.size m.opts.length) m.rules (.slice Ar m.rules.length capr) w2 HF2.out hs2 HOK.out.2.2.2 ((H.out.r.below HB2.out).more hs1) (by have := HOK.out.2.1; omega) ⟨by show 2 + 102 * m.rules.length * 2 ^ m.opts.length ≤ _; omega, by show 0 + 102 * m.rules.length * 2 ^ m.opts.length ≤ _; omega⟩
  have HAL : Hid (Calls Try.prog 80 #[.pointer (some ⟨w1.heap.size + 3, 0, none⟩), .slice Ar m.rules.length capr] w2 _) := hal
  have HMU : Hid (102 * m.rules.length * 2 ^ m.opts.length ≤ 6120 * 2 ^ m.opts.length) := hmu2
  clear hp hrl hmu hmu2 hs1 hs2 hal
  refine HAL.out.mono ?_
  rintro e w3 ⟨n, F3, rfl, r1, r2, r3⟩
  have R1 := hide r1
  have R3 := hide r3
  clear r1 r3
  go_wp2_with fail
  go_ret3
  refine ⟨F3, n, ?_, ?_⟩
  · rw [R1.out.st.p]; rfl
  · have hb3 := R1.out.st.below HF2.out HS2.out
    refine ⟨R1.out.st.here, R1.out.st.N, by rw [R1.out.st.ba]; exact HB1.out.size, ?_, ?_, r2, R3.out, ?_, ?_⟩
    · exact ⟨hb3.os.trans HB2.out.os, hb3.tape.trans HB2.out.tape, hb3.output.trans HB2.out.output, Nat.le_trans HB2.out.size hb3.size, fun k hk => (hb3.block k (Nat.lt_of_lt_of_le hk HB1.out.size)).trans (HB2.out.block k hk)⟩
    · rw [R1.out.st.ba]; exact Nat.le_trans HS2.out hb3.size
    · have h1 := R1.out.len
      have h2 := HMU.out
      rw [R1.out.st.N]
      show _ ≤ 2 + 6120 * 2 ^ m.opts.length
      replace h1 : F3.ks.length ≤ 2 + 102 * m.rules.length * 2 ^ m.opts.length := h1
      omega
    · have h1 := R1.out.nj
      have h2 := HMU.out
      rw [R1.out.st.N]
      show _ ≤ 6120 * 2 ^ m.opts.length
      replace h1 : F3.nj ≤ 0 + 102 * m.rules.length * 2 ^ m.opts.length := h1
      omega
end Go.Proofs.Ytehadoecnmfeoaa
/- How many variants a node holds in: walk. -/
namespace Go.Proofs.Ytehadoecnmfeoaa
open Go.RowKit
open Go.Maps (Keyed)
set_option linter.unusedVariables false
set_option linter.unusedSimpArgs false
def enN (n : Nat) : Value := .int .i64 n
/-- What the map of counts holds is right. -/
def CntOk (ks : List Kn) (N : Nat) (m : Nat → Option Int) : Prop := ∀ n x, m n = some x → n < ks.length ∧ x = (cntK ks N n (topK ks n) : Nat)
structure CntR (F : Fo) (kb d : Nat) (w : World) (cnt : Nat) (w' : World) (m' : Nat → Option Int) (cnt' : Nat) : Prop where
  keep : Keeps (fun k => k = kb) w w'
  map : MapIs Try.prog w' 3 3 kb cnt' enN m'
  ok : CntOk F.ks F.N m'
  cnt : cnt' + 1 ≤ cnt + 2 ^ (d + 1)

end Go.Proofs.Ytehadoecnmfeoaa
/- Count: walk. -/
namespace Go.Proofs.Ytehadoecnmfeoaa
open Go.RowKit
set_option linter.unusedVariables false
set_option linter.unusedSimpArgs false
/-- The buildable variants in which a formula holds. -/
def satM (m : Mo) (p : (Nat → Bool) → Bool) : List (List Bool) := (exts m.opts.length []).filter fun x => allF (vf x) m.rules && p (vf x)
theorem satM_node {m : Mo} {ks : List Kn} {N n : Nat} {p : (Nat → Bool) → Bool} (hN : N = m.opts.length) (h : ∀ v, ev ks v n = (allF v m.rules && p v)) : sat ks N n [] = satM m p := by
  unfold sat satM
  rw [hN]
  exact List.filter_congr fun x _ => h _
/-- One formula in a new block is a list of formulas. -/
theorem forms_one {w : World} {b B : Nat} {fv : Value} {f : List Int} {t : Nat} (hb : w.heap[b]? = some (.cells #[fv] t (0, 0))) (hB : b < B) (h : Ints w B fv f) : Forms w B (.slice (some ⟨b, 0, none⟩) 1 1) [f] :=
  ⟨fun _ => fv, ⟨_, b, 0, 1, rfl, Nat.le_refl _, .inl ⟨rfl, hB⟩, fun i j hi hj => by
    simp at hi
    obtain rfl : j = 0 := by omega
    subst hi
    exact cellOf hb 0⟩, fun i hi => by
    simp at hi
    subst hi
    exact h⟩
theorem sized_one {f : List Int} (h : f.length ≤ maxLen) : Sized [f] := ⟨by unfold maxLen; simp, fun g hg => by simp at hg; rw [hg]; exact h⟩
/-- After begin and further steps all that was there before is as it was. -/
theorem OpR.low {m : Mo} {w w1 w2 : World} {F F2 : Fo} {n k : Nat} (h : BegR m w w1 F n) (r : OpR k w1 F w2 F2) : Below w.heap.size w w2 := by
  have hb := r.st.below h.here h.base2
  exact ⟨hb.os.trans h.below.os, hb.tape.trans h.below.tape, hb.output.trans h.below.output, Nat.le_trans h.below.size hb.size, fun k hk => (hb.block k (Nat.lt_of_lt_of_le hk h.base)).trans (h.below.block k hk)⟩
theorem BegR.of {m : Mo} {w w0 w1 : World} {F : Fo} {n : Nat} (h : BegR m w0 w1 F n) (hb : Below w.heap.size w w0) : BegR m w w1 F n :=
  ⟨h.here, h.N, Nat.le_trans hb.size h.base, Below.to hb h.below (Nat.le_refl _), h.base2, h.lt, h.ev, h.len, h.nj⟩
theorem BegR.op {m : Mo} {w w1 : World} {F : Fo} {n : Nat} (h : BegR m w w1 F n) : OpR 0 w1 F w1 F := OpR.refl h.here 0
theorem grow_beg {m : Mo} {w w1 w2 : World} {F F1 : Fo} {n k : Nat} {f : List Int} {fv : Value} (h : BegR m w w1 F n) (hN : m.opts.length ≤ 12) (r : OpR k w1 F w2 F1) (hk : k + 100 ≤ 200000) (hf : Ints w w.heap.size fv f) (hv : validF m.opts.length f = true) :
    Calls Try.prog 43 #[.pointer (some ⟨F.p, 0, none⟩), fv] w2
      fun e w' => ∃ g F', e = .returned (.int .i64 (g : Nat)) ∧ OpR (k + 100) w1 F w' F' ∧ OpR 100 w2 F1 w' F' ∧ g < F'.ks.length ∧ ∀ v, ev F'.ks v g = evF1 v f := by
  have hl := (validF_pos hv).2
  have hc := grow_any F1 f fv w2 r.st.here (by rw [r.st.ba]; exact Nat.le_trans h.base2 r.st.keep.size) (by rw [r.st.N, h.N]; exact hv) (by
    rw [r.st.ba]
    exact (hf.below (r.low h)).more h.base) ((h.room hN (k := k + 100) hk |>.step r).mono hl)
  rw [r.st.p] at hc
  refine hc.mono ?_
  rintro e w' ⟨g, F', rfl, r1, r2, r3⟩
  exact ⟨g, F', rfl, r.trans (r1.mono hl), r1.mono hl, r2, r3⟩
/-- and of some nodes, in a block that was just made. -/
theorem and_beg {m : Mo} {w w1 w2 : World} {F F1 : Fo} {n k : Nat} {l : List Nat} (h : BegR m w w1 F n) (hN : m.opts.length ≤ 12) (r : OpR k w1 F w2 F1) (hk : k + 4 ≤ 200000) (hl : l.length ≤ 4) (hln : ∀ x ∈ l, x < F1.ks.length) :
    Calls Try.prog 42 #[.pointer (some ⟨F.p, 0, none⟩), .slice (some ⟨w2.heap.size, 0, none⟩) l.length l.length] (w2.alloc (.cells (l.map fun (n : Nat) => Value.int .i64 n).toArray 3))
      fun e w' => ∃ g F', e = .returned (.int .i64 (g : Nat)) ∧ OpR (k + 4) w1 F w' F' ∧ OpR 4 w2 F1 w' F' ∧ g < F'.ks.length ∧ ∀ v, ev F'.ks v g = l.all (fun x => ev F1.ks v x) := by
  have hB : Below w2.heap.size w2 (w2.alloc (.cells (l.map fun (n : Nat) => Value.int .i64 n).toArray 3)) := (Below.refl _ _).alloc (Nat.le_refl _) _
  have hc := and_any F1 w2.heap.size l _ (r.st.here.below hB) hln (heap_new _ _ _ rfl) (fun e => by have := r.st.here.slt e; omega) (by omega) ((h.room hN (k := k + 4) hk |>.step r).mono hl)
  rw [r.st.p] at hc
  refine hc.mono ?_
  rintro e w' ⟨g, F', rfl, r1, r2, r3⟩
  have r4 : OpR 4 w2 F1 w' F' := (OpR.after_below r.st.here hB r1).mono hl
  exact ⟨g, F', rfl, r.trans r4, r4, r2, r3⟩
end Go.Proofs.Ytehadoecnmfeoaa
/- The variants of a model in order, by number. Plain laws. -/
namespace Go.Proofs.Ytehadoecnmfeoaa
set_option linter.unusedVariables false
/-- The variant with a number. -/
def bitsN : Nat → Nat → List Bool
  | 0, _ => []
  | k + 1, n => decide (n / 2 ^ k % 2 = 1) :: bitsN k n
/-- The buildable ones of the first n variants. -/
def varsN (m : Mo) (n : Nat) : List (List Bool) := ((List.range n).map (bitsN m.opts.length)).filter fun x => allF (vf x) m.rules
/-- The buildable variants. -/
def allM (m : Mo) : List (List Bool) := (exts m.opts.length []).filter fun x => allF (vf x) m.rules
theorem allM_len {m : Mo} {x : List Bool} (h : x ∈ allM m) : x.length = m.opts.length := by
  unfold allM at h
  rw [List.mem_filter] at h
  have := exts_len _ _ _ h.1
  simpa using this
theorem satM_all (m : Mo) (p : (Nat → Bool) → Bool) : satM m p = (allM m).filter fun x => p (vf x) := by
  unfold satM allM
  rw [List.filter_filter]
  exact List.filter_congr fun x _ => by rw [Bool.and_comm]
theorem satM_true (m : Mo) : satM m (fun _ => true) = allM m := by
  unfold satM allM
  exact List.filter_congr fun x _ => by simp
/-- Those of some variants in which a formula holds. -/
def whereF (l : List (List Bool)) (f : List Int) : List (List Bool) := l.filter fun x => evF1 (vf x) f
end Go.Proofs.Ytehadoecnmfeoaa
/- The greatest sum of weights that nodes allow. Plain laws. -/
namespace Go.Proofs.Ytehadoecnmfeoaa
set_option linter.unusedVariables false
def leastI : Int := -1152921504606846976
/-- The weights of the nodes that hold. -/
def wsum (ks : List Kn) (v : Nat → Bool) : List Nat → List Int → Int
  | n :: ns, x :: xs => (if ev ks v n then x else 0) + wsum ks v ns xs
  | _, _ => 0
/-- What a variant is worth: the first node has to hold. -/
def valI (ks : List Kn) (v : Nat → Bool) (nodes : List Nat) (ws : List Int) : Int :=
  match nodes with
  | [] => leastI
  | n :: ns => if ev ks v n then wsum ks v ns ws else leastI
def maxL (l : List Int) : Int := l.foldl max leastI
theorem foldl_max : ∀ (l : List Int) (i : Int), leastI ≤ i → l.foldl max i = max i (maxL l)
  | [], i, h => by simp only [maxL, List.foldl_nil]; omega
  | a :: l, i, h => by
    have h1 := foldl_max l (max i a) (by omega)
    have h2 := foldl_max l (max leastI a) (by omega)
    unfold maxL at h1 h2 ⊢
    simp only [List.foldl_cons]
    rw [h1, h2]
    omega
theorem maxL_least (l : List Int) : leastI ≤ maxL l := by
  have : ∀ (l : List Int) (i : Int), leastI ≤ i → leastI ≤ l.foldl max i := by
    intro l
    induction l with
    | nil => intro i h; exact h
    | cons a l ih => intro i h; exact ih _ (by omega)
  exact this l _ (Int.le_refl _)
theorem maxL_cons (a : Int) (l : List Int) : maxL (a :: l) = max (max leastI a) (maxL l) := foldl_max l _ (by omega)
theorem maxL_append (a b : List Int) : maxL (a ++ b) = max (maxL a) (maxL b) := by
  show (a ++ b).foldl max leastI = _
  rw [List.foldl_append]
  exact foldl_max b _ (maxL_least a)
theorem maxL_mem : ∀ (l : List Int) (x : Int), x ∈ l → x ≤ maxL l
  | a :: l, x, h => by
    rw [maxL_cons]
    rcases List.mem_cons.1 h with rfl | h
    · omega
    · have := maxL_mem l x h
      omega
theorem maxL_const {c : Int} (hc : leastI ≤ c) : ∀ (l : List Int), l ≠ [] → (∀ x ∈ l, x = c) → maxL l = c
  | [a], _, h => by
    rw [maxL_cons, h a (by simp)]
    simp only [maxL, List.foldl_nil]; omega
  | a :: b :: l, _, h => by
    rw [maxL_cons, h a (by simp), maxL_const hc (b :: l) (by simp) (fun x hx => h x (by simp [hx]))]
    omega
theorem maxL_attained : ∀ (l : List Int), leastI < maxL l → maxL l ∈ l
  | [], h => by simp [maxL] at h
  | a :: l, h => by
    rw [maxL_cons] at h ⊢
    by_cases h1 : maxL l ≤ a
    · rw [show max (max leastI a) (maxL l) = a by omega]; simp
    · have h2 := maxL_least l
      rw [show max (max leastI a) (maxL l) = maxL l by omega]
      exact List.mem_cons_of_mem _ (maxL_attained l (by omega))
/-- The greatest worth of the variants that begin with a list. -/
def bestK (ks : List Kn) (N : Nat) (nodes : List Nat) (ws : List Int) (l : List Bool) : Int := maxL ((exts (N - l.length) l).map fun x => valI ks (vf x) nodes ws)
theorem wsum_congr {ks ks' : List Kn} {v v' : Nat → Bool} : ∀ {a b : List Nat} {ws : List Int}, a.length = b.length → (∀ i, i < a.length → ev ks v (a.getD i 0) = ev ks' v' (b.getD i 0)) → wsum ks v a ws = wsum ks' v' b ws
  | [], [], ws, _, _ => by cases ws <;> rfl
  | x :: a, y :: b, [], _, _ => rfl
  | x :: a, y :: b, w :: ws, hl, h => by
    have h0 := h 0 (by simp)
    simp only [List.getD_cons_zero] at h0
    simp only [wsum, h0]
    rw [wsum_congr (by simpa using hl) fun i hi => by have := h (i + 1) (by simpa using hi); simpa using this]
  | [], y :: b, _, hl, _ => by simp at hl
  | x :: a, [], _, hl, _ => by simp at hl
theorem valI_congr {ks ks' : List Kn} {v v' : Nat → Bool} {a b : List Nat} {ws : List Int} (hl : a.length = b.length) (h : ∀ i, i < a.length → ev ks v (a.getD i 0) = ev ks' v' (b.getD i 0)) : valI ks v a ws = valI ks' v' b ws := by
  match a, b, hl, h with
  | [], [], _, _ => rfl
  | x :: a, y :: b, hl, h =>
    have h0 := h 0 (by simp)
    simp only [List.getD_cons_zero] at h0
    simp only [valI, h0]
    rw [wsum_congr (by simpa using hl) fun i hi => by have := h (i + 1) (by simpa using hi); simpa using this]
  | [], y :: b, hl, _ => simp at hl
  | x :: a, [], hl, _ => simp at hl
theorem bestK_split {ks : List Kn} {N : Nat} {nodes : List Nat} {ws : List Int} {l : List Bool} (hl : l.length < N) : bestK ks N nodes ws l = max (bestK ks N nodes ws (l ++ [false])) (bestK ks N nodes ws (l ++ [true])) := by
  unfold bestK
  rw [← maxL_append, ← List.map_append]
  rw [show N - l.length = (N - (l ++ [false]).length) + 1 from by simp; omega]
  simp only [exts, List.length_append, List.length_singleton]
theorem getD_map {α β : Type} (f : α → β) (l : List α) (z : α) (i : Nat) (h : i < l.length) (y : β) : (l.map f).getD i y = f (l.getD i z) := by
  simp [List.getD_eq_getElem?_getD, h]
section
variable {N : Nat} {ks : List Kn} (h : WF N ks)
include h
theorem bestK_br {nodes : List Nat} {ws : List Int} {l : List Bool} {b : Bool} (hn : ∀ n ∈ nodes, n < ks.length) (hl : l.length < N) : bestK ks N (nodes.map fun n => brK ks n l.length b) ws (l ++ [b]) = bestK ks N nodes ws (l ++ [b]) := by
  unfold bestK
  congr 1
  refine List.map_congr_left fun x hx => ?_
  obtain ⟨y, rfl, _⟩ := exts_prefix hx
  refine valI_congr (by simp) fun i hi => ?_
  have hi' : i < nodes.length := by simpa using hi
  rw [getD_map _ _ 0 _ hi']
  exact brK_ev h (hn _ (by rw [List.getD_eq_getElem?_getD, List.getElem?_eq_getElem hi']; exact List.getElem_mem _)) hl _ (vf_at l b y)
theorem bestK_len {nodes : List Nat} {ws : List Int} {l l' : List Bool} (hn : ∀ n ∈ nodes, n < ks.length) (he : l.length = l'.length) (ht : ∀ n ∈ nodes, l.length ≤ topK ks n) : bestK ks N nodes ws l = bestK ks N nodes ws l' := by
  unfold bestK
  rw [exts_nil _ l, exts_nil _ l', List.map_map, List.map_map, he]
  congr 1
  refine List.map_congr_left fun x hx => ?_
  refine valI_congr rfl fun i hi => ?_
  have hm : nodes.getD i 0 ∈ nodes := by rw [List.getD_eq_getElem?_getD, List.getElem?_eq_getElem hi]; exact List.getElem_mem _
  refine ev_congr h _ _ _ (hn _ hm) fun j h1 h2 => ?_
  have := ht _ hm
  show vf (l ++ x) j = vf (l' ++ x) j
  rw [vf_right (by omega), vf_right (by omega), he]
/-- Options that no node asks for change nothing. -/
theorem bestK_lift {nodes : List Nat} {ws : List Int} (hn : ∀ n ∈ nodes, n < ks.length) : ∀ (k o : Nat), o + k ≤ N → (∀ n ∈ nodes, o + k ≤ topK ks n) → bestK ks N nodes ws (List.replicate o false) = bestK ks N nodes ws (List.replicate (o + k) false)
  | 0, o, _, _ => rfl
  | k + 1, o, hN, ht => by
    rw [bestK_split (by simp; omega), bestK_len h (l := List.replicate o false ++ [false]) (l' := List.replicate (o + 1) false) hn (by simp) (fun n hn => by have := ht n hn; simp; omega), bestK_len h (l := List.replicate o false ++ [true]) (l' := List.replicate (o + 1) false) hn (by simp) (fun n hn => by have := ht n hn; simp; omega), bestK_lift hn k (o + 1) (by omega) (fun n hn => by have := ht n hn; omega)]
    rw [show o + (k + 1) = o + 1 + k by omega]
    omega
omit h in
theorem bestK_no {ns : List Nat} {ws : List Int} (l : List Bool) : bestK ks N (0 :: ns) ws l = leastI := by
  unfold bestK
  refine maxL_const (Int.le_refl _) _ ?_ ?_
  · intro e
    have := congrArg List.length e
    rw [List.length_map, exts_length] at this
    have := Nat.one_le_two_pow (n := N - l.length)
    simp at *
  · intro x hx
    rw [List.mem_map] at hx
    obtain ⟨y, _, rfl⟩ := hx
    simp [valI, ev_zero]
omit h in
/-- The sum of the weights whose nodes are 'yes'. -/
def wyes : List Nat → List Int → Int
  | n :: ns, x :: xs => (if n = 1 then x else 0) + wyes ns xs
  | _, _ => 0
omit h in
theorem wsum_ends (v : Nat → Bool) : ∀ (ns : List Nat) (ws : List Int), (∀ n ∈ ns, n < 2) → wsum ks v ns ws = wyes ns ws
  | [], ws, _ => by cases ws <;> rfl
  | n :: ns, [], _ => rfl
  | n :: ns, x :: xs, h => by
    have h0 := h n (by simp)
    simp only [wsum, wyes]
    rw [wsum_ends v ns xs fun m hm => h m (by simp [hm])]
    rcases (by omega : n = 0 ∨ n = 1) with rfl | rfl
    · simp [ev_zero]
    · simp [ev_one]
omit h in
theorem bestK_ends {ns : List Nat} {ws : List Int} (l : List Bool) (hn : ∀ n ∈ ns, n < 2) (hw : leastI ≤ wyes ns ws) : bestK ks N (1 :: ns) ws l = wyes ns ws := by
  unfold bestK
  refine maxL_const hw _ ?_ ?_
  · intro e
    have := congrArg List.length e
    rw [List.length_map, exts_length] at this
    have := Nat.one_le_two_pow (n := N - l.length)
    simp at *
  · intro x hx
    rw [List.mem_map] at hx
    obtain ⟨y, _, rfl⟩ := hx
    simp only [valI, ev_one, if_true]
    exact wsum_ends _ ns ws hn
/-- The step that best takes. -/
theorem bestK_step {nodes : List Nat} {ws : List Int} {t : Nat} (hn : ∀ n ∈ nodes, n < ks.length) (htN : t < N) (ht : ∀ n ∈ nodes, t ≤ topK ks n) : bestK ks N nodes ws [] = max (bestK ks N (nodes.map fun n => brK ks n t false) ws []) (bestK ks N (nodes.map fun n => brK ks n t true) ws []) := by
  have key : ∀ b, bestK ks N (nodes.map fun n => brK ks n t b) ws [] = bestK ks N nodes ws (List.replicate t false ++ [b]) := by
    intro b
    have hlt : ∀ n ∈ nodes.map fun n => brK ks n t b, n < ks.length := by
      intro n hm
      rw [List.mem_map] at hm
      obtain ⟨x, hx, rfl⟩ := hm
      exact brK_lt h (hn x hx) htN
    have htt : ∀ n ∈ nodes.map fun n => brK ks n t b, t + 1 ≤ topK ks n := by
      intro n hm
      rw [List.mem_map] at hm
      obtain ⟨x, hx, rfl⟩ := hm
      exact brK_top h (hn x hx) htN (ht x hx)
    have h1 := bestK_lift h (ws := ws) hlt (t + 1) 0 (by omega) (fun n hm => by have := htt n hm; omega)
    have h2 := bestK_br h (nodes := nodes) (ws := ws) (l := List.replicate t false) (b := b) hn (by simpa using htN)
    rw [List.length_replicate] at h2
    rw [← h2]
    rw [show ([] : List Bool) = List.replicate 0 false from rfl, h1]
    exact bestK_len h hlt (by simp) (fun n hm => by have := htt n hm; simp; omega)
  have h1 := bestK_lift h (ws := ws) hn t 0 (by omega) (fun n hm => by have := ht n hm; omega)
  rw [show List.replicate 0 false = ([] : List Bool) from rfl, Nat.zero_add] at h1
  rw [key, key, h1, bestK_split (by simpa using htN)]
end
end Go.Proofs.Ytehadoecnmfeoaa

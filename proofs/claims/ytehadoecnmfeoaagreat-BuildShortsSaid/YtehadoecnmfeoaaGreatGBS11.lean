/- Part 11 of this claim's texts: walks and plain laws. -/
import Derived.Test.YtehadoecnmfeoaaGreatRows
import Derived.Test.YtehadoecnmfeoaaGreatGBS10
import Derived.Test.YtehadoecnmfeoaaGreatGBS3
import Derived.Test.YtehadoecnmfeoaaGreatGBS8
set_option linter.unusedVariables false
set_option linter.unusedSimpArgs false
set_option linter.unusedSectionVars false
namespace Go.Proofs.YtehadoecnmfeoaaGreat
open Go.RowKit
def endN (N : Nat) : Nat → List Int → Option Nat
 | 0, _ => some 0
 | _ + 1, [] => none
 | c + 1, o :: r => if -6 ≤ o ∧ o < N then (endN N (c + arO o) r).map (· + 1) else none
def endR (p : Nat) : Option Nat → Int
 | none => -1
 | some q => (p + q : Nat)
theorem endN_zero (N : Nat) (l : List Int) : endN N 0 l = some 0 := by cases l <;> rfl
theorem endR_succ (p : Nat) (o : Option Nat) : endR p (o.map (· + 1)) = endR (p + 1) o := by
 cases o with
 | none => rfl
 | some q => simp only [Option.map_some, endR]; omega
theorem endN_vld (N : Nat) : ∀ (l : List Int) (c : Nat), (endN N c l == some l.length) = vld N c l
 | [], 0 => rfl
 | [], c + 1 => rfl
 | o :: r, 0 => by simp [endN, vld]
 | o :: r, c + 1 => by
  have ih := endN_vld N r (c + arO o)
  simp only [endN, vld]
  by_cases h : -6 ≤ o ∧ o < N
  ·
   rw [if_pos h]
   have h1 : decide (-6 ≤ o) = true := by simp [h.1]
   have h2 : decide (o < N) = true := by simp [h.2]
   rw [h1, h2, ← ih, Bool.true_and, Bool.true_and]
   cases endN N (c + arO o) r with
   | none => rfl
   | some q => rw [Bool.eq_iff_iff]; simp
  ·
   rw [if_neg h]
   have h1 : (decide (-6 ≤ o) && decide (o < N)) = false := by
    rw [Bool.eq_false_iff]
    intro h2
    apply h
    simpa using h2
   rw [h1, Bool.false_and]
   rfl
theorem endN_end (N : Nat) (l : List Int) : (endR 0 (endN N 1 l) == (l.length : Int)) = vld N 1 l := by
 rw [← endN_vld]
 cases endN N 1 l with
 | none => rw [Bool.eq_iff_iff]; simp [endR]
 | some q => rw [Bool.eq_iff_iff]; simp [endR]; omega
theorem endN_bad {N c : Nat} {o : Int} {r : List Int} (h : ¬ (-6 ≤ o ∧ o < N)) : endN N (c + 1) (o :: r) = none := by
 simp only [endN]; rw [if_neg h]
theorem endN_go {N c : Nat} {o : Int} {r : List Int} (h : -6 ≤ o ∧ o < N) (k : Nat) : endR k (endN N (c + 1) (o :: r)) = endR (k + 1) (endN N (c + arO o) r) := by
 simp only [endN]; rw [if_pos h, endR_succ]
set_option maxRecDepth 100000 in
set_option maxHeartbeats 2000000 in
theorem end_any (f : List Int) (p N : Nat) (v : Value) (B : Nat) (w : World) (hm : f.length ≤ 1000) (hp : p ≤ f.length) (h : Ints w B v f) :
  Calls Tryz.prog 158 #[v, .int .i64 p, .int .i64 N] w fun e w' => e = .returned (.int .i64 (endR p (endN N 1 (f.drop p)))) ∧ w = w' := by
 obtain ⟨A, b, off, cap, rfl, hnc, hA, hc⟩ := h
 have HC := hide hc
 have HA := hide hA
 clear hc hA
 go_enter Tryz.func158, Tryz.ntmps158
 go_wp2
 go_loop [1, 7] (fun i x => ∃ k c : Nat, p ≤ k ∧ k ≤ f.length ∧ c ≤ k + 1 ∧ i = .int .i64 k ∧ x = .int .i64 c ∧ Hid (endR p (endN N 1 (f.drop p)) = endR k (endN N c (f.drop k)))) (fun i _ => f.length - (intOf i).toNat)
 case atStart => exact ⟨p, 1, Nat.le_refl _, hp, by omega, rfl, rfl, rfl⟩
 case round =>
  obtain ⟨k, c, hpk, hk, hck, rfl, rfl, hv⟩ := hrel
  by_cases hlt : k < f.length
  ·
   have j1 : (k : Int) < (f.length : Int) := by omega
   match c, hck, hv with
   | 0, hck, hv =>
    have HV : Hid (endR p (endN N 1 (f.drop p)) = ((k + 0 : Nat) : Int)) := by have h := hv.out; rw [endN_zero] at h; exact h
    clear hv
    go_wp2
    go_ret
    exact ⟨ret_int HV.out.symm, rfl⟩
   | c + 1, hck, hv =>
    obtain ⟨rfl, hbb⟩ : A = some ⟨b, off, none⟩ ∧ b < B := by
     rcases HA.out with h | h
     ·
      exact h
     ·
      omega
    obtain ⟨o, ho⟩ : ∃ o, f.getD k 0 = o := ⟨_, rfl⟩
    have c0 : w.cell? ⟨b, off + k, none⟩ = some (.int .i64 o) := by
     have h1 := HC.out k 0 hlt (by omega)
     rw [Nat.mul_one, Nat.add_zero, ho] at h1
     exact h1
    have j0 : (0 : Int) ≤ (k : Int) := by omega
    have j2 : (0 : Int) < ((c + 1 : Nat) : Int) := by omega
    have hv2 := hv.out
    rw [drop_getD hlt, ho] at hv2
    have HV := hide hv2
    clear hv2 hv ho
    by_cases hN : (N : Int) ≤ o
    ·
     have HE := hide (HV.out.trans (by rw [endN_bad (by omega)]; rfl : _ = (-1 : Int)))
     have d1 : decide ((N : Int) ≤ o) = true := by simp; omega
     go_wp2
     go_ret
     exact ⟨ret_int HE.out.symm, rfl⟩
    ·
     have d1 : decide ((N : Int) ≤ o) = false := by simp; omega
     by_cases h6 : o < -6
     ·
      have HE := hide (HV.out.trans (by rw [endN_bad (by omega)]; rfl : _ = (-1 : Int)))
      have d2 : decide (o < -6) = true := by simp; omega
      go_wp2
      go_ret
      exact ⟨ret_int HE.out.symm, rfl⟩
     ·
      have d2 : decide (o < -6) = false := by simp; omega
      have hg := HV.out.trans (endN_go (by omega) k)
      have HG := hide hg
      clear hg
      rcases (by omega : 0 ≤ o ∨ o = -1 ∨ o = -2 ∨ o = -3 ∨ (o = -4 ∨ o = -5 ∨ o = -6)) with h | h | h | h | h
      ·
       have ha : arO o = 0 := by unfold arO; (repeat' split) <;> omega
       have HA0 := hide ha
       have d3 : decide (0 ≤ o) = true := by simp; omega
       clear ha
       go_wp2
       go_round
       case rel => exact ⟨k + 1, c, by omega, by omega, by omega, by go_num, by go_num, by rw [HG.out, HA0.out]; rfl⟩
       case measure => simp [intOf]; omega
      ·
       have ha : arO o = 0 := by unfold arO; (repeat' split) <;> omega
       have HA0 := hide ha
       have d3 : decide (0 ≤ o) = false := by simp; omega
       have d4 : (o == -1) = true := by simp; omega
       clear ha
       go_wp2
       go_round
       case rel => exact ⟨k + 1, c, by omega, by omega, by omega, by go_num, by go_num, by rw [HG.out, HA0.out]; rfl⟩
       case measure => simp [intOf]; omega
      ·
       have ha : arO o = 0 := by unfold arO; (repeat' split) <;> omega
       have HA0 := hide ha
       have d3 : decide (0 ≤ o) = false := by simp; omega
       have d4 : (o == -1) = false := by simp; omega
       have d5 : (o == -2) = true := by simp; omega
       clear ha
       go_wp2
       go_round
       case rel => exact ⟨k + 1, c, by omega, by omega, by omega, by go_num, by go_num, by rw [HG.out, HA0.out]; rfl⟩
       case measure => simp [intOf]; omega
      ·
       have ha : arO o = 1 := by unfold arO; (repeat' split) <;> omega
       have HA0 := hide ha
       have d3 : decide (0 ≤ o) = false := by simp; omega
       have d4 : (o == -1) = false := by simp; omega
       have d5 : (o == -2) = false := by simp; omega
       have d6 : (!(o == -3)) = false := by simp; omega
       clear ha
       go_wp2
       go_round
       case rel => exact ⟨k + 1, c + 1, by omega, by omega, by omega, by go_num, by go_num, by rw [HG.out, HA0.out]; rfl⟩
       case measure => simp [intOf]; omega
      ·
       have ha : arO o = 2 := by unfold arO; (repeat' split) <;> omega
       have HA0 := hide ha
       have d3 : decide (0 ≤ o) = false := by simp; omega
       have d4 : (o == -1) = false := by simp; omega
       have d5 : (o == -2) = false := by simp; omega
       have d6 : (!(o == -3)) = true := by simp; omega
       clear ha
       go_wp2
       go_round
       case rel => exact ⟨k + 1, c + 2, by omega, by omega, by omega, by go_num, by go_num, by rw [HG.out, HA0.out]; rfl⟩
       case measure => simp [intOf]; omega
  ·
   obtain rfl : k = f.length := by omega
   have hv2 := hv.out
   rw [List.drop_length] at hv2
   have HV2 := hide hv2
   clear hv2 hv
   match c, hck, HV2 with
   | 0, hck, HV2 =>
    have HV := hide (HV2.out : endR p (endN N 1 (f.drop p)) = ((f.length + 0 : Nat) : Int))
    go_wp2
    go_ret
    exact ⟨ret_int HV.out.symm, rfl⟩
   | c + 1, hck, HV2 =>
    have HV := hide (HV2.out : endR p (endN N 1 (f.drop p)) = (-1 : Int))
    have j2 : (0 : Int) < ((c + 1 : Nat) : Int) := by omega
    go_wp2
    go_ret
    exact ⟨ret_int HV.out.symm, rfl⟩
set_option maxRecDepth 100000 in
set_option maxHeartbeats 1000000 in
theorem rValid_any (f : List Int) (N : Nat) (v : Value) (B : Nat) (w : World) (hm : f.length ≤ maxLen) (h : Ints w B v f) :
  Calls Tryz.prog 84 #[v, .int .i64 N] w fun e w' => e = .returned (.bool (validF N f)) ∧ w = w' := by
 have H := hide h
 obtain ⟨A, cap, rfl⟩ := Sl.form h
 clear h
 by_cases h100 : f.length ≤ 100
 ·
  have d1 : decide ((f.length : Int) ≤ 100) = true := by simp; omega
  by_cases h0 : f.length = 0
  ·
   have d2 : decide ((0 : Int) < (f.length : Int)) = false := decide_eq_false (by omega)
   have hf : validF N f = false := by
    obtain rfl := List.eq_nil_of_length_eq_zero h0
    rfl
   have HF := hide hf
   clear hf
   go_enter Tryz.func84, Tryz.ntmps84
   go_wp2_with fail
   go_ret
   exact ⟨ret_bool HF.out.symm, rfl⟩
  ·
   have d2 : decide ((0 : Int) < (f.length : Int)) = true := decide_eq_true (by omega)
   have hf : validF N f = (endR 0 (endN N 1 f) == (f.length : Int)) := by
    rw [endN_end]
    unfold validF
    have : decide (f.length ≤ 100) = true := by simp [h100]
    rw [this, Bool.and_true]
   have he := end_any f 0 N (.slice A f.length cap) B w (by omega) (Nat.zero_le _) H.out
   rw [List.drop_zero] at he
   obtain ⟨z, hz⟩ : ∃ z, endR 0 (endN N 1 f) = z := ⟨_, rfl⟩
   rw [hz] at he hf
   have HF := hide hf
   have HE := hide he
   clear hf he hz
   go_enter Tryz.func84, Tryz.ntmps84
   go_wp2_with (go_at_call 158; refine HE.out.mono ?_; rintro e w1 ⟨rfl, rfl⟩)
   go_ret
   exact ⟨ret_bool (by rw [HF.out]), rfl⟩
 ·
  have d1 : decide ((f.length : Int) ≤ 100) = false := by simp; omega
  have hf : validF N f = false := by
   unfold validF
   have : decide (f.length ≤ 100) = false := by simp; omega
   rw [this, Bool.and_false]
  have HF := hide hf
  clear hf
  go_enter Tryz.func84, Tryz.ntmps84
  go_wp2_with fail
  go_ret
  exact ⟨ret_bool HF.out.symm, rfl⟩
theorem take_has {L : List (List UInt8)} {x : List UInt8} {t k : Nat} (ht : t < k) (hk : k ≤ L.length) (h : L.getD t [] = x) : (L.take k).contains x = true := by
 rw [List.contains_iff_exists_mem_beq]
 refine ⟨x, ?_, by simp⟩
 rw [← h]
 have hl : t < L.length := by omega
 rw [List.getD_eq_getElem?_getD, List.getElem?_eq_getElem hl, Option.getD_some]
 have hm := List.getElem_mem (l := L.take k) (n := t) (by simp; omega)
 rwa [List.getElem_take] at hm
theorem take_hasnt {L : List (List UInt8)} {x : List UInt8} {k : Nat} (hk : k ≤ L.length) (h : ∀ t, t < k → L.getD t [] ≠ x) : (L.take k).contains x = false := by
 rw [Bool.eq_false_iff]
 intro h1
 rw [List.contains_iff_exists_mem_beq] at h1
 obtain ⟨y, hy, he⟩ := h1
 obtain ⟨t, ht, rfl⟩ := List.mem_iff_getElem.1 hy
 have ht2 : t < k := by simp at ht; omega
 apply h t ht2
 rw [List.getD_eq_getElem?_getD, List.getElem?_eq_getElem (by omega), Option.getD_some]
 rw [List.getElem_take] at he
 exact (eq_of_beq he).symm
theorem all_valid {N : Nat} {l : List (List Int)} (h : ∀ t, t < l.length → validF N (l.getD t []) = true) : l.all (validF N) = true := by
 rw [List.all_eq_true]
 intro f hf
 obtain ⟨t, ht, rfl⟩ := List.mem_iff_getElem.1 hf
 have := h t ht
 rwa [List.getD_eq_getElem?_getD, List.getElem?_eq_getElem ht, Option.getD_some] at this
theorem not_valid {N t : Nat} {l : List (List Int)} (ht : t < l.length) (h : validF N (l.getD t []) = false) : l.all (validF N) = false := by
 rw [Bool.eq_false_iff]
 intro h1
 rw [List.all_eq_true] at h1
 have := h1 _ (getD_mem (z := []) ht)
 rw [h] at this
 cases this
set_option maxRecDepth 100000 in
set_option maxHeartbeats 8000000 in
theorem rCheckModel_any (m : Mo) (ov rv : Value) (w : World) (hs : SizedM m) (h : MoAt w w.heap.size ov rv m) :
  Calls Tryz.prog 151 #[.agg #[ov, rv]] w fun e w' => e = .returned (.int .i64 m.err) ∧ Below w.heap.size w w' := by
 obtain ⟨A, cap, hov⟩ := Sl.form h.o
 obtain ⟨Ar, capr, hrv⟩ := h.r.form
 by_cases h40 : 40 < m.opts.length
 ·
  have he := Mo.err_many (m := m) (.inl h40)
  have HE := hide he
  have hi : decide ((40 : Int) < (m.opts.length : Int)) = true := by simp; omega
  subst hov hrv
  clear he h40 h
  go_enter Tryz.func151, Tryz.ntmps151
  go_wp2_with fail
  go_ret
  exact ⟨ret_int HE.out.symm, zP⟩
 by_cases h60 : 60 < m.rules.length
 ·
  have he := Mo.err_many (m := m) (.inr h60)
  have HE := hide he
  have hi : decide ((40 : Int) < (m.opts.length : Int)) = false := by simp; omega
  have hj : decide ((60 : Int) < (m.rules.length : Int)) = true := by simp; omega
  subst hov hrv
  clear he h40 h60 h
  go_enter Tryz.func151, Tryz.ntmps151
  go_wp2_with fail
  go_ret
  exact ⟨ret_int HE.out.symm, zP⟩
 have hi : decide ((40 : Int) < (m.opts.length : Int)) = false := by simp; omega
 have hj : decide ((60 : Int) < (m.rules.length : Int)) = false := by simp; omega
 have hn := h.o
 have hr := h.r
 subst hov
 obtain ⟨A', b, off, cap', h1, hnc, hA, hc⟩ := hn
 injection h1 with e1 _ e3
 subst e1 e3
 obtain ⟨fvs, ⟨Al, bl, offl, capl, hl1, hncl, hAl, hcl⟩, hfi⟩ := hr
 subst hl1
 injection hrv with e1 _ e3
 subst e1 e3
 have HC := hide hc
 have HA := hide hA
 have HAL := hide hAl
 have HCL := hide hcl
 have HFI := hide hfi
 have HS := hide hs
 have h40' : m.opts.length ≤ 40 := by omega
 have h60' : m.rules.length ≤ 60 := by omega
 clear hc hA h hs h40 h60 hAl hcl hfi
 go_enter Tryz.func151, Tryz.ntmps151
 go_upto_region 1 with (fail)
 generalize hw0 : World.alloc _ _ = w0
 obtain ⟨hb0, hB0, hs0⟩ := alloc1 hw0
 clear hw0
 have HX0 : Hid (MoBox w0 w.heap.size (.slice A m.opts.length cap) (.slice Al m.rules.length capl)) := hb0
 have HB0 := hide hB0
 have c0 := cellOf hb0 0
 have c1 := cellOf hb0 1
 clear hb0 hB0 hs0
 go_wp2_with fail
 clear c0 c1
 go_loopw [3] (fun i wr => ∃ k : Nat, k ≤ m.opts.length ∧ i = .int .i64 k ∧ Hid (∀ j, j < k → namedB (m.names.getD j []) = true ∧ ([] ++ m.names.take j).contains (m.names.getD j []) = false) ∧ Hid (Below w0.heap.size w0 wr)) (fun i _ => m.opts.length - (intOf i).toNat)
 case atStart => exact ⟨0, Nat.zero_le _, rfl, fun j hj => by omega, Below.refl _ _⟩
 case round =>
  obtain ⟨k, hk, rfl, hall, hB⟩ := hrel
  obtain ⟨wo, hwo⟩ : ∃ wo : World, wo = wr := ⟨_, rfl⟩
  subst hwo
  have hbx := box_to HX0.out hB.out
  have HBX : Hid (MoBox wo w.heap.size (.slice A m.opts.length cap) (.slice Al m.rules.length capl)) := hbx
  have x0 := cellOf hbx 0
  have x1 := cellOf hbx 1
  have hsl := box_lt hbx
  clear hbx
  by_cases hlt : k < m.opts.length
  ·
   obtain ⟨rfl, hbb⟩ : A = some ⟨b, off, none⟩ ∧ b < w.heap.size := by
    rcases HA.out with h | h
    ·
     exact h
    ·
     omega
   obtain ⟨x, hx⟩ : ∃ x, m.opts.getD k ByteArray.empty = x := ⟨_, rfl⟩
   have hBw := Below.to HB0.out hB.out (Nat.le_refl _)
   have hcl : wo.cell? ⟨b, off + k, none⟩ = some (.string x) := by
    have h1 := HC.out k 0 hlt (by omega)
    rw [Nat.mul_one, Nat.add_zero, hx] at h1
    exact (hBw.cell (p := ⟨b, off + k, none⟩) hbb).trans h1
   have HCK := hide hcl
   have hxs : x.size ≤ maxLen := HS.out.s x (by rw [← hx]; exact getD_mem hlt)
   have hnm : m.names.getD k [] = x.data.toList := by rw [names_get, hx]
   have HNM := hide hnm
   have HBW := hide hBw
   have ik0 : (0 : Int) ≤ (k : Int) := by omega
   have ik2 : (k : Int) < (m.opts.length : Int) := by omega
   have hna := rName_any x wo hxs
   clear hx hnm hBw
   by_cases hnb : namedB x.data.toList = true
   ·
    rw [hnb] at hna
    have HNA := hide hna
    have HNB := hide hnb
    clear hna hnb
    go_wp2_with (go_at_call 201; refine HNA.out.mono ?_; rintro e w1 ⟨rfl, rfl⟩)
    clear x0 x1 hcl
    go_loopw [4] (fun i wr => ∃ t : Nat, t ≤ k ∧ i = .int .i64 t ∧ Hid (∀ j, j < t → m.names.getD j [] ≠ x.data.toList) ∧ Hid (Below wo.heap.size wo wr)) (fun i _ => k - (intOf i).toNat)
    case atStart => exact ⟨0, Nat.zero_le _, rfl, fun j hj => by omega, Below.refl _ _⟩
    case round =>
     obtain ⟨t, ht, rfl, hne, hBi⟩ := hrel
     by_cases htk : t < k
     ·
      have hbx := box_to HBX.out hBi.out
      have x0 := cellOf hbx 0
      have x1 := cellOf hbx 1
      have hsl2 := box_lt hbx
      have hto : t < m.opts.length := by omega
      obtain ⟨y, hy⟩ : ∃ y, m.opts.getD t ByteArray.empty = y := ⟨_, rfl⟩
      have hBr := Below.to HBW.out hBi.out (Nat.le_refl _)
      have cy : wr.cell? ⟨b, off + t, none⟩ = some (.string y) := by
       have h1 := HC.out t 0 hto (by omega)
       rw [Nat.mul_one, Nat.add_zero, hy] at h1
       exact (hBr.cell (p := ⟨b, off + t, none⟩) hbb).trans h1
      have cx : wr.cell? ⟨b, off + k, none⟩ = some (.string x) := (hBi.out.cell (p := ⟨b, off + k, none⟩) (Nat.lt_of_lt_of_le hbb HBW.out.size)).trans HCK.out
      have lb : b < wr.heap.size := Nat.lt_of_lt_of_le hbb hBr.size
      have hnm : m.names.getD t [] = y.data.toList := by rw [names_get, hy]
      have HNY := hide hnm
      have it0 : (0 : Int) ≤ (t : Int) := by omega
      have it1 : (t : Int) < (k : Int) := by omega
      have it2 : (t : Int) < (m.opts.length : Int) := by omega
      have HBR := hide hBr
      clear hbx hy hBr hnm
      by_cases he : y.toList = x.toList
      ·
       have he1 : (y.toList == x.toList) = true := by simp [he]
       have hbad : namesB [] m.names = false := namesB_at [] m.names k (by unfold Mo.names; simpa using hlt) hall.out (by
        rw [HNM.out, List.nil_append, take_has htk (by unfold Mo.names; simp; omega) (by rw [HNY.out, ← ByteArray.toList_eq, ← ByteArray.toList_eq]; exact he)]
        simp)
       have hee := Mo.err_name h40' h60' hbad
       have HE := hide hee
       clear hbad hee he
       go_wp2_with fail
       refine wp_region_held_drew (S := (fun w' => Below wr.heap.size wr w')) (by kernel_rfl) ?_ (fun hHeld => ?_)
       ·
        try dsimp only
        exact zP
       refine zT 0 rfl ?_
       refine zT 1 rfl ?_
       refine zT 2 rfl ?_
       refine zT 3 rfl ?_
       refine zT 4 rfl ?_
       refine zT 5 rfl ?_
       refine zT 6 rfl ?_
       refine zT 7 rfl ?_
       refine zT 8 rfl ?_
       refine zT 9 rfl ?_
       refine zT 10 rfl ?_
       refine wpAnyH_done (by kernel_rfl) ?_ _
       go_wp2_with fail
       go_ret
       exact ⟨ret_int HE.out.symm, Below.to HBR.out hHeld (Nat.le_refl _)⟩
      ·
       have he1 : (y.toList == x.toList) = false := by simpa using he
       have HE := hide he
       clear he
       go_wp2_with fail
       refine wp_region_held_drew (S := (fun w' => Below wr.heap.size wr w')) (by kernel_rfl) ?_ (fun hHeld => ?_)
       ·
        try dsimp only
        exact zP
       refine zT 0 rfl ?_
       refine zT 1 rfl ?_
       refine zT 2 rfl ?_
       refine zT 3 rfl ?_
       refine zT 4 rfl ?_
       refine zT 5 rfl ?_
       refine zT 6 rfl ?_
       refine zT 7 rfl ?_
       refine zT 8 rfl ?_
       refine zT 9 rfl ?_
       refine zT 10 rfl ?_
       refine wpAnyH_done (by kernel_rfl) ?_ _
       go_wp2_with fail
       go_roundw
       case rel => exact ⟨t + 1, by omega, by go_num, fun j hj => by
         rcases Nat.lt_or_ge j t with h | h
         ·
          exact hne.out j h
         ·
          rw [show j = t from by omega, HNY.out, ← ByteArray.toList_eq, ← ByteArray.toList_eq]; exact HE.out, Below.to hBi.out hHeld (Nat.le_refl _)⟩
       case measure => simp [intOf]; omega
     ·
      obtain rfl : t = k := by omega
      have hct := take_hasnt (L := m.names) (x := x.data.toList) (k := t) (by unfold Mo.names; simp; omega) hne.out
      have HCT := hide hct
      clear hct
      go_wp2_with fail
      go_roundw
      case rel => exact ⟨t + 1, by omega, by go_num, fun j hj => by
        rcases Nat.lt_or_ge j t with h | h
        ·
         exact hall.out j h
        ·
         rw [show j = t from by omega, HNM.out, List.nil_append]; exact ⟨HNB.out, HCT.out⟩, Below.to hB.out hBi.out (Nat.le_refl _)⟩
      case measure => simp [intOf]; omega
   ·
    have hnb' : namedB x.data.toList = false := by simpa using hnb
    rw [hnb'] at hna
    have HNA := hide hna
    have hbad : namesB [] m.names = false := namesB_at [] m.names k (by unfold Mo.names; simpa using hlt) hall.out (by rw [HNM.out, hnb']; rfl)
    have he := Mo.err_name h40' h60' hbad
    have HE := hide he
    clear hna hbad he hnb hnb'
    go_wp2_with (go_at_call 201; refine HNA.out.mono ?_; rintro e w1 ⟨rfl, rfl⟩)
    go_ret
    exact ⟨ret_int HE.out.symm, HBW.out⟩
  ·
   have hgood : namesB [] m.names = true := namesB_all [] m.names (fun j hj => hall.out j (by unfold Mo.names at hj; simp at hj; omega))
   have he := Mo.err_rest h40' h60' hgood
   have HE := hide he
   have HBW : Hid (Below w.heap.size w wo) := Below.to HB0.out hB.out (Nat.le_refl _)
   clear hgood he
   go_wp2_with fail
   clear x0 x1
   go_loopw [5] (fun i wr => ∃ t : Nat, t ≤ m.rules.length ∧ i = .int .i64 t ∧ Hid (∀ j, j < t → validF m.opts.length (m.rules.getD j []) = true) ∧ Hid (Below wo.heap.size wo wr)) (fun i _ => m.rules.length - (intOf i).toNat)
   case atStart => exact ⟨0, Nat.zero_le _, rfl, fun j hj => by omega, Below.refl _ _⟩
   case round =>
    obtain ⟨t, ht, rfl, hva, hBi⟩ := hrel
    have hbx := box_to HBX.out hBi.out
    have x0 := cellOf hbx 0
    have x1 := cellOf hbx 1
    have hsl2 := box_lt hbx
    have hBr := Below.to HBW.out hBi.out (Nat.le_refl _)
    have HBR := hide hBr
    clear hbx
    by_cases htl : t < m.rules.length
    ·
     obtain ⟨rfl, hbb⟩ : Al = some ⟨bl, offl, none⟩ ∧ bl < w.heap.size := by
      rcases HAL.out with h | h
      ·
       exact h
      ·
       omega
     obtain ⟨f, hfe⟩ : ∃ f, m.rules.getD t [] = f := ⟨_, rfl⟩
     have hfm : f ∈ m.rules := by rw [← hfe]; exact getD_mem htl
     have hfs := HS.out.r.2 f hfm
     have hin : Ints w w.heap.size (fvs t) f := by have := HFI.out t htl; rwa [hfe] at this
     obtain ⟨Af, capf, hff⟩ := Sl.form hin
     have c0 : wr.cell? ⟨bl, offl + t, none⟩ = some (.slice Af f.length capf) := by
      have h1 := HCL.out t 0 htl (by omega)
      rw [Nat.mul_one, Nat.add_zero, hff] at h1
      exact (hBr.cell (p := ⟨bl, offl + t, none⟩) hbb).trans h1
     have lb : bl < wr.heap.size := Nat.lt_of_lt_of_le hbb hBr.size
     rw [hff] at hin
     have hvv : ∀ W, Below wr.heap.size wr W → Calls Tryz.prog 84 #[.slice Af f.length capf, .int .i64 m.opts.length] W fun e w' => e = .returned (.bool (validF m.opts.length f)) ∧ W = w' :=
      fun W hW => rValid_any f m.opts.length _ w.heap.size W hfs (hin.below (Below.to HBR.out hW (Nat.le_refl _)))
     have it0 : (0 : Int) ≤ (t : Int) := by omega
     have it2 : (t : Int) < (m.rules.length : Int) := by omega
     have HF := hide hfe
     cases hvf : validF m.opts.length f with
     | true =>
      rw [hvf] at hvv
      have HVV := hide hvv
      have HVF := hide hvf
      clear hfm hin hff hfe hvv hvf hBr
      go_wp2_with fail
      refine wp_region_held_drew (S := (fun w' => Below wr.heap.size wr w')) (by kernel_rfl) ?_ (fun hHeld => ?_)
      ·
       try dsimp only
       exact zP
      refine zT 0 rfl ?_
      refine zT 1 rfl ?_
      refine zT 2 rfl ?_
      refine zT 3 rfl ?_
      refine zT 4 rfl ?_
      refine zT 5 rfl ?_
      refine zT 6 rfl ?_
      refine zT 7 rfl ?_
      refine wpAnyH_ready (rs := [8]) (by kernel_rfl) (by simp) ?_
      refine AllReadyH.cons rfl (fun K hK => ?_) AllReadyH.nil
      go_simp
      ((go_at_call 84; refine (HVV.out _ zP).mono ?_; rintro e w1 ⟨rfl, rfl⟩))
      (try dsimp only)
      refine hK.out _ _ zP fun hNext => ?_; clear hK K hHeld; have hHeld := hNext; clear hNext; (try dsimp only at hHeld); try simp only [zX]
      refine zT 9 rfl ?_
      refine wpAnyH_done (by kernel_rfl) ?_ _
      go_wp2_with fail
      go_roundw
      case rel => exact ⟨t + 1, by omega, by go_num, fun j hj => by
        rcases Nat.lt_or_ge j t with h | h
        ·
         exact hva.out j h
        ·
         rw [show j = t from by omega, HF.out]; exact HVF.out, Below.to hBi.out hHeld (Nat.le_refl _)⟩
      case measure => simp [intOf]; omega
     | false =>
      rw [hvf] at hvv
      have HVV := hide hvv
      have hee : m.err = 11 := by rw [HE.out, if_pos (not_valid htl (by rw [hfe]; exact hvf))]
      have HEE := hide hee
      clear hfm hin hff hfe hvv hvf hBr hee
      go_wp2_with fail
      refine wp_region_held_drew (S := (fun w' => Below wr.heap.size wr w')) (by kernel_rfl) ?_ (fun hHeld => ?_)
      ·
       try dsimp only
       exact zP
      refine zT 0 rfl ?_
      refine zT 1 rfl ?_
      refine zT 2 rfl ?_
      refine zT 3 rfl ?_
      refine zT 4 rfl ?_
      refine zT 5 rfl ?_
      refine zT 6 rfl ?_
      refine zT 7 rfl ?_
      refine wpAnyH_ready (rs := [8]) (by kernel_rfl) (by simp) ?_
      refine AllReadyH.cons rfl (fun K hK => ?_) AllReadyH.nil
      go_simp
      ((go_at_call 84; refine (HVV.out _ zP).mono ?_; rintro e w1 ⟨rfl, rfl⟩))
      (try dsimp only)
      refine hK.out _ _ zP fun hNext => ?_; clear hK K hHeld; have hHeld := hNext; clear hNext; (try dsimp only at hHeld); try simp only [zX]
      refine zT 9 rfl ?_
      refine wpAnyH_done (by kernel_rfl) ?_ _
      go_wp2_with fail
      go_ret
      exact ⟨ret_int HEE.out.symm, Below.to HBR.out hHeld (Nat.le_refl _)⟩
    ·
     have hee : m.err = 0 := by rw [HE.out, if_neg (by rw [all_valid fun j hj => hva.out j (by omega)]; simp)]
     have HEE := hide hee
     clear hee hBr
     go_wp2_with fail
     go_ret
     exact ⟨ret_int HEE.out.symm, HBR.out⟩
set_option maxRecDepth 100000 in
set_option maxHeartbeats 2000000 in
theorem rCheckFormula_any (m : Mo) (f : List Int) (ov rv fv : Value) (w : World) (hs : SizedM m) (hl : f.length ≤ maxLen) (h : MoAt w w.heap.size ov rv m) (hf : Ints w w.heap.size fv f) :
  Calls Tryz.prog 156 #[.agg #[ov, rv], fv] w fun e w' => e = .returned (.int .i64 (m.errF [f])) ∧ Below w.heap.size w w' := by
 obtain ⟨A, cap, hov⟩ := Sl.form h.o
 obtain ⟨Ar, capr, hrv⟩ := h.r.form
 obtain ⟨Al, capl, hlv⟩ := Sl.form hf
 have H := hide h
 have HF := hide hf
 have HS := hide hs
 subst hov hrv hlv
 clear h hf hs
 go_enter Tryz.func156, Tryz.ntmps156
 go_upto_region 1 with (fail)
 generalize hw0 : World.alloc _ _ = w0
 obtain ⟨hb0, hB0, hs0⟩ := alloc1 hw0
 clear hw0
 have HX0 : Hid (MoBox w0 w.heap.size (.slice A m.opts.length cap) (.slice Ar m.rules.length capr)) := hb0
 have HB0 := hide hB0
 have c0 := cellOf hb0 0
 have c1 := cellOf hb0 1
 have hck := rCheckModel_any m (.slice A m.opts.length cap) (.slice Ar m.rules.length capr) w0 HS.out (H.out.up hB0)
 have HCK := hide hck
 clear hb0 hB0 hs0 hck
 by_cases he : m.err = 0
 ·
  have HE := hide he
  clear he
  go_upto_region 4 with (go_at_call 151; refine HCK.out.mono ?_; rw [HE.out]; rintro e w1 ⟨rfl, hB1⟩; have hbx := box_to HX0.out hB1; have d0 := cellOf hbx 0; have d1 := cellOf hbx 1; have HB1 : Hid (Below w.heap.size w w1) := Below.to HB0.out hB1 (Nat.le_refl _); clear hbx hB1 c0 c1)
  have hv := rValid_any f m.opts.length (.slice Al f.length capl) w.heap.size w1 hl (HF.out.below HB1.out)
  have HV := hide hv
  clear hv
  cases hvf : validF m.opts.length f with
  | true =>
   have HVF := hide hvf
   have hef : m.errF [f] = 0 := by rw [Mo.errF_ok HE.out, List.all_cons, HVF.out]; rfl
   have HEF := hide hef
   clear hvf hef
   go_wp2_with (go_at_call 84; refine HV.out.mono ?_; rw [HVF.out]; rintro e w2 ⟨rfl, rfl⟩)
   go_ret
   exact ⟨ret_int HEF.out.symm, HB1.out⟩
  | false =>
   have HVF := hide hvf
   have hef : m.errF [f] = 11 := by rw [Mo.errF_ok HE.out, List.all_cons, HVF.out]; rfl
   have HEF := hide hef
   clear hvf hef
   go_wp2_with (go_at_call 84; refine HV.out.mono ?_; rw [HVF.out]; rintro e w2 ⟨rfl, rfl⟩)
   go_ret
   exact ⟨ret_int HEF.out.symm, HB1.out⟩
 ·
  obtain ⟨z, hz⟩ : ∃ z, m.err = z := ⟨_, rfl⟩
  rw [hz] at he
  have hz1 : (z != 0) = true := by simpa using he
  have hef : m.errF [f] = z := by rw [Mo.errF_err (by rw [hz]; exact he), hz]
  have HEF := hide hef
  have HZ := hide hz
  clear he hz hef
  go_wp2_with (go_at_call 151; refine HCK.out.mono ?_; rw [HZ.out]; rintro e w1 ⟨rfl, hB1⟩)
  go_ret
  exact ⟨ret_int HEF.out.symm, Below.to HB0.out hB1 (Nat.le_refl _)⟩
set_option maxRecDepth 100000 in
set_option maxHeartbeats 2000000 in
theorem CheckFormula_any (m : Mo) (f : List Int) (ov rv fv : Value) (w : World) (hs : SizedM m) (hl : f.length ≤ maxLen) (h : MoAt w w.heap.size ov rv m) (hf : Ints w w.heap.size fv f) :
  Calls Tryz.prog 150 #[.agg #[ov, rv], fv] w fun e w' => e = .returned (.int .i64 (m.errF [f])) ∧ Below w.heap.size w w' := by
 obtain ⟨A, cap, hov⟩ := Sl.form h.o
 obtain ⟨Ar, capr, hrv⟩ := h.r.form
 obtain ⟨Al, capl, hlv⟩ := Sl.form hf
 have H := hide h
 have HF := hide hf
 have HS := hide hs
 subst hov hrv hlv
 clear h hf hs
 go_enter Tryz.func150, Tryz.ntmps150
 go_upto_region 1 with (fail)
 generalize hw0 : World.alloc _ _ = w0
 obtain ⟨hb0, hB0, hs0⟩ := alloc1 hw0
 clear hw0
 have HB0 := hide hB0
 have c0 := cellOf hb0 0
 have c1 := cellOf hb0 1
 have hB2 : Below w.heap.size w (w0.alloc (.cells #[.slice Al f.length capl] 46 (0, 0))) := Below.allocT hB0 (Nat.le_refl _) _
 have hck := check_any m [f] (.slice A m.opts.length cap) (.slice Ar m.rules.length capr) (.slice (some ⟨w0.heap.size, 0, none⟩) 1 1) _ HS.out (sized_one hl) (H.out.up hB2) (forms_one (heap_new _ _ _ rfl) (by simp) (HF.out.up hB2))
 have HCK := hide hck
 have HB2 := hide hB2
 clear hb0 hB0 hs0 hck hB2
 go_wp2_with (go_at_call 104; refine HCK.out.mono ?_; rintro e w1 ⟨rfl, hB1⟩)
 go_ret
 exact ⟨rfl, Below.to HB2.out hB1 (Nat.le_refl _)⟩
end Go.Proofs.YtehadoecnmfeoaaGreat

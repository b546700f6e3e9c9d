/- Part 6 of this claim's texts: walks and plain laws. -/
import Derived.Test.YtmgfijadjclmpaaRows
import Derived.Test.YtmgfijadjclmpaaGTC1
import Derived.Test.YtmgfijadjclmpaaGTC5
import Derived.WalkLawsBesides
import Derived.WalkSpells
import Derived.Deep.QuietTactic
/- Names: walks. -/
namespace Go.Proofs.Ytmgfijadjclmpaa
open Go.RowKit
set_option linter.unusedVariables false
set_option linter.unusedSimpArgs false
theorem getD_str (s : ByteArray) (k : Nat) (h : k < s.size) : s.data.toList.getD k 0 = s[k] := by
  have : k < s.data.size := h
  simp only [List.getD_eq_getElem?_getD, Array.getElem?_toList, Array.getElem?_eq_getElem this]
  rfl
theorem alN_of {c : UInt8} (h : (97 ≤ (c.toNat : Int) ∧ (c.toNat : Int) ≤ 122) ∨ (48 ≤ (c.toNat : Int) ∧ (c.toNat : Int) ≤ 57)) : alN c = true := by
  unfold alN
  simp only [Bool.or_eq_true, Bool.and_eq_true, decide_eq_true_eq]
  omega
theorem alN_not {c : UInt8} (h : ¬ ((97 ≤ (c.toNat : Int) ∧ (c.toNat : Int) ≤ 122) ∨ (48 ≤ (c.toNat : Int) ∧ (c.toNat : Int) ≤ 57))) : alN c = false := by
  have : ¬ alN c = true := by
    unfold alN
    simp only [Bool.or_eq_true, Bool.and_eq_true, decide_eq_true_eq]
    omega
  simpa using this
set_option maxRecDepth 100000 in
set_option maxHeartbeats 1000000 in
theorem word_any (s : ByteArray) (w : World) (hs : s.size ≤ maxLen) :
    Calls Try.prog 70 #[.string s] w fun e w' => e = .returned (.int .i64 (wordN s.data.toList : Nat)) ∧ w = w' := by
  unfold maxLen at hs
  go_enter Try.func70, Try.ntmps70
  go_wp2
  go_loop [7] (fun i => ∃ k : Nat, k ≤ s.size ∧ i = .int .i64 k ∧ Hid (∀ j, j < k → alN (s.data.toList.getD j 0) = true)) (fun i => s.size - (intOf i).toNat)
  case atStart => exact ⟨0, Nat.zero_le _, rfl, fun j hj => by omega⟩
  case round =>
    obtain ⟨k, hk, rfl, hall⟩ := hrel
    by_cases hlt : k < s.size
    · have hgd := getD_str s k hlt
      have hyes : alN s[k] = true → Hid (∀ j, j < k + 1 → alN (s.data.toList.getD j 0) = true) := fun h j hj => by
        rcases Nat.lt_or_ge j k with h1 | h1
        · exact hall.out j h1
        · rw [show j = k from by omega, hgd]; exact h
      have hno : alN s[k] = false → wordN s.data.toList = k := fun h => wordN_at _ k (by simpa using hlt) hall.out (by rw [hgd]; exact h)
      have HY := hide hyes
      have HN := hide hno
      clear hgd hyes hno
      by_cases hc : (97 ≤ (s[k].toNat : Int) ∧ (s[k].toNat : Int) ≤ 122) ∨ (48 ≤ (s[k].toNat : Int) ∧ (s[k].toNat : Int) ≤ 57)
      · have HC := hide (alN_of hc)
        rcases hc with ⟨h1, h2⟩ | ⟨h1, h2⟩
        · have h3 : ¬ (s[k].toNat : Int) < 97 := by omega
          have h4 : ¬ (122 : Int) < (s[k].toNat : Int) := by omega
          go_wp2
          go_round
          case rel => exact ⟨k + 1, by omega, by go_num, HY.out HC.out⟩
          case measure => simp [intOf]; omega
        · have h3 : (s[k].toNat : Int) < 97 := by omega
          have h4 : ¬ (s[k].toNat : Int) < 48 := by omega
          have h5 : ¬ (57 : Int) < (s[k].toNat : Int) := by omega
          go_wp2
          go_round
          case rel => exact ⟨k + 1, by omega, by go_num, HY.out HC.out⟩
          case measure => simp [intOf]; omega
      · have HC := hide (alN_not hc)
        by_cases h1 : (s[k].toNat : Int) < 97
        · by_cases h2 : (s[k].toNat : Int) < 48
          · clear hc
            go_wp2
            go_ret
            exact ⟨by rw [HN.out HC.out]; rfl, rfl⟩
          · have h3 : (57 : Int) < (s[k].toNat : Int) := by omega
            clear hc
            go_wp2
            go_ret
            exact ⟨by rw [HN.out HC.out]; rfl, rfl⟩
        · have h2 : (122 : Int) < (s[k].toNat : Int) := by omega
          have h3 : ¬ (s[k].toNat : Int) < 48 := by omega
          have h4 : (57 : Int) < (s[k].toNat : Int) := by omega
          clear hc
          go_wp2
          go_ret
          exact ⟨by rw [HN.out HC.out]; rfl, rfl⟩
    · have : k = s.size := by omega
      subst this
      go_wp2
      go_ret
      exact ⟨by rw [wordN_all _ (by simpa using hall.out)]; simp, rfl⟩
theorem ret_bool {a b : Bool} (h : a = b) : Ending.returned (.bool a) = .returned (.bool b) := by rw [h]
theorem str_ne {s : ByteArray} {l : List UInt8} (h : s.data.toList ≠ l) : (s.toList == l) = false ∧ ¬ s.toList = l := by
  rw [← ByteArray.toList_eq] at h
  exact ⟨by simpa using h, h⟩
set_option maxRecDepth 100000 in
set_option maxHeartbeats 1000000 in
theorem named_any (s : ByteArray) (w : World) (hs : s.size ≤ maxLen) :
    Calls Try.prog 65 #[.string s] w fun e w' => e = .returned (.bool (namedB s.data.toList)) ∧ w = w' := by
  have hl : s.data.toList.length = s.size := by simp
  by_cases h1 : s.size < 1
  · have hf : namedB s.data.toList = false := by
      unfold namedB; rw [hl]; simp; omega
    have HF := hide hf
    have h2 : (s.size : Int) < 1 := by omega
    clear hf hl h1
    go_enter Try.func65, Try.ntmps65
    go_wp2
    go_ret
    exact ⟨ret_bool HF.out.symm, rfl⟩
  by_cases h2 : 8 < s.size
  · have hf : namedB s.data.toList = false := by
      unfold namedB; rw [hl]; simp; omega
    have HF := hide hf
    have h3 : (8 : Int) < (s.size : Int) := by omega
    have h4 : ¬ (s.size : Int) < 1 := by omega
    clear hf hl h1 h2
    go_enter Try.func65, Try.ntmps65
    go_wp2
    go_ret
    exact ⟨ret_bool HF.out.symm, rfl⟩
  have h3 : ¬ (s.size : Int) < 1 := by omega
  have h4 : ¬ (8 : Int) < (s.size : Int) := by omega
  have h0 : 0 < s.size := by omega
  have hg := getD_str s 0 h0
  by_cases hsm : smN s[0] = true
  · have hb : 97 ≤ (s[0].toNat : Int) ∧ (s[0].toNat : Int) ≤ 122 := by
      unfold smN at hsm
      simp only [Bool.and_eq_true, decide_eq_true_eq] at hsm
      omega
    obtain ⟨hb1, hb2⟩ := hb
    have hb3 : ¬ (s[0].toNat : Int) < 97 := by omega
    have hb4 : ¬ (122 : Int) < (s[0].toNat : Int) := by omega
    by_cases hy : s.data.toList = [121, 101, 115]
    · have hf : namedB s.data.toList = false := by unfold namedB; rw [hy]; rfl
      have HF := hide hf
      have hse : s = ⟨#[121, 101, 115]⟩ := by
        obtain ⟨d⟩ := s
        congr 1
        exact Array.toList_inj.1 hy
      subst hse
      clear hf hy hl hg hsm
      go_enter Try.func65, Try.ntmps65
      go_wp2
      go_ret
      exact ⟨ret_bool HF.out.symm, rfl⟩
    by_cases hn : s.data.toList = [110, 111]
    · have hf : namedB s.data.toList = false := by unfold namedB; rw [hn]; rfl
      have HF := hide hf
      have hse : s = ⟨#[110, 111]⟩ := by
        obtain ⟨d⟩ := s
        congr 1
        exact Array.toList_inj.1 hn
      subst hse
      clear hf hy hn hl hg hsm
      go_enter Try.func65, Try.ntmps65
      go_wp2
      go_ret
      exact ⟨ret_bool HF.out.symm, rfl⟩
    have hf : namedB s.data.toList = decide ((wordN s.data.toList : Int) = (s.size : Int)) := by
      unfold namedB
      rw [hl, hg, hsm]
      have e1 : decide (1 ≤ s.size) = true := by simp; omega
      have e2 : decide (s.size ≤ 8) = true := by simp; omega
      have e3 : decide (s.data.toList ≠ [121, 101, 115]) = true := by simpa using hy
      have e4 : decide (s.data.toList ≠ [110, 111]) = true := by simpa using hn
      rw [e1, e2, e3, e4]
      simp only [Bool.and_self, Bool.true_and]
      congr 1
      exact propext ⟨fun h => by omega, fun h => by omega⟩
    have HF := hide hf
    obtain ⟨k1, _⟩ := str_ne hy
    obtain ⟨k2, _⟩ := str_ne hn
    clear hf hy hn hl hg hsm
    go_enter Try.func65, Try.ntmps65
    go_wp2_with (go_at_call 70; refine (word_any s _ hs).mono ?_; rintro e w1 ⟨rfl, rfl⟩)
    go_ret
    exact ⟨ret_bool (by rw [HF.out]; rfl), rfl⟩
  · have hf : namedB s.data.toList = false := by
      unfold namedB; rw [hg]
      have : smN s[0] = false := by simpa using hsm
      rw [this]; simp
    have HF := hide hf
    have hb : (s[0].toNat : Int) < 97 ∨ ¬ (s[0].toNat : Int) < 97 ∧ 122 < (s[0].toNat : Int) := by
      unfold smN at hsm
      simp only [Bool.and_eq_true, decide_eq_true_eq] at hsm
      omega
    clear hf hl hg hsm
    rcases hb with hb | ⟨hb, hb2⟩
    · go_enter Try.func65, Try.ntmps65
      go_wp2
      go_ret
      exact ⟨ret_bool HF.out.symm, rfl⟩
    · go_enter Try.func65, Try.ntmps65
      go_wp2
      go_ret
      exact ⟨ret_bool HF.out.symm, rfl⟩
/-- The slice v holds the texts ns, below block B. -/
def Names (w : World) (B : Nat) (v : Value) (ns : List ByteArray) : Prop := Sl w B 1 v ns.length (fun i _ => .string (ns.getD i ByteArray.empty))
theorem Names.below {w w' : World} {B : Nat} {v : Value} {f : List ByteArray} (h : Names w B v f) (hb : Below B w w') : Names w' B v f := Sl.below h hb
theorem Names.more {w : World} {B B' : Nat} {v : Value} {f : List ByteArray} (h : Names w B v f) (hB : B ≤ B') : Names w B' v f := Sl.more h hB
theorem Names.take {w : World} {B : Nat} {A : Option Addr} {n cap : Nat} {f : List ByteArray} (h : Names w B (.slice A n cap) f) {k : Nat} (hk : k ≤ f.length) : Names w B (.slice A k cap) (f.take k) := by
  obtain ⟨A', b, off, cap', h1, h2, h3, h4⟩ := h
  injection h1 with e1 e2 e3
  subst e1 e3
  have hl : (f.take k).length = k := by simp; omega
  refine ⟨A, b, off, cap, by rw [hl], by omega, ?_, fun i j hi hj => ?_⟩
  · rcases h3 with h3 | h3
    · exact .inl h3
    · exact .inr (by omega)
  · rw [h4 i j (by omega) hj]
    congr 2
    rw [hl] at hi
    simp [List.getD_eq_getElem?_getD, hi]
set_option maxRecDepth 100000 in
theorem indexS_any (ns : List ByteArray) (s : ByteArray) (v : Value) (B : Nat) (w : World) (hm : ns.length ≤ maxLen) (h : Names w B v ns) :
    Calls Try.prog 71 #[v, .string s] w fun e w' => e = .returned (.int .i64 (idxI (fun x => x.toList == s.toList) ns)) ∧ w = w' := by
  unfold maxLen at hm
  obtain ⟨A, b, off, cap, rfl, hnc, hA, hc⟩ := h
  have HC := hide hc
  have HA := hide hA
  clear hc hA
  go_enter Try.func71, Try.ntmps71
  go_wp2
  go_loop [8] (fun i => ∃ k : Nat, k ≤ ns.length ∧ i = .int .i64 k ∧ Hid (∀ j, j < k → ((ns.getD j ByteArray.empty).toList == s.toList) = false)) (fun i => ns.length - (intOf i).toNat)
  case atStart => exact ⟨0, Nat.zero_le _, rfl, fun j hj => by omega⟩
  case round =>
    obtain ⟨k, hk, rfl, hall⟩ := hrel
    by_cases hlt : k < ns.length
    · obtain ⟨rfl, hbb⟩ : A = some ⟨b, off, none⟩ ∧ b < B := by
        rcases HA.out with h | h
        · exact h
        · omega
      obtain ⟨x, hx⟩ : ∃ x, ns.getD k ByteArray.empty = x := ⟨_, rfl⟩
      have c0 : w.cell? ⟨b, off + k, none⟩ = some (.string x) := by
        have h1 := HC.out k 0 hlt (by omega)
        rw [Nat.mul_one, Nat.add_zero, hx] at h1
        exact h1
      have HX := hide hx
      clear hx
      by_cases he : x.toList = s.toList
      · have he1 : (s.toList == x.toList) = true := by simp [he]
        have HE := hide he
        clear he
        go_wp2
        go_ret
        exact ⟨ret_int (idxI_at _ ByteArray.empty ns k hall.out hlt (by rw [HX.out, HE.out]; simp)).symm, rfl⟩
      · have he1 : (s.toList == x.toList) = false := by simpa using fun e => he e.symm
        have he2 : ¬ s.toList = x.toList := fun e => he e.symm
        have HE := hide he
        clear he
        go_wp2
        go_round
        case rel => exact ⟨k + 1, by omega, by go_num, fun j hj => by
            rcases Nat.lt_or_ge j k with h | h
            · exact hall.out j h
            · rw [show j = k from by omega, HX.out]; simpa using HE.out⟩
        case measure => simp [intOf]; omega
    · go_wp2
      go_ret
      exact ⟨ret_int (idxI_none _ ByteArray.empty ns (fun j hj => hall.out j (by omega))).symm, rfl⟩
set_option maxRecDepth 100000 in
theorem containsS_any (ns : List ByteArray) (s : ByteArray) (v : Value) (B : Nat) (w : World) (hm : ns.length ≤ maxLen) (h : Names w B v ns) :
    Calls Try.prog 66 #[v, .string s] w fun e w' => e = .returned (.bool ((ns.map fun x => x.data.toList).contains s.data.toList)) ∧ w = w' := by
  have he : (ns.map fun x => x.data.toList).contains s.data.toList = decide (0 ≤ idxI (fun x => x.toList == s.toList) ns) := by
    rw [idxI_any, Bool.eq_iff_iff]
    simp [ByteArray.toList_eq]
  have HE := hide he
  have H := hide h
  clear he h
  go_enter Try.func66, Try.ntmps66
  go_wp2_with (go_at_call 71; refine (indexS_any ns s v B _ hm H.out).mono ?_; rintro e w1 ⟨rfl, rfl⟩)
  go_ret
  exact ⟨ret_bool HE.out.symm, rfl⟩
end Go.Proofs.Ytmgfijadjclmpaa
/- Valid formulas and models: walks. -/
namespace Go.Proofs.Ytmgfijadjclmpaa
open Go.RowKit
set_option linter.unusedVariables false
set_option linter.unusedSimpArgs false
theorem wrap_zero {w : Nat} (h : (w : Int) ≤ 9223372036854775808) : (wrap64 (w : Int) == 0) = decide (w = 0) := by
  rcases (by omega : (w : Int) ≤ 9223372036854775807 ∨ (w : Int) = 9223372036854775808) with h1 | h1
  · rw [IntWalk.wrap64_in _ (by omega)]
    rw [Bool.eq_iff_iff]; simp
  · rw [h1]
    have : decide (w = 0) = false := by simp; omega
    rw [this]
    unfold wrap64
    rfl
set_option maxRecDepth 100000 in
set_option maxHeartbeats 1000000 in
theorem valid_any (f : List Int) (N : Nat) (v : Value) (B : Nat) (w : World) (hm : f.length ≤ maxLen) (h : Ints w B v f) :
    Calls Try.prog 69 #[v, .int .i64 N] w fun e w' => e = .returned (.bool (validF N f)) ∧ w = w' := by
  unfold maxLen at hm
  obtain ⟨A, b, off, cap, rfl, hnc, hA, hc⟩ := h
  have HC := hide hc
  have HA := hide hA
  have hN0 : (0 : Int) ≤ (N : Int) := by omega
  clear hc hA
  go_enter Try.func69, Try.ntmps69
  go_wp2
  go_loop [5, 10] (fun x i => ∃ k c : Nat, k ≤ f.length ∧ c ≤ k + 1 ∧ i = .int .i64 k ∧ x = .int .i64 (wrap64 (c : Int)) ∧ Hid (vld N 1 f = vld N c (f.drop k))) (fun _ i => f.length - (intOf i).toNat)
  case atStart => exact ⟨0, 1, Nat.zero_le _, by omega, rfl, by rw [IntWalk.wrap64_in _ (by omega)]; rfl, rfl⟩
  case round =>
    obtain ⟨k, c, hk, hck, rfl, rfl, hv⟩ := hrel
    by_cases hlt : k < f.length
    · obtain ⟨rfl, hbb⟩ : A = some ⟨b, off, none⟩ ∧ b < B := by
        rcases HA.out with h | h
        · exact h
        · omega
      obtain ⟨o, ho⟩ : ∃ o, f.getD k 0 = o := ⟨_, rfl⟩
      have c0 : w.cell? ⟨b, off + k, none⟩ = some (.int .i64 o) := by
        have h1 := HC.out k 0 hlt (by omega)
        rw [Nat.mul_one, Nat.add_zero, ho] at h1
        exact h1
      have hv2 := hv.out
      rw [drop_getD hlt, ho] at hv2
      have HV2 := hide hv2
      rw [IntWalk.wrap64_in _ (by omega)]
      have hc0 : (0 : Int) ≤ (c : Int) := by omega
      have hbad : vld N c (o :: f.drop (k + 1)) = false → validF N f = false := fun h => by
        unfold validF; rw [HV2.out, h]; rfl
      have HBAD := hide hbad
      clear hv2 ho hbad
      match c, hck, HV2, HBAD, hc0 with
      | 0, _, HV2, HBAD, hc0 =>
        have h0 : (((0 : Nat) : Int) == 0) = true := by simp
        go_wp2
        go_ret
        exact ⟨ret_bool (HBAD.out rfl).symm, rfl⟩
      | c + 1, hck, HV2, HBAD, hc0 =>
        have h0 : (((c + 1 : Nat) : Int) == 0) = false := by simp; omega
        by_cases h6 : o < -6
        · have hb : vld N (c + 1) (o :: f.drop (k + 1)) = false := by
            have : decide (-6 ≤ o) = false := by simp; omega
            simp only [vld, this, Bool.false_and]
          have HB := hide (HBAD.out hb)
          clear hb
          go_wp2
          go_ret
          exact ⟨ret_bool HB.out.symm, rfl⟩
        · by_cases hoN : (N : Int) ≤ o
          · have hb : vld N (c + 1) (o :: f.drop (k + 1)) = false := by
              have : decide (o < N) = false := by simp; omega
              simp only [vld, this, Bool.and_false, Bool.false_and]
            have HB := hide (HBAD.out hb)
            clear hb
            go_wp2
            go_ret
            exact ⟨ret_bool HB.out.symm, rfl⟩
          · have hg : vld N (c + 1) (o :: f.drop (k + 1)) = vld N (c + arO o) (f.drop (k + 1)) := by
              have h1 : decide (-6 ≤ o) = true := by simp; omega
              have h2 : decide (o < N) = true := by simp; omega
              simp only [vld, h1, h2, Bool.true_and]
            have ha2 : arO o ≤ 2 := by unfold arO; split; omega; split <;> omega
            have HG := hide hg
            clear hg
            go_wp2_with (go_at_call 49; refine (operands_any _ _).mono ?_; rintro e w1 ⟨rfl, rfl⟩)
            go_round
            case rel => exact ⟨k + 1, c + arO o, by omega, by omega, by go_num, by congr 2; first | omega | (congr 1; omega), by rw [hv.out, ← HG.out]; exact (hv.out.symm.trans HV2.out)⟩
            case measure => simp [intOf]; omega
    · obtain rfl : k = f.length := by omega
      have hz := wrap_zero (w := c) (by omega)
      have hf : validF N f = (decide (c = 0) && decide (f.length ≤ 100)) := by
        unfold validF
        rw [hv.out, List.drop_length]
        congr 1
        cases c <;> simp [vld]
      obtain ⟨z, hzz⟩ : ∃ z, wrap64 (c : Int) = z := ⟨_, rfl⟩
      rw [hzz] at hz ⊢
      have HF := hide hf
      clear hf hzz
      by_cases hc0 : c = 0
      · have hz1 : (z == 0) = true := by rw [hz]; simp [hc0]
        have HC0 := hide hc0
        clear hz hc0
        by_cases h100 : f.length ≤ 100
        · have h101 : (f.length : Int) ≤ 100 := by omega
          go_wp2
          go_ret
          exact ⟨ret_bool (by rw [HF.out, HC0.out]; simp [h100]), rfl⟩
        · have h101 : ¬ (f.length : Int) ≤ 100 := by omega
          go_wp2
          go_ret
          exact ⟨ret_bool (by rw [HF.out]; simp [h100]), rfl⟩
      · have hz1 : (z == 0) = false := by rw [hz]; simp [hc0]
        have HC0 := hide hc0
        clear hz hc0
        go_wp2
        go_ret
        exact ⟨ret_bool (by rw [HF.out]; simp [HC0.out]), rfl⟩
end Go.Proofs.Ytmgfijadjclmpaa
/- Which formulas and models are valid: walks. -/
namespace Go.Proofs.Ytmgfijadjclmpaa
open Go.RowKit
set_option linter.unusedVariables false
set_option linter.unusedSimpArgs false
set_option maxRecDepth 100000 in
theorem indexForms_valid (p : List Int → Bool) (cap0 : Value) (v : Value) (fs : List (List Int)) (w : World) (hm : fs.length ≤ maxLen) (h : Forms w w.heap.size v fs)
    (hf : ∀ (i : Nat) (f : List Int) (fv : Value) (W : World), i < fs.length → fs.getD i [] = f → Below w.heap.size w W → Ints W w.heap.size fv f → Calls Try.prog 68 #[fv, cap0] W fun e w' => e = .returned (.bool (p f)) ∧ Below W.heap.size W w') :
    Calls Try.prog 72 #[v, .func (.func 68) #[] #[cap0]] w fun e w' => e = .returned (.int .i64 (idxI p fs)) ∧ Below w.heap.size w w' := by
  unfold maxLen at hm
  obtain ⟨fvs, ⟨A, b, off, cap, rfl, hnc, hA, hc⟩, hin⟩ := h
  have HC := hide hc
  have HA := hide hA
  have HF := hide hf
  have HIN := hide hin
  clear hc hA hf hin
  go_enter Try.func72, Try.ntmps72
  go_wp2
  go_loopw [5, 8] (fun _ i wr => ∃ k : Nat, k ≤ fs.length ∧ i = .int .i64 k ∧ Hid (∀ j, j < k → p (fs.getD j []) = false) ∧ Below w.heap.size w wr) (fun _ i _ => fs.length - (intOf i).toNat)
  case atStart => exact ⟨0, Nat.zero_le _, rfl, fun j hj => by omega, Below.refl _ _⟩
  case round =>
    obtain ⟨k, hk, rfl, hz, hB⟩ := hrel
    by_cases hlt : k < fs.length
    · obtain ⟨rfl, hbb⟩ : A = some ⟨b, off, none⟩ ∧ b < w.heap.size := by
        rcases HA.out with h | h
        · exact h
        · omega
      obtain ⟨f, hfe⟩ : ∃ f, fs.getD k [] = f := ⟨_, rfl⟩
      have c0 : wr.cell? ⟨b, off + k, none⟩ = some (fvs k) := by
        have h1 := HC.out k 0 hlt (by omega)
        rw [Nat.mul_one, Nat.add_zero] at h1
        exact (hB.cell (p := ⟨b, off + k, none⟩) hbb).trans h1
      have hi : Ints wr w.heap.size (fvs k) f := by
        have := (HIN.out k hlt).below hB
        rwa [hfe] at this
      have hcl := HF.out k f (fvs k) wr hlt hfe hB hi
      obtain ⟨Af, capf, hfv⟩ := Sl.form hi
      rw [hfv] at c0 hcl
      have HFE := hide hfe
      clear hfe hi hfv
      by_cases hp : p f = true
      · rw [hp] at hcl
        have HCL := hide hcl
        have HP := hide hp
        clear hcl hp
        go_wp2_with (go_at_call 68; refine HCL.out.mono ?_; rintro e w1 ⟨rfl, hB1⟩)
        go_ret
        exact ⟨ret_int (idxI_at p [] fs k hz.out hlt (by rw [HFE.out]; exact HP.out)).symm, (by repeat (first | exact Below.refl _ _ | assumption | refine Below.drew ?_ | refine Below.drewN ?_ _ | refine Below.allocT ?_ (Nat.le_refl _) _ | refine Below.setCell ?_ (by simp <;> omega) _ | refine Below.to ?_ (by assumption) (Nat.le_refl _)))⟩
      · have hp' : p f = false := by simpa using hp
        rw [hp'] at hcl
        have HCL := hide hcl
        have HP := hide hp'
        clear hcl hp hp'
        go_wp2_with (go_at_call 68; refine HCL.out.mono ?_; rintro e w1 ⟨rfl, hB1⟩)
        go_roundw
        case rel => exact ⟨k + 1, by omega, by go_num, fun j hj => by
            rcases Nat.lt_or_ge j k with h | h
            · exact hz.out j h
            · rw [show j = k from by omega, HFE.out]; exact HP.out, (by repeat (first | exact Below.refl _ _ | assumption | refine Below.drew ?_ | refine Below.drewN ?_ _ | refine Below.allocT ?_ (Nat.le_refl _) _ | refine Below.setCell ?_ (by simp <;> omega) _ | refine Below.to ?_ (by assumption) (Nat.le_refl _)))⟩
        case measure => simp [intOf]; omega
    · go_wp2
      go_ret
      exact ⟨ret_int (idxI_none p [] fs (fun j hj => hz.out j (by omega))).symm, (by repeat (first | exact Below.refl _ _ | assumption | refine Below.drew ?_ | refine Below.drewN ?_ _ | refine Below.allocT ?_ (Nat.le_refl _) _ | refine Below.setCell ?_ (by simp <;> omega) _ | refine Below.to ?_ (by assumption) (Nat.le_refl _)))⟩


set_option maxRecDepth 100000 in
theorem containsForms_valid (p : List Int → Bool) (cap0 : Value) (v : Value) (fs : List (List Int)) (w : World) (hm : fs.length ≤ maxLen) (h : Forms w w.heap.size v fs)
    (hf : ∀ (i : Nat) (f : List Int) (fv : Value) (W : World), i < fs.length → fs.getD i [] = f → Below w.heap.size w W → Ints W w.heap.size fv f → Calls Try.prog 68 #[fv, cap0] W fun e w' => e = .returned (.bool (p f)) ∧ Below W.heap.size W w') :
    Calls Try.prog 67 #[v, .func (.func 68) #[] #[cap0]] w fun e w' => e = .returned (.bool (fs.any p)) ∧ Below w.heap.size w w' := by
  have hc := indexForms_valid p cap0 v fs w hm h hf
  have he := idxI_any p fs
  have hlo := idxI_lo p fs
  have hhi := idxI_hi p fs
  obtain ⟨z, hz⟩ : ∃ z, idxI p fs = z := ⟨_, rfl⟩
  rw [hz] at hc he hlo hhi
  obtain ⟨fvs, h1, _⟩ := h
  obtain ⟨A, cap, rfl⟩ := Sl.form h1
  have HC := hide hc
  have HE := hide he
  unfold maxLen at hm
  have hz2 : z ≤ 9223372036854775807 := by omega
  clear hc he hz h1 hf
  go_enter Try.func67, Try.ntmps67
  go_wp2_with (go_at_call 72; refine HC.out.mono ?_; rintro e w1 ⟨rfl, hB1⟩)
  go_ret
  exact ⟨ret_bool HE.out, (by repeat (first | exact Below.refl _ _ | assumption | refine Below.drew ?_ | refine Below.drewN ?_ _ | refine Below.allocT ?_ (Nat.le_refl _) _ | refine Below.setCell ?_ (by simp <;> omega) _ | refine Below.to ?_ (by assumption) (Nat.le_refl _)))⟩


/-- A model's cells, in a box. -/
def MoBox (w : World) (b : Nat) (ov rv : Value) : Prop := w.heap[b]? = some (.cells #[ov, rv] 54 (0, 0))
/-- A model in memory. -/
structure MoAt (w : World) (B : Nat) (ov rv : Value) (m : Mo) : Prop where
  o : Names w B ov m.opts
  r : Forms w B rv m.rules
theorem MoAt.below {w w' : World} {B : Nat} {ov rv : Value} {m : Mo} (h : MoAt w B ov rv m) (hb : Below B w w') : MoAt w' B ov rv m := ⟨h.o.below hb, h.r.below hb⟩
theorem MoAt.more {w : World} {B B' : Nat} {ov rv : Value} {m : Mo} (h : MoAt w B ov rv m) (hB : B ≤ B') : MoAt w B' ov rv m := ⟨h.o.more hB, h.r.more hB⟩
theorem MoAt.up {w w' : World} {ov rv : Value} {m : Mo} (h : MoAt w w.heap.size ov rv m) (hb : Below w.heap.size w w') : MoAt w' w'.heap.size ov rv m := (h.below hb).more hb.size
theorem Ints.up {w w' : World} {v : Value} {f : List Int} (h : Ints w w.heap.size v f) (hb : Below w.heap.size w w') : Ints w' w'.heap.size v f := (h.below hb).more hb.size
theorem Forms.up {w w' : World} {v : Value} {f : List (List Int)} (h : Forms w w.heap.size v f) (hb : Below w.heap.size w w') : Forms w' w'.heap.size v f := (h.below hb).more hb.size
theorem Forms.form {w : World} {B : Nat} {v : Value} {fs : List (List Int)} (h : Forms w B v fs) : ∃ A cap, v = .slice A fs.length cap := by
  obtain ⟨_, h1, _⟩ := h
  exact Sl.form h1
/-- Sizes that memory allows. -/
def Sized (l : List (List Int)) : Prop := l.length ≤ maxLen ∧ ∀ f ∈ l, f.length ≤ maxLen
set_option maxRecDepth 100000 in
theorem checkClo_any (f : List Int) (fv ov rv : Value) (n mb : Nat) (A : Option Addr) (cap : Nat) (hov : ov = .slice A n cap) (W : World) (hm : f.length ≤ maxLen) (hb : MoBox W mb ov rv) (B : Nat) (h : Ints W B fv f) :
    Calls Try.prog 68 #[fv, .pointer (some ⟨mb, 0, none⟩)] W fun e w' => e = .returned (.bool (!validF n f)) ∧ Below W.heap.size W w' := by
  subst hov
  have c0 := cellOf hb 0
  have H := hide h
  clear hb h
  go_enter Try.func68, Try.ntmps68
  go_wp2_with (go_at_call 69; refine (valid_any f n _ B _ hm H.out).mono ?_; rintro e w1 ⟨rfl, rfl⟩)
  go_ret
  exact ⟨rfl, (by repeat (first | exact Below.refl _ _ | assumption | refine Below.drew ?_ | refine Below.drewN ?_ _ | refine Below.allocT ?_ (Nat.le_refl _) _ | refine Below.setCell ?_ (by simp <;> omega) _ | refine Below.to ?_ (by assumption) (Nat.le_refl _)))⟩
set_option maxRecDepth 100000 in
theorem checkForms_any (m : Mo) (fs : List (List Int)) (ov rv fv : Value) (w : World) (hm : m.opts.length ≤ maxLen) (hs : Sized fs) (ho : Names w w.heap.size ov m.opts) (h : Forms w w.heap.size fv fs) :
    Calls Try.prog 62 #[.agg #[ov, rv], fv] w fun e w' => e = .returned (.int .i64 (if fs.all (validF m.opts.length) = false then 11 else 0)) ∧ Below w.heap.size w w' := by
  obtain ⟨A, cap, hov⟩ := Sl.form ho
  have hB0 : Below w.heap.size w (w.alloc (.cells #[ov, rv] 54)) := (by repeat (first | exact Below.refl _ _ | assumption | refine Below.drew ?_ | refine Below.drewN ?_ _ | refine Below.allocT ?_ (Nat.le_refl _) _ | refine Below.setCell ?_ (by simp <;> omega) _ | refine Below.to ?_ (by assumption) (Nat.le_refl _)))
  have hbx : MoBox (w.alloc (.cells #[ov, rv] 54)) w.heap.size ov rv := heap_new _ _ _ rfl
  have hcl := containsForms_valid (fun f => !validF m.opts.length f) (.pointer (some ⟨w.heap.size, 0, none⟩)) fv fs (w.alloc (.cells #[ov, rv] 54)) hs.1 (h.up hB0)
    (fun i f fv' W hi hf hB hin => checkClo_any f fv' ov rv m.opts.length w.heap.size A cap hov W (hs.2 f (by rw [← hf]; exact getD_mem hi)) (box_to hbx hB) _ hin)
  have he : fs.any (fun f => !validF m.opts.length f) = !fs.all (validF m.opts.length) := by
    rw [List.all_eq_not_any_not, Bool.not_not]
  rw [he] at hcl
  obtain ⟨Af, capf, hfv⟩ := h.form
  subst hfv hov
  have HCL := hide hcl
  clear hcl he hbx hB0 h ho hs hm
  cases ha : fs.all (validF m.opts.length) with
  | true =>
    rw [ha] at HCL
    clear ha
    go_enter Try.func62, Try.ntmps62
    go_wp2_with (go_at_call 67; refine HCL.out.mono ?_; rintro e w1 ⟨rfl, hB1⟩)
    go_ret
    exact ⟨rfl, (by repeat (first | exact Below.refl _ _ | assumption | refine Below.drew ?_ | refine Below.drewN ?_ _ | refine Below.allocT ?_ (Nat.le_refl _) _ | refine Below.setCell ?_ (by simp <;> omega) _ | refine Below.to ?_ (by assumption) (Nat.le_refl _)))⟩
  | false =>
    rw [ha] at HCL
    clear ha
    go_enter Try.func62, Try.ntmps62
    go_wp2_with (go_at_call 67; refine HCL.out.mono ?_; rintro e w1 ⟨rfl, hB1⟩)
    go_ret
    exact ⟨rfl, (by repeat (first | exact Below.refl _ _ | assumption | refine Below.drew ?_ | refine Below.drewN ?_ _ | refine Below.allocT ?_ (Nat.le_refl _) _ | refine Below.setCell ?_ (by simp <;> omega) _ | refine Below.to ?_ (by assumption) (Nat.le_refl _)))⟩
end Go.Proofs.Ytmgfijadjclmpaa

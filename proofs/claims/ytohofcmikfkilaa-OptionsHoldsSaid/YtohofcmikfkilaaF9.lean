/- Names: walks. -/
import Derived.Test.YtohofcmikfkilaaRows
import Derived.Test.YtohofcmikfkilaaP4
import Derived.Test.YtohofcmikfkilaaF8
import Derived.WalkLawsBesides
import Derived.WalkSpells
import Derived.Deep.QuietTactic
namespace Go.Proofs.Ytohofcmikfkilaa
open Go.RowKit
set_option linter.unusedVariables false
set_option linter.unusedSimpArgs false
theorem getD_str (s : ByteArray) (k : Nat) (h : k < s.size) : s.data.toList.getD k 0 = s[k] := by
  have : k < s.data.size := h
  simp only [List.getD_eq_getElem?_getD, Array.getElem?_toList, Array.getElem?_eq_getElem this]
  rfl
theorem alN_of {c : UInt8} (h : (97 ≤ (c.toNat : Int) ∧ (c.toNat : Int) ≤ 122) ∨ (48 ≤ (c.toNat : Int) ∧ (c.toNat : Int) ≤ 57)) : alN c = true := by
  unfold alN
  simp only [Bool.or_eq_true, Bool.and_eq_true, decide_eq_true_eq]
  omega
theorem alN_not {c : UInt8} (h : ¬ ((97 ≤ (c.toNat : Int) ∧ (c.toNat : Int) ≤ 122) ∨ (48 ≤ (c.toNat : Int) ∧ (c.toNat : Int) ≤ 57))) : alN c = false := by
  have : ¬ alN c = true := by
    unfold alN
    simp only [Bool.or_eq_true, Bool.and_eq_true, decide_eq_true_eq]
    omega
  simpa using this
set_option maxRecDepth 100000 in
set_option maxHeartbeats 1000000 in
theorem word_any (s : ByteArray) (w : World) (hs : s.size ≤ maxLen) :
    Calls Try.prog 100 #[.string s] w fun e w' => e = .returned (.int .i64 (wordN s.data.toList : Nat)) ∧ w = w' := by
  unfold maxLen at hs
  go_enter Try.func100, Try.ntmps100
  go_wp2
  go_loop [7] (fun i => ∃ k : Nat, k ≤ s.size ∧ i = .int .i64 k ∧ Hid (∀ j, j < k → alN (s.data.toList.getD j 0) = true)) (fun i => s.size - (intOf i).toNat)
  case atStart => exact ⟨0, Nat.zero_le _, rfl, fun j hj => by omega⟩
  case round =>
    obtain ⟨k, hk, rfl, hall⟩ := hrel
    by_cases hlt : k < s.size
    · have hgd := getD_str s k hlt
      have hyes : alN s[k] = true → Hid (∀ j, j < k + 1 → alN (s.data.toList.getD j 0) = true) := fun h j hj => by
        rcases Nat.lt_or_ge j k with h1 | h1
        · exact hall.out j h1
        · rw [show j = k from by omega, hgd]; exact h
      have hno : alN s[k] = false → wordN s.data.toList = k := fun h => wordN_at _ k (by simpa using hlt) hall.out (by rw [hgd]; exact h)
      have HY := hide hyes
      have HN := hide hno
      clear hgd hyes hno
      by_cases hc : (97 ≤ (s[k].toNat : Int) ∧ (s[k].toNat : Int) ≤ 122) ∨ (48 ≤ (s[k].toNat : Int) ∧ (s[k].toNat : Int) ≤ 57)
      · have HC := hide (alN_of hc)
        rcases hc with ⟨h1, h2⟩ | ⟨h1, h2⟩
        · have h3 : ¬ (s[k].toNat : Int) < 97 := by omega
          have h4 : ¬ (122 : Int) < (s[k].toNat : Int) := by omega
          go_wp2
          go_round
          case rel => exact ⟨k + 1, by omega, by go_num, HY.out HC.out⟩
          case measure => simp [intOf]; omega
        · have h3 : (s[k].toNat : Int) < 97 := by omega
          have h4 : ¬ (s[k].toNat : Int) < 48 := by omega
          have h5 : ¬ (57 : Int) < (s[k].toNat : Int) := by omega
          go_wp2
          go_round
          case rel => exact ⟨k + 1, by omega, by go_num, HY.out HC.out⟩
          case measure => simp [intOf]; omega
      · have HC := hide (alN_not hc)
        by_cases h1 : (s[k].toNat : Int) < 97
        · by_cases h2 : (s[k].toNat : Int) < 48
          · clear hc
            go_wp2
            go_ret
            exact ⟨by rw [HN.out HC.out]; rfl, rfl⟩
          · have h3 : (57 : Int) < (s[k].toNat : Int) := by omega
            clear hc
            go_wp2
            go_ret
            exact ⟨by rw [HN.out HC.out]; rfl, rfl⟩
        · have h2 : (122 : Int) < (s[k].toNat : Int) := by omega
          have h3 : ¬ (s[k].toNat : Int) < 48 := by omega
          have h4 : (57 : Int) < (s[k].toNat : Int) := by omega
          clear hc
          go_wp2
          go_ret
          exact ⟨by rw [HN.out HC.out]; rfl, rfl⟩
    · have : k = s.size := by omega
      subst this
      go_wp2
      go_ret
      exact ⟨by rw [wordN_all _ (by simpa using hall.out)]; simp, rfl⟩
theorem smN_of {c : UInt8} (h1 : 97 ≤ (c.toNat : Int)) (h2 : (c.toNat : Int) ≤ 122) : smN c = true := by
  unfold smN
  simp only [Bool.and_eq_true, decide_eq_true_eq]
  omega
theorem smN_not {c : UInt8} (h : (c.toNat : Int) < 97 ∨ 122 < (c.toNat : Int)) : smN c = false := by
  have : ¬ smN c = true := by
    unfold smN
    simp only [Bool.and_eq_true, decide_eq_true_eq]
    omega
  simpa using this
theorem ret_bool {a b : Bool} (h : a = b) : Ending.returned (.bool a) = .returned (.bool b) := by rw [h]
theorem str_ne {s : ByteArray} {l : List UInt8} (h : s.data.toList ≠ l) : (s.toList == l) = false ∧ ¬ s.toList = l := by
  rw [← ByteArray.toList_eq] at h
  exact ⟨by simpa using h, h⟩
theorem str_eq {s : ByteArray} {l : List UInt8} (h : s.data.toList = l) : (s.toList == l) = true ∧ s.toList = l := by
  rw [← ByteArray.toList_eq] at h
  exact ⟨by simpa using h, h⟩
set_option maxRecDepth 100000 in
set_option maxHeartbeats 1000000 in
theorem named_any (s : ByteArray) (w : World) (hs : s.size ≤ maxLen) :
    Calls Try.prog 67 #[.string s] w fun e w' => e = .returned (.bool (namedB s.data.toList)) ∧ w = w' := by
  have hl : s.data.toList.length = s.size := by simp
  by_cases h1 : s.size < 1
  · have hf : namedB s.data.toList = false := by
      unfold namedB; rw [hl]; simp; omega
    have HF := hide hf
    have h2 : (s.size : Int) < 1 := by omega
    clear hf hl h1
    go_enter Try.func67, Try.ntmps67
    go_wp2
    go_ret
    exact ⟨ret_bool HF.out.symm, rfl⟩
  by_cases h2 : 8 < s.size
  · have hf : namedB s.data.toList = false := by
      unfold namedB; rw [hl]; simp; omega
    have HF := hide hf
    have h3 : (8 : Int) < (s.size : Int) := by omega
    have h4 : ¬ (s.size : Int) < 1 := by omega
    clear hf hl h1 h2
    go_enter Try.func67, Try.ntmps67
    go_wp2
    go_ret
    exact ⟨ret_bool HF.out.symm, rfl⟩
  have h3 : ¬ (s.size : Int) < 1 := by omega
  have h4 : ¬ (8 : Int) < (s.size : Int) := by omega
  have h0 : 0 < s.size := by omega
  have hg := getD_str s 0 h0
  by_cases hsm : smN s[0] = true
  · have hb : 97 ≤ (s[0].toNat : Int) ∧ (s[0].toNat : Int) ≤ 122 := by
      unfold smN at hsm
      simp only [Bool.and_eq_true, decide_eq_true_eq] at hsm
      omega
    obtain ⟨hb1, hb2⟩ := hb
    have hb3 : ¬ (s[0].toNat : Int) < 97 := by omega
    have hb4 : ¬ (122 : Int) < (s[0].toNat : Int) := by omega
    by_cases hy : s.data.toList = [121, 101, 115]
    · have hf : namedB s.data.toList = false := by unfold namedB; rw [hy]; rfl
      have HF := hide hf
      have hse : s = ⟨#[121, 101, 115]⟩ := by
        obtain ⟨d⟩ := s
        congr 1
        exact Array.toList_inj.1 hy
      subst hse
      clear hf hy hl hg hsm
      go_enter Try.func67, Try.ntmps67
      go_wp2
      go_ret
      exact ⟨ret_bool HF.out.symm, rfl⟩
    by_cases hn : s.data.toList = [110, 111]
    · have hf : namedB s.data.toList = false := by unfold namedB; rw [hn]; rfl
      have HF := hide hf
      have hse : s = ⟨#[110, 111]⟩ := by
        obtain ⟨d⟩ := s
        congr 1
        exact Array.toList_inj.1 hn
      subst hse
      clear hf hy hn hl hg hsm
      go_enter Try.func67, Try.ntmps67
      go_wp2
      go_ret
      exact ⟨ret_bool HF.out.symm, rfl⟩
    have hf : namedB s.data.toList = decide ((wordN s.data.toList : Int) = (s.size : Int)) := by
      unfold namedB
      rw [hl, hg, hsm]
      have e1 : decide (1 ≤ s.size) = true := by simp; omega
      have e2 : decide (s.size ≤ 8) = true := by simp; omega
      have e3 : decide (s.data.toList ≠ [121, 101, 115]) = true := by simpa using hy
      have e4 : decide (s.data.toList ≠ [110, 111]) = true := by simpa using hn
      rw [e1, e2, e3, e4]
      simp only [Bool.and_self, Bool.true_and]
      congr 1
      exact propext ⟨fun h => by omega, fun h => by omega⟩
    have HF := hide hf
    obtain ⟨k1, _⟩ := str_ne hy
    obtain ⟨k2, _⟩ := str_ne hn
    clear hf hy hn hl hg hsm
    go_enter Try.func67, Try.ntmps67
    go_wp2_with (go_at_call 100; refine (word_any s _ hs).mono ?_; rintro e w1 ⟨rfl, rfl⟩)
    go_ret
    exact ⟨ret_bool (by rw [HF.out]; rfl), rfl⟩
  · have hf : namedB s.data.toList = false := by
      unfold namedB; rw [hg]
      have : smN s[0] = false := by simpa using hsm
      rw [this]; simp
    have HF := hide hf
    have hb : (s[0].toNat : Int) < 97 ∨ ¬ (s[0].toNat : Int) < 97 ∧ 122 < (s[0].toNat : Int) := by
      unfold smN at hsm
      simp only [Bool.and_eq_true, decide_eq_true_eq] at hsm
      omega
    clear hf hl hg hsm
    rcases hb with hb | ⟨hb, hb2⟩
    · go_enter Try.func67, Try.ntmps67
      go_wp2
      go_ret
      exact ⟨ret_bool HF.out.symm, rfl⟩
    · go_enter Try.func67, Try.ntmps67
      go_wp2
      go_ret
      exact ⟨ret_bool HF.out.symm, rfl⟩
/-- The slice v holds the texts ns, below block B. -/
def Names (w : World) (B : Nat) (v : Value) (ns : List ByteArray) : Prop := Sl w B 1 v ns.length (fun i _ => .string (ns.getD i ByteArray.empty))
theorem Names.below {w w' : World} {B : Nat} {v : Value} {f : List ByteArray} (h : Names w B v f) (hb : Below B w w') : Names w' B v f := Sl.below h hb
theorem Names.more {w : World} {B B' : Nat} {v : Value} {f : List ByteArray} (h : Names w B v f) (hB : B ≤ B') : Names w B' v f := Sl.more h hB
theorem Names.take {w : World} {B : Nat} {A : Option Addr} {n cap : Nat} {f : List ByteArray} (h : Names w B (.slice A n cap) f) {k : Nat} (hk : k ≤ f.length) : Names w B (.slice A k cap) (f.take k) := by
  obtain ⟨A', b, off, cap', h1, h2, h3, h4⟩ := h
  injection h1 with e1 e2 e3
  subst e1 e3
  have hl : (f.take k).length = k := by simp; omega
  refine ⟨A, b, off, cap, by rw [hl], by omega, ?_, fun i j hi hj => ?_⟩
  · rcases h3 with h3 | h3
    · exact .inl h3
    · exact .inr (by omega)
  · rw [h4 i j (by omega) hj]
    congr 2
    rw [hl] at hi
    simp [List.getD_eq_getElem?_getD, hi]
set_option maxRecDepth 100000 in
theorem indexS_any (ns : List ByteArray) (s : ByteArray) (v : Value) (B : Nat) (w : World) (hm : ns.length ≤ maxLen) (h : Names w B v ns) :
    Calls Try.prog 101 #[v, .string s] w fun e w' => e = .returned (.int .i64 (idxI (fun x => x.toList == s.toList) ns)) ∧ w = w' := by
  unfold maxLen at hm
  obtain ⟨A, b, off, cap, rfl, hnc, hA, hc⟩ := h
  have HC := hide hc
  have HA := hide hA
  clear hc hA
  go_enter Try.func101, Try.ntmps101
  go_wp2
  go_loop [8] (fun i => ∃ k : Nat, k ≤ ns.length ∧ i = .int .i64 k ∧ Hid (∀ j, j < k → ((ns.getD j ByteArray.empty).toList == s.toList) = false)) (fun i => ns.length - (intOf i).toNat)
  case atStart => exact ⟨0, Nat.zero_le _, rfl, fun j hj => by omega⟩
  case round =>
    obtain ⟨k, hk, rfl, hall⟩ := hrel
    by_cases hlt : k < ns.length
    · obtain ⟨rfl, hbb⟩ : A = some ⟨b, off, none⟩ ∧ b < B := by
        rcases HA.out with h | h
        · exact h
        · omega
      obtain ⟨x, hx⟩ : ∃ x, ns.getD k ByteArray.empty = x := ⟨_, rfl⟩
      have c0 : w.cell? ⟨b, off + k, none⟩ = some (.string x) := by
        have h1 := HC.out k 0 hlt (by omega)
        rw [Nat.mul_one, Nat.add_zero, hx] at h1
        exact h1
      have HX := hide hx
      clear hx
      by_cases he : x.toList = s.toList
      · have he1 : (s.toList == x.toList) = true := by simp [he]
        have HE := hide he
        clear he
        go_wp2
        go_ret
        exact ⟨ret_int (idxI_at _ ByteArray.empty ns k hall.out hlt (by rw [HX.out, HE.out]; simp)).symm, rfl⟩
      · have he1 : (s.toList == x.toList) = false := by simpa using fun e => he e.symm
        have he2 : ¬ s.toList = x.toList := fun e => he e.symm
        have HE := hide he
        clear he
        go_wp2
        go_round
        case rel => exact ⟨k + 1, by omega, by go_num, fun j hj => by
            rcases Nat.lt_or_ge j k with h | h
            · exact hall.out j h
            · rw [show j = k from by omega, HX.out]; simpa using HE.out⟩
        case measure => simp [intOf]; omega
    · go_wp2
      go_ret
      exact ⟨ret_int (idxI_none _ ByteArray.empty ns (fun j hj => hall.out j (by omega))).symm, rfl⟩
set_option maxRecDepth 100000 in
theorem containsS_any (ns : List ByteArray) (s : ByteArray) (v : Value) (B : Nat) (w : World) (hm : ns.length ≤ maxLen) (h : Names w B v ns) :
    Calls Try.prog 68 #[v, .string s] w fun e w' => e = .returned (.bool ((ns.map fun x => x.data.toList).contains s.data.toList)) ∧ w = w' := by
  have he : (ns.map fun x => x.data.toList).contains s.data.toList = decide (0 ≤ idxI (fun x => x.toList == s.toList) ns) := by
    rw [idxI_any, Bool.eq_iff_iff]
    simp [ByteArray.toList_eq]
  have HE := hide he
  have H := hide h
  clear he h
  go_enter Try.func68, Try.ntmps68
  go_wp2_with (go_at_call 101; refine (indexS_any ns s v B _ hm H.out).mono ?_; rintro e w1 ⟨rfl, rfl⟩)
  go_ret
  exact ⟨ret_bool HE.out.symm, rfl⟩
end Go.Proofs.Ytohofcmikfkilaa

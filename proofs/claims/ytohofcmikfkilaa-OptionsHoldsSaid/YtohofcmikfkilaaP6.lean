/- The text of a list of numbers below 2 to the 30th: lists that differ have texts that differ. Plain laws. -/
import Derived.Test.YtohofcmikfkilaaRows
import Derived.Laws.Cover4
namespace Go.Proofs.Ytohofcmikfkilaa
set_option linter.unusedVariables false
/-- The two runes of a number. -/
def kyL (l : List Nat) : List Int := l.flatMap fun n => [((n % 32768 : Nat) : Int), ((n / 32768 % 32768 : Nat) : Int)]
def kyS (l : List Nat) : ByteArray := runesBytes (kyL l)
/-- What comes of the first rune of some bytes. -/
def decR : List UInt8 → Nat × List UInt8
  | [] => (0, [])
  | a :: r =>
    if a.toNat < 128 then (a.toNat, r)
    else if a.toNat < 224 then (match r with | b :: r => ((a.toNat - 192) * 64 + (b.toNat - 128), r) | [] => (0, []))
    else (match r with | b :: c :: r => ((a.toNat - 224) * 4096 + (b.toNat - 128) * 64 + (c.toNat - 128), r) | _ => (0, []))
theorem valid_small {n : Nat} (h : n < 32768) : Utf8.valid (n : Int) = true := by
  unfold Utf8.valid; simp; omega
theorem decR_encode {n : Nat} (h : n < 32768) (r : List UInt8) : decR ((Utf8.encode (n : Int)).data.toList ++ r) = (n, r) := by
  unfold Utf8.encode
  simp only [valid_small h, if_true, Int.toNat_natCast]
  by_cases h1 : n < 128
  · rw [if_pos h1]
    show decR (UInt8.ofNat n :: r) = (n, r)
    have e : (UInt8.ofNat n).toNat = n := by simp; omega
    simp only [decR, e, if_pos h1]
  · rw [if_neg h1]
    by_cases h2 : n < 2048
    · rw [if_pos h2]
      show decR (UInt8.ofNat (192 + n / 64) :: UInt8.ofNat (128 + n % 64) :: r) = (n, r)
      have e1 : (UInt8.ofNat (192 + n / 64)).toNat = 192 + n / 64 := by simp; omega
      have e2 : (UInt8.ofNat (128 + n % 64)).toNat = 128 + n % 64 := by simp; omega
      simp only [decR, e1, e2]
      rw [if_neg (by omega), if_pos (by omega)]
      refine Prod.ext ?_ rfl
      simp only
      omega
    · rw [if_neg h2, if_pos (by omega)]
      show decR (UInt8.ofNat (224 + n / 4096) :: UInt8.ofNat (128 + n / 64 % 64) :: UInt8.ofNat (128 + n % 64) :: r) = (n, r)
      have e1 : (UInt8.ofNat (224 + n / 4096)).toNat = 224 + n / 4096 := by simp; omega
      have e2 : (UInt8.ofNat (128 + n / 64 % 64)).toNat = 128 + n / 64 % 64 := by simp; omega
      have e3 : (UInt8.ofNat (128 + n % 64)).toNat = 128 + n % 64 := by simp; omega
      simp only [decR, e1, e2, e3]
      rw [if_neg (by omega), if_neg (by omega)]
      refine Prod.ext ?_ rfl
      simp only
      omega
theorem runesBytes_toList (ns : List Int) : (runesBytes ns).data.toList = ns.flatMap fun n => (Utf8.encode n).data.toList := by
  have : ∀ (ns : List Int) (s : ByteArray), (ns.foldl (fun r n => r ++ Utf8.encode n) s).data.toList = s.data.toList ++ ns.flatMap fun n => (Utf8.encode n).data.toList := by
    intro ns
    induction ns with
    | nil => intro s; simp
    | cons n r ih => intro s; rw [List.foldl_cons, ih]; simp
  have h := this ns ByteArray.empty
  simpa [runesBytes] using h
theorem encode_ne {n : Nat} (h : n < 32768) : (Utf8.encode (n : Int)).data.toList ≠ [] := by
  unfold Utf8.encode
  simp only [valid_small h, if_true, Int.toNat_natCast]
  repeat' split
  all_goals simp
theorem flat_injE (E : Nat → List UInt8) (D : List UInt8 → Nat × List UInt8) (P : Nat → Prop) (hD : ∀ n, P n → ∀ r, D (E n ++ r) = (n, r)) (hne : ∀ n, P n → E n ≠ []) : ∀ (a b : List Nat), (∀ n ∈ a, P n) → (∀ n ∈ b, P n) → a.flatMap E = b.flatMap E → a = b
  | [], [], _, _, _ => rfl
  | [], y :: b, _, hb, h => by
    rw [List.flatMap_nil, List.flatMap_cons] at h
    exact absurd (List.append_eq_nil_iff.1 h.symm).1 (hne y (hb y (by simp)))
  | x :: a, [], ha, _, h => by
    rw [List.flatMap_nil, List.flatMap_cons] at h
    exact absurd (List.append_eq_nil_iff.1 h).1 (hne x (ha x (by simp)))
  | x :: a, y :: b, ha, hb, h => by
    rw [List.flatMap_cons, List.flatMap_cons] at h
    have h1 := hD x (ha x (by simp)) (a.flatMap E)
    rw [h, hD y (hb y (by simp))] at h1
    injection h1 with e1 e2
    rw [e1, flat_injE E D P hD hne a b (fun n hn => ha n (by simp [hn])) (fun n hn => hb n (by simp [hn])) e2.symm]
theorem flat_inj (a b : List Nat) (ha : ∀ n ∈ a, n < 32768) (hb : ∀ n ∈ b, n < 32768) (h : (a.flatMap fun (n : Nat) => (Utf8.encode (n : Int)).data.toList) = (b.flatMap fun (n : Nat) => (Utf8.encode (n : Int)).data.toList)) : a = b :=
  flat_injE _ decR (· < 32768) (fun n hn r => decR_encode hn r) (fun n hn => encode_ne hn) a b ha hb h
def kyN (l : List Nat) : List Nat := l.flatMap fun n => [n % 32768, n / 32768 % 32768]
theorem kyL_eq (l : List Nat) : kyL l = (kyN l).map fun (n : Nat) => (n : Int) := by
  unfold kyL kyN
  rw [List.map_flatMap]
  rfl
theorem kyN_small (l : List Nat) : ∀ n ∈ kyN l, n < 32768 := by
  intro n hn
  unfold kyN at hn
  rw [List.mem_flatMap] at hn
  obtain ⟨m, _, h⟩ := hn
  simp at h
  omega
theorem kyN_inj : ∀ (a b : List Nat), (∀ n ∈ a, n < 1073741824) → (∀ n ∈ b, n < 1073741824) → kyN a = kyN b → a = b
  | [], [], _, _, _ => rfl
  | [], y :: b, _, _, h => by simp [kyN] at h
  | x :: a, [], _, _, h => by simp [kyN] at h
  | x :: a, y :: b, ha, hb, h => by
    have h1 := ha x (by simp)
    have h2 := hb y (by simp)
    have e : kyN (x :: a) = x % 32768 :: (x / 32768 % 32768) :: kyN a := rfl
    have e' : kyN (y :: b) = y % 32768 :: (y / 32768 % 32768) :: kyN b := rfl
    rw [e, e'] at h
    injection h with h3 h
    injection h with h4 h
    rw [kyN_inj a b (fun n hn => ha n (by simp [hn])) (fun n hn => hb n (by simp [hn])) h]
    obtain rfl : x = y := by omega
    rfl
theorem kyS_inj {a b : List Nat} (ha : ∀ n ∈ a, n < 1073741824) (hb : ∀ n ∈ b, n < 1073741824) (h : kyS a = kyS b) : a = b := by
  refine kyN_inj a b ha hb (flat_inj _ _ (kyN_small a) (kyN_small b) ?_)
  have h1 := congrArg (fun s : ByteArray => s.data.toList) h
  simp only [kyS, runesBytes_toList, kyL_eq, List.flatMap_map] at h1
  exact h1
theorem kyS_size (l : List Nat) : (kyS l).size ≤ 8 * l.length := by
  have h := runesBytes_size_le (kyL l)
  have h2 : ∀ l, (kyL l).length = 2 * l.length := by
    intro l
    induction l with
    | nil => rfl
    | cons x r ih =>
      show (kyL r).length + 1 + 1 = 2 * (r.length + 1)
      omega
  have h3 := h2 l
  unfold kyS
  omega
end Go.Proofs.Ytohofcmikfkilaa

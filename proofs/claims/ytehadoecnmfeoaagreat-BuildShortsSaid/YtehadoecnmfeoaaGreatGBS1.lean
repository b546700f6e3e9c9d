/- Part 1 of this claim's texts: walks and plain laws. -/
import Derived.Test.YtehadoecnmfeoaaGreatRows
import Derived.Test.YtehadoecnmfeoaaGreatGBS0
import Derived.Laws.Cover4
import Derived.Maps.OwnSet
import Derived.Maps.OwnOps
import Derived.DeepKeys4
import Derived.Below
import Derived.Laws.World
import Derived.Deep.QuietTactic
import Derived.Lib.Hide
import Derived.OwnWalk
import Derived.Laws.AppendOwn
import Derived.Deep.Slices
import Derived.Deep.AppendLies
set_option linter.unusedVariables false
set_option linter.unusedSimpArgs false
set_option linter.unusedSectionVars false
namespace Go.Proofs.YtehadoecnmfeoaaGreat
def alN (c : UInt8) : Bool := (decide (97 ≤ c.toNat) && decide (c.toNat ≤ 122)) || (decide (48 ≤ c.toNat) && decide (c.toNat ≤ 57))
def smN (c : UInt8) : Bool := decide (97 ≤ c.toNat) && decide (c.toNat ≤ 122)
def wordN : List UInt8 → Nat
 | [] => 0
 | c :: r => if alN c then wordN r + 1 else 0
theorem wordN_at : ∀ (l : List UInt8) (k : Nat), k < l.length → (∀ j, j < k → alN (l.getD j 0) = true) → alN (l.getD k 0) = false → wordN l = k
 | [], k, h, _, _ => by simp at h
 | c :: r, 0, _, _, h => by
  simp only [List.getD_cons_zero] at h
  simp [wordN, h]
 | c :: r, k + 1, hk, h1, h2 => by
  have h3 := h1 0 (by omega)
  simp only [List.getD_cons_zero] at h3
  have h4 := wordN_at r k (by simpa using hk) (fun j hj => by have := h1 (j + 1) (by omega); simpa using this) (by simpa using h2)
  simp [wordN, h3, h4]
theorem wordN_all : ∀ (l : List UInt8), (∀ j, j < l.length → alN (l.getD j 0) = true) → wordN l = l.length
 | [], _ => rfl
 | c :: r, h => by
  have h3 := h 0 (by simp)
  simp only [List.getD_cons_zero] at h3
  have h4 := wordN_all r (fun j hj => by have := h (j + 1) (by simpa using hj); simpa using this)
  simp [wordN, h3, h4]
def namedB (l : List UInt8) : Bool := decide (1 ≤ l.length) && decide (l.length ≤ 8) && smN (l.getD 0 0) && decide (l ≠ [121, 101, 115]) && decide (l ≠ [110, 111]) && decide (wordN l = l.length)
def namesB : List (List UInt8) → List (List UInt8) → Bool
 | _, [] => true
 | seen, n :: r => namedB n && !seen.contains n && namesB (seen ++ [n]) r
structure Mo where
 opts : List ByteArray
 rules : List (List Int)
def Mo.names (m : Mo) : List (List UInt8) := m.opts.map fun s => s.data.toList
def Mo.err (m : Mo) : Int := if 40 < m.opts.length ∨ 60 < m.rules.length then 2 else if namesB [] m.names = false then 10 else if m.rules.all (validF m.opts.length) = false then 11 else 0
def Mo.errF (m : Mo) (l : List (List Int)) : Int := if m.err ≠ 0 then m.err else if l.all (validF m.opts.length) = false then 11 else 0
theorem namesB_at : ∀ (seen l : List (List UInt8)) (k : Nat), k < l.length → (∀ j, j < k → namedB (l.getD j []) = true ∧ (seen ++ l.take j).contains (l.getD j []) = false) → (namedB (l.getD k []) && !(seen ++ l.take k).contains (l.getD k [])) = false → namesB seen l = false
 | seen, [], k, h, _, _ => by simp at h
 | seen, n :: r, 0, _, _, h => by
  simp only [List.getD_cons_zero, List.take_zero, List.append_nil] at h
  simp only [namesB, h, Bool.false_and]
 | seen, n :: r, k + 1, hk, h1, h2 => by
  have h3 := h1 0 (by omega)
  simp only [List.getD_cons_zero, List.take_zero, List.append_nil] at h3
  have h4 := namesB_at (seen ++ [n]) r k (by simpa using hk) (fun j hj => by
   have := h1 (j + 1) (by omega)
   simpa using this) (by simpa using h2)
  simp only [namesB, h4, Bool.and_false]
theorem namesB_all : ∀ (seen l : List (List UInt8)), (∀ j, j < l.length → namedB (l.getD j []) = true ∧ (seen ++ l.take j).contains (l.getD j []) = false) → namesB seen l = true
 | seen, [], _ => rfl
 | seen, n :: r, h1 => by
  have h3 := h1 0 (by simp)
  simp only [List.getD_cons_zero, List.take_zero, List.append_nil] at h3
  have h4 := namesB_all (seen ++ [n]) r (fun j hj => by
   have := h1 (j + 1) (by simpa using hj)
   simpa using this)
  simp only [namesB, h3.1, h3.2, h4, Bool.not_false, Bool.and_self]
theorem Mo.ok {m : Mo} (h : m.err = 0) : m.opts.length ≤ 40 ∧ m.rules.length ≤ 60 ∧ namesB [] m.names = true ∧ ∀ f ∈ m.rules, validF m.opts.length f = true := by
 unfold Mo.err at h
 split at h
 ·
  simp at h
 ·
  rename_i h1
  split at h
  ·
   simp at h
  ·
   rename_i h2
   split at h
   ·
    simp at h
   ·
    rename_i h3
    exact ⟨by omega, by omega, by simpa using h2, List.all_eq_true.1 (by simpa using h3)⟩
theorem Mo.okF {m : Mo} {l : List (List Int)} (h : m.errF l = 0) : m.err = 0 ∧ ∀ f ∈ l, validF m.opts.length f = true := by
 unfold Mo.errF at h
 split at h
 ·
  rename_i h1; exact absurd h h1
 ·
  rename_i h1
  split at h
  ·
   simp at h
  ·
   rename_i h3
   exact ⟨by omega, List.all_eq_true.1 (by simpa using h3)⟩
structure Pick (ks : List Kn) (N : Nat) (ws : List Int) (nodes : List Nat) (M : Int) (l : List Bool) (ns : List Nat) : Prop where
 len : ns.length = nodes.length
 lt : ∀ n ∈ ns, n < ks.length
 top : ∀ n ∈ ns, l.length ≤ topK ks n
 val : ∀ y, valI ks (vf (l ++ y)) ns ws = valI ks (vf (l ++ y)) nodes ws
 best : bestK ks N nodes ws l = M
 find : (exts N []).find? (fun x => valI ks (vf x) nodes ws == M) = (exts (N - l.length) l).find? (fun x => valI ks (vf x) nodes ws == M)
section
variable {N : Nat} {ks : List Kn} (h : WF N ks) {ws : List Int} {nodes : List Nat} {M : Int}
include h
omit h in
theorem Pick.start (hn : ∀ n ∈ nodes, n < ks.length) (hM : bestK ks N nodes ws [] = M) : Pick ks N ws nodes M [] nodes :=
 ⟨rfl, hn, fun n _ => Nat.zero_le _, fun y => rfl, hM, rfl⟩
omit h in
theorem Pick.bestK {l : List Bool} {ns : List Nat} (p : Pick ks N ws nodes M l ns) : Go.Proofs.YtehadoecnmfeoaaGreat.bestK ks N ns ws l = M := by
 rw [← p.best]
 unfold Go.Proofs.YtehadoecnmfeoaaGreat.bestK
 congr 1
 refine List.map_congr_left fun x hx => ?_
 obtain ⟨y, rfl, _⟩ := exts_prefix hx
 exact p.val y
theorem Pick.ahead {l : List Bool} {ns : List Nat} (p : Pick ks N ws nodes M l ns) (hl : l.length < N) (b : Bool) : Go.Proofs.YtehadoecnmfeoaaGreat.bestK ks N (ns.map fun n => brK ks n l.length b) ws [] = Go.Proofs.YtehadoecnmfeoaaGreat.bestK ks N nodes ws (l ++ [b]) := by
 have hlt : ∀ n ∈ ns.map fun n => brK ks n l.length b, n < ks.length := by
  intro n hm
  rw [List.mem_map] at hm
  obtain ⟨x, hx, rfl⟩ := hm
  exact brK_lt h (p.lt x hx) hl
 have htt : ∀ n ∈ ns.map fun n => brK ks n l.length b, l.length + 1 ≤ topK ks n := by
  intro n hm
  rw [List.mem_map] at hm
  obtain ⟨x, hx, rfl⟩ := hm
  exact brK_top h (p.lt x hx) hl (p.top x hx)
 have h1 := bestK_lift h (ws := ws) hlt (l.length + 1) 0 (by omega) (fun n hm => by have := htt n hm; omega)
 rw [show List.replicate 0 false = ([] : List Bool) from rfl, Nat.zero_add] at h1
 rw [h1, bestK_len h (l' := l ++ [b]) hlt (by simp) (fun n hm => by have := htt n hm; simp; omega), bestK_br h p.lt hl]
 unfold Go.Proofs.YtehadoecnmfeoaaGreat.bestK
 congr 1
 refine List.map_congr_left fun x hx => ?_
 obtain ⟨y, rfl, _⟩ := exts_prefix hx
 rw [List.append_assoc]
 exact p.val _
omit h in
theorem bestK_find {l : List Bool} (hM : leastI < M) (hb : bestK ks N nodes ws l = M) : ((exts (N - l.length) l).find? fun x => valI ks (vf x) nodes ws == M).isSome = true := by
 rw [List.find?_isSome]
 have h1 := maxL_attained ((exts (N - l.length) l).map fun x => valI ks (vf x) nodes ws) (by unfold bestK at hb; rw [hb]; exact hM)
 rw [List.mem_map] at h1
 obtain ⟨x, hx, he⟩ := h1
 exact ⟨x, hx, by rw [he]; unfold bestK at hb; rw [hb]; simp⟩
omit h in
theorem bestK_none {l : List Bool} (hb : bestK ks N nodes ws l < M) : ((exts (N - l.length) l).find? fun x => valI ks (vf x) nodes ws == M) = none := by
 rw [List.find?_eq_none]
 intro x hx e
 have h1 := maxL_mem ((exts (N - l.length) l).map fun x => valI ks (vf x) nodes ws) (valI ks (vf x) nodes ws) (List.mem_map.2 ⟨x, hx, rfl⟩)
 have h2 : valI ks (vf x) nodes ws = M := by simpa using e
 unfold bestK at hb
 omega
theorem Pick.next {l : List Bool} {ns : List Nat} (p : Pick ks N ws nodes M l ns) (hl : l.length < N) (hM : leastI < M) {b : Bool} (hb : b = decide (Go.Proofs.YtehadoecnmfeoaaGreat.bestK ks N nodes ws (l ++ [false]) < M)) : Pick ks N ws nodes M (l ++ [b]) (ns.map fun n => brK ks n l.length b) := by
 have hs := bestK_split (ks := ks) (nodes := nodes) (ws := ws) hl
 rw [p.best] at hs
 have hne : N - l.length = (N - (l ++ [false]).length) + 1 := by simp; omega
 have hx : (exts (N - l.length) l) = exts (N - (l ++ [false]).length) (l ++ [false]) ++ exts (N - (l ++ [true]).length) (l ++ [true]) := by
  rw [hne]; simp only [exts, List.length_append, List.length_singleton]
 refine ⟨by rw [List.length_map]; exact p.len, ?_, ?_, ?_, ?_, ?_⟩
 ·
  intro n hm
  rw [List.mem_map] at hm
  obtain ⟨x, hx, rfl⟩ := hm
  exact brK_lt h (p.lt x hx) hl
 ·
  intro n hm
  rw [List.mem_map] at hm
  obtain ⟨x, hx, rfl⟩ := hm
  have := brK_top h (b := b) (p.lt x hx) hl (p.top x hx)
  simp; omega
 ·
  intro y
  have h1 := p.val ([b] ++ y)
  rw [← List.append_assoc] at h1
  rw [← h1]
  refine valI_congr (by simp) fun i hi => ?_
  have hi' : i < ns.length := by simpa using hi
  rw [getD_map _ _ 0 _ hi']
  exact brK_ev h (p.lt _ (by rw [List.getD_eq_getElem?_getD, List.getElem?_eq_getElem hi']; exact List.getElem_mem _)) hl _ (vf_at l b y)
 ·
  cases b with
  | true =>
   have : Go.Proofs.YtehadoecnmfeoaaGreat.bestK ks N nodes ws (l ++ [false]) < M := by simpa using hb.symm
   omega
  | false =>
   have : ¬ Go.Proofs.YtehadoecnmfeoaaGreat.bestK ks N nodes ws (l ++ [false]) < M := by simpa using hb.symm
   omega
 ·
  rw [p.find, hx, List.find?_append]
  cases b with
  | true =>
   have : Go.Proofs.YtehadoecnmfeoaaGreat.bestK ks N nodes ws (l ++ [false]) < M := by simpa using hb.symm
   rw [bestK_none this]; rfl
  | false =>
   have : ¬ Go.Proofs.YtehadoecnmfeoaaGreat.bestK ks N nodes ws (l ++ [false]) < M := by simpa using hb.symm
   have h2 := bestK_find (ks := ks) (N := N) (nodes := nodes) (ws := ws) (l := l ++ [false]) hM (by omega)
   obtain ⟨x, hx⟩ := Option.isSome_iff_exists.1 h2
   rw [hx]; rfl
omit h in
theorem Pick.finish {l : List Bool} {ns : List Nat} (p : Pick ks N ws nodes M l ns) (hl : l.length = N) (hM : leastI < M) : (exts N []).find? (fun x => valI ks (vf x) nodes ws == M) = some l := by
 have h1 := bestK_find hM p.best
 rw [p.find]
 rw [hl, Nat.sub_self] at h1 ⊢
 simp only [exts] at h1 ⊢
 rw [List.find?_cons] at h1 ⊢
 split
 ·
  rfl
 ·
  rename_i e
  rw [e] at h1
  simp at h1
end
/-! by formulas -/
def fsum (v : Nat → Bool) : List (List Int) → List Int → Int
 | f :: fs, x :: xs => (if evF1 v f then x else 0) + fsum v fs xs
 | _, _ => 0
def valF (m : Mo) (fs : List (List Int)) (ws : List Int) (x : List Bool) : Int := if allF (vf x) m.rules then fsum (vf x) fs ws else leastI
def bestF (m : Mo) (fs : List (List Int)) (ws : List Int) : Int := maxL ((exts m.opts.length []).map (valF m fs ws))
theorem wsum_fsum {ks : List Kn} {v : Nat → Bool} : ∀ {ns : List Nat} {fs : List (List Int)} {ws : List Int}, ns.length = fs.length → (∀ i, i < ns.length → ev ks v (ns.getD i 0) = evF1 v (fs.getD i [])) → wsum ks v ns ws = fsum v fs ws
 | [], [], ws, _, _ => by cases ws <;> rfl
 | x :: a, y :: b, [], _, _ => rfl
 | x :: a, y :: b, w :: ws, hl, h => by
  have h0 := h 0 (by simp)
  simp only [List.getD_cons_zero] at h0
  simp only [wsum, fsum, h0]
  rw [wsum_fsum (by simpa using hl) fun i hi => by have := h (i + 1) (by simpa using hi); simpa using this]
 | [], y :: b, _, hl, _ => by simp at hl
 | x :: a, [], _, hl, _ => by simp at hl
theorem valI_valF {ks : List Kn} {m : Mo} {n : Nat} {ns : List Nat} {fs : List (List Int)} {ws : List Int} {x : List Bool} (h0 : ev ks (vf x) n = allF (vf x) m.rules) (hl : ns.length = fs.length) (h : ∀ i, i < ns.length → ev ks (vf x) (ns.getD i 0) = evF1 (vf x) (fs.getD i [])) : valI ks (vf x) (n :: ns) ws = valF m fs ws x := by
 unfold valI valF
 simp only [h0]
 rw [wsum_fsum hl h]
def kyL (l : List Nat) : List Int := l.flatMap fun n => [((n % 32768 : Nat) : Int), ((n / 32768 % 32768 : Nat) : Int)]
def kyS (l : List Nat) : ByteArray := runesBytes (kyL l)
def decR : List UInt8 → Nat × List UInt8
 | [] => (0, [])
 | a :: r =>
  if a.toNat < 128 then (a.toNat, r)
  else if a.toNat < 224 then (match r with | b :: r => ((a.toNat - 192) * 64 + (b.toNat - 128), r) | [] => (0, []))
  else (match r with | b :: c :: r => ((a.toNat - 224) * 4096 + (b.toNat - 128) * 64 + (c.toNat - 128), r) | _ => (0, []))
theorem valid_small {n : Nat} (h : n < 32768) : Utf8.valid (n : Int) = true := by
 unfold Utf8.valid; simp; omega
theorem decR_encode {n : Nat} (h : n < 32768) (r : List UInt8) : decR ((Utf8.encode (n : Int)).data.toList ++ r) = (n, r) := by
 unfold Utf8.encode
 simp only [valid_small h, if_true, Int.toNat_natCast]
 by_cases h1 : n < 128
 ·
  rw [if_pos h1]
  show decR (UInt8.ofNat n :: r) = (n, r)
  have e : (UInt8.ofNat n).toNat = n := by simp; omega
  simp only [decR, e, if_pos h1]
 ·
  rw [if_neg h1]
  by_cases h2 : n < 2048
  ·
   rw [if_pos h2]
   show decR (UInt8.ofNat (192 + n / 64) :: UInt8.ofNat (128 + n % 64) :: r) = (n, r)
   have e1 : (UInt8.ofNat (192 + n / 64)).toNat = 192 + n / 64 := by simp; omega
   have e2 : (UInt8.ofNat (128 + n % 64)).toNat = 128 + n % 64 := by simp; omega
   simp only [decR, e1, e2]
   rw [if_neg (by omega), if_pos (by omega)]
   refine Prod.ext ?_ rfl
   simp only
   omega
  ·
   rw [if_neg h2, if_pos (by omega)]
   show decR (UInt8.ofNat (224 + n / 4096) :: UInt8.ofNat (128 + n / 64 % 64) :: UInt8.ofNat (128 + n % 64) :: r) = (n, r)
   have e1 : (UInt8.ofNat (224 + n / 4096)).toNat = 224 + n / 4096 := by simp; omega
   have e2 : (UInt8.ofNat (128 + n / 64 % 64)).toNat = 128 + n / 64 % 64 := by simp; omega
   have e3 : (UInt8.ofNat (128 + n % 64)).toNat = 128 + n % 64 := by simp; omega
   simp only [decR, e1, e2, e3]
   rw [if_neg (by omega), if_neg (by omega)]
   refine Prod.ext ?_ rfl
   simp only
   omega
theorem runesBytes_toList (ns : List Int) : (runesBytes ns).data.toList = ns.flatMap fun n => (Utf8.encode n).data.toList := by
 have : ∀ (ns : List Int) (s : ByteArray), (ns.foldl (fun r n => r ++ Utf8.encode n) s).data.toList = s.data.toList ++ ns.flatMap fun n => (Utf8.encode n).data.toList := by
  intro ns
  induction ns with
  | nil => intro s; simp
  | cons n r ih => intro s; rw [List.foldl_cons, ih]; simp
 have h := this ns ByteArray.empty
 simpa [runesBytes] using h
theorem encode_ne {n : Nat} (h : n < 32768) : (Utf8.encode (n : Int)).data.toList ≠ [] := by
 unfold Utf8.encode
 simp only [valid_small h, if_true, Int.toNat_natCast]
 repeat' split
 all_goals simp
theorem flat_injE (E : Nat → List UInt8) (D : List UInt8 → Nat × List UInt8) (P : Nat → Prop) (hD : ∀ n, P n → ∀ r, D (E n ++ r) = (n, r)) (hne : ∀ n, P n → E n ≠ []) : ∀ (a b : List Nat), (∀ n ∈ a, P n) → (∀ n ∈ b, P n) → a.flatMap E = b.flatMap E → a = b
 | [], [], _, _, _ => rfl
 | [], y :: b, _, hb, h => by
  rw [List.flatMap_nil, List.flatMap_cons] at h
  exact absurd (List.append_eq_nil_iff.1 h.symm).1 (hne y (hb y (by simp)))
 | x :: a, [], ha, _, h => by
  rw [List.flatMap_nil, List.flatMap_cons] at h
  exact absurd (List.append_eq_nil_iff.1 h).1 (hne x (ha x (by simp)))
 | x :: a, y :: b, ha, hb, h => by
  rw [List.flatMap_cons, List.flatMap_cons] at h
  have h1 := hD x (ha x (by simp)) (a.flatMap E)
  rw [h, hD y (hb y (by simp))] at h1
  injection h1 with e1 e2
  rw [e1, flat_injE E D P hD hne a b (fun n hn => ha n (by simp [hn])) (fun n hn => hb n (by simp [hn])) e2.symm]
theorem flat_inj (a b : List Nat) (ha : ∀ n ∈ a, n < 32768) (hb : ∀ n ∈ b, n < 32768) (h : (a.flatMap fun (n : Nat) => (Utf8.encode (n : Int)).data.toList) = (b.flatMap fun (n : Nat) => (Utf8.encode (n : Int)).data.toList)) : a = b :=
 flat_injE _ decR (· < 32768) (fun n hn r => decR_encode hn r) (fun n hn => encode_ne hn) a b ha hb h
def kyN (l : List Nat) : List Nat := l.flatMap fun n => [n % 32768, n / 32768 % 32768]
theorem kyL_eq (l : List Nat) : kyL l = (kyN l).map fun (n : Nat) => (n : Int) := by
 unfold kyL kyN
 rw [List.map_flatMap]
 rfl
theorem kyN_small (l : List Nat) : ∀ n ∈ kyN l, n < 32768 := by
 intro n hn
 unfold kyN at hn
 rw [List.mem_flatMap] at hn
 obtain ⟨m, _, h⟩ := hn
 simp at h
 omega
theorem kyN_inj : ∀ (a b : List Nat), (∀ n ∈ a, n < 1073741824) → (∀ n ∈ b, n < 1073741824) → kyN a = kyN b → a = b
 | [], [], _, _, _ => rfl
 | [], y :: b, _, _, h => by simp [kyN] at h
 | x :: a, [], _, _, h => by simp [kyN] at h
 | x :: a, y :: b, ha, hb, h => by
  have h1 := ha x (by simp)
  have h2 := hb y (by simp)
  have e : kyN (x :: a) = x % 32768 :: (x / 32768 % 32768) :: kyN a := rfl
  have e' : kyN (y :: b) = y % 32768 :: (y / 32768 % 32768) :: kyN b := rfl
  rw [e, e'] at h
  injection h with h3 h
  injection h with h4 h
  rw [kyN_inj a b (fun n hn => ha n (by simp [hn])) (fun n hn => hb n (by simp [hn])) h]
  obtain rfl : x = y := by omega
  rfl
theorem kyS_inj {a b : List Nat} (ha : ∀ n ∈ a, n < 1073741824) (hb : ∀ n ∈ b, n < 1073741824) (h : kyS a = kyS b) : a = b := by
 refine kyN_inj a b ha hb (flat_inj _ _ (kyN_small a) (kyN_small b) ?_)
 have h1 := congrArg (fun s : ByteArray => s.data.toList) h
 simp only [kyS, runesBytes_toList, kyL_eq, List.flatMap_map] at h1
 exact h1
theorem kyS_size (l : List Nat) : (kyS l).size ≤ 8 * l.length := by
 have h := runesBytes_size_le (kyL l)
 have h2 : ∀ l, (kyL l).length = 2 * l.length := by
  intro l
  induction l with
  | nil => rfl
  | cons x r ih =>
   show (kyL r).length + 1 + 1 = 2 * (r.length + 1)
   omega
 have h3 := h2 l
 unfold kyS
 omega
end Go.Proofs.YtehadoecnmfeoaaGreat
namespace Go.Proofs.YtehadoecnmfeoaaGreat
open Go.Maps (Keyed)
section
variable {α : Type} {P : Program} {w : World} {k e b n : Nat} {enc : α → Value} {m : α → Option Int}
def MapIs (P : Program) (w : World) (k e b n : Nat) (enc : α → Value) (m : α → Option Int) : Prop :=
 ∃ D : DataW Unit, w.ownsMap P k (plainElem P e) b n D ∧ ∀ a l, keyOf P k (enc a) = some l →
  (m a = none → Maps.has D l = false) ∧ ∀ x, m a = some x → Maps.has D l = true ∧ D.atKey l (.lit (.int .i64 0)) = .lit (.int .i64 x)
theorem MapIs.lt (h : MapIs P w k e b n enc m) : b < w.heap.size := by
 obtain ⟨D, h1, _⟩ := h
 exact h1.lt
theorem MapIs.same {w' : World} (h : MapIs P w k e b n enc m) (hb : w'.heap[b]? = w.heap[b]?) : MapIs P w' k e b n enc m := by
 obtain ⟨D, ⟨es, c, h0, h1⟩, h2⟩ := h
 exact ⟨D, ⟨es, c, hb.trans h0, h1⟩, h2⟩
theorem MapIs.obj (h : MapIs P w k e b n enc m) : ∃ es c, w.heap[b]? = some (.map es c) := by
 obtain ⟨D, ⟨es, c, h0, h1⟩, h2⟩ := h
 exact ⟨es, c, h0⟩
variable {t : Nat}
theorem MapIs.look (h : MapIs P w k e b n enc m) (K : Keyed P k) (ht : P.underlying t = some (.map k e)) (he : P.underlying e = some (.int .i64)) (hz : (zeroValue e).run P w = .ok (.int .i64 0) w) {a : α} {l : Lit} (hkey : keyOf P k (enc a) = some l) :
  (Instr.lookup t (.map (some b)) (enc a) true).run P w = .ok (.tuple #[.int .i64 ((m a).getD 0), .bool (m a).isSome]) w := by
 obtain ⟨D, h1, h2⟩ := h
 obtain ⟨h3, h4⟩ := h2 a l hkey
 obtain ⟨v, ps, hrun, hv⟩ := h1.look_ok K ht hz (plainElem_int he (by decide)) hkey
 obtain ⟨c, rfl, hc, _⟩ := plainElem_int_inv he hv
 injection hc with hc _
 cases hm : m a with
 | none =>
  have h5 := h3 hm
  rw [Maps.atKey_of_not_has h5] at hc
  injection hc with hc
  injection hc with _ hc
  subst hc
  rw [hrun, h5]
  rfl
 | some x =>
  obtain ⟨h5, h6⟩ := h4 x hm
  rw [h6] at hc
  injection hc with hc
  injection hc with _ hc
  subst hc
  rw [hrun, h5]
  rfl
def putM [DecidableEq α] (m : α → Option Int) (a : α) (x : Int) : α → Option Int := fun a' => if a' = a then some x else m a'
theorem MapIs.put' [DecidableEq α] (K : Keyed P k) (hinj : ∀ a a', enc a = enc a' → a = a') {D : DataW Unit} (h1 : w.ownsMap P k (plainElem P e) b n D) (h2 : ∀ a l, keyOf P k (enc a) = some l →
  (m a = none → Maps.has D l = false) ∧ ∀ x, m a = some x → Maps.has D l = true ∧ D.atKey l (.lit (.int .i64 0)) = .lit (.int .i64 x)) {a : α} {l : Lit} (hkey : keyOf P k (enc a) = some l) (x : Int) {w' : World} (h3 : w'.ownsMap P k (plainElem P e) b (n + 1) (D.put l (.lit (.int .i64 x)))) :
  MapIs P w' k e b (n + 1) enc (putM m a x) := by
 refine ⟨_, h3, fun a' l' hk' => ?_⟩
 unfold putM
 by_cases ha : a' = a
 ·
  subst ha
  rw [hkey] at hk'
  injection hk' with hk'
  subst hk'
  rw [if_pos rfl]
  exact ⟨fun h => (by cases h), fun y hy => by
   injection hy with hy
   subst hy
   exact ⟨Maps.has_put_same h1.isMap (K.key hkey) _, Maps.atKey_put_same h1.isMap (K.key hkey) _ _⟩⟩
 ·
  rw [if_neg ha]
  have hl : l' ≠ l := fun e => by
   subst e
   exact ha (hinj _ _ (K.inj hk' hkey))
  obtain ⟨h4, h5⟩ := h2 a' l' hk'
  refine ⟨fun h => (Maps.has_put_other hl _).trans (h4 h), fun y hy => ?_⟩
  obtain ⟨h6, h7⟩ := h5 y hy
  exact ⟨(Maps.has_put_other hl _).trans h6, (Maps.atKey_put_other hl _ _).trans h7⟩
theorem MapIs.put [DecidableEq α] (h : MapIs P w k e b n enc m) (K : Keyed P k) (ht : P.underlying t = some (.map k e)) (he : P.underlying e = some (.int .i64)) (hinj : ∀ a a', enc a = enc a' → a = a') (hn : n < maxLen) {a : α} {l : Lit} (hkey : keyOf P k (enc a) = some l) {x : Int} (hx : (Lit.int .i64 x).wf = true) :
  ∃ w', (Instr.mapUpdate t (.map (some b)) (enc a) (.int .i64 x)).run P w = .ok () w' ∧ MapIs P w' k e b (n + 1) enc (putM m a x) ∧ w.grownBy w' (some b) := by
 obtain ⟨D, h1, h2⟩ := h
 obtain ⟨w', hrun, h3, h4⟩ := h1.update K ht hn hkey (plainElem_int he hx)
 exact ⟨w', hrun, MapIs.put' K hinj h1 h2 hkey x h3, h4⟩
theorem wpList_put [DecidableEq α] (w : World) {ops : Array Oper} {rest : List Oper} {o : Oper} {ac : Act} {Q : Exit → Act → World → Prop}
  (hg : o.guard = none) (om ox ov : Operand) (t : Nat) (hop : o.op = Op.mapUpdate t om ox ov) {k e b n : Nat} {enc : α → Value} {m : α → Option Int}
  (h : MapIs P w k e b n enc m) (K : Keyed P k) (ht : P.underlying t = some (.map k e)) (he : P.underlying e = some (.int .i64)) (hinj : ∀ a a', enc a = enc a' → a = a') (hn : n < maxLen) (a : α) (hkey : ∃ l, keyOf P k (enc a) = some l) (x : Int) (hx : (Lit.int .i64 x).wf = true)
  (h1 : ac.eval om = .map (some b)) (h2 : ac.eval ox = enc a) (h3 : ac.eval ov = .int .i64 x)
  (hK : ∀ w', MapIs P w' k e b (n + 1) enc (putM m a x) → w.grownBy w' (some b) → wpList P ops Q rest (ac.put o.dst undef) w') :
  wpList P ops Q (o :: rest) ac w := by
 obtain ⟨l, hkey⟩ := hkey
 obtain ⟨D, hD, hA⟩ := h
 exact wpList_mapUpdate_own w hg om ox ov t hop k e K ht _ b n D h1 hD hn _ _ l h2 h3 hkey _ _ (plainElem_int he hx) fun w' h4 h5 => hK w' (MapIs.put' K hinj hD hA hkey x h4) h5
end
end Go.Proofs.YtehadoecnmfeoaaGreat
namespace Go.Proofs.YtehadoecnmfeoaaGreat
open Go.RowKit

theorem Below.drewN {B : Nat} {a w : World} (h : Below B a w) (n : Nat) : Below B a (w.drewN n) := ⟨h.os, h.tape, h.output, h.size, h.block⟩
theorem bcell {W w1 : World} (hb : Below W.heap.size W w1) : (∀ b o, b < W.heap.size → w1.cell? ⟨b, o, none⟩ = W.cell? ⟨b, o, none⟩) ∧ (∀ b o, b < W.heap.size → w1.frozen? ⟨b, o, none⟩ = W.frozen? ⟨b, o, none⟩) :=
 ⟨fun b o h => hb.cell (p := ⟨b, o, none⟩) h, fun b o h => hb.frozen (p := ⟨b, o, none⟩) h⟩
theorem Below.to {B : Nat} {a b c : World} (h : Below B a b) (k : Below b.heap.size b c) (hB : B ≤ a.heap.size) : Below B a c := h.trans (k.mono (Nat.le_trans hB h.size))
theorem Below.allocT {B : Nat} {a w : World} (h : Below B a w) (hB : B ≤ a.heap.size) (o : Obj) : Below B a (w.alloc o) := h.alloc (Nat.le_trans hB h.size) o
theorem only_drew {a w : World} {row : Option Nat} (h : a.grownBy w row) : a.grownBy w.drew row := ⟨h.os, h.tape, h.output, h.size, h.block⟩
theorem only_setCell {a w : World} {g : Nat} (h : a.grownBy w (some g)) {p : Addr} (hp : p.block = g ∨ a.heap.size ≤ p.block) (u : Value) : a.grownBy (w.setCell p u) (some g) :=
 ⟨h.os, h.tape, h.output, by simpa [World.setCell] using h.size, fun i hi hne => (Below.heap_setCell w p u i (by
  rintro rfl
  rcases hp with hp | hp
  ·
   exact hne (by rw [hp])
  ·
   omega)).trans (h.block i hi hne)⟩
theorem only_refl (w : World) (row : Option Nat) : w.grownBy w row := World.grownBy.refl w row
theorem only_trans {a b c : World} {row : Option Nat} (h : a.grownBy b row) (k : b.grownBy c row) : a.grownBy c row :=
 ⟨k.os.trans h.os, k.tape.trans h.tape, k.output.trans h.output, Nat.le_trans h.size k.size, fun i hi hn => (k.block i (Nat.lt_of_lt_of_le hi h.size) hn).trans (h.block i hi hn)⟩
theorem hide {p : Prop} (h : p) : Hid p := h

def Sl (w : World) (B sz : Nat) (v : Value) (n : Nat) (f : Nat → Nat → Value) : Prop :=
 ∃ (A : Option Addr) (b off cap : Nat), v = .slice A n cap ∧ n ≤ cap ∧ (A = some ⟨b, off, none⟩ ∧ b < B ∨ n = 0) ∧ ∀ i j, i < n → j < sz → w.cell? ⟨b, off + (i * sz + j), none⟩ = some (f i j)

theorem Sl.keep {w w' : World} {B sz n : Nat} {v : Value} {f : Nat → Nat → Value} (h : Sl w B sz v n f) (hk : ∀ b o, b < B → w'.cell? ⟨b, o, none⟩ = w.cell? ⟨b, o, none⟩) : Sl w' B sz v n f := by
 obtain ⟨A, b, off, cap, hv, hn, hA, hc⟩ := h
 refine ⟨A, b, off, cap, hv, hn, hA, fun i j hi hj => ?_⟩
 rcases hA with ⟨_, hb⟩ | h0
 ·
  rw [hk _ _ hb]; exact hc i j hi hj
 ·
  omega
theorem Sl.more {w : World} {B B' sz n : Nat} {v : Value} {f : Nat → Nat → Value} (h : Sl w B sz v n f) (hB : B ≤ B') : Sl w B' sz v n f := by
 obtain ⟨A, b, off, cap, hv, hn, hA, hc⟩ := h
 exact ⟨A, b, off, cap, hv, hn, hA.imp (fun ⟨a, c⟩ => ⟨a, by omega⟩) id, hc⟩
theorem Sl.below {w w' : World} {B sz n : Nat} {v : Value} {f : Nat → Nat → Value} (h : Sl w B sz v n f) (hb : Below B w w') : Sl w' B sz v n f :=
 h.keep fun b o hlt => hb.cell (p := ⟨b, o, none⟩) hlt
theorem Sl.up {w w' : World} {sz n : Nat} {v : Value} {f : Nat → Nat → Value} (h : Sl w w.heap.size sz v n f) (hb : Below w.heap.size w w') : Sl w' w'.heap.size sz v n f := (h.below hb).more hb.size
theorem Sl.form {w : World} {B sz n : Nat} {v : Value} {f : Nat → Nat → Value} (h : Sl w B sz v n f) : ∃ A cap, v = .slice A n cap := by
 obtain ⟨A, b, off, cap, hv, _⟩ := h
 exact ⟨A, cap, hv⟩
theorem Sl.nil (w : World) (B sz : Nat) (f : Nat → Nat → Value) : Sl w B sz (.slice none 0 0) 0 f :=
 ⟨none, 0, 0, 0, rfl, Nat.le_refl _, .inr rfl, fun i j h => absurd h (by omega)⟩
theorem Sl.congr {w : World} {B sz n : Nat} {v : Value} {f g : Nat → Nat → Value} (h : Sl w B sz v n f) (hfg : ∀ i j, i < n → j < sz → f i j = g i j) : Sl w B sz v n g := by
 obtain ⟨A, b, off, cap, hv, hn, hA, hc⟩ := h
 exact ⟨A, b, off, cap, hv, hn, hA, fun i j hi hj => by rw [hc i j hi hj, hfg i j hi hj]⟩

def idxI {α : Type} (p : α → Bool) : List α → Int
 | [] => -1
 | a :: r => if p a then 0 else if idxI p r < 0 then -1 else idxI p r + 1
theorem idxI_at {α : Type} (p : α → Bool) (z : α) : ∀ (l : List α) (k : Nat), (∀ j, j < k → p (l.getD j z) = false) → k < l.length → p (l.getD k z) = true → idxI p l = k
 | [], k, _, h, _ => by simp at h
 | a :: r, 0, _, _, h => by
  have h' : p a = true := by simpa using h
  simp [idxI, h']
 | a :: r, k + 1, h, hk, hp => by
  have h0 : p a = false := by simpa using h 0 (by omega)
  have := idxI_at p z r k (fun j hj => by have := h (j + 1) (by omega); simpa using this) (by simpa using hk) (by simpa using hp)
  simp only [idxI, h0, this]
  simp
  omega
theorem idxI_none {α : Type} (p : α → Bool) (z : α) : ∀ (l : List α), (∀ j, j < l.length → p (l.getD j z) = false) → idxI p l = -1
 | [], _ => rfl
 | a :: r, h => by
  have h0 : p a = false := by simpa using h 0 (by simp)
  have := idxI_none p z r (fun j hj => by have := h (j + 1) (by simpa using hj); simpa using this)
  simp [idxI, h0, this]
theorem idxI_any {α : Type} (p : α → Bool) : ∀ (l : List α), decide (0 ≤ idxI p l) = l.any p
 | [] => by simp [idxI]
 | a :: r => by
  have ih := idxI_any p r
  cases ha : p a
  ·
   simp only [idxI, ha, List.any_cons, Bool.false_or]
   rw [← ih]
   simp only [Bool.false_eq_true, if_false]
   split
   ·
    rename_i hlt
    simp
    omega
   ·
    rename_i hge
    rw [decide_eq_decide]
    omega
  ·
   simp [idxI, ha]
theorem idxI_lo {α : Type} (p : α → Bool) : ∀ (l : List α), -1 ≤ idxI p l
 | [] => by simp [idxI]
 | a :: r => by
  have ih := idxI_lo p r
  simp only [idxI]
  split
  ·
   omega
  ·
   split <;> omega
theorem idxI_hi {α : Type} (p : α → Bool) : ∀ (l : List α), idxI p l ≤ l.length
 | [] => by simp [idxI]
 | a :: r => by
  have ih := idxI_hi p r
  simp only [idxI, List.length_cons]
  split
  ·
   omega
  ·
   split <;> omega

end Go.Proofs.YtehadoecnmfeoaaGreat

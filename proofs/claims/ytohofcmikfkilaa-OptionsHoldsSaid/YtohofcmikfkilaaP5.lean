/- The greatest sum of weights that nodes allow. Plain laws. -/
import Derived.Test.YtohofcmikfkilaaRows
import Derived.Test.YtohofcmikfkilaaP2
namespace Go.Proofs.Ytohofcmikfkilaa
set_option linter.unusedVariables false
def leastI : Int := -1152921504606846976
/-- The weights of the nodes that hold. -/
def wsum (ks : List Kn) (v : Nat → Bool) : List Nat → List Int → Int
  | n :: ns, x :: xs => (if ev ks v n then x else 0) + wsum ks v ns xs
  | _, _ => 0
/-- What a variant is worth: the first node has to hold. -/
def valI (ks : List Kn) (v : Nat → Bool) (nodes : List Nat) (ws : List Int) : Int :=
  match nodes with
  | [] => leastI
  | n :: ns => if ev ks v n then wsum ks v ns ws else leastI
def maxL (l : List Int) : Int := l.foldl max leastI
theorem foldl_max : ∀ (l : List Int) (i : Int), leastI ≤ i → l.foldl max i = max i (maxL l)
  | [], i, h => by simp only [maxL, List.foldl_nil]; omega
  | a :: l, i, h => by
    have h1 := foldl_max l (max i a) (by omega)
    have h2 := foldl_max l (max leastI a) (by omega)
    unfold maxL at h1 h2 ⊢
    simp only [List.foldl_cons]
    rw [h1, h2]
    omega
theorem maxL_least (l : List Int) : leastI ≤ maxL l := by
  have : ∀ (l : List Int) (i : Int), leastI ≤ i → leastI ≤ l.foldl max i := by
    intro l
    induction l with
    | nil => intro i h; exact h
    | cons a l ih => intro i h; exact ih _ (by omega)
  exact this l _ (Int.le_refl _)
theorem maxL_cons (a : Int) (l : List Int) : maxL (a :: l) = max (max leastI a) (maxL l) := foldl_max l _ (by omega)
theorem maxL_append (a b : List Int) : maxL (a ++ b) = max (maxL a) (maxL b) := by
  show (a ++ b).foldl max leastI = _
  rw [List.foldl_append]
  exact foldl_max b _ (maxL_least a)
theorem maxL_mem : ∀ (l : List Int) (x : Int), x ∈ l → x ≤ maxL l
  | a :: l, x, h => by
    rw [maxL_cons]
    rcases List.mem_cons.1 h with rfl | h
    · omega
    · have := maxL_mem l x h
      omega
theorem maxL_const {c : Int} (hc : leastI ≤ c) : ∀ (l : List Int), l ≠ [] → (∀ x ∈ l, x = c) → maxL l = c
  | [a], _, h => by
    rw [maxL_cons, h a (by simp)]
    simp only [maxL, List.foldl_nil]; omega
  | a :: b :: l, _, h => by
    rw [maxL_cons, h a (by simp), maxL_const hc (b :: l) (by simp) (fun x hx => h x (by simp [hx]))]
    omega
theorem maxL_attained : ∀ (l : List Int), leastI < maxL l → maxL l ∈ l
  | [], h => by simp [maxL] at h
  | a :: l, h => by
    rw [maxL_cons] at h ⊢
    by_cases h1 : maxL l ≤ a
    · rw [show max (max leastI a) (maxL l) = a by omega]; simp
    · have h2 := maxL_least l
      rw [show max (max leastI a) (maxL l) = maxL l by omega]
      exact List.mem_cons_of_mem _ (maxL_attained l (by omega))
/-- The greatest worth of the variants that begin with a list. -/
def bestK (ks : List Kn) (N : Nat) (nodes : List Nat) (ws : List Int) (l : List Bool) : Int := maxL ((exts (N - l.length) l).map fun x => valI ks (vf x) nodes ws)
theorem wsum_congr {ks ks' : List Kn} {v v' : Nat → Bool} : ∀ {a b : List Nat} {ws : List Int}, a.length = b.length → (∀ i, i < a.length → ev ks v (a.getD i 0) = ev ks' v' (b.getD i 0)) → wsum ks v a ws = wsum ks' v' b ws
  | [], [], ws, _, _ => by cases ws <;> rfl
  | x :: a, y :: b, [], _, _ => rfl
  | x :: a, y :: b, w :: ws, hl, h => by
    have h0 := h 0 (by simp)
    simp only [List.getD_cons_zero] at h0
    simp only [wsum, h0]
    rw [wsum_congr (by simpa using hl) fun i hi => by have := h (i + 1) (by simpa using hi); simpa using this]
  | [], y :: b, _, hl, _ => by simp at hl
  | x :: a, [], _, hl, _ => by simp at hl
theorem valI_congr {ks ks' : List Kn} {v v' : Nat → Bool} {a b : List Nat} {ws : List Int} (hl : a.length = b.length) (h : ∀ i, i < a.length → ev ks v (a.getD i 0) = ev ks' v' (b.getD i 0)) : valI ks v a ws = valI ks' v' b ws := by
  match a, b, hl, h with
  | [], [], _, _ => rfl
  | x :: a, y :: b, hl, h =>
    have h0 := h 0 (by simp)
    simp only [List.getD_cons_zero] at h0
    simp only [valI, h0]
    rw [wsum_congr (by simpa using hl) fun i hi => by have := h (i + 1) (by simpa using hi); simpa using this]
  | [], y :: b, hl, _ => simp at hl
  | x :: a, [], hl, _ => simp at hl
theorem bestK_split {ks : List Kn} {N : Nat} {nodes : List Nat} {ws : List Int} {l : List Bool} (hl : l.length < N) : bestK ks N nodes ws l = max (bestK ks N nodes ws (l ++ [false])) (bestK ks N nodes ws (l ++ [true])) := by
  unfold bestK
  rw [← maxL_append, ← List.map_append]
  rw [show N - l.length = (N - (l ++ [false]).length) + 1 from by simp; omega]
  simp only [exts, List.length_append, List.length_singleton]
theorem getD_map {α β : Type} (f : α → β) (l : List α) (z : α) (i : Nat) (h : i < l.length) (y : β) : (l.map f).getD i y = f (l.getD i z) := by
  simp [List.getD_eq_getElem?_getD, h]
section
variable {N : Nat} {ks : List Kn} (h : WF N ks)
include h
theorem bestK_br {nodes : List Nat} {ws : List Int} {l : List Bool} {b : Bool} (hn : ∀ n ∈ nodes, n < ks.length) (hl : l.length < N) : bestK ks N (nodes.map fun n => brK ks n l.length b) ws (l ++ [b]) = bestK ks N nodes ws (l ++ [b]) := by
  unfold bestK
  congr 1
  refine List.map_congr_left fun x hx => ?_
  obtain ⟨y, rfl, _⟩ := exts_prefix hx
  refine valI_congr (by simp) fun i hi => ?_
  have hi' : i < nodes.length := by simpa using hi
  rw [getD_map _ _ 0 _ hi']
  exact brK_ev h (hn _ (by rw [List.getD_eq_getElem?_getD, List.getElem?_eq_getElem hi']; exact List.getElem_mem _)) hl _ (vf_at l b y)
theorem bestK_len {nodes : List Nat} {ws : List Int} {l l' : List Bool} (hn : ∀ n ∈ nodes, n < ks.length) (he : l.length = l'.length) (ht : ∀ n ∈ nodes, l.length ≤ topK ks n) : bestK ks N nodes ws l = bestK ks N nodes ws l' := by
  unfold bestK
  rw [exts_nil _ l, exts_nil _ l', List.map_map, List.map_map, he]
  congr 1
  refine List.map_congr_left fun x hx => ?_
  refine valI_congr rfl fun i hi => ?_
  have hm : nodes.getD i 0 ∈ nodes := by rw [List.getD_eq_getElem?_getD, List.getElem?_eq_getElem hi]; exact List.getElem_mem _
  refine ev_congr h _ _ _ (hn _ hm) fun j h1 h2 => ?_
  have := ht _ hm
  show vf (l ++ x) j = vf (l' ++ x) j
  rw [vf_right (by omega), vf_right (by omega), he]
/-- Options that no node asks for change nothing. -/
theorem bestK_lift {nodes : List Nat} {ws : List Int} (hn : ∀ n ∈ nodes, n < ks.length) : ∀ (k o : Nat), o + k ≤ N → (∀ n ∈ nodes, o + k ≤ topK ks n) → bestK ks N nodes ws (List.replicate o false) = bestK ks N nodes ws (List.replicate (o + k) false)
  | 0, o, _, _ => rfl
  | k + 1, o, hN, ht => by
    rw [bestK_split (by simp; omega), bestK_len h (l := List.replicate o false ++ [false]) (l' := List.replicate (o + 1) false) hn (by simp) (fun n hn => by have := ht n hn; simp; omega), bestK_len h (l := List.replicate o false ++ [true]) (l' := List.replicate (o + 1) false) hn (by simp) (fun n hn => by have := ht n hn; simp; omega), bestK_lift hn k (o + 1) (by omega) (fun n hn => by have := ht n hn; omega)]
    rw [show o + (k + 1) = o + 1 + k by omega]
    omega
omit h in
theorem bestK_no {ns : List Nat} {ws : List Int} (l : List Bool) : bestK ks N (0 :: ns) ws l = leastI := by
  unfold bestK
  refine maxL_const (Int.le_refl _) _ ?_ ?_
  · intro e
    have := congrArg List.length e
    rw [List.length_map, exts_length] at this
    have := Nat.one_le_two_pow (n := N - l.length)
    simp at *
  · intro x hx
    rw [List.mem_map] at hx
    obtain ⟨y, _, rfl⟩ := hx
    simp [valI, ev_zero]
omit h in
/-- The sum of the weights whose nodes are 'yes'. -/
def wyes : List Nat → List Int → Int
  | n :: ns, x :: xs => (if n = 1 then x else 0) + wyes ns xs
  | _, _ => 0
omit h in
theorem wsum_ends (v : Nat → Bool) : ∀ (ns : List Nat) (ws : List Int), (∀ n ∈ ns, n < 2) → wsum ks v ns ws = wyes ns ws
  | [], ws, _ => by cases ws <;> rfl
  | n :: ns, [], _ => rfl
  | n :: ns, x :: xs, h => by
    have h0 := h n (by simp)
    simp only [wsum, wyes]
    rw [wsum_ends v ns xs fun m hm => h m (by simp [hm])]
    rcases (by omega : n = 0 ∨ n = 1) with rfl | rfl
    · simp [ev_zero]
    · simp [ev_one]
omit h in
theorem bestK_ends {ns : List Nat} {ws : List Int} (l : List Bool) (hn : ∀ n ∈ ns, n < 2) (hw : leastI ≤ wyes ns ws) : bestK ks N (1 :: ns) ws l = wyes ns ws := by
  unfold bestK
  refine maxL_const hw _ ?_ ?_
  · intro e
    have := congrArg List.length e
    rw [List.length_map, exts_length] at this
    have := Nat.one_le_two_pow (n := N - l.length)
    simp at *
  · intro x hx
    rw [List.mem_map] at hx
    obtain ⟨y, _, rfl⟩ := hx
    simp only [valI, ev_one, if_true]
    exact wsum_ends _ ns ws hn
/-- The step that best takes. -/
theorem bestK_step {nodes : List Nat} {ws : List Int} {t : Nat} (hn : ∀ n ∈ nodes, n < ks.length) (htN : t < N) (ht : ∀ n ∈ nodes, t ≤ topK ks n) : bestK ks N nodes ws [] = max (bestK ks N (nodes.map fun n => brK ks n t false) ws []) (bestK ks N (nodes.map fun n => brK ks n t true) ws []) := by
  have key : ∀ b, bestK ks N (nodes.map fun n => brK ks n t b) ws [] = bestK ks N nodes ws (List.replicate t false ++ [b]) := by
    intro b
    have hlt : ∀ n ∈ nodes.map fun n => brK ks n t b, n < ks.length := by
      intro n hm
      rw [List.mem_map] at hm
      obtain ⟨x, hx, rfl⟩ := hm
      exact brK_lt h (hn x hx) htN
    have htt : ∀ n ∈ nodes.map fun n => brK ks n t b, t + 1 ≤ topK ks n := by
      intro n hm
      rw [List.mem_map] at hm
      obtain ⟨x, hx, rfl⟩ := hm
      exact brK_top h (hn x hx) htN (ht x hx)
    have h1 := bestK_lift h (ws := ws) hlt (t + 1) 0 (by omega) (fun n hm => by have := htt n hm; omega)
    have h2 := bestK_br h (nodes := nodes) (ws := ws) (l := List.replicate t false) (b := b) hn (by simpa using htN)
    rw [List.length_replicate] at h2
    rw [← h2]
    rw [show ([] : List Bool) = List.replicate 0 false from rfl, h1]
    exact bestK_len h hlt (by simp) (fun n hm => by have := htt n hm; simp; omega)
  have h1 := bestK_lift h (ws := ws) hn t 0 (by omega) (fun n hm => by have := ht n hm; omega)
  rw [show List.replicate 0 false = ([] : List Bool) from rfl, Nat.zero_add] at h1
  rw [key, key, h1, bestK_split (by simpa using htN)]
end
end Go.Proofs.Ytohofcmikfkilaa

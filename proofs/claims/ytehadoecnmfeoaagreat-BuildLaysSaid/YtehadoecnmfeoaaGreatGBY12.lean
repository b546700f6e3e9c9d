/- Part 12 of this claim's texts: walks and plain laws. -/
import Derived.Test.YtehadoecnmfeoaaGreatRows
import Derived.Test.YtehadoecnmfeoaaGreatGBY0
import Derived.Test.YtehadoecnmfeoaaGreatGBY1
import Derived.Laws.Cover4
import Derived.Test.YtehadoecnmfeoaaGreatGBY11
/- The greatest sum of weights that nodes allow. Plain laws. -/
namespace Go.Proofs.YtehadoecnmfeoaaGreat
set_option linter.unusedVariables false
def leastI : Int := -1152921504606846976
/-- The weights of the nodes that hold. -/
def wsum (ks : List Kn) (v : Nat → Bool) : List Nat → List Int → Int
  | n :: ns, x :: xs => (if ev ks v n then x else 0) + wsum ks v ns xs
  | _, _ => 0
/-- What a variant is worth: the first node has to hold. -/
def valI (ks : List Kn) (v : Nat → Bool) (nodes : List Nat) (ws : List Int) : Int :=
  match nodes with
  | [] => leastI
  | n :: ns => if ev ks v n then wsum ks v ns ws else leastI
def maxL (l : List Int) : Int := l.foldl max leastI
theorem foldl_max : ∀ (l : List Int) (i : Int), leastI ≤ i → l.foldl max i = max i (maxL l)
  | [], i, h => by simp only [maxL, List.foldl_nil]; omega
  | a :: l, i, h => by
    have h1 := foldl_max l (max i a) (by omega)
    have h2 := foldl_max l (max leastI a) (by omega)
    unfold maxL at h1 h2 ⊢
    simp only [List.foldl_cons]
    rw [h1, h2]
    omega
theorem maxL_least (l : List Int) : leastI ≤ maxL l := by
  have : ∀ (l : List Int) (i : Int), leastI ≤ i → leastI ≤ l.foldl max i := by
    intro l
    induction l with
    | nil => intro i h; exact h
    | cons a l ih => intro i h; exact ih _ (by omega)
  exact this l _ (Int.le_refl _)
theorem maxL_cons (a : Int) (l : List Int) : maxL (a :: l) = max (max leastI a) (maxL l) := foldl_max l _ (by omega)
theorem maxL_append (a b : List Int) : maxL (a ++ b) = max (maxL a) (maxL b) := by
  show (a ++ b).foldl max leastI = _
  rw [List.foldl_append]
  exact foldl_max b _ (maxL_least a)
theorem maxL_mem : ∀ (l : List Int) (x : Int), x ∈ l → x ≤ maxL l
  | a :: l, x, h => by
    rw [maxL_cons]
    rcases List.mem_cons.1 h with rfl | h
    · omega
    · have := maxL_mem l x h
      omega
theorem maxL_const {c : Int} (hc : leastI ≤ c) : ∀ (l : List Int), l ≠ [] → (∀ x ∈ l, x = c) → maxL l = c
  | [a], _, h => by
    rw [maxL_cons, h a (by simp)]
    simp only [maxL, List.foldl_nil]; omega
  | a :: b :: l, _, h => by
    rw [maxL_cons, h a (by simp), maxL_const hc (b :: l) (by simp) (fun x hx => h x (by simp [hx]))]
    omega
theorem maxL_attained : ∀ (l : List Int), leastI < maxL l → maxL l ∈ l
  | [], h => by simp [maxL] at h
  | a :: l, h => by
    rw [maxL_cons] at h ⊢
    by_cases h1 : maxL l ≤ a
    · rw [show max (max leastI a) (maxL l) = a by omega]; simp
    · have h2 := maxL_least l
      rw [show max (max leastI a) (maxL l) = maxL l by omega]
      exact List.mem_cons_of_mem _ (maxL_attained l (by omega))
/-- The greatest worth of the variants that begin with a list. -/
def bestK (ks : List Kn) (N : Nat) (nodes : List Nat) (ws : List Int) (l : List Bool) : Int := maxL ((exts (N - l.length) l).map fun x => valI ks (vf x) nodes ws)
theorem wsum_congr {ks ks' : List Kn} {v v' : Nat → Bool} : ∀ {a b : List Nat} {ws : List Int}, a.length = b.length → (∀ i, i < a.length → ev ks v (a.getD i 0) = ev ks' v' (b.getD i 0)) → wsum ks v a ws = wsum ks' v' b ws
  | [], [], ws, _, _ => by cases ws <;> rfl
  | x :: a, y :: b, [], _, _ => rfl
  | x :: a, y :: b, w :: ws, hl, h => by
    have h0 := h 0 (by simp)
    simp only [List.getD_cons_zero] at h0
    simp only [wsum, h0]
    rw [wsum_congr (by simpa using hl) fun i hi => by have := h (i + 1) (by simpa using hi); simpa using this]
  | [], y :: b, _, hl, _ => by simp at hl
  | x :: a, [], _, hl, _ => by simp at hl
theorem valI_congr {ks ks' : List Kn} {v v' : Nat → Bool} {a b : List Nat} {ws : List Int} (hl : a.length = b.length) (h : ∀ i, i < a.length → ev ks v (a.getD i 0) = ev ks' v' (b.getD i 0)) : valI ks v a ws = valI ks' v' b ws := by
  match a, b, hl, h with
  | [], [], _, _ => rfl
  | x :: a, y :: b, hl, h =>
    have h0 := h 0 (by simp)
    simp only [List.getD_cons_zero] at h0
    simp only [valI, h0]
    rw [wsum_congr (by simpa using hl) fun i hi => by have := h (i + 1) (by simpa using hi); simpa using this]
  | [], y :: b, hl, _ => simp at hl
  | x :: a, [], hl, _ => simp at hl
theorem bestK_split {ks : List Kn} {N : Nat} {nodes : List Nat} {ws : List Int} {l : List Bool} (hl : l.length < N) : bestK ks N nodes ws l = max (bestK ks N nodes ws (l ++ [false])) (bestK ks N nodes ws (l ++ [true])) := by
  unfold bestK
  rw [← maxL_append, ← List.map_append]
  rw [show N - l.length = (N - (l ++ [false]).length) + 1 from by simp; omega]
  simp only [exts, List.length_append, List.length_singleton]
theorem getD_map {α β : Type} (f : α → β) (l : List α) (z : α) (i : Nat) (h : i < l.length) (y : β) : (l.map f).getD i y = f (l.getD i z) := by
  simp [List.getD_eq_getElem?_getD, h]
section
variable {N : Nat} {ks : List Kn} (h : WF N ks)
include h
theorem bestK_br {nodes : List Nat} {ws : List Int} {l : List Bool} {b : Bool} (hn : ∀ n ∈ nodes, n < ks.length) (hl : l.length < N) : bestK ks N (nodes.map fun n => brK ks n l.length b) ws (l ++ [b]) = bestK ks N nodes ws (l ++ [b]) := by
  unfold bestK
  congr 1
  refine List.map_congr_left fun x hx => ?_
  obtain ⟨y, rfl, _⟩ := exts_prefix hx
  refine valI_congr (by simp) fun i hi => ?_
  have hi' : i < nodes.length := by simpa using hi
  rw [getD_map _ _ 0 _ hi']
  exact brK_ev h (hn _ (by rw [List.getD_eq_getElem?_getD, List.getElem?_eq_getElem hi']; exact List.getElem_mem _)) hl _ (vf_at l b y)
theorem bestK_len {nodes : List Nat} {ws : List Int} {l l' : List Bool} (hn : ∀ n ∈ nodes, n < ks.length) (he : l.length = l'.length) (ht : ∀ n ∈ nodes, l.length ≤ topK ks n) : bestK ks N nodes ws l = bestK ks N nodes ws l' := by
  unfold bestK
  rw [exts_nil _ l, exts_nil _ l', List.map_map, List.map_map, he]
  congr 1
  refine List.map_congr_left fun x hx => ?_
  refine valI_congr rfl fun i hi => ?_
  have hm : nodes.getD i 0 ∈ nodes := by rw [List.getD_eq_getElem?_getD, List.getElem?_eq_getElem hi]; exact List.getElem_mem _
  refine ev_congr h _ _ _ (hn _ hm) fun j h1 h2 => ?_
  have := ht _ hm
  show vf (l ++ x) j = vf (l' ++ x) j
  rw [vf_right (by omega), vf_right (by omega), he]
/-- Options that no node asks for change nothing. -/
theorem bestK_lift {nodes : List Nat} {ws : List Int} (hn : ∀ n ∈ nodes, n < ks.length) : ∀ (k o : Nat), o + k ≤ N → (∀ n ∈ nodes, o + k ≤ topK ks n) → bestK ks N nodes ws (List.replicate o false) = bestK ks N nodes ws (List.replicate (o + k) false)
  | 0, o, _, _ => rfl
  | k + 1, o, hN, ht => by
    rw [bestK_split (by simp; omega), bestK_len h (l := List.replicate o false ++ [false]) (l' := List.replicate (o + 1) false) hn (by simp) (fun n hn => by have := ht n hn; simp; omega), bestK_len h (l := List.replicate o false ++ [true]) (l' := List.replicate (o + 1) false) hn (by simp) (fun n hn => by have := ht n hn; simp; omega), bestK_lift hn k (o + 1) (by omega) (fun n hn => by have := ht n hn; omega)]
    rw [show o + (k + 1) = o + 1 + k by omega]
    omega
omit h in
theorem bestK_no {ns : List Nat} {ws : List Int} (l : List Bool) : bestK ks N (0 :: ns) ws l = leastI := by
  unfold bestK
  refine maxL_const (Int.le_refl _) _ ?_ ?_
  · intro e
    have := congrArg List.length e
    rw [List.length_map, exts_length] at this
    have := Nat.one_le_two_pow (n := N - l.length)
    simp at *
  · intro x hx
    rw [List.mem_map] at hx
    obtain ⟨y, _, rfl⟩ := hx
    simp [valI, ev_zero]
omit h in
/-- The sum of the weights whose nodes are 'yes'. -/
def wyes : List Nat → List Int → Int
  | n :: ns, x :: xs => (if n = 1 then x else 0) + wyes ns xs
  | _, _ => 0
omit h in
theorem wsum_ends (v : Nat → Bool) : ∀ (ns : List Nat) (ws : List Int), (∀ n ∈ ns, n < 2) → wsum ks v ns ws = wyes ns ws
  | [], ws, _ => by cases ws <;> rfl
  | n :: ns, [], _ => rfl
  | n :: ns, x :: xs, h => by
    have h0 := h n (by simp)
    simp only [wsum, wyes]
    rw [wsum_ends v ns xs fun m hm => h m (by simp [hm])]
    rcases (by omega : n = 0 ∨ n = 1) with rfl | rfl
    · simp [ev_zero]
    · simp [ev_one]
omit h in
theorem bestK_ends {ns : List Nat} {ws : List Int} (l : List Bool) (hn : ∀ n ∈ ns, n < 2) (hw : leastI ≤ wyes ns ws) : bestK ks N (1 :: ns) ws l = wyes ns ws := by
  unfold bestK
  refine maxL_const hw _ ?_ ?_
  · intro e
    have := congrArg List.length e
    rw [List.length_map, exts_length] at this
    have := Nat.one_le_two_pow (n := N - l.length)
    simp at *
  · intro x hx
    rw [List.mem_map] at hx
    obtain ⟨y, _, rfl⟩ := hx
    simp only [valI, ev_one, if_true]
    exact wsum_ends _ ns ws hn
/-- The step that best takes. -/
theorem bestK_step {nodes : List Nat} {ws : List Int} {t : Nat} (hn : ∀ n ∈ nodes, n < ks.length) (htN : t < N) (ht : ∀ n ∈ nodes, t ≤ topK ks n) : bestK ks N nodes ws [] = max (bestK ks N (nodes.map fun n => brK ks n t false) ws []) (bestK ks N (nodes.map fun n => brK ks n t true) ws []) := by
  have key : ∀ b, bestK ks N (nodes.map fun n => brK ks n t b) ws [] = bestK ks N nodes ws (List.replicate t false ++ [b]) := by
    intro b
    have hlt : ∀ n ∈ nodes.map fun n => brK ks n t b, n < ks.length := by
      intro n hm
      rw [List.mem_map] at hm
      obtain ⟨x, hx, rfl⟩ := hm
      exact brK_lt h (hn x hx) htN
    have htt : ∀ n ∈ nodes.map fun n => brK ks n t b, t + 1 ≤ topK ks n := by
      intro n hm
      rw [List.mem_map] at hm
      obtain ⟨x, hx, rfl⟩ := hm
      exact brK_top h (hn x hx) htN (ht x hx)
    have h1 := bestK_lift h (ws := ws) hlt (t + 1) 0 (by omega) (fun n hm => by have := htt n hm; omega)
    have h2 := bestK_br h (nodes := nodes) (ws := ws) (l := List.replicate t false) (b := b) hn (by simpa using htN)
    rw [List.length_replicate] at h2
    rw [← h2]
    rw [show ([] : List Bool) = List.replicate 0 false from rfl, h1]
    exact bestK_len h hlt (by simp) (fun n hm => by have := htt n hm; simp; omega)
  have h1 := bestK_lift h (ws := ws) hn t 0 (by omega) (fun n hm => by have := ht n hm; omega)
  rw [show List.replicate 0 false = ([] : List Bool) from rfl, Nat.zero_add] at h1
  rw [key, key, h1, bestK_split (by simpa using htN)]
end
end Go.Proofs.YtehadoecnmfeoaaGreat
/- The first variant of the greatest sum. Plain laws. -/
namespace Go.Proofs.YtehadoecnmfeoaaGreat
set_option linter.unusedVariables false
/-- What is known of the nodes after some choices l. -/
structure Pick (ks : List Kn) (N : Nat) (ws : List Int) (nodes : List Nat) (M : Int) (l : List Bool) (ns : List Nat) : Prop where
  len : ns.length = nodes.length
  lt : ∀ n ∈ ns, n < ks.length
  top : ∀ n ∈ ns, l.length ≤ topK ks n
  val : ∀ y, valI ks (vf (l ++ y)) ns ws = valI ks (vf (l ++ y)) nodes ws
  best : bestK ks N nodes ws l = M
  find : (exts N []).find? (fun x => valI ks (vf x) nodes ws == M) = (exts (N - l.length) l).find? (fun x => valI ks (vf x) nodes ws == M)
section
variable {N : Nat} {ks : List Kn} (h : WF N ks) {ws : List Int} {nodes : List Nat} {M : Int}
include h
omit h in
theorem Pick.start (hn : ∀ n ∈ nodes, n < ks.length) (hM : bestK ks N nodes ws [] = M) : Pick ks N ws nodes M [] nodes :=
  ⟨rfl, hn, fun n _ => Nat.zero_le _, fun y => rfl, hM, rfl⟩
omit h in
theorem Pick.bestK {l : List Bool} {ns : List Nat} (p : Pick ks N ws nodes M l ns) : Go.Proofs.YtehadoecnmfeoaaGreat.bestK ks N ns ws l = M := by
  rw [← p.best]
  unfold Go.Proofs.YtehadoecnmfeoaaGreat.bestK
  congr 1
  refine List.map_congr_left fun x hx => ?_
  obtain ⟨y, rfl, _⟩ := exts_prefix hx
  exact p.val y
/-- What best gives for the nodes one step on. -/
theorem Pick.ahead {l : List Bool} {ns : List Nat} (p : Pick ks N ws nodes M l ns) (hl : l.length < N) (b : Bool) : Go.Proofs.YtehadoecnmfeoaaGreat.bestK ks N (ns.map fun n => brK ks n l.length b) ws [] = Go.Proofs.YtehadoecnmfeoaaGreat.bestK ks N nodes ws (l ++ [b]) := by
  have hlt : ∀ n ∈ ns.map fun n => brK ks n l.length b, n < ks.length := by
    intro n hm
    rw [List.mem_map] at hm
    obtain ⟨x, hx, rfl⟩ := hm
    exact brK_lt h (p.lt x hx) hl
  have htt : ∀ n ∈ ns.map fun n => brK ks n l.length b, l.length + 1 ≤ topK ks n := by
    intro n hm
    rw [List.mem_map] at hm
    obtain ⟨x, hx, rfl⟩ := hm
    exact brK_top h (p.lt x hx) hl (p.top x hx)
  have h1 := bestK_lift h (ws := ws) hlt (l.length + 1) 0 (by omega) (fun n hm => by have := htt n hm; omega)
  rw [show List.replicate 0 false = ([] : List Bool) from rfl, Nat.zero_add] at h1
  rw [h1, bestK_len h (l' := l ++ [b]) hlt (by simp) (fun n hm => by have := htt n hm; simp; omega), bestK_br h p.lt hl]
  unfold Go.Proofs.YtehadoecnmfeoaaGreat.bestK
  congr 1
  refine List.map_congr_left fun x hx => ?_
  obtain ⟨y, rfl, _⟩ := exts_prefix hx
  rw [List.append_assoc]
  exact p.val _
omit h in
theorem bestK_find {l : List Bool} (hM : leastI < M) (hb : bestK ks N nodes ws l = M) : ((exts (N - l.length) l).find? fun x => valI ks (vf x) nodes ws == M).isSome = true := by
  rw [List.find?_isSome]
  have h1 := maxL_attained ((exts (N - l.length) l).map fun x => valI ks (vf x) nodes ws) (by unfold bestK at hb; rw [hb]; exact hM)
  rw [List.mem_map] at h1
  obtain ⟨x, hx, he⟩ := h1
  exact ⟨x, hx, by rw [he]; unfold bestK at hb; rw [hb]; simp⟩
omit h in
theorem bestK_none {l : List Bool} (hb : bestK ks N nodes ws l < M) : ((exts (N - l.length) l).find? fun x => valI ks (vf x) nodes ws == M) = none := by
  rw [List.find?_eq_none]
  intro x hx e
  have h1 := maxL_mem ((exts (N - l.length) l).map fun x => valI ks (vf x) nodes ws) (valI ks (vf x) nodes ws) (List.mem_map.2 ⟨x, hx, rfl⟩)
  have h2 : valI ks (vf x) nodes ws = M := by simpa using e
  unfold bestK at hb
  omega
theorem Pick.next {l : List Bool} {ns : List Nat} (p : Pick ks N ws nodes M l ns) (hl : l.length < N) (hM : leastI < M) {b : Bool} (hb : b = decide (Go.Proofs.YtehadoecnmfeoaaGreat.bestK ks N nodes ws (l ++ [false]) < M)) : Pick ks N ws nodes M (l ++ [b]) (ns.map fun n => brK ks n l.length b) := by
  have hs := bestK_split (ks := ks) (nodes := nodes) (ws := ws) hl
  rw [p.best] at hs
  have hne : N - l.length = (N - (l ++ [false]).length) + 1 := by simp; omega
  have hx : (exts (N - l.length) l) = exts (N - (l ++ [false]).length) (l ++ [false]) ++ exts (N - (l ++ [true]).length) (l ++ [true]) := by
    rw [hne]; simp only [exts, List.length_append, List.length_singleton]
  refine ⟨by rw [List.length_map]; exact p.len, ?_, ?_, ?_, ?_, ?_⟩
  · intro n hm
    rw [List.mem_map] at hm
    obtain ⟨x, hx, rfl⟩ := hm
    exact brK_lt h (p.lt x hx) hl
  · intro n hm
    rw [List.mem_map] at hm
    obtain ⟨x, hx, rfl⟩ := hm
    have := brK_top h (b := b) (p.lt x hx) hl (p.top x hx)
    simp; omega
  · intro y
    have h1 := p.val ([b] ++ y)
    rw [← List.append_assoc] at h1
    rw [← h1]
    refine valI_congr (by simp) fun i hi => ?_
    have hi' : i < ns.length := by simpa using hi
    rw [getD_map _ _ 0 _ hi']
    exact brK_ev h (p.lt _ (by rw [List.getD_eq_getElem?_getD, List.getElem?_eq_getElem hi']; exact List.getElem_mem _)) hl _ (vf_at l b y)
  · cases b with
    | true =>
      have : Go.Proofs.YtehadoecnmfeoaaGreat.bestK ks N nodes ws (l ++ [false]) < M := by simpa using hb.symm
      omega
    | false =>
      have : ¬ Go.Proofs.YtehadoecnmfeoaaGreat.bestK ks N nodes ws (l ++ [false]) < M := by simpa using hb.symm
      omega
  · rw [p.find, hx, List.find?_append]
    cases b with
    | true =>
      have : Go.Proofs.YtehadoecnmfeoaaGreat.bestK ks N nodes ws (l ++ [false]) < M := by simpa using hb.symm
      rw [bestK_none this]; rfl
    | false =>
      have : ¬ Go.Proofs.YtehadoecnmfeoaaGreat.bestK ks N nodes ws (l ++ [false]) < M := by simpa using hb.symm
      have h2 := bestK_find (ks := ks) (N := N) (nodes := nodes) (ws := ws) (l := l ++ [false]) hM (by omega)
      obtain ⟨x, hx⟩ := Option.isSome_iff_exists.1 h2
      rw [hx]; rfl
omit h in
theorem Pick.finish {l : List Bool} {ns : List Nat} (p : Pick ks N ws nodes M l ns) (hl : l.length = N) (hM : leastI < M) : (exts N []).find? (fun x => valI ks (vf x) nodes ws == M) = some l := by
  have h1 := bestK_find hM p.best
  rw [p.find]
  rw [hl, Nat.sub_self] at h1 ⊢
  simp only [exts] at h1 ⊢
  rw [List.find?_cons] at h1 ⊢
  split
  · rfl
  · rename_i e
    rw [e] at h1
    simp at h1
end
/-! by formulas -/
def fsum (v : Nat → Bool) : List (List Int) → List Int → Int
  | f :: fs, x :: xs => (if evF1 v f then x else 0) + fsum v fs xs
  | _, _ => 0
/-- What a variant is worth: it has to be buildable. -/
def valF (m : Mo) (fs : List (List Int)) (ws : List Int) (x : List Bool) : Int := if allF (vf x) m.rules then fsum (vf x) fs ws else leastI
def bestF (m : Mo) (fs : List (List Int)) (ws : List Int) : Int := maxL ((exts m.opts.length []).map (valF m fs ws))
theorem wsum_fsum {ks : List Kn} {v : Nat → Bool} : ∀ {ns : List Nat} {fs : List (List Int)} {ws : List Int}, ns.length = fs.length → (∀ i, i < ns.length → ev ks v (ns.getD i 0) = evF1 v (fs.getD i [])) → wsum ks v ns ws = fsum v fs ws
  | [], [], ws, _, _ => by cases ws <;> rfl
  | x :: a, y :: b, [], _, _ => rfl
  | x :: a, y :: b, w :: ws, hl, h => by
    have h0 := h 0 (by simp)
    simp only [List.getD_cons_zero] at h0
    simp only [wsum, fsum, h0]
    rw [wsum_fsum (by simpa using hl) fun i hi => by have := h (i + 1) (by simpa using hi); simpa using this]
  | [], y :: b, _, hl, _ => by simp at hl
  | x :: a, [], _, hl, _ => by simp at hl
theorem valI_valF {ks : List Kn} {m : Mo} {n : Nat} {ns : List Nat} {fs : List (List Int)} {ws : List Int} {x : List Bool} (h0 : ev ks (vf x) n = allF (vf x) m.rules) (hl : ns.length = fs.length) (h : ∀ i, i < ns.length → ev ks (vf x) (ns.getD i 0) = evF1 (vf x) (fs.getD i [])) : valI ks (vf x) (n :: ns) ws = valF m fs ws x := by
  unfold valI valF
  simp only [h0]
  rw [wsum_fsum hl h]
end Go.Proofs.YtehadoecnmfeoaaGreat
/- The text of a list of numbers below 2 to the 30th: lists that differ have texts that differ. Plain laws. -/
namespace Go.Proofs.YtehadoecnmfeoaaGreat
set_option linter.unusedVariables false
/-- The two runes of a number. -/
def kyL (l : List Nat) : List Int := l.flatMap fun n => [((n % 32768 : Nat) : Int), ((n / 32768 % 32768 : Nat) : Int)]
def kyS (l : List Nat) : ByteArray := runesBytes (kyL l)
/-- What comes of the first rune of some bytes. -/
def decR : List UInt8 → Nat × List UInt8
  | [] => (0, [])
  | a :: r =>
    if a.toNat < 128 then (a.toNat, r)
    else if a.toNat < 224 then (match r with | b :: r => ((a.toNat - 192) * 64 + (b.toNat - 128), r) | [] => (0, []))
    else (match r with | b :: c :: r => ((a.toNat - 224) * 4096 + (b.toNat - 128) * 64 + (c.toNat - 128), r) | _ => (0, []))
theorem valid_small {n : Nat} (h : n < 32768) : Utf8.valid (n : Int) = true := by
  unfold Utf8.valid; simp; omega
theorem decR_encode {n : Nat} (h : n < 32768) (r : List UInt8) : decR ((Utf8.encode (n : Int)).data.toList ++ r) = (n, r) := by
  unfold Utf8.encode
  simp only [valid_small h, if_true, Int.toNat_natCast]
  by_cases h1 : n < 128
  · rw [if_pos h1]
    show decR (UInt8.ofNat n :: r) = (n, r)
    have e : (UInt8.ofNat n).toNat = n := by simp; omega
    simp only [decR, e, if_pos h1]
  · rw [if_neg h1]
    by_cases h2 : n < 2048
    · rw [if_pos h2]
      show decR (UInt8.ofNat (192 + n / 64) :: UInt8.ofNat (128 + n % 64) :: r) = (n, r)
      have e1 : (UInt8.ofNat (192 + n / 64)).toNat = 192 + n / 64 := by simp; omega
      have e2 : (UInt8.ofNat (128 + n % 64)).toNat = 128 + n % 64 := by simp; omega
      simp only [decR, e1, e2]
      rw [if_neg (by omega), if_pos (by omega)]
      refine Prod.ext ?_ rfl
      simp only
      omega
    · rw [if_neg h2, if_pos (by omega)]
      show decR (UInt8.ofNat (224 + n / 4096) :: UInt8.ofNat (128 + n / 64 % 64) :: UInt8.ofNat (128 + n % 64) :: r) = (n, r)
      have e1 : (UInt8.ofNat (224 + n / 4096)).toNat = 224 + n / 4096 := by simp; omega
      have e2 : (UInt8.ofNat (128 + n / 64 % 64)).toNat = 128 + n / 64 % 64 := by simp; omega
      have e3 : (UInt8.ofNat (128 + n % 64)).toNat = 128 + n % 64 := by simp; omega
      simp only [decR, e1, e2, e3]
      rw [if_neg (by omega), if_neg (by omega)]
      refine Prod.ext ?_ rfl
      simp only
      omega
theorem runesBytes_toList (ns : List Int) : (runesBytes ns).data.toList = ns.flatMap fun n => (Utf8.encode n).data.toList := by
  have : ∀ (ns : List Int) (s : ByteArray), (ns.foldl (fun r n => r ++ Utf8.encode n) s).data.toList = s.data.toList ++ ns.flatMap fun n => (Utf8.encode n).data.toList := by
    intro ns
    induction ns with
    | nil => intro s; simp
    | cons n r ih => intro s; rw [List.foldl_cons, ih]; simp
  have h := this ns ByteArray.empty
  simpa [runesBytes] using h
theorem encode_ne {n : Nat} (h : n < 32768) : (Utf8.encode (n : Int)).data.toList ≠ [] := by
  unfold Utf8.encode
  simp only [valid_small h, if_true, Int.toNat_natCast]
  repeat' split
  all_goals simp
theorem flat_injE (E : Nat → List UInt8) (D : List UInt8 → Nat × List UInt8) (P : Nat → Prop) (hD : ∀ n, P n → ∀ r, D (E n ++ r) = (n, r)) (hne : ∀ n, P n → E n ≠ []) : ∀ (a b : List Nat), (∀ n ∈ a, P n) → (∀ n ∈ b, P n) → a.flatMap E = b.flatMap E → a = b
  | [], [], _, _, _ => rfl
  | [], y :: b, _, hb, h => by
    rw [List.flatMap_nil, List.flatMap_cons] at h
    exact absurd (List.append_eq_nil_iff.1 h.symm).1 (hne y (hb y (by simp)))
  | x :: a, [], ha, _, h => by
    rw [List.flatMap_nil, List.flatMap_cons] at h
    exact absurd (List.append_eq_nil_iff.1 h).1 (hne x (ha x (by simp)))
  | x :: a, y :: b, ha, hb, h => by
    rw [List.flatMap_cons, List.flatMap_cons] at h
    have h1 := hD x (ha x (by simp)) (a.flatMap E)
    rw [h, hD y (hb y (by simp))] at h1
    injection h1 with e1 e2
    rw [e1, flat_injE E D P hD hne a b (fun n hn => ha n (by simp [hn])) (fun n hn => hb n (by simp [hn])) e2.symm]
theorem flat_inj (a b : List Nat) (ha : ∀ n ∈ a, n < 32768) (hb : ∀ n ∈ b, n < 32768) (h : (a.flatMap fun (n : Nat) => (Utf8.encode (n : Int)).data.toList) = (b.flatMap fun (n : Nat) => (Utf8.encode (n : Int)).data.toList)) : a = b :=
  flat_injE _ decR (· < 32768) (fun n hn r => decR_encode hn r) (fun n hn => encode_ne hn) a b ha hb h
def kyN (l : List Nat) : List Nat := l.flatMap fun n => [n % 32768, n / 32768 % 32768]
theorem kyL_eq (l : List Nat) : kyL l = (kyN l).map fun (n : Nat) => (n : Int) := by
  unfold kyL kyN
  rw [List.map_flatMap]
  rfl
theorem kyN_small (l : List Nat) : ∀ n ∈ kyN l, n < 32768 := by
  intro n hn
  unfold kyN at hn
  rw [List.mem_flatMap] at hn
  obtain ⟨m, _, h⟩ := hn
  simp at h
  omega
theorem kyN_inj : ∀ (a b : List Nat), (∀ n ∈ a, n < 1073741824) → (∀ n ∈ b, n < 1073741824) → kyN a = kyN b → a = b
  | [], [], _, _, _ => rfl
  | [], y :: b, _, _, h => by simp [kyN] at h
  | x :: a, [], _, _, h => by simp [kyN] at h
  | x :: a, y :: b, ha, hb, h => by
    have h1 := ha x (by simp)
    have h2 := hb y (by simp)
    have e : kyN (x :: a) = x % 32768 :: (x / 32768 % 32768) :: kyN a := rfl
    have e' : kyN (y :: b) = y % 32768 :: (y / 32768 % 32768) :: kyN b := rfl
    rw [e, e'] at h
    injection h with h3 h
    injection h with h4 h
    rw [kyN_inj a b (fun n hn => ha n (by simp [hn])) (fun n hn => hb n (by simp [hn])) h]
    obtain rfl : x = y := by omega
    rfl
theorem kyS_inj {a b : List Nat} (ha : ∀ n ∈ a, n < 1073741824) (hb : ∀ n ∈ b, n < 1073741824) (h : kyS a = kyS b) : a = b := by
  refine kyN_inj a b ha hb (flat_inj _ _ (kyN_small a) (kyN_small b) ?_)
  have h1 := congrArg (fun s : ByteArray => s.data.toList) h
  simp only [kyS, runesBytes_toList, kyL_eq, List.flatMap_map] at h1
  exact h1
theorem kyS_size (l : List Nat) : (kyS l).size ≤ 8 * l.length := by
  have h := runesBytes_size_le (kyL l)
  have h2 : ∀ l, (kyL l).length = 2 * l.length := by
    intro l
    induction l with
    | nil => rfl
    | cons x r ih =>
      show (kyL r).length + 1 + 1 = 2 * (r.length + 1)
      omega
  have h3 := h2 l
  unfold kyS
  omega
end Go.Proofs.YtehadoecnmfeoaaGreat
/- The text of nodes: walk. -/
namespace Go.Proofs.YtehadoecnmfeoaaGreat
open Go.RowKit
set_option linter.unusedVariables false
set_option linter.unusedSimpArgs false
theorem infoRune : (Tryz.prog.info? 21).map (fun i => (i.zero, i.size, i.bytes)) = some (some (.int .i32 0), 1, 4) := by kernel_rfl
theorem and15 (x : Int) (h0 : 0 ≤ x) (h1 : x < 9223372036854775808) : bits .and .i64 x 32767 = x % 32768 := by
  have h := bits_mask .i64 63 (by decide) wrap_small 15 (by decide) x h0 (by simpa using h1)
  have e : ((2 : Int) ^ 15 - 1) = 32767 := by decide
  have e2 : ((2 : Int) ^ 15) = 32768 := by decide
  rw [e, e2] at h
  exact h
theorem kyL_snoc (l : List Nat) (x : Nat) : kyL (l ++ [x]) = kyL l ++ [((x % 32768 : Nat) : Int), ((x / 32768 % 32768 : Nat) : Int)] := by simp [kyL]
theorem kyL_len (l : List Nat) : (kyL l).length = 2 * l.length := by
  induction l with
  | nil => rfl
  | cons x r ih =>
    show (kyL r).length + 1 + 1 = 2 * (r.length + 1)
    omega
set_option maxRecDepth 100000 in
set_option maxHeartbeats 2000000 in
theorem key_any (l : List Nat) (v : Value) (B : Nat) (w : World) (hl : l.length ≤ 1000) (hs : ∀ n ∈ l, n < 1073741824) (h : Sl w B 1 v l.length (fun i _ => .int .i64 (l.getD i 0 : Nat))) (hB : B ≤ w.heap.size) :
    Calls Tryz.prog 241 #[v] w fun e w' => e = .returned (.string (kyS l)) ∧ Below w.heap.size w w' := by
  obtain ⟨i0, hi0, iz0, iz1, iz2⟩ := info_parts infoRune
  obtain ⟨A, b, off, cap, rfl, hnc, hA, hc⟩ := h
  have HC := hide hc
  have HA := hide hA
  have HS := hide hs
  clear hc hA hs
  go_enter Tryz.func241, Tryz.ntmps241
  go_wp2
  go_loopw [3, 8] (fun x i wr => ∃ k : Nat, k ≤ l.length ∧ i = .int .i64 k ∧ Hid (wr.ownsRow w.heap.size 21 1 x (2 * k) ((kyL (l.take k)).map (Value.int .i32))) ∧ Hid (Below w.heap.size w wr)) (fun _ i _ => l.length - (intOf i).toNat)
  case atStart => exact ⟨0, Nat.zero_le _, rfl, World.ownsRow_nil w w.heap.size 21 1, Below.refl _ _⟩
  case round =>
    obtain ⟨k, hk, rfl, ho, hBw⟩ := hrel
    by_cases hlt : k < l.length
    · obtain ⟨rfl, hbb⟩ : A = some ⟨b, off, none⟩ ∧ b < B := by
        rcases HA.out with h | h
        · exact h
        · omega
      obtain ⟨x, hx⟩ : ∃ x, l.getD k 0 = x := ⟨_, rfl⟩
      have hx30 : x < 1073741824 := HS.out x (by rw [← hx]; exact getD_mem hlt)
      have c0 : wr.cell? ⟨b, off + k, none⟩ = some (.int .i64 (x : Nat)) := by
        have h1 := HC.out k 0 hlt (by omega)
        rw [Nat.mul_one, Nat.add_zero, hx] at h1
        exact (hBw.out.cell (p := ⟨b, off + k, none⟩) (by show b < w.heap.size; omega)).trans h1
      have HX := hide hx
      clear hx
      have hb1 : bits .and .i64 (x : Int) 32767 = ((x % 32768 : Nat) : Int) := by rw [and15 _ (by omega) (by omega)]; omega
      have hb2 : bits .and .i64 ((x : Int) / 32768) 32767 = ((x / 32768 % 32768 : Nat) : Int) := by rw [and15 _ (by omega) (by omega)]; omega
      obtain ⟨y, hy⟩ : ∃ y, x % 32768 = y := ⟨_, rfl⟩
      obtain ⟨z, hz⟩ : ∃ z, x / 32768 % 32768 = z := ⟨_, rfl⟩
      rw [hy] at hb1
      rw [hz] at hb2
      have hy1 : (y : Int) < 32768 := by omega
      have hz1 : (z : Int) < 32768 := by omega
      have hy0 : (0 : Int) ≤ (y : Int) := by omega
      have hz0 : (0 : Int) ≤ (z : Int) := by omega
      have hx0 : (0 : Int) ≤ (x : Int) := by omega
      have hx1 : (x : Int) < 1073741824 := by omega
      have HY := hide (And.intro hy hz)
      have hsz := hBw.out.size
      clear hy hz
      go_wp2_with (at_builtin; go_must (refine wpList_append_own_at _ rfl (.tmp 12) (.tmp 20) _ rfl w.heap.size 21 i0 _ 1 4 Tryz.underlying301 hi0 iz0 iz1 iz2 rfl (by omega) _ _ _ rfl (ho.out.alloc _) ⟨wr.heap.size, 0, none⟩ 2 2 [.int .i32 y, .int .i32 z] rfl rfl (World.news_of_block (heap_alloc_new wr _)) (by simp [Value.oneCell']) (by unfold maxLen; omega) (by omega) (by simp; omega) ?_); intro v1 w1 hown1 hg1 _ hat1; have HOWN := hide hown1; have HG1 := hide hg1; clear hown1 hg1 hat1)
      go_roundw
      case rel =>
        refine ⟨k + 1, by omega, by go_num, ?_, ?_⟩
        · have h1 := HOWN.out
          rw [take_getD (z := 0) hlt, HX.out, kyL_snoc, HY.out.1, HY.out.2, List.map_append]
          exact h1
        · exact Below.grown (Below.allocT hBw.out (Nat.le_refl _) _) HG1.out (by simp; omega) (fun j hj => (ho.out.lt j hj).1)
      case measure => simp [intOf]; omega
    · obtain rfl : k = l.length := by omega
      have ho2 := ho.out
      rw [List.take_length] at ho2
      rcases ho2.2 with ⟨h1, h2⟩ | ⟨g, cp, cur, h1, h2, h3, h4, h5, h6, h7⟩
      · subst h1
        have hl0 : l = [] := List.length_eq_zero_iff.1 (by omega)
        have hcv : (convert 301 9 (.slice none 0 0)).run Tryz.prog wr = .ok (.string .empty) wr := run_convert_runes_nil wr 301 9 21 0 0 Tryz.underlying301 Tryz.underlying21 Tryz.underlying9
        have HL := hide hl0
        clear hl0 ho2
        go_wp2
        go_ret
        exact ⟨by rw [HL.out]; rfl, hBw.out⟩
      · subst h1
        have hcell : ∀ j, j < (kyL l).length → wr.cell? ((⟨g, 0, none⟩ : Addr).add j) = some (.int .i32 ((kyL l).getD j 0)) := fun j hj => ho2.cells (g := g) rfl j _ (by simp [hj])
        have hcv : (convert 301 9 (.slice (some ⟨g, 0, none⟩) (2 * l.length) cp)).run Tryz.prog wr = .ok (.string (runesBytes ((kyL l).take (2 * l.length)))) wr := run_convert_runes wr 301 9 21 ⟨g, 0, none⟩ (2 * l.length) cp (kyL l) (by rw [kyL_len]; omega) Tryz.underlying301 Tryz.underlying21 Tryz.underlying9 hcell
        rw [List.take_of_length_le (by rw [kyL_len]; omega)] at hcv
        clear hcell ho2 h3 h7
        go_wp2
        go_ret
        exact ⟨rfl, hBw.out⟩
end Go.Proofs.YtehadoecnmfeoaaGreat

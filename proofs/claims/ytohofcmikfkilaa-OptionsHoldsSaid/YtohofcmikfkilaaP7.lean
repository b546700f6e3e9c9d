/- The first variant of the greatest sum. Plain laws. -/
import Derived.Test.YtohofcmikfkilaaRows
import Derived.Test.YtohofcmikfkilaaP5
import Derived.Test.YtohofcmikfkilaaP4
namespace Go.Proofs.Ytohofcmikfkilaa
set_option linter.unusedVariables false
/-- What is known of the nodes after some choices l. -/
structure Pick (ks : List Kn) (N : Nat) (ws : List Int) (nodes : List Nat) (M : Int) (l : List Bool) (ns : List Nat) : Prop where
  len : ns.length = nodes.length
  lt : ∀ n ∈ ns, n < ks.length
  top : ∀ n ∈ ns, l.length ≤ topK ks n
  val : ∀ y, valI ks (vf (l ++ y)) ns ws = valI ks (vf (l ++ y)) nodes ws
  best : bestK ks N nodes ws l = M
  find : (exts N []).find? (fun x => valI ks (vf x) nodes ws == M) = (exts (N - l.length) l).find? (fun x => valI ks (vf x) nodes ws == M)
section
variable {N : Nat} {ks : List Kn} (h : WF N ks) {ws : List Int} {nodes : List Nat} {M : Int}
include h
omit h in
theorem Pick.start (hn : ∀ n ∈ nodes, n < ks.length) (hM : bestK ks N nodes ws [] = M) : Pick ks N ws nodes M [] nodes :=
  ⟨rfl, hn, fun n _ => Nat.zero_le _, fun y => rfl, hM, rfl⟩
omit h in
theorem Pick.bestK {l : List Bool} {ns : List Nat} (p : Pick ks N ws nodes M l ns) : Go.Proofs.Ytohofcmikfkilaa.bestK ks N ns ws l = M := by
  rw [← p.best]
  unfold Go.Proofs.Ytohofcmikfkilaa.bestK
  congr 1
  refine List.map_congr_left fun x hx => ?_
  obtain ⟨y, rfl, _⟩ := exts_prefix hx
  exact p.val y
/-- What best gives for the nodes one step on. -/
theorem Pick.ahead {l : List Bool} {ns : List Nat} (p : Pick ks N ws nodes M l ns) (hl : l.length < N) (b : Bool) : Go.Proofs.Ytohofcmikfkilaa.bestK ks N (ns.map fun n => brK ks n l.length b) ws [] = Go.Proofs.Ytohofcmikfkilaa.bestK ks N nodes ws (l ++ [b]) := by
  have hlt : ∀ n ∈ ns.map fun n => brK ks n l.length b, n < ks.length := by
    intro n hm
    rw [List.mem_map] at hm
    obtain ⟨x, hx, rfl⟩ := hm
    exact brK_lt h (p.lt x hx) hl
  have htt : ∀ n ∈ ns.map fun n => brK ks n l.length b, l.length + 1 ≤ topK ks n := by
    intro n hm
    rw [List.mem_map] at hm
    obtain ⟨x, hx, rfl⟩ := hm
    exact brK_top h (p.lt x hx) hl (p.top x hx)
  have h1 := bestK_lift h (ws := ws) hlt (l.length + 1) 0 (by omega) (fun n hm => by have := htt n hm; omega)
  rw [show List.replicate 0 false = ([] : List Bool) from rfl, Nat.zero_add] at h1
  rw [h1, bestK_len h (l' := l ++ [b]) hlt (by simp) (fun n hm => by have := htt n hm; simp; omega), bestK_br h p.lt hl]
  unfold Go.Proofs.Ytohofcmikfkilaa.bestK
  congr 1
  refine List.map_congr_left fun x hx => ?_
  obtain ⟨y, rfl, _⟩ := exts_prefix hx
  rw [List.append_assoc]
  exact p.val _
omit h in
theorem bestK_find {l : List Bool} (hM : leastI < M) (hb : bestK ks N nodes ws l = M) : ((exts (N - l.length) l).find? fun x => valI ks (vf x) nodes ws == M).isSome = true := by
  rw [List.find?_isSome]
  have h1 := maxL_attained ((exts (N - l.length) l).map fun x => valI ks (vf x) nodes ws) (by unfold bestK at hb; rw [hb]; exact hM)
  rw [List.mem_map] at h1
  obtain ⟨x, hx, he⟩ := h1
  exact ⟨x, hx, by rw [he]; unfold bestK at hb; rw [hb]; simp⟩
omit h in
theorem bestK_none {l : List Bool} (hb : bestK ks N nodes ws l < M) : ((exts (N - l.length) l).find? fun x => valI ks (vf x) nodes ws == M) = none := by
  rw [List.find?_eq_none]
  intro x hx e
  have h1 := maxL_mem ((exts (N - l.length) l).map fun x => valI ks (vf x) nodes ws) (valI ks (vf x) nodes ws) (List.mem_map.2 ⟨x, hx, rfl⟩)
  have h2 : valI ks (vf x) nodes ws = M := by simpa using e
  unfold bestK at hb
  omega
theorem Pick.next {l : List Bool} {ns : List Nat} (p : Pick ks N ws nodes M l ns) (hl : l.length < N) (hM : leastI < M) {b : Bool} (hb : b = decide (Go.Proofs.Ytohofcmikfkilaa.bestK ks N nodes ws (l ++ [false]) < M)) : Pick ks N ws nodes M (l ++ [b]) (ns.map fun n => brK ks n l.length b) := by
  have hs := bestK_split (ks := ks) (nodes := nodes) (ws := ws) hl
  rw [p.best] at hs
  have hne : N - l.length = (N - (l ++ [false]).length) + 1 := by simp; omega
  have hx : (exts (N - l.length) l) = exts (N - (l ++ [false]).length) (l ++ [false]) ++ exts (N - (l ++ [true]).length) (l ++ [true]) := by
    rw [hne]; simp only [exts, List.length_append, List.length_singleton]
  refine ⟨by rw [List.length_map]; exact p.len, ?_, ?_, ?_, ?_, ?_⟩
  · intro n hm
    rw [List.mem_map] at hm
    obtain ⟨x, hx, rfl⟩ := hm
    exact brK_lt h (p.lt x hx) hl
  · intro n hm
    rw [List.mem_map] at hm
    obtain ⟨x, hx, rfl⟩ := hm
    have := brK_top h (b := b) (p.lt x hx) hl (p.top x hx)
    simp; omega
  · intro y
    have h1 := p.val ([b] ++ y)
    rw [← List.append_assoc] at h1
    rw [← h1]
    refine valI_congr (by simp) fun i hi => ?_
    have hi' : i < ns.length := by simpa using hi
    rw [getD_map _ _ 0 _ hi']
    exact brK_ev h (p.lt _ (by rw [List.getD_eq_getElem?_getD, List.getElem?_eq_getElem hi']; exact List.getElem_mem _)) hl _ (vf_at l b y)
  · cases b with
    | true =>
      have : Go.Proofs.Ytohofcmikfkilaa.bestK ks N nodes ws (l ++ [false]) < M := by simpa using hb.symm
      omega
    | false =>
      have : ¬ Go.Proofs.Ytohofcmikfkilaa.bestK ks N nodes ws (l ++ [false]) < M := by simpa using hb.symm
      omega
  · rw [p.find, hx, List.find?_append]
    cases b with
    | true =>
      have : Go.Proofs.Ytohofcmikfkilaa.bestK ks N nodes ws (l ++ [false]) < M := by simpa using hb.symm
      rw [bestK_none this]; rfl
    | false =>
      have : ¬ Go.Proofs.Ytohofcmikfkilaa.bestK ks N nodes ws (l ++ [false]) < M := by simpa using hb.symm
      have h2 := bestK_find (ks := ks) (N := N) (nodes := nodes) (ws := ws) (l := l ++ [false]) hM (by omega)
      obtain ⟨x, hx⟩ := Option.isSome_iff_exists.1 h2
      rw [hx]; rfl
omit h in
theorem Pick.finish {l : List Bool} {ns : List Nat} (p : Pick ks N ws nodes M l ns) (hl : l.length = N) (hM : leastI < M) : (exts N []).find? (fun x => valI ks (vf x) nodes ws == M) = some l := by
  have h1 := bestK_find hM p.best
  rw [p.find]
  rw [hl, Nat.sub_self] at h1 ⊢
  simp only [exts] at h1 ⊢
  rw [List.find?_cons] at h1 ⊢
  split
  · rfl
  · rename_i e
    rw [e] at h1
    simp at h1
end
/-! by formulas -/
def fsum (v : Nat → Bool) : List (List Int) → List Int → Int
  | f :: fs, x :: xs => (if evF1 v f then x else 0) + fsum v fs xs
  | _, _ => 0
/-- What a variant is worth: it has to be buildable. -/
def valF (m : Mo) (fs : List (List Int)) (ws : List Int) (x : List Bool) : Int := if allF (vf x) m.rules then fsum (vf x) fs ws else leastI
def bestF (m : Mo) (fs : List (List Int)) (ws : List Int) : Int := maxL ((exts m.opts.length []).map (valF m fs ws))
theorem wsum_fsum {ks : List Kn} {v : Nat → Bool} : ∀ {ns : List Nat} {fs : List (List Int)} {ws : List Int}, ns.length = fs.length → (∀ i, i < ns.length → ev ks v (ns.getD i 0) = evF1 v (fs.getD i [])) → wsum ks v ns ws = fsum v fs ws
  | [], [], ws, _, _ => by cases ws <;> rfl
  | x :: a, y :: b, [], _, _ => rfl
  | x :: a, y :: b, w :: ws, hl, h => by
    have h0 := h 0 (by simp)
    simp only [List.getD_cons_zero] at h0
    simp only [wsum, fsum, h0]
    rw [wsum_fsum (by simpa using hl) fun i hi => by have := h (i + 1) (by simpa using hi); simpa using this]
  | [], y :: b, _, hl, _ => by simp at hl
  | x :: a, [], _, hl, _ => by simp at hl
theorem valI_valF {ks : List Kn} {m : Mo} {n : Nat} {ns : List Nat} {fs : List (List Int)} {ws : List Int} {x : List Bool} (h0 : ev ks (vf x) n = allF (vf x) m.rules) (hl : ns.length = fs.length) (h : ∀ i, i < ns.length → ev ks (vf x) (ns.getD i 0) = evF1 (vf x) (fs.getD i [])) : valI ks (vf x) (n :: ns) ws = valF m fs ws x := by
  unfold valI valF
  simp only [h0]
  rw [wsum_fsum hl h]
end Go.Proofs.Ytohofcmikfkilaa

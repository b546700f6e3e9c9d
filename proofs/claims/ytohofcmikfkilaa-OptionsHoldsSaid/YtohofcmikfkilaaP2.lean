/- Variants in order; which of them a node holds in, and how many. Plain laws. -/
import Derived.Test.YtohofcmikfkilaaRows
import Derived.Test.YtohofcmikfkilaaP1
namespace Go.Proofs.Ytohofcmikfkilaa
set_option linter.unusedVariables false
/-- What a list of choices says of an option. -/
def vf (l : List Bool) : Nat → Bool := fun i => l.getD i false
/-- All variants that begin with a list, in order. -/
def exts : Nat → List Bool → List (List Bool)
  | 0, l => [l]
  | k + 1, l => exts k (l ++ [false]) ++ exts k (l ++ [true])
theorem exts_map : ∀ (k : Nat) (l m : List Bool), exts k (l ++ m) = (exts k m).map (l ++ ·)
  | 0, l, m => rfl
  | k + 1, l, m => by
    simp only [exts, List.map_append]
    rw [List.append_assoc, List.append_assoc, exts_map k l, exts_map k l]
theorem exts_nil (k : Nat) (l : List Bool) : exts k l = (exts k []).map (l ++ ·) := by
  have := exts_map k l []
  rwa [List.append_nil] at this
theorem exts_len : ∀ (k : Nat) (l x : List Bool), x ∈ exts k l → x.length = l.length + k
  | 0, l, x, h => by simp [exts] at h; subst h; rfl
  | k + 1, l, x, h => by
    simp only [exts, List.mem_append] at h
    rcases h with h | h <;> have := exts_len k _ x h <;> simp at this <;> omega
theorem exts_all : ∀ (k : Nat) (x : List Bool), x.length = k → x ∈ exts k []
  | 0, x, h => by simp [exts]; exact List.length_eq_zero_iff.1 h
  | k + 1, x, h => by
    match x, h with
    | b :: r, h =>
      have h1 : r.length = k := by simpa using h
      have := exts_all k r h1
      simp only [exts, List.mem_append]
      cases b
      · refine .inl ?_
        rw [exts_nil, List.mem_map]
        exact ⟨r, this, rfl⟩
      · refine .inr ?_
        rw [exts_nil, List.mem_map]
        exact ⟨r, this, rfl⟩
theorem exts_length : ∀ (k : Nat) (l : List Bool), (exts k l).length = 2 ^ k
  | 0, l => rfl
  | k + 1, l => by simp only [exts, List.length_append, exts_length k]; omega
theorem exts_prefix {k : Nat} {l x : List Bool} (h : x ∈ exts k l) : ∃ y, x = l ++ y ∧ y.length = k := by
  rw [exts_nil, List.mem_map] at h
  obtain ⟨y, hy, rfl⟩ := h
  exact ⟨y, rfl, by simpa using exts_len k [] y hy⟩
theorem vf_left {l y : List Bool} {i : Nat} (hi : i < l.length) : vf (l ++ y) i = vf l i := by
  simp [vf, List.getD_eq_getElem?_getD, List.getElem?_append_left hi]
theorem vf_at (l : List Bool) (b : Bool) (y : List Bool) : vf (l ++ [b] ++ y) l.length = b := by
  simp [vf, List.getD_eq_getElem?_getD]
theorem vf_right {l y : List Bool} {i : Nat} (hi : l.length ≤ i) : vf (l ++ y) i = vf y (i - l.length) := by
  simp [vf, List.getD_eq_getElem?_getD, List.getElem?_append_right hi]

/-- The variants in which a node holds that begin with a list. -/
def sat (ks : List Kn) (N n : Nat) (l : List Bool) : List (List Bool) := (exts (N - l.length) l).filter fun x => ev ks (vf x) n
theorem sat_zero (ks : List Kn) (N : Nat) (l : List Bool) : sat ks N 0 l = [] := by
  unfold sat; rw [List.filter_eq_nil_iff]; intro x _; simp [ev_zero]
theorem sat_one (ks : List Kn) (N : Nat) (l : List Bool) : sat ks N 1 l = exts (N - l.length) l := by
  unfold sat; rw [List.filter_eq_self]; intro x _; simp [ev_one]
theorem sat_full {ks : List Kn} {N n : Nat} {l : List Bool} (hl : N ≤ l.length) : sat ks N n l = if ev ks (vf l) n then [l] else [] := by
  unfold sat
  rw [show N - l.length = 0 from by omega]
  simp only [exts, List.filter_cons, List.filter_nil]
theorem sat_split {ks : List Kn} {N n : Nat} {l : List Bool} (hl : l.length < N) : sat ks N n l = sat ks N n (l ++ [false]) ++ sat ks N n (l ++ [true]) := by
  unfold sat
  rw [show N - l.length = (N - (l ++ [false]).length) + 1 from by simp; omega]
  simp only [exts, List.filter_append, List.length_append, List.length_singleton]
section
variable {N : Nat} {ks : List Kn} (h : WF N ks)
include h
theorem sat_br {n : Nat} {l : List Bool} {b : Bool} (hn : n < ks.length) (hl : l.length < N) : sat ks N (brK ks n l.length b) (l ++ [b]) = sat ks N n (l ++ [b]) := by
  unfold sat
  refine List.filter_congr fun x hx => ?_
  obtain ⟨y, rfl, _⟩ := exts_prefix hx
  exact brK_ev h hn hl _ (vf_at l b y)
theorem sat_step {n : Nat} {l : List Bool} (hn : n < ks.length) (hl : l.length < N) : sat ks N n l = sat ks N (brK ks n l.length false) (l ++ [false]) ++ sat ks N (brK ks n l.length true) (l ++ [true]) := by
  rw [sat_split hl, sat_br h hn hl, sat_br h hn hl]
/-- A node that is not 'no' holds somewhere. -/
theorem ev_some {n : Nat} (hn : n < ks.length) (h0 : n ≠ 0) : ∃ v, ev ks v n = true := by
  have h2 := h.two
  rcases Classical.em (∃ v, ev ks v n = true) with hv | hv
  · exact hv
  · exact absurd (canonical h hn (by omega) (fun v => by
      have h1 : ¬ ev ks v n = true := fun e => hv ⟨v, e⟩
      rw [ev_zero]; simpa using h1)) h0
theorem sat_ne {n : Nat} {l : List Bool} (hn : n < ks.length) (h0 : n ≠ 0) (hl : l.length ≤ topK ks n) : sat ks N n l ≠ [] := by
  obtain ⟨v, hv⟩ := ev_some h hn h0
  have ht := h.top_le n hn
  have hx : l ++ (List.range (N - l.length)).map (fun i => v (l.length + i)) ∈ sat ks N n l := by
    unfold sat
    refine List.mem_filter.2 ⟨?_, ?_⟩
    · rw [exts_nil, List.mem_map]
      exact ⟨_, exts_all _ _ (by simp), rfl⟩
    · rw [← hv]
      refine ev_congr h _ _ n hn fun i h1 h2 => ?_
      rw [vf_right (by omega)]
      unfold vf
      simp only [List.getD_eq_getElem?_getD, List.getElem?_map]
      rw [List.getElem?_range (by omega)]
      simp only [Option.map_some, Option.getD_some]
      congr 1
      omega
  intro e
  rw [e] at hx
  cases hx
theorem sat_len {n : Nat} {l l' : List Bool} (hn : n < ks.length) (he : l.length = l'.length) (hl : l.length ≤ topK ks n) : (sat ks N n l).length = (sat ks N n l').length := by
  unfold sat
  rw [exts_nil _ l, exts_nil _ l', List.filter_map, List.filter_map, List.length_map, List.length_map, he]
  congr 1
  refine List.filter_congr fun x hx => ?_
  refine ev_congr h _ _ n hn fun i h1 h2 => ?_
  show vf (l ++ x) i = vf (l' ++ x) i
  rw [vf_right (by omega), vf_right (by omega), he]
omit h in
/-- In how many variants of the options from one on a node holds. -/
def cntK (ks : List Kn) (N n o : Nat) : Nat := (sat ks N n (List.replicate o false)).length
theorem cntK_of {n : Nat} {l : List Bool} (hn : n < ks.length) (hl : l.length ≤ topK ks n) : (sat ks N n l).length = cntK ks N n l.length :=
  sat_len h hn (by simp) hl
omit h in
theorem cntK_zero (o : Nat) : cntK ks N 0 o = 0 := by unfold cntK; rw [sat_zero]; rfl
theorem cntK_lift {n : Nat} (hn : n < ks.length) : ∀ (k o : Nat), o + k = topK ks n → cntK ks N n o = cntK ks N n (topK ks n) * 2 ^ k
  | 0, o, ho => by rw [show o = topK ks n from by omega]; simp
  | k + 1, o, ho => by
    have ht := h.top_le n hn
    have ih := cntK_lift hn k (o + 1) (by omega)
    unfold cntK at ih ⊢
    rw [sat_split (by simp; omega), List.length_append, sat_len h hn (l' := List.replicate (o + 1) false) (by simp) (by simp; omega), sat_len h hn (l := List.replicate o false ++ [true]) (l' := List.replicate (o + 1) false) (by simp) (by simp; omega), ih, Nat.pow_succ, ← Nat.mul_assoc]
    omega
omit h in
theorem cntK_one : cntK ks N 1 N = 1 := by
  unfold cntK; rw [sat_one, exts_length]; simp
theorem cntK_node {n : Nat} (h2 : 2 ≤ n) (hn : n < ks.length) : cntK ks N n (topK ks n) = cntK ks N (lowK ks n) (topK ks n + 1) + cntK ks N (highK ks n) (topK ks n + 1) := by
  have ht := h.opt n h2 hn
  have hl := h.low n h2 hn
  have hh := h.high n h2 hn
  have tl := h.topl n h2 hn
  have th := h.toph n h2 hn
  unfold cntK
  rw [sat_step h hn (by simpa using ht), List.length_append, List.length_replicate]
  have e1 : brK ks n (topK ks n) false = lowK ks n := by unfold brK; rw [if_pos rfl]; rfl
  have e2 : brK ks n (topK ks n) true = highK ks n := by unfold brK; rw [if_pos rfl]; rfl
  rw [e1, e2, sat_len h (by omega) (l' := List.replicate (topK ks n + 1) false) (by simp) (by simp; omega), sat_len h (n := highK ks n) (by omega) (l' := List.replicate (topK ks n + 1) false) (by simp) (by simp; omega)]
end
theorem cntK_le (ks : List Kn) (N n o : Nat) : cntK ks N n o ≤ 2 ^ (N - o) := by
  unfold cntK sat
  refine Nat.le_trans (List.length_filter_le _ _) ?_
  rw [exts_length]; simp
/-! more nodes change nothing -/
theorem sat_old {N : Nat} {ks : List Kn} (h : WF N ks) (e : List Kn) {n : Nat} (hn : n < ks.length) (l : List Bool) : sat (ks ++ e) N n l = sat ks N n l := by
  unfold sat
  exact List.filter_congr fun x _ => ev_old h e _ hn
end Go.Proofs.Ytohofcmikfkilaa

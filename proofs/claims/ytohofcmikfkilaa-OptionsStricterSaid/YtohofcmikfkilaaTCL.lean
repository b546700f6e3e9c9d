/- Group L of this claim's texts: walks and plain laws. -/
import Derived.Test.YtohofcmikfkilaaRows
import Derived.Test.YtohofcmikfkilaaTCG
import Derived.Test.YtohofcmikfkilaaTCH
import Derived.Test.YtohofcmikfkilaaTCK
import Derived.Laws.EntriesVeiled
/- A diagram in the order of a walk, and made by going through all variants: both are the same. Plain laws. -/
namespace Go.Proofs.Ytohofcmikfkilaa
set_option linter.unusedVariables false
theorem Kt.ext' {a b : Kt} (h1 : a.o = b.o) (h2 : a.l = b.l) (h3 : a.h = b.h) : a = b := by cases a; cases b; simp_all
instance : DecidableEq Kt := fun a b => if h : a.o = b.o ∧ a.l = b.l ∧ a.h = b.h then .isTrue (Kt.ext' h.1 h.2.1 h.2.2) else .isFalse fun e => h (by rw [e]; exact ⟨rfl, rfl, rfl⟩)
/-- What has been listed, and which nodes have a number. -/
structure DSt where
  out : List Kt
  num : Nat → Option Int
def DSt.start : DSt := ⟨[], putM (putM (fun _ => none) 0 (-1)) 1 (-2)⟩
def DSt.add (S : DSt) (n o : Nat) (lo hi : Int) : DSt := ⟨S.out ++ [⟨o, lo, hi⟩], putM S.num n S.out.length⟩
def visF (ks : List Kn) : Nat → Nat → DSt → DSt × Int
  | 0, n, S => (S, (S.num n).getD 0)
  | f + 1, n, S => match S.num n with
    | some x => (S, x)
    | none => ((visF ks f (highK ks n) (visF ks f (lowK ks n) S).1).1.add n (topK ks n) (visF ks f (lowK ks n) S).2 (visF ks f (highK ks n) (visF ks f (lowK ks n) S).1).2, (((visF ks f (highK ks n) (visF ks f (lowK ks n) S).1).1.out.length : Nat) : Int))
structure DInv (ks : List Kn) (S : DSt) : Prop where
  z : S.num 0 = some (-1)
  o : S.num 1 = some (-2)
  at_ : ∀ n x, 2 ≤ n → S.num n = some x → n < ks.length ∧ ∃ i : Nat, x = i ∧ i < S.out.length ∧ ∃ lo hi, S.num (lowK ks n) = some lo ∧ S.num (highK ks n) = some hi ∧ S.out.getD i Kt.z = ⟨topK ks n, lo, hi⟩
  inj : ∀ n n' x, S.num n = some x → S.num n' = some x → n = n'
  all : ∀ i, i < S.out.length → ∃ n, 2 ≤ n ∧ S.num n = some (i : Int)
theorem putM_self {m : Nat → Option Int} {n : Nat} {x : Int} : putM m n x n = some x := by simp [putM]
theorem putM_ne {m : Nat → Option Int} {n k : Nat} {x : Int} (h : k ≠ n) : putM m n x k = m k := by simp [putM, h]
theorem DInv.start (ks : List Kn) : DInv ks DSt.start := by
  have h2 : ∀ n x, 2 ≤ n → DSt.start.num n = some x → False := fun n x hn h => by
    have e : DSt.start.num n = none := by
      show putM (putM (fun _ => none) 0 (-1)) 1 (-2) n = none
      rw [putM_ne (by omega), putM_ne (by omega)]
    rw [e] at h
    cases h
  refine ⟨rfl, rfl, fun n x hn h => (h2 n x hn h).elim, fun n n' x h h' => ?_, fun i hi => by simp [DSt.start] at hi⟩
  have hn : n < 2 := by
    rcases Nat.lt_or_ge n 2 with q | q
    · exact q
    · exact (h2 n x q h).elim
  have hn' : n' < 2 := by
    rcases Nat.lt_or_ge n' 2 with q | q
    · exact q
    · exact (h2 n' x q h').elim
  have e0 : DSt.start.num 0 = some (-1) := rfl
  have e1 : DSt.start.num 1 = some (-2) := rfl
  rcases (by omega : n = 0 ∨ n = 1) with rfl | rfl <;> rcases (by omega : n' = 0 ∨ n' = 1) with rfl | rfl
  · rfl
  · rw [e0] at h; rw [e1] at h'; injection h with h; injection h' with h'; omega
  · rw [e1] at h; rw [e0] at h'; injection h with h; injection h' with h'; omega
  · rfl
theorem DInv.add {N : Nat} {ks : List Kn} (hw : WF N ks) {S : DSt} {n : Nat} {lo hi : Int} (h : DInv ks S) (h2 : 2 ≤ n) (hn : n < ks.length) (h0 : S.num n = none) (hl : S.num (lowK ks n) = some lo) (hh : S.num (highK ks n) = some hi) : DInv ks (S.add n (topK ks n) lo hi) := by
  have hnl := hw.low n h2 hn
  have hnh := hw.high n h2 hn
  have hlen : (S.add n (topK ks n) lo hi).out.length = S.out.length + 1 := by simp [DSt.add]
  have hnum : (S.add n (topK ks n) lo hi).num = putM S.num n S.out.length := rfl
  have hout : ∀ i, (S.add n (topK ks n) lo hi).out.getD i Kt.z = if i < S.out.length then S.out.getD i Kt.z else if i = S.out.length then ⟨topK ks n, lo, hi⟩ else Kt.z := fun i => getD_push
  have hlt : ∀ k x, S.num k = some x → k ≠ n := fun k x hk e => by rw [e, h0] at hk; cases hk
  have hbig : ∀ k, S.num k ≠ some (S.out.length : Int) := fun k hk => by
    rcases Nat.lt_or_ge k 2 with q | q
    · rcases (by omega : k = 0 ∨ k = 1) with rfl | rfl
      · rw [h.z] at hk; injection hk with hk; omega
      · rw [h.o] at hk; injection hk with hk; omega
    · obtain ⟨_, i, hi1, hi2, _⟩ := h.at_ k _ q hk
      omega
  refine ⟨?_, ?_, fun k x hk hx => ?_, fun k k' x hk hk' => ?_, fun i hi => ?_⟩
  · rw [hnum, putM_ne (by omega)]; exact h.z
  · rw [hnum, putM_ne (by omega)]; exact h.o
  · rw [hnum] at hx
    by_cases hkn : k = n
    · subst hkn
      rw [putM_self] at hx
      injection hx with hx
      refine ⟨hn, S.out.length, hx.symm, by omega, lo, hi, ?_, ?_, ?_⟩
      · rw [hnum, putM_ne (by omega)]; exact hl
      · rw [hnum, putM_ne (by omega)]; exact hh
      · rw [hout, if_neg (by omega), if_pos rfl]
    · rw [putM_ne hkn] at hx
      obtain ⟨q1, i, q2, q3, lo', hi', q4, q5, q6⟩ := h.at_ k x hk hx
      refine ⟨q1, i, q2, by omega, lo', hi', ?_, ?_, ?_⟩
      · rw [hnum, putM_ne (hlt _ _ q4)]; exact q4
      · rw [hnum, putM_ne (hlt _ _ q5)]; exact q5
      · rw [hout, if_pos q3]; exact q6
  · rw [hnum] at hk hk'
    by_cases hkn : k = n
    · subst hkn
      rw [putM_self] at hk
      injection hk with hk
      by_cases hkn' : k' = k
      · exact hkn'.symm
      · rw [putM_ne hkn', ← hk] at hk'
        exact absurd hk' (hbig _)
    · rw [putM_ne hkn] at hk
      by_cases hkn' : k' = n
      · subst hkn'
        rw [putM_self] at hk'
        injection hk' with hk'
        rw [← hk'] at hk
        exact absurd hk (hbig _)
      · rw [putM_ne hkn'] at hk'
        exact h.inj k k' x hk hk'
  · rw [hnum]
    by_cases hil : i < S.out.length
    · obtain ⟨k, hk, hk2⟩ := h.all i hil
      exact ⟨k, hk, by rw [putM_ne (hlt _ _ hk2)]; exact hk2⟩
    · have : i = S.out.length := by omega
      subst this
      exact ⟨n, h2, putM_self⟩
/-- What a visit leaves. -/
structure VisP (ks : List Kn) (n : Nat) (S : DSt) (r : DSt × Int) : Prop where
  inv : DInv ks r.1
  num : r.1.num n = some r.2
  mono : ∀ k x, S.num k = some x → r.1.num k = some x
  up : ∀ k, n < k → r.1.num k = S.num k
/-- No other knot is the same. -/
theorem DInv.same {N : Nat} {ks : List Kn} (hw : WF N ks) {S : DSt} (h : DInv ks S) {m : Nat} {lo hi : Int} (h2 : 2 ≤ m) (hm : m < ks.length) (hl : S.num (lowK ks m) = some lo) (hh : S.num (highK ks m) = some hi) {j : Nat} (hj : j < S.out.length) (he : S.out.getD j Kt.z = ⟨topK ks m, lo, hi⟩) : S.num m = some (j : Int) := by
  obtain ⟨n, hn2, hn⟩ := h.all j hj
  obtain ⟨hn3, i, hi1, hi2, lo', hi', q1, q2, q3⟩ := h.at_ n _ hn2 hn
  obtain rfl : j = i := by omega
  rw [he] at q3
  injection q3 with e1 e2 e3
  subst e2 e3
  have k1 := h.inj _ _ _ hl q1
  have k2 := h.inj _ _ _ hh q2
  have k3 : topK ks m = topK ks n := by omega
  have : m = n := hw.inj m n h2 hm hn2 hn3 (Kn.ext' k3 k1 k2)
  rw [this]
  exact hn
def bldF (g : List Bool → Bool) : Nat → List Bool → List Kt → List Kt × Int
  | 0, l, K => (K, if g l then -2 else -1)
  | d + 1, l, K =>
    if (bldF g d (l ++ [false]) K).2 = (bldF g d (l ++ [true]) (bldF g d (l ++ [false]) K).1).2 then ((bldF g d (l ++ [true]) (bldF g d (l ++ [false]) K).1).1, (bldF g d (l ++ [false]) K).2)
    else if 0 ≤ idxI (fun x => decide (x = ⟨l.length, (bldF g d (l ++ [false]) K).2, (bldF g d (l ++ [true]) (bldF g d (l ++ [false]) K).1).2⟩)) (bldF g d (l ++ [true]) (bldF g d (l ++ [false]) K).1).1 then ((bldF g d (l ++ [true]) (bldF g d (l ++ [false]) K).1).1, idxI (fun x => decide (x = ⟨l.length, (bldF g d (l ++ [false]) K).2, (bldF g d (l ++ [true]) (bldF g d (l ++ [false]) K).1).2⟩)) (bldF g d (l ++ [true]) (bldF g d (l ++ [false]) K).1).1)
    else ((bldF g d (l ++ [true]) (bldF g d (l ++ [false]) K).1).1 ++ [⟨l.length, (bldF g d (l ++ [false]) K).2, (bldF g d (l ++ [true]) (bldF g d (l ++ [false]) K).1).2⟩], (((bldF g d (l ++ [true]) (bldF g d (l ++ [false]) K).1).1.length : Nat) : Int))
end Go.Proofs.Ytohofcmikfkilaa
/- The knots of a diagram in order: walk of the visit. -/
namespace Go.Proofs.Ytohofcmikfkilaa
open Go.RowKit
set_option linter.unusedVariables false
set_option linter.unusedSimpArgs false
def ktsL (K : List Kt) : List Value := K.flatMap fun k => [.int .i64 k.o, .int .i64 k.l, .int .i64 k.h]
/-- Knots in a slice of the call's own. -/
def KStk (B : Nat) (w : World) (sv : Value) (K : List Kt) : Prop := w.ownsRow B 114 3 sv K.length (ktsL K)
/-- The closure and what it has captured. -/
structure VAt (w : World) (F : Fo) (bn bt bv bo mb B : Nat) (S : DSt) (ov : Value) : Prop where
  n : w.heap[bn]? = some (.cells #[.map (some mb)] 112 (0, 0))
  t : w.heap[bt]? = some (.cells #[.pointer (some ⟨F.p, 0, none⟩)] 86 (0, 0))
  v : w.heap[bv]? = some (.cells #[.func (.func 106) #[] #[.pointer (some ⟨bn, 0, none⟩), .pointer (some ⟨bt, 0, none⟩), .pointer (some ⟨bv, 0, none⟩), .pointer (some ⟨bo, 0, none⟩)]] 122 (0, 0))
  o : w.heap[bo]? = some (.cells #[ov] 44 (0, 0))
  row : KStk B w ov S.out
  fo : FoAt w F
  map : MapIs Try.prog w 3 3 mb (S.out.length + 2) enN S.num
  nS : ¬ SF F bo ∧ ¬ SF F mb ∧ ∀ b, ov.ownBlock = some b → ¬ SF F b
  inv : DInv F.ks S
/-- What a visit changes. -/
def visS (bo mb : Nat) (ov : Value) (k : Nat) : Prop := k = bo ∨ k = mb ∨ ov.ownBlock = some k
def VisR (F : Fo) (f n bn bt bv bo mb B : Nat) (S : DSt) (ov : Value) (w : World) (e : Ending) (w' : World) : Prop :=
  ∃ ov', e = .returned (.int .i64 (visF F.ks f n S).2) ∧ VAt w' F bn bt bv bo mb B (visF F.ks f n S).1 ov' ∧ Keeps (visS bo mb ov) w w' ∧ (∀ k, ov'.ownBlock = some k → ov.ownBlock = some k ∨ w.heap.size ≤ k)
theorem VAt.below {w w' : World} {F : Fo} {bn bt bv bo mb B : Nat} {S : DSt} {ov : Value} (h : VAt w F bn bt bv bo mb B S ov) (hb : Below w.heap.size w w') : VAt w' F bn bt bv bo mb B S ov :=
  ⟨box_to h.n hb, box_to h.t hb, box_to h.v hb, box_to h.o hb, owns_below h.row hb, h.fo.below hb, h.map.same (hb.block _ h.map.lt), h.nS, h.inv⟩
theorem KStk.shape {B : Nat} {w : World} {sv : Value} {K : List Kt} (h : KStk B w sv K) : ∃ A cap, sv = .slice A K.length cap ∧ K.length ≤ cap ∧ cap ≤ maxLen := by
  rcases h.2 with ⟨h1, h2⟩ | ⟨g, cap, cur, h1, _, _, h2, h3, _⟩
  · exact ⟨none, 0, by rw [h1, h2], by omega, by unfold maxLen; omega⟩
  · exact ⟨_, cap, h1, h2, h3⟩
end Go.Proofs.Ytohofcmikfkilaa
/- The knots of a diagram in order, and Diagram: walks. -/
namespace Go.Proofs.Ytohofcmikfkilaa
open Go.RowKit
open Go.Maps (Keyed)
set_option linter.unusedVariables false
set_option linter.unusedSimpArgs false
theorem results_cell_tmp {P : Program} {fn : Func} {p u : Tmp} {ty : TypeId} (h : fn.results = #[.cell p ty, .tmp u]) (tmps : Array Value) (w : World) :
    (results fn tmps).run P w = ((asAddr (tmps.getD p undef)).run P w).andThen fun a w₁ => ((loadVar ty a).run P w₁).andThen fun v w₂ => .ok (.tuple #[v, tmps.getD u undef]) w₂ := by
  simp only [results, h]
  simp [Sem.run_bind, Result.andThen]
  try (congr; done)
/-- The diagram of a formula in buildable variants. -/
def bldM (m : Mo) (f : List Int) : List Kt × Int := bldF (fun x => allF (vf x) m.rules && evF1 (vf x) f) m.opts.length [] []
/-- What Diagram returns. -/
def digE (m : Mo) (f : List Int) : Int := if m.errF [f] ≠ 0 then m.errF [f] else if 2000 < (bldM m f).1.length then 2 else 0
def digK (m : Mo) (f : List Int) : List Kt := if digE m f = 0 then (bldM m f).1 else []
def digR (m : Mo) (f : List Int) : Int := if digE m f = 0 then (bldM m f).2 else 0
theorem dig_bad {m : Mo} {f : List Int} {z : Int} (h : digE m f = z) (hz : z ≠ 0) : digK m f = [] ∧ digR m f = 0 := by unfold digK digR; rw [h, if_neg hz, if_neg hz]; exact ⟨rfl, rfl⟩
def DigP (K : List Kt) (r er : Int) (w : World) (e : Ending) (w' : World) : Prop := ∃ v, e = .returned (.tuple #[v, .int .i64 r, .int .i64 er]) ∧ Kts w' w'.heap.size v K ∧ Below w.heap.size w w'
theorem DigP.bad {m : Mo} {f : List Int} {z : Int} {w w' : World} (h : digE m f = z) (hz : z ≠ 0) (hb : Below w.heap.size w w') : DigP (digK m f) (digR m f) (digE m f) w (.returned (.tuple #[.slice none 0 0, .int .i64 0, .int .i64 z])) w' := by
  obtain ⟨h1, h2⟩ := dig_bad h hz
  rw [h1, h2, h]
  exact ⟨_, rfl, Sl.nil _ _ _ _, hb⟩
end Go.Proofs.Ytohofcmikfkilaa
/- A diagram made by going through all variants, as the elder program has it: walk of build. -/
namespace Go.Proofs.Ytohofcmikfkilaa
open Go.RowKit
set_option linter.unusedVariables false
set_option linter.unusedSimpArgs false
/-- What two statements of one call have made. -/
def bldR (w0 : World) (l : List Bool) (x : Bool) (j : Nat) (v : Value) (w : World) : Prop :=
  match j with
  | 3 => w.ownsRow w0.heap.size 4 1 v l.length (l.map Value.bool)
  | 4 => ∃ b, v = .slice (some ⟨b, 0, none⟩) 1 1 ∧ w0.heap.size ≤ b ∧ b < w.heap.size ∧ w.cell? ⟨b, 0, none⟩ = some (.bool x)
  | _ => True
/-- What build returns. -/
def BldP (kv : Value) (B : Nat) (K : List Kt) (r : Int) (w : World) (e : Ending) (w' : World) : Prop :=
  ∃ kv', e = .returned (.tuple #[kv', .int .i64 r]) ∧ KStk B w' kv' K ∧ Keeps (fun b => kv.ownBlock = some b) w w' ∧ ∀ b, kv'.ownBlock = some b → kv.ownBlock = some b ∨ w.heap.size ≤ b
/-- Where a variant is buildable and the formula holds. -/
def bldG (m : Mo) (f : List Int) (x : List Bool) : Bool := allF (vf x) m.rules && evF1 (vf x) f
/-- What the call reads. -/
structure BAt (W : World) (b B : Nat) (m : Mo) (f : List Int) (l : List Bool) (ov rv fv bv : Value) : Prop where
  x : MoBox W b ov rv
  m : MoAt W B ov rv m
  f : Ints W B fv f
  v : Bols W W.heap.size bv l
theorem BAt.keep {W W' : World} {b B : Nat} {m : Mo} {f : List Int} {l : List Bool} {ov rv fv bv : Value} {S : Nat → Prop} (h : BAt W b B m f l ov rv fv bv) (hk : Keeps S W W') (hB : B ≤ W.heap.size) (hS : ∀ k, S k → B ≤ k) (hb : ¬ S b) (hv : ∀ k, 0 < l.length → bv.ownBlock = some k → ¬ S k) : BAt W' b B m f l ov rv fv bv :=
  ⟨(hk.block _ (box_lt h.x) hb).trans h.x, h.m.below (hk.below hB hS), h.f.below (hk.below hB hS), Sl.more (GRow.stay (enc := Value.bool) (z := false) h.v fun k hl hb' hlt => hk.block k hlt (hv k hl hb')) hk.size⟩
end Go.Proofs.Ytohofcmikfkilaa
/- Diagram as the elder program has it: walk. -/
namespace Go.Proofs.Ytohofcmikfkilaa
open Go.RowKit
set_option linter.unusedVariables false
set_option linter.unusedSimpArgs false
theorem DigP.of {m : Mo} {f : List Int} {x r : Int} {K : List Kt} {v : Value} {w w' : World} (h : digE m f = x ∧ digK m f = K ∧ digR m f = r) (hk : Kts w' w'.heap.size v K) (hb : Below w.heap.size w w') : DigP (digK m f) (digR m f) (digE m f) w (.returned (.tuple #[v, .int .i64 r, .int .i64 x])) w' := by
  rw [h.1, h.2.1, h.2.2]
  exact ⟨_, rfl, hk, hb⟩
end Go.Proofs.Ytohofcmikfkilaa
/- The same knots: walk. -/
namespace Go.Proofs.Ytohofcmikfkilaa
open Go.RowKit
set_option linter.unusedVariables false
set_option linter.unusedSimpArgs false
end Go.Proofs.Ytohofcmikfkilaa

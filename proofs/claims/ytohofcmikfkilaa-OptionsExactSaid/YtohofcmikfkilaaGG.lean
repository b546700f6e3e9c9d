/- Group G of this claim's texts: walks and plain laws. -/
import Derived.Test.YtohofcmikfkilaaRows
import Derived.Test.YtohofcmikfkilaaGE
import Derived.Test.YtohofcmikfkilaaGF
import Derived.Deep.RegionHeld3
import Derived.Deep.DrawnRows
import Derived.Deep.DeepMust
import Derived.OwnWalk
/- Diagrams handed in, and where a variant comes to in one. Plain laws; the arguments opened: no condition. -/
namespace Go.Proofs.Ytohofcmikfkilaa
open Go.Joins Go.ChangeShapes Go.WideShapes Go.ChangeAt Go.RowKit Go.Deep
set_option maxRecDepth 100000
set_option linter.unusedVariables false
set_option linter.unusedSimpArgs false
structure Kt where
  o : Int
  l : Int
  h : Int
def Kt.z : Kt := ⟨0, 0, 0⟩
def ktF (k : Kt) (j : Nat) : Value := match j with
  | 0 => .int .i64 k.o
  | 1 => .int .i64 k.l
  | _ => .int .i64 k.h
def Kts (w : World) (B : Nat) (v : Value) (ks : List Kt) : Prop := Sl w B 3 v ks.length (fun i j => ktF (ks.getD i Kt.z) j)
theorem kAt {w : World} {B b off : Nat} {A : Option Addr} {ks : List Kt} {k : Nat} (hA : A = some ⟨b, off, none⟩ ∧ b < B ∨ ks.length = 0)
    (hc : ∀ i j, i < ks.length → j < 3 → w.cell? ⟨b, off + (i * 3 + j), none⟩ = some (ktF (ks.getD i Kt.z) j)) (hk : k < ks.length) :
    A = some ⟨b, off, none⟩ ∧ b < B ∧ w.cell? ⟨b, off + k * 3, none⟩ = some (.int .i64 (ks.getD k Kt.z).o) ∧ w.cell? ⟨b, off + k * 3 + 1, none⟩ = some (.int .i64 (ks.getD k Kt.z).l) ∧ w.cell? ⟨b, off + k * 3 + 2, none⟩ = some (.int .i64 (ks.getD k Kt.z).h) := by
  rcases hA with ⟨h1, h2⟩ | h
  · exact ⟨h1, h2, hc k 0 hk (by omega), hc k 1 hk (by omega), hc k 2 hk (by omega)⟩
  · omega
/-- Whether one may go on to a place. -/
def goB (ks : List Kt) (before : Nat) (o q : Int) : Bool := q == -1 || q == -2 || (decide (0 ≤ q) && decide (q < before) && decide (o < (ks.getD q.toNat Kt.z).o))
def okB (n : Nat) (ks : List Kt) (i : Nat) : Bool := decide (0 ≤ (ks.getD i Kt.z).o) && decide ((ks.getD i Kt.z).o < n) && goB ks i (ks.getD i Kt.z).o (ks.getD i Kt.z).l && goB ks i (ks.getD i Kt.z).o (ks.getD i Kt.z).h
/-- Where one goes on from a knot. -/
def nxt (ks : List Kt) (v : List Bool) (r : Int) : Int := if v.getD (ks.getD r.toNat Kt.z).o.toNat false then (ks.getD r.toNat Kt.z).h else (ks.getD r.toNat Kt.z).l
def flw (ks : List Kt) (v : List Bool) : Nat → Int → Int
  | 0, r => r
  | n + 1, r => if r < 0 then r else flw ks v n (nxt ks v r)
theorem flw_neg (ks : List Kt) (v : List Bool) (n : Nat) {r : Int} (h : r < 0) : flw ks v n r = r := by
  cases n with
  | zero => rfl
  | succ n => simp only [flw]; rw [if_pos h]
theorem flw_go (ks : List Kt) (v : List Bool) (n : Nat) {r : Int} (h : 0 ≤ r) : flw ks v (n + 1) r = flw ks v n (nxt ks v r) := by
  simp only [flw]; rw [if_neg (by omega)]
theorem goB_bd {ks : List Kt} {before : Nat} {o q : Int} (h : goB ks before o q = true) : -2 ≤ q ∧ q < before := by
  unfold goB at h
  simp only [Bool.or_eq_true, Bool.and_eq_true, decide_eq_true_eq, beq_iff_eq] at h
  omega
theorem nxt_bd {n : Nat} {ks : List Kt} {v : List Bool} {k : Nat} (h : okB n ks k = true) : -2 ≤ nxt ks v k ∧ nxt ks v k < k := by
  unfold okB at h
  simp only [Bool.and_eq_true] at h
  have h1 := goB_bd h.1.2
  have h2 := goB_bd h.2
  unfold nxt
  rw [Int.toNat_natCast]
  split
  · exact h2
  · exact h1
theorem okB_bd {n : Nat} {ks : List Kt} {k : Nat} (h : okB n ks k = true) : 0 ≤ (ks.getD k Kt.z).o ∧ (ks.getD k Kt.z).o < n := by
  unfold okB at h
  simp only [Bool.and_eq_true, decide_eq_true_eq] at h
  exact h.1.1
def allB (n : Nat) (ks : List Kt) : Bool := (List.range ks.length).all (okB n ks)
theorem allB_yes {n : Nat} {ks : List Kt} (h : ∀ i, i < ks.length → okB n ks i = true) : allB n ks = true := by
  unfold allB
  rw [List.all_eq_true]
  intro i hi
  exact h i (List.mem_range.1 hi)
theorem allB_no {n : Nat} {ks : List Kt} {i : Nat} (hi : i < ks.length) (h : okB n ks i = false) : allB n ks = false := by
  rw [Bool.eq_false_iff]
  intro h1
  unfold allB at h1
  rw [List.all_eq_true] at h1
  have := h1 i (List.mem_range.2 hi)
  rw [h] at this
  cases this
/-- What Follow returns. -/
def folE (m : Mo) (ks : List Kt) (r : Int) (v : List Bool) : Int := if m.err ≠ 0 then m.err else if 2000 < ks.length ∨ allB m.opts.length ks = false ∨ r < -2 ∨ (ks.length : Int) ≤ r ∨ v.length ≠ m.opts.length then 1 else 0
def folB (m : Mo) (ks : List Kt) (r : Int) (v : List Bool) : Bool := if folE m ks r v = 0 then flw ks v ks.length r == -2 else false
theorem fol_err {m : Mo} {ks : List Kt} {r : Int} {v : List Bool} (h : m.err ≠ 0) : folE m ks r v = m.err ∧ folB m ks r v = false := by
  have h1 : folE m ks r v = m.err := by unfold folE; rw [if_pos h]
  exact ⟨h1, by unfold folB; rw [h1, if_neg h]⟩
theorem fol_arg {m : Mo} {ks : List Kt} {r : Int} {v : List Bool} (h : m.err = 0) (h2 : 2000 < ks.length ∨ allB m.opts.length ks = false ∨ r < -2 ∨ (ks.length : Int) ≤ r ∨ v.length ≠ m.opts.length) : folE m ks r v = 1 ∧ folB m ks r v = false := by
  have h1 : folE m ks r v = 1 := by unfold folE; rw [if_neg (by simp [h]), if_pos h2]
  exact ⟨h1, by unfold folB; rw [h1, if_neg (by omega)]⟩
theorem fol_ok {m : Mo} {ks : List Kt} {r : Int} {v : List Bool} (h : m.err = 0) (h1 : ks.length ≤ 2000) (h2 : allB m.opts.length ks = true) (h3 : -2 ≤ r) (h4 : r < ks.length) (h5 : v.length = m.opts.length) : folE m ks r v = 0 ∧ folB m ks r v = (flw ks v ks.length r == -2) := by
  have h0 : folE m ks r v = 0 := by
    unfold folE
    rw [if_neg (by simp [h]), if_neg ?_]
    rintro (h6 | h6 | h6 | h6 | h6)
    · omega
    · rw [h2] at h6; cases h6
    · omega
    · omega
    · exact h6 h5
  exact ⟨h0, by unfold folB; rw [if_pos h0]⟩
section
variable {H : Type} {enc : TypeId × Value → H} {W : World} {base b0 : Nat} {r : Reach} {spare : Nat → Bool} {held : Bool} {v : Value} {d : DataW H} {p : List MemPlace}
theorem cellsKt : Try.prog.cellsOf 114 = 3 := by kernel_rfl
theorem cellsBool : Try.prog.cellsOf 4 = 1 := by kernel_rfl
theorem knots_cell {n : Nat} {c : Value} {y : DataW H × List MemPlace} (h : DataW.trod enc Try.prog W base spare held n 44 [c] = some y) :
    ∃ ks : List Kt, Kts W W.heap.size c ks ∧ ks.length ≤ maxLen ∧ ∀ k ∈ ks, I64 k.l ∧ I64 k.h := by
  obtain ⟨xs, hsl, hl, hR⟩ := open_rows (α := Kt) Kt.z ktF (fun k => I64 k.l ∧ I64 k.h) Try.underlying44 cellsKt (by omega) (by
    intro n cs' y hlen ht
    match cs', hlen with
    | [c0, c1, c2], _ =>
      obtain ⟨xs, n', _, _, _, hlen, hf⟩ := DataW.trod_struct Try.underlying114 ht
      have g0 := hf 0 _ rfl
      have g1 := hf 1 _ rfl
      have g2 := hf 2 _ rfl
      match xs, hlen with
      | [y0, y1, y2], _ =>
        obtain ⟨a0, rfl, _⟩ := int_cell (y := y0) (by simpa [cellsInt] using g0)
        obtain ⟨a1, rfl, q1⟩ := int_cell (y := y1) (by simpa [cellsInt] using g1)
        obtain ⟨a2, rfl, q2⟩ := int_cell (y := y2) (by simpa [cellsInt] using g2)
        refine ⟨⟨a0, a1, a2⟩, fun j hj => ?_, q1, q2⟩
        match j, hj with
        | 0, _ => rfl
        | 1, _ => rfl
        | 2, _ => rfl) h
  refine ⟨xs, hsl, hl, fun x hx => ?_⟩
  obtain ⟨i, hi, rfl⟩ := List.mem_iff_getElem.1 hx
  have := hR i hi
  rwa [List.getD_eq_getElem?_getD, List.getElem?_eq_getElem hi, Option.getD_some] at this
theorem open_walk (hv : Value.okWide Try.prog W r b0 46 v) (h : DataW.Trod enc Try.prog W base spare held 46 v d p) :
    ∃ (kv : Value) (ks : List Kt) (n : Int), v = .agg #[kv, .int .i64 n] ∧ Kts W W.heap.size kv ks ∧ ks.length ≤ maxLen := by
  obtain ⟨c0, c1, y0, y1, m, rfl, _, _, hy0, hy1⟩ := open_agg2 Try.underlying46 (by kernel_rfl) (by kernel_rfl) hv h
  obtain ⟨ks, hk, hkl, _⟩ := knots_cell hy0
  obtain ⟨a1, rfl, _⟩ := int_cell hy1
  exact ⟨c0, ks, a1, rfl, hk, hkl⟩
theorem open_bools (hv : Value.okWide Try.prog W r b0 29 v) (h : DataW.Trod enc Try.prog W base spare held 29 v d p) :
    ∃ l : List Bool, Bols W W.heap.size v l ∧ l.length ≤ maxLen := by
  obtain ⟨a0, len, cap, rfl⟩ := okWide_slice Try.underlying29 hv
  obtain ⟨fuel, hf⟩ := h
  obtain ⟨xs, hsl, hl, _⟩ := open_rows (α := Bool) false (fun x _ => .bool x) (fun _ => True) Try.underlying29 cellsBool (by omega) (by
    intro n cs' y hlen ht
    match cs', hlen with
    | [c0], _ =>
      obtain ⟨s, h1, _⟩ := DataW.trod_bool Try.underlying4 ht
      simp at h1
      subst h1
      refine ⟨s, fun j hj => ?_, trivial⟩
      match j, hj with
      | 0, _ => rfl) hf
  exact ⟨xs, hsl, hl⟩
end
end Go.Proofs.Ytohofcmikfkilaa
/- Whether a knot may lead to a place: walks. -/
namespace Go.Proofs.Ytohofcmikfkilaa
open Go.RowKit
set_option linter.unusedVariables false
set_option linter.unusedSimpArgs false
theorem goB_one (ks : List Kt) (k : Nat) (o : Int) : goB ks k o (-1) = true := rfl
theorem goB_two (ks : List Kt) (k : Nat) (o : Int) : goB ks k o (-2) = true := rfl
theorem goB_neg {ks : List Kt} {k : Nat} {o q : Int} (h1 : q ≠ -1) (h2 : q ≠ -2) (h : q < 0) : goB ks k o q = false := by
  unfold goB
  have a1 : (q == -1) = false := by simpa using h1
  have a2 : (q == -2) = false := by simpa using h2
  have a3 : decide (0 ≤ q) = false := by simp; omega
  rw [a1, a2, a3]; rfl
theorem goB_nat {ks : List Kt} {k t : Nat} {o : Int} : goB ks k o t = (decide ((t : Int) < k) && decide (o < (ks.getD t Kt.z).o)) := by
  unfold goB
  have a1 : ((t : Int) == -1) = false := by rw [beq_eq_false_iff_ne]; omega
  have a2 : ((t : Int) == -2) = false := by rw [beq_eq_false_iff_ne]; omega
  have a3 : decide (0 ≤ (t : Int)) = true := by simp
  rw [a1, a2, a3, Int.toNat_natCast]; simp
set_option maxRecDepth 100000 in
set_option maxHeartbeats 4000000 in
theorem leads_any (ks : List Kt) (i : Nat) (q : Int) (A Ar : Option Addr) (n cap nr capr : Nat) (kv : Value) (w : World) (hi : i < ks.length) (h : Kts w w.heap.size kv ks) :
    Calls Try.prog 77 #[.agg #[.slice A n cap, .slice Ar nr capr], kv, .int .i64 i, .int .i64 q] w fun e w' => e = .returned (.bool (goB ks i (ks.getD i Kt.z).o q)) ∧ Below w.heap.size w w' := by
  obtain ⟨Ak, b, off, capk, rfl, hnc, hA, hc⟩ := h
  obtain ⟨rfl, hb, p0, _, _⟩ := kAt hA hc hi
  obtain ⟨o, ho⟩ : ∃ o, (ks.getD i Kt.z).o = o := ⟨_, rfl⟩
  rw [ho] at p0 ⊢
  have HC := hide hc
  have HP := hide p0
  have i0 : (0 : Int) ≤ (i : Int) := by omega
  have i1 : (i : Int) < (ks.length : Int) := by omega
  clear hA hc ho p0
  by_cases h1 : q = -1
  · subst h1
    go_enter Try.func77, Try.ntmps77
    go_upto_region 1 with (fail)
    generalize hw0 : World.alloc _ _ = w0
    obtain ⟨hb0, hB0, hs0⟩ := alloc1 hw0
    clear hw0
    have HB0 := hide hB0
    clear hb0 hB0 hs0
    refine wp_region_held_drew (S := (fun w' => Below w0.heap.size w0 w')) (by kernel_rfl) ?_ (fun hHeld => ?_)
    · try dsimp only
      exact (by repeat (first | exact Below.refl _ _ | assumption | refine Below.drew ?_ | refine Below.drewN ?_ _ | refine Below.allocT ?_ (Nat.le_refl _) _ | refine Below.setCell ?_ (by simp <;> omega) _ | refine Below.to ?_ (by assumption) (Nat.le_refl _)))
    refine wpAnyH_take (i := 0) (v := ?v1_0) rfl (by kernel_rfl) (by kernel_rfl) (by kernel_rfl) (fun _ _ _ h => h) (Or.inl ⟨by rfl, ?y1_0⟩) (by assumption) ?r1_0
    case' y1_0 => (intro w hSw; (try dsimp only at hSw); (try have hlS := HLK.out _ hSw); obtain ⟨hcS, hfS⟩ := bcell hSw; clear hSw; go_simp; try with_reducible rfl)
    try simp only [Act.put, List.getElem_toArray, List.getElem_cons_succ, List.getElem_cons_zero, List.setIfInBounds_toArray, List.set_cons_zero, List.set_cons_succ]
    refine wpAnyH_take (i := 1) (v := ?v1_1) rfl (by kernel_rfl) (by kernel_rfl) (by kernel_rfl) (fun _ _ _ h => h) (Or.inl ⟨by rfl, ?y1_1⟩) (by assumption) ?r1_1
    case' y1_1 => (intro w hSw; (try dsimp only at hSw); (try have hlS := HLK.out _ hSw); obtain ⟨hcS, hfS⟩ := bcell hSw; clear hSw; go_simp; try with_reducible rfl)
    try simp only [Act.put, List.getElem_toArray, List.getElem_cons_succ, List.getElem_cons_zero, List.setIfInBounds_toArray, List.set_cons_zero, List.set_cons_succ]
    refine wpAnyH_take (i := 2) (v := ?v1_2) rfl (by kernel_rfl) (by kernel_rfl) (by kernel_rfl) (fun _ _ _ h => h) (Or.inl ⟨by rfl, ?y1_2⟩) (by assumption) ?r1_2
    case' y1_2 => (intro w hSw; (try dsimp only at hSw); (try have hlS := HLK.out _ hSw); obtain ⟨hcS, hfS⟩ := bcell hSw; clear hSw; go_simp; try with_reducible rfl)
    try simp only [Act.put, List.getElem_toArray, List.getElem_cons_succ, List.getElem_cons_zero, List.setIfInBounds_toArray, List.set_cons_zero, List.set_cons_succ]
    refine wpAnyH_take (i := 3) (v := undef) rfl (by kernel_rfl) (by kernel_rfl) (by kernel_rfl) (fun _ _ _ h => h) (Or.inr ⟨?w1_3, rfl⟩) (by assumption) ?r1_3
    case' w1_3 => first | rfl | (simp [Region.wanted, yielded, *]; done)
    try simp only [Act.put, List.getElem_toArray, List.getElem_cons_succ, List.getElem_cons_zero, List.setIfInBounds_toArray, List.set_cons_zero, List.set_cons_succ]
    refine wpAnyH_take (i := 4) (v := undef) rfl (by kernel_rfl) (by kernel_rfl) (by kernel_rfl) (fun _ _ _ h => h) (Or.inr ⟨?w1_4, rfl⟩) (by assumption) ?r1_4
    case' w1_4 => first | rfl | (simp [Region.wanted, yielded, *]; done)
    try simp only [Act.put, List.getElem_toArray, List.getElem_cons_succ, List.getElem_cons_zero, List.setIfInBounds_toArray, List.set_cons_zero, List.set_cons_succ]
    refine wpAnyH_take (i := 5) (v := ?v1_5) rfl (by kernel_rfl) (by kernel_rfl) (by kernel_rfl) (fun _ _ _ h => h) (Or.inl ⟨by rfl, ?y1_5⟩) (by assumption) ?r1_5
    case' y1_5 => (intro w hSw; (try dsimp only at hSw); (try have hlS := HLK.out _ hSw); obtain ⟨hcS, hfS⟩ := bcell hSw; clear hSw; go_simp; try with_reducible rfl)
    try simp only [Act.put, List.getElem_toArray, List.getElem_cons_succ, List.getElem_cons_zero, List.setIfInBounds_toArray, List.set_cons_zero, List.set_cons_succ]
    refine wpAnyH_take (i := 6) (v := ?v1_6) rfl (by kernel_rfl) (by kernel_rfl) (by kernel_rfl) (fun _ _ _ h => h) (Or.inl ⟨by rfl, ?y1_6⟩) (by assumption) ?r1_6
    case' y1_6 => (intro w hSw; (try dsimp only at hSw); (try have hlS := HLK.out _ hSw); obtain ⟨hcS, hfS⟩ := bcell hSw; clear hSw; go_simp; try with_reducible rfl)
    try simp only [Act.put, List.getElem_toArray, List.getElem_cons_succ, List.getElem_cons_zero, List.setIfInBounds_toArray, List.set_cons_zero, List.set_cons_succ]
    refine wpAnyH_take (i := 7) (v := undef) rfl (by kernel_rfl) (by kernel_rfl) (by kernel_rfl) (fun _ _ _ h => h) (Or.inr ⟨?w1_7, rfl⟩) (by assumption) ?r1_7
    case' w1_7 => first | rfl | (simp [Region.wanted, yielded, *]; done)
    try simp only [Act.put, List.getElem_toArray, List.getElem_cons_succ, List.getElem_cons_zero, List.setIfInBounds_toArray, List.set_cons_zero, List.set_cons_succ]
    refine wpAnyH_take (i := 8) (v := undef) rfl (by kernel_rfl) (by kernel_rfl) (by kernel_rfl) (fun _ _ _ h => h) (Or.inr ⟨?w1_8, rfl⟩) (by assumption) ?r1_8
    case' w1_8 => first | rfl | (simp [Region.wanted, yielded, *]; done)
    try simp only [Act.put, List.getElem_toArray, List.getElem_cons_succ, List.getElem_cons_zero, List.setIfInBounds_toArray, List.set_cons_zero, List.set_cons_succ]
    refine wpAnyH_take (i := 9) (v := undef) rfl (by kernel_rfl) (by kernel_rfl) (by kernel_rfl) (fun _ _ _ h => h) (Or.inr ⟨?w1_9, rfl⟩) (by assumption) ?r1_9
    case' w1_9 => first | rfl | (simp [Region.wanted, yielded, *]; done)
    try simp only [Act.put, List.getElem_toArray, List.getElem_cons_succ, List.getElem_cons_zero, List.setIfInBounds_toArray, List.set_cons_zero, List.set_cons_succ]
    refine wpAnyH_take (i := 10) (v := undef) rfl (by kernel_rfl) (by kernel_rfl) (by kernel_rfl) (fun _ _ _ h => h) (Or.inr ⟨?w1_10, rfl⟩) (by assumption) ?r1_10
    case' w1_10 => first | rfl | (simp [Region.wanted, yielded, *]; done)
    try simp only [Act.put, List.getElem_toArray, List.getElem_cons_succ, List.getElem_cons_zero, List.setIfInBounds_toArray, List.set_cons_zero, List.set_cons_succ]
    refine wpAnyH_take (i := 11) (v := undef) rfl (by kernel_rfl) (by kernel_rfl) (by kernel_rfl) (fun _ _ _ h => h) (Or.inr ⟨?w1_11, rfl⟩) (by assumption) ?r1_11
    case' w1_11 => first | rfl | (simp [Region.wanted, yielded, *]; done)
    try simp only [Act.put, List.getElem_toArray, List.getElem_cons_succ, List.getElem_cons_zero, List.setIfInBounds_toArray, List.set_cons_zero, List.set_cons_succ]
    refine wpAnyH_take (i := 12) (v := undef) rfl (by kernel_rfl) (by kernel_rfl) (by kernel_rfl) (fun _ _ _ h => h) (Or.inr ⟨?w1_12, rfl⟩) (by assumption) ?r1_12
    case' w1_12 => first | rfl | (simp [Region.wanted, yielded, *]; done)
    try simp only [Act.put, List.getElem_toArray, List.getElem_cons_succ, List.getElem_cons_zero, List.setIfInBounds_toArray, List.set_cons_zero, List.set_cons_succ]
    refine wpAnyH_take (i := 13) (v := undef) rfl (by kernel_rfl) (by kernel_rfl) (by kernel_rfl) (fun _ _ _ h => h) (Or.inr ⟨?w1_13, rfl⟩) (by assumption) ?r1_13
    case' w1_13 => first | rfl | (simp [Region.wanted, yielded, *]; done)
    try simp only [Act.put, List.getElem_toArray, List.getElem_cons_succ, List.getElem_cons_zero, List.setIfInBounds_toArray, List.set_cons_zero, List.set_cons_succ]
    refine wpAnyH_take (i := 14) (v := undef) rfl (by kernel_rfl) (by kernel_rfl) (by kernel_rfl) (fun _ _ _ h => h) (Or.inr ⟨?w1_14, rfl⟩) (by assumption) ?r1_14
    case' w1_14 => first | rfl | (simp [Region.wanted, yielded, *]; done)
    try simp only [Act.put, List.getElem_toArray, List.getElem_cons_succ, List.getElem_cons_zero, List.setIfInBounds_toArray, List.set_cons_zero, List.set_cons_succ]
    refine wpAnyH_take (i := 15) (v := undef) rfl (by kernel_rfl) (by kernel_rfl) (by kernel_rfl) (fun _ _ _ h => h) (Or.inr ⟨?w1_15, rfl⟩) (by assumption) ?r1_15
    case' w1_15 => first | rfl | (simp [Region.wanted, yielded, *]; done)
    try simp only [Act.put, List.getElem_toArray, List.getElem_cons_succ, List.getElem_cons_zero, List.setIfInBounds_toArray, List.set_cons_zero, List.set_cons_succ]
    refine wpAnyH_take (i := 16) (v := undef) rfl (by kernel_rfl) (by kernel_rfl) (by kernel_rfl) (fun _ _ _ h => h) (Or.inr ⟨?w1_16, rfl⟩) (by assumption) ?r1_16
    case' w1_16 => first | rfl | (simp [Region.wanted, yielded, *]; done)
    try simp only [Act.put, List.getElem_toArray, List.getElem_cons_succ, List.getElem_cons_zero, List.setIfInBounds_toArray, List.set_cons_zero, List.set_cons_succ]
    refine wpAnyH_take (i := 17) (v := undef) rfl (by kernel_rfl) (by kernel_rfl) (by kernel_rfl) (fun _ _ _ h => h) (Or.inr ⟨?w1_17, rfl⟩) (by assumption) ?r1_17
    case' w1_17 => first | rfl | (simp [Region.wanted, yielded, *]; done)
    try simp only [Act.put, List.getElem_toArray, List.getElem_cons_succ, List.getElem_cons_zero, List.setIfInBounds_toArray, List.set_cons_zero, List.set_cons_succ]
    refine wpAnyH_take (i := 18) (v := undef) rfl (by kernel_rfl) (by kernel_rfl) (by kernel_rfl) (fun _ _ _ h => h) (Or.inr ⟨?w1_18, rfl⟩) (by assumption) ?r1_18
    case' w1_18 => first | rfl | (simp [Region.wanted, yielded, *]; done)
    try simp only [Act.put, List.getElem_toArray, List.getElem_cons_succ, List.getElem_cons_zero, List.setIfInBounds_toArray, List.set_cons_zero, List.set_cons_succ]
    refine wpAnyH_take (i := 19) (v := undef) rfl (by kernel_rfl) (by kernel_rfl) (by kernel_rfl) (fun _ _ _ h => h) (Or.inr ⟨?w1_19, rfl⟩) (by assumption) ?r1_19
    case' w1_19 => first | rfl | (simp [Region.wanted, yielded, *]; done)
    try simp only [Act.put, List.getElem_toArray, List.getElem_cons_succ, List.getElem_cons_zero, List.setIfInBounds_toArray, List.set_cons_zero, List.set_cons_succ]
    refine wpAnyH_take (i := 20) (v := undef) rfl (by kernel_rfl) (by kernel_rfl) (by kernel_rfl) (fun _ _ _ h => h) (Or.inr ⟨?w1_20, rfl⟩) (by assumption) ?r1_20
    case' w1_20 => first | rfl | (simp [Region.wanted, yielded, *]; done)
    try simp only [Act.put, List.getElem_toArray, List.getElem_cons_succ, List.getElem_cons_zero, List.setIfInBounds_toArray, List.set_cons_zero, List.set_cons_succ]
    refine wpAnyH_take (i := 21) (v := undef) rfl (by kernel_rfl) (by kernel_rfl) (by kernel_rfl) (fun _ _ _ h => h) (Or.inr ⟨?w1_21, rfl⟩) (by assumption) ?r1_21
    case' w1_21 => first | rfl | (simp [Region.wanted, yielded, *]; done)
    try simp only [Act.put, List.getElem_toArray, List.getElem_cons_succ, List.getElem_cons_zero, List.setIfInBounds_toArray, List.set_cons_zero, List.set_cons_succ]
    refine wpAnyH_take (i := 22) (v := undef) rfl (by kernel_rfl) (by kernel_rfl) (by kernel_rfl) (fun _ _ _ h => h) (Or.inr ⟨?w1_22, rfl⟩) (by assumption) ?r1_22
    case' w1_22 => first | rfl | (simp [Region.wanted, yielded, *]; done)
    try simp only [Act.put, List.getElem_toArray, List.getElem_cons_succ, List.getElem_cons_zero, List.setIfInBounds_toArray, List.set_cons_zero, List.set_cons_succ]
    refine wpAnyH_take (i := 23) (v := undef) rfl (by kernel_rfl) (by kernel_rfl) (by kernel_rfl) (fun _ _ _ h => h) (Or.inr ⟨?w1_23, rfl⟩) (by assumption) ?r1_23
    case' w1_23 => first | rfl | (simp [Region.wanted, yielded, *]; done)
    try simp only [Act.put, List.getElem_toArray, List.getElem_cons_succ, List.getElem_cons_zero, List.setIfInBounds_toArray, List.set_cons_zero, List.set_cons_succ]
    refine wpAnyH_take (i := 24) (v := undef) rfl (by kernel_rfl) (by kernel_rfl) (by kernel_rfl) (fun _ _ _ h => h) (Or.inr ⟨?w1_24, rfl⟩) (by assumption) ?r1_24
    case' w1_24 => first | rfl | (simp [Region.wanted, yielded, *]; done)
    try simp only [Act.put, List.getElem_toArray, List.getElem_cons_succ, List.getElem_cons_zero, List.setIfInBounds_toArray, List.set_cons_zero, List.set_cons_succ]
    refine wpAnyH_take (i := 25) (v := undef) rfl (by kernel_rfl) (by kernel_rfl) (by kernel_rfl) (fun _ _ _ h => h) (Or.inr ⟨?w1_25, rfl⟩) (by assumption) ?r1_25
    case' w1_25 => first | rfl | (simp [Region.wanted, yielded, *]; done)
    try simp only [Act.put, List.getElem_toArray, List.getElem_cons_succ, List.getElem_cons_zero, List.setIfInBounds_toArray, List.set_cons_zero, List.set_cons_succ]
    refine wpAnyH_take (i := 26) (v := undef) rfl (by kernel_rfl) (by kernel_rfl) (by kernel_rfl) (fun _ _ _ h => h) (Or.inr ⟨?w1_26, rfl⟩) (by assumption) ?r1_26
    case' w1_26 => first | rfl | (simp [Region.wanted, yielded, *]; done)
    try simp only [Act.put, List.getElem_toArray, List.getElem_cons_succ, List.getElem_cons_zero, List.setIfInBounds_toArray, List.set_cons_zero, List.set_cons_succ]
    refine wpAnyH_take (i := 27) (v := ?v1_27) rfl (by kernel_rfl) (by kernel_rfl) (by kernel_rfl) (fun _ _ _ h => h) (Or.inl ⟨by rfl, ?y1_27⟩) (by assumption) ?r1_27
    case' y1_27 => (intro w hSw; (try dsimp only at hSw); (try have hlS := HLK.out _ hSw); obtain ⟨hcS, hfS⟩ := bcell hSw; clear hSw; go_simp; try with_reducible rfl)
    try simp only [Act.put, List.getElem_toArray, List.getElem_cons_succ, List.getElem_cons_zero, List.setIfInBounds_toArray, List.set_cons_zero, List.set_cons_succ]
    refine wpAnyH_take (i := 28) (v := ?v1_28) rfl (by kernel_rfl) (by kernel_rfl) (by kernel_rfl) (fun _ _ _ h => h) (Or.inl ⟨by rfl, ?y1_28⟩) (by assumption) ?r1_28
    case' y1_28 => (intro w hSw; (try dsimp only at hSw); (try have hlS := HLK.out _ hSw); obtain ⟨hcS, hfS⟩ := bcell hSw; clear hSw; go_simp; try with_reducible rfl)
    try simp only [Act.put, List.getElem_toArray, List.getElem_cons_succ, List.getElem_cons_zero, List.setIfInBounds_toArray, List.set_cons_zero, List.set_cons_succ]
    refine wpAnyH_done (by kernel_rfl) ?_ _
    go_wp2_with fail
    go_ret
    exact ⟨rfl, Below.to HB0.out hHeld (Nat.le_refl _)⟩
  by_cases h2 : q = -2
  · subst h2
    go_enter Try.func77, Try.ntmps77
    go_upto_region 1 with (fail)
    generalize hw0 : World.alloc _ _ = w0
    obtain ⟨hb0, hB0, hs0⟩ := alloc1 hw0
    clear hw0
    have HB0 := hide hB0
    clear hb0 hB0 hs0
    refine wp_region_held_drew (S := (fun w' => Below w0.heap.size w0 w')) (by kernel_rfl) ?_ (fun hHeld => ?_)
    · try dsimp only
      exact (by repeat (first | exact Below.refl _ _ | assumption | refine Below.drew ?_ | refine Below.drewN ?_ _ | refine Below.allocT ?_ (Nat.le_refl _) _ | refine Below.setCell ?_ (by simp <;> omega) _ | refine Below.to ?_ (by assumption) (Nat.le_refl _)))
    refine wpAnyH_take (i := 0) (v := ?v2_0) rfl (by kernel_rfl) (by kernel_rfl) (by kernel_rfl) (fun _ _ _ h => h) (Or.inl ⟨by rfl, ?y2_0⟩) (by assumption) ?r2_0
    case' y2_0 => (intro w hSw; (try dsimp only at hSw); (try have hlS := HLK.out _ hSw); obtain ⟨hcS, hfS⟩ := bcell hSw; clear hSw; go_simp; try with_reducible rfl)
    try simp only [Act.put, List.getElem_toArray, List.getElem_cons_succ, List.getElem_cons_zero, List.setIfInBounds_toArray, List.set_cons_zero, List.set_cons_succ]
    refine wpAnyH_take (i := 1) (v := ?v2_1) rfl (by kernel_rfl) (by kernel_rfl) (by kernel_rfl) (fun _ _ _ h => h) (Or.inl ⟨by rfl, ?y2_1⟩) (by assumption) ?r2_1
    case' y2_1 => (intro w hSw; (try dsimp only at hSw); (try have hlS := HLK.out _ hSw); obtain ⟨hcS, hfS⟩ := bcell hSw; clear hSw; go_simp; try with_reducible rfl)
    try simp only [Act.put, List.getElem_toArray, List.getElem_cons_succ, List.getElem_cons_zero, List.setIfInBounds_toArray, List.set_cons_zero, List.set_cons_succ]
    refine wpAnyH_take (i := 2) (v := ?v2_2) rfl (by kernel_rfl) (by kernel_rfl) (by kernel_rfl) (fun _ _ _ h => h) (Or.inl ⟨by rfl, ?y2_2⟩) (by assumption) ?r2_2
    case' y2_2 => (intro w hSw; (try dsimp only at hSw); (try have hlS := HLK.out _ hSw); obtain ⟨hcS, hfS⟩ := bcell hSw; clear hSw; go_simp; try with_reducible rfl)
    try simp only [Act.put, List.getElem_toArray, List.getElem_cons_succ, List.getElem_cons_zero, List.setIfInBounds_toArray, List.set_cons_zero, List.set_cons_succ]
    refine wpAnyH_take (i := 3) (v := ?v2_3) rfl (by kernel_rfl) (by kernel_rfl) (by kernel_rfl) (fun _ _ _ h => h) (Or.inl ⟨by rfl, ?y2_3⟩) (by assumption) ?r2_3
    case' y2_3 => (intro w hSw; (try dsimp only at hSw); (try have hlS := HLK.out _ hSw); obtain ⟨hcS, hfS⟩ := bcell hSw; clear hSw; go_simp; try with_reducible rfl)
    try simp only [Act.put, List.getElem_toArray, List.getElem_cons_succ, List.getElem_cons_zero, List.setIfInBounds_toArray, List.set_cons_zero, List.set_cons_succ]
    refine wpAnyH_take (i := 4) (v := ?v2_4) rfl (by kernel_rfl) (by kernel_rfl) (by kernel_rfl) (fun _ _ _ h => h) (Or.inl ⟨by rfl, ?y2_4⟩) (by assumption) ?r2_4
    case' y2_4 => (intro w hSw; (try dsimp only at hSw); (try have hlS := HLK.out _ hSw); obtain ⟨hcS, hfS⟩ := bcell hSw; clear hSw; go_simp; try with_reducible rfl)
    try simp only [Act.put, List.getElem_toArray, List.getElem_cons_succ, List.getElem_cons_zero, List.setIfInBounds_toArray, List.set_cons_zero, List.set_cons_succ]
    refine wpAnyH_take (i := 5) (v := ?v2_5) rfl (by kernel_rfl) (by kernel_rfl) (by kernel_rfl) (fun _ _ _ h => h) (Or.inl ⟨by rfl, ?y2_5⟩) (by assumption) ?r2_5
    case' y2_5 => (intro w hSw; (try dsimp only at hSw); (try have hlS := HLK.out _ hSw); obtain ⟨hcS, hfS⟩ := bcell hSw; clear hSw; go_simp; try with_reducible rfl)
    try simp only [Act.put, List.getElem_toArray, List.getElem_cons_succ, List.getElem_cons_zero, List.setIfInBounds_toArray, List.set_cons_zero, List.set_cons_succ]
    refine wpAnyH_take (i := 6) (v := ?v2_6) rfl (by kernel_rfl) (by kernel_rfl) (by kernel_rfl) (fun _ _ _ h => h) (Or.inl ⟨by rfl, ?y2_6⟩) (by assumption) ?r2_6
    case' y2_6 => (intro w hSw; (try dsimp only at hSw); (try have hlS := HLK.out _ hSw); obtain ⟨hcS, hfS⟩ := bcell hSw; clear hSw; go_simp; try with_reducible rfl)
    try simp only [Act.put, List.getElem_toArray, List.getElem_cons_succ, List.getElem_cons_zero, List.setIfInBounds_toArray, List.set_cons_zero, List.set_cons_succ]
    refine wpAnyH_take (i := 7) (v := undef) rfl (by kernel_rfl) (by kernel_rfl) (by kernel_rfl) (fun _ _ _ h => h) (Or.inr ⟨?w2_7, rfl⟩) (by assumption) ?r2_7
    case' w2_7 => first | rfl | (simp [Region.wanted, yielded, *]; done)
    try simp only [Act.put, List.getElem_toArray, List.getElem_cons_succ, List.getElem_cons_zero, List.setIfInBounds_toArray, List.set_cons_zero, List.set_cons_succ]
    refine wpAnyH_take (i := 8) (v := undef) rfl (by kernel_rfl) (by kernel_rfl) (by kernel_rfl) (fun _ _ _ h => h) (Or.inr ⟨?w2_8, rfl⟩) (by assumption) ?r2_8
    case' w2_8 => first | rfl | (simp [Region.wanted, yielded, *]; done)
    try simp only [Act.put, List.getElem_toArray, List.getElem_cons_succ, List.getElem_cons_zero, List.setIfInBounds_toArray, List.set_cons_zero, List.set_cons_succ]
    refine wpAnyH_take (i := 9) (v := undef) rfl (by kernel_rfl) (by kernel_rfl) (by kernel_rfl) (fun _ _ _ h => h) (Or.inr ⟨?w2_9, rfl⟩) (by assumption) ?r2_9
    case' w2_9 => first | rfl | (simp [Region.wanted, yielded, *]; done)
    try simp only [Act.put, List.getElem_toArray, List.getElem_cons_succ, List.getElem_cons_zero, List.setIfInBounds_toArray, List.set_cons_zero, List.set_cons_succ]
    refine wpAnyH_take (i := 10) (v := undef) rfl (by kernel_rfl) (by kernel_rfl) (by kernel_rfl) (fun _ _ _ h => h) (Or.inr ⟨?w2_10, rfl⟩) (by assumption) ?r2_10
    case' w2_10 => first | rfl | (simp [Region.wanted, yielded, *]; done)
    try simp only [Act.put, List.getElem_toArray, List.getElem_cons_succ, List.getElem_cons_zero, List.setIfInBounds_toArray, List.set_cons_zero, List.set_cons_succ]
    refine wpAnyH_take (i := 11) (v := undef) rfl (by kernel_rfl) (by kernel_rfl) (by kernel_rfl) (fun _ _ _ h => h) (Or.inr ⟨?w2_11, rfl⟩) (by assumption) ?r2_11
    case' w2_11 => first | rfl | (simp [Region.wanted, yielded, *]; done)
    try simp only [Act.put, List.getElem_toArray, List.getElem_cons_succ, List.getElem_cons_zero, List.setIfInBounds_toArray, List.set_cons_zero, List.set_cons_succ]
    refine wpAnyH_take (i := 12) (v := undef) rfl (by kernel_rfl) (by kernel_rfl) (by kernel_rfl) (fun _ _ _ h => h) (Or.inr ⟨?w2_12, rfl⟩) (by assumption) ?r2_12
    case' w2_12 => first | rfl | (simp [Region.wanted, yielded, *]; done)
    try simp only [Act.put, List.getElem_toArray, List.getElem_cons_succ, List.getElem_cons_zero, List.setIfInBounds_toArray, List.set_cons_zero, List.set_cons_succ]
    refine wpAnyH_take (i := 13) (v := undef) rfl (by kernel_rfl) (by kernel_rfl) (by kernel_rfl) (fun _ _ _ h => h) (Or.inr ⟨?w2_13, rfl⟩) (by assumption) ?r2_13
    case' w2_13 => first | rfl | (simp [Region.wanted, yielded, *]; done)
    try simp only [Act.put, List.getElem_toArray, List.getElem_cons_succ, List.getElem_cons_zero, List.setIfInBounds_toArray, List.set_cons_zero, List.set_cons_succ]
    refine wpAnyH_take (i := 14) (v := undef) rfl (by kernel_rfl) (by kernel_rfl) (by kernel_rfl) (fun _ _ _ h => h) (Or.inr ⟨?w2_14, rfl⟩) (by assumption) ?r2_14
    case' w2_14 => first | rfl | (simp [Region.wanted, yielded, *]; done)
    try simp only [Act.put, List.getElem_toArray, List.getElem_cons_succ, List.getElem_cons_zero, List.setIfInBounds_toArray, List.set_cons_zero, List.set_cons_succ]
    refine wpAnyH_take (i := 15) (v := undef) rfl (by kernel_rfl) (by kernel_rfl) (by kernel_rfl) (fun _ _ _ h => h) (Or.inr ⟨?w2_15, rfl⟩) (by assumption) ?r2_15
    case' w2_15 => first | rfl | (simp [Region.wanted, yielded, *]; done)
    try simp only [Act.put, List.getElem_toArray, List.getElem_cons_succ, List.getElem_cons_zero, List.setIfInBounds_toArray, List.set_cons_zero, List.set_cons_succ]
    refine wpAnyH_take (i := 16) (v := undef) rfl (by kernel_rfl) (by kernel_rfl) (by kernel_rfl) (fun _ _ _ h => h) (Or.inr ⟨?w2_16, rfl⟩) (by assumption) ?r2_16
    case' w2_16 => first | rfl | (simp [Region.wanted, yielded, *]; done)
    try simp only [Act.put, List.getElem_toArray, List.getElem_cons_succ, List.getElem_cons_zero, List.setIfInBounds_toArray, List.set_cons_zero, List.set_cons_succ]
    refine wpAnyH_take (i := 17) (v := undef) rfl (by kernel_rfl) (by kernel_rfl) (by kernel_rfl) (fun _ _ _ h => h) (Or.inr ⟨?w2_17, rfl⟩) (by assumption) ?r2_17
    case' w2_17 => first | rfl | (simp [Region.wanted, yielded, *]; done)
    try simp only [Act.put, List.getElem_toArray, List.getElem_cons_succ, List.getElem_cons_zero, List.setIfInBounds_toArray, List.set_cons_zero, List.set_cons_succ]
    refine wpAnyH_take (i := 18) (v := undef) rfl (by kernel_rfl) (by kernel_rfl) (by kernel_rfl) (fun _ _ _ h => h) (Or.inr ⟨?w2_18, rfl⟩) (by assumption) ?r2_18
    case' w2_18 => first | rfl | (simp [Region.wanted, yielded, *]; done)
    try simp only [Act.put, List.getElem_toArray, List.getElem_cons_succ, List.getElem_cons_zero, List.setIfInBounds_toArray, List.set_cons_zero, List.set_cons_succ]
    refine wpAnyH_take (i := 19) (v := undef) rfl (by kernel_rfl) (by kernel_rfl) (by kernel_rfl) (fun _ _ _ h => h) (Or.inr ⟨?w2_19, rfl⟩) (by assumption) ?r2_19
    case' w2_19 => first | rfl | (simp [Region.wanted, yielded, *]; done)
    try simp only [Act.put, List.getElem_toArray, List.getElem_cons_succ, List.getElem_cons_zero, List.setIfInBounds_toArray, List.set_cons_zero, List.set_cons_succ]
    refine wpAnyH_take (i := 20) (v := undef) rfl (by kernel_rfl) (by kernel_rfl) (by kernel_rfl) (fun _ _ _ h => h) (Or.inr ⟨?w2_20, rfl⟩) (by assumption) ?r2_20
    case' w2_20 => first | rfl | (simp [Region.wanted, yielded, *]; done)
    try simp only [Act.put, List.getElem_toArray, List.getElem_cons_succ, List.getElem_cons_zero, List.setIfInBounds_toArray, List.set_cons_zero, List.set_cons_succ]
    refine wpAnyH_take (i := 21) (v := undef) rfl (by kernel_rfl) (by kernel_rfl) (by kernel_rfl) (fun _ _ _ h => h) (Or.inr ⟨?w2_21, rfl⟩) (by assumption) ?r2_21
    case' w2_21 => first | rfl | (simp [Region.wanted, yielded, *]; done)
    try simp only [Act.put, List.getElem_toArray, List.getElem_cons_succ, List.getElem_cons_zero, List.setIfInBounds_toArray, List.set_cons_zero, List.set_cons_succ]
    refine wpAnyH_take (i := 22) (v := undef) rfl (by kernel_rfl) (by kernel_rfl) (by kernel_rfl) (fun _ _ _ h => h) (Or.inr ⟨?w2_22, rfl⟩) (by assumption) ?r2_22
    case' w2_22 => first | rfl | (simp [Region.wanted, yielded, *]; done)
    try simp only [Act.put, List.getElem_toArray, List.getElem_cons_succ, List.getElem_cons_zero, List.setIfInBounds_toArray, List.set_cons_zero, List.set_cons_succ]
    refine wpAnyH_take (i := 23) (v := undef) rfl (by kernel_rfl) (by kernel_rfl) (by kernel_rfl) (fun _ _ _ h => h) (Or.inr ⟨?w2_23, rfl⟩) (by assumption) ?r2_23
    case' w2_23 => first | rfl | (simp [Region.wanted, yielded, *]; done)
    try simp only [Act.put, List.getElem_toArray, List.getElem_cons_succ, List.getElem_cons_zero, List.setIfInBounds_toArray, List.set_cons_zero, List.set_cons_succ]
    refine wpAnyH_take (i := 24) (v := undef) rfl (by kernel_rfl) (by kernel_rfl) (by kernel_rfl) (fun _ _ _ h => h) (Or.inr ⟨?w2_24, rfl⟩) (by assumption) ?r2_24
    case' w2_24 => first | rfl | (simp [Region.wanted, yielded, *]; done)
    try simp only [Act.put, List.getElem_toArray, List.getElem_cons_succ, List.getElem_cons_zero, List.setIfInBounds_toArray, List.set_cons_zero, List.set_cons_succ]
    refine wpAnyH_take (i := 25) (v := undef) rfl (by kernel_rfl) (by kernel_rfl) (by kernel_rfl) (fun _ _ _ h => h) (Or.inr ⟨?w2_25, rfl⟩) (by assumption) ?r2_25
    case' w2_25 => first | rfl | (simp [Region.wanted, yielded, *]; done)
    try simp only [Act.put, List.getElem_toArray, List.getElem_cons_succ, List.getElem_cons_zero, List.setIfInBounds_toArray, List.set_cons_zero, List.set_cons_succ]
    refine wpAnyH_take (i := 26) (v := undef) rfl (by kernel_rfl) (by kernel_rfl) (by kernel_rfl) (fun _ _ _ h => h) (Or.inr ⟨?w2_26, rfl⟩) (by assumption) ?r2_26
    case' w2_26 => first | rfl | (simp [Region.wanted, yielded, *]; done)
    try simp only [Act.put, List.getElem_toArray, List.getElem_cons_succ, List.getElem_cons_zero, List.setIfInBounds_toArray, List.set_cons_zero, List.set_cons_succ]
    refine wpAnyH_take (i := 27) (v := ?v2_27) rfl (by kernel_rfl) (by kernel_rfl) (by kernel_rfl) (fun _ _ _ h => h) (Or.inl ⟨by rfl, ?y2_27⟩) (by assumption) ?r2_27
    case' y2_27 => (intro w hSw; (try dsimp only at hSw); (try have hlS := HLK.out _ hSw); obtain ⟨hcS, hfS⟩ := bcell hSw; clear hSw; go_simp; try with_reducible rfl)
    try simp only [Act.put, List.getElem_toArray, List.getElem_cons_succ, List.getElem_cons_zero, List.setIfInBounds_toArray, List.set_cons_zero, List.set_cons_succ]
    refine wpAnyH_take (i := 28) (v := ?v2_28) rfl (by kernel_rfl) (by kernel_rfl) (by kernel_rfl) (fun _ _ _ h => h) (Or.inl ⟨by rfl, ?y2_28⟩) (by assumption) ?r2_28
    case' y2_28 => (intro w hSw; (try dsimp only at hSw); (try have hlS := HLK.out _ hSw); obtain ⟨hcS, hfS⟩ := bcell hSw; clear hSw; go_simp; try with_reducible rfl)
    try simp only [Act.put, List.getElem_toArray, List.getElem_cons_succ, List.getElem_cons_zero, List.setIfInBounds_toArray, List.set_cons_zero, List.set_cons_succ]
    refine wpAnyH_done (by kernel_rfl) ?_ _
    go_wp2_with fail
    go_ret
    exact ⟨rfl, Below.to HB0.out hHeld (Nat.le_refl _)⟩
  have a1 : (q == -1) = false := by simpa using h1
  have a2 : (q == -2) = false := by simpa using h2
  by_cases h3 : q < 0
  · have a3 : decide (0 ≤ q) = false := by simp; omega
    have HG := hide (goB_neg (ks := ks) (k := i) (o := o) h1 h2 h3)
    clear h1 h2 h3
    go_enter Try.func77, Try.ntmps77
    go_upto_region 1 with (fail)
    generalize hw0 : World.alloc _ _ = w0
    obtain ⟨hb0, hB0, hs0⟩ := alloc1 hw0
    clear hw0
    have HB0 := hide hB0
    clear hb0 hB0 hs0
    refine wp_region_held_drew (S := (fun w' => Below w0.heap.size w0 w')) (by kernel_rfl) ?_ (fun hHeld => ?_)
    · try dsimp only
      exact (by repeat (first | exact Below.refl _ _ | assumption | refine Below.drew ?_ | refine Below.drewN ?_ _ | refine Below.allocT ?_ (Nat.le_refl _) _ | refine Below.setCell ?_ (by simp <;> omega) _ | refine Below.to ?_ (by assumption) (Nat.le_refl _)))
    refine wpAnyH_take (i := 0) (v := ?v3_0) rfl (by kernel_rfl) (by kernel_rfl) (by kernel_rfl) (fun _ _ _ h => h) (Or.inl ⟨by rfl, ?y3_0⟩) (by assumption) ?r3_0
    case' y3_0 => (intro w hSw; (try dsimp only at hSw); (try have hlS := HLK.out _ hSw); obtain ⟨hcS, hfS⟩ := bcell hSw; clear hSw; go_simp; try with_reducible rfl)
    try simp only [Act.put, List.getElem_toArray, List.getElem_cons_succ, List.getElem_cons_zero, List.setIfInBounds_toArray, List.set_cons_zero, List.set_cons_succ]
    refine wpAnyH_take (i := 1) (v := ?v3_1) rfl (by kernel_rfl) (by kernel_rfl) (by kernel_rfl) (fun _ _ _ h => h) (Or.inl ⟨by rfl, ?y3_1⟩) (by assumption) ?r3_1
    case' y3_1 => (intro w hSw; (try dsimp only at hSw); (try have hlS := HLK.out _ hSw); obtain ⟨hcS, hfS⟩ := bcell hSw; clear hSw; go_simp; try with_reducible rfl)
    try simp only [Act.put, List.getElem_toArray, List.getElem_cons_succ, List.getElem_cons_zero, List.setIfInBounds_toArray, List.set_cons_zero, List.set_cons_succ]
    refine wpAnyH_take (i := 2) (v := ?v3_2) rfl (by kernel_rfl) (by kernel_rfl) (by kernel_rfl) (fun _ _ _ h => h) (Or.inl ⟨by rfl, ?y3_2⟩) (by assumption) ?r3_2
    case' y3_2 => (intro w hSw; (try dsimp only at hSw); (try have hlS := HLK.out _ hSw); obtain ⟨hcS, hfS⟩ := bcell hSw; clear hSw; go_simp; try with_reducible rfl)
    try simp only [Act.put, List.getElem_toArray, List.getElem_cons_succ, List.getElem_cons_zero, List.setIfInBounds_toArray, List.set_cons_zero, List.set_cons_succ]
    refine wpAnyH_take (i := 3) (v := ?v3_3) rfl (by kernel_rfl) (by kernel_rfl) (by kernel_rfl) (fun _ _ _ h => h) (Or.inl ⟨by rfl, ?y3_3⟩) (by assumption) ?r3_3
    case' y3_3 => (intro w hSw; (try dsimp only at hSw); (try have hlS := HLK.out _ hSw); obtain ⟨hcS, hfS⟩ := bcell hSw; clear hSw; go_simp; try with_reducible rfl)
    try simp only [Act.put, List.getElem_toArray, List.getElem_cons_succ, List.getElem_cons_zero, List.setIfInBounds_toArray, List.set_cons_zero, List.set_cons_succ]
    refine wpAnyH_take (i := 4) (v := ?v3_4) rfl (by kernel_rfl) (by kernel_rfl) (by kernel_rfl) (fun _ _ _ h => h) (Or.inl ⟨by rfl, ?y3_4⟩) (by assumption) ?r3_4
    case' y3_4 => (intro w hSw; (try dsimp only at hSw); (try have hlS := HLK.out _ hSw); obtain ⟨hcS, hfS⟩ := bcell hSw; clear hSw; go_simp; try with_reducible rfl)
    try simp only [Act.put, List.getElem_toArray, List.getElem_cons_succ, List.getElem_cons_zero, List.setIfInBounds_toArray, List.set_cons_zero, List.set_cons_succ]
    refine wpAnyH_take (i := 5) (v := ?v3_5) rfl (by kernel_rfl) (by kernel_rfl) (by kernel_rfl) (fun _ _ _ h => h) (Or.inl ⟨by rfl, ?y3_5⟩) (by assumption) ?r3_5
    case' y3_5 => (intro w hSw; (try dsimp only at hSw); (try have hlS := HLK.out _ hSw); obtain ⟨hcS, hfS⟩ := bcell hSw; clear hSw; go_simp; try with_reducible rfl)
    try simp only [Act.put, List.getElem_toArray, List.getElem_cons_succ, List.getElem_cons_zero, List.setIfInBounds_toArray, List.set_cons_zero, List.set_cons_succ]
    refine wpAnyH_take (i := 6) (v := ?v3_6) rfl (by kernel_rfl) (by kernel_rfl) (by kernel_rfl) (fun _ _ _ h => h) (Or.inl ⟨by rfl, ?y3_6⟩) (by assumption) ?r3_6
    case' y3_6 => (intro w hSw; (try dsimp only at hSw); (try have hlS := HLK.out _ hSw); obtain ⟨hcS, hfS⟩ := bcell hSw; clear hSw; go_simp; try with_reducible rfl)
    try simp only [Act.put, List.getElem_toArray, List.getElem_cons_succ, List.getElem_cons_zero, List.setIfInBounds_toArray, List.set_cons_zero, List.set_cons_succ]
    refine wpAnyH_take (i := 7) (v := ?v3_7) rfl (by kernel_rfl) (by kernel_rfl) (by kernel_rfl) (fun _ _ _ h => h) (Or.inl ⟨by rfl, ?y3_7⟩) (by assumption) ?r3_7
    case' y3_7 => (intro w hSw; (try dsimp only at hSw); (try have hlS := HLK.out _ hSw); obtain ⟨hcS, hfS⟩ := bcell hSw; clear hSw; go_simp; try with_reducible rfl)
    try simp only [Act.put, List.getElem_toArray, List.getElem_cons_succ, List.getElem_cons_zero, List.setIfInBounds_toArray, List.set_cons_zero, List.set_cons_succ]
    refine wpAnyH_take (i := 8) (v := ?v3_8) rfl (by kernel_rfl) (by kernel_rfl) (by kernel_rfl) (fun _ _ _ h => h) (Or.inl ⟨by rfl, ?y3_8⟩) (by assumption) ?r3_8
    case' y3_8 => (intro w hSw; (try dsimp only at hSw); (try have hlS := HLK.out _ hSw); obtain ⟨hcS, hfS⟩ := bcell hSw; clear hSw; go_simp; try with_reducible rfl)
    try simp only [Act.put, List.getElem_toArray, List.getElem_cons_succ, List.getElem_cons_zero, List.setIfInBounds_toArray, List.set_cons_zero, List.set_cons_succ]
    refine wpAnyH_take (i := 9) (v := ?v3_9) rfl (by kernel_rfl) (by kernel_rfl) (by kernel_rfl) (fun _ _ _ h => h) (Or.inl ⟨by rfl, ?y3_9⟩) (by assumption) ?r3_9
    case' y3_9 => (intro w hSw; (try dsimp only at hSw); (try have hlS := HLK.out _ hSw); obtain ⟨hcS, hfS⟩ := bcell hSw; clear hSw; go_simp; try with_reducible rfl)
    try simp only [Act.put, List.getElem_toArray, List.getElem_cons_succ, List.getElem_cons_zero, List.setIfInBounds_toArray, List.set_cons_zero, List.set_cons_succ]
    refine wpAnyH_take (i := 10) (v := undef) rfl (by kernel_rfl) (by kernel_rfl) (by kernel_rfl) (fun _ _ _ h => h) (Or.inr ⟨?w3_10, rfl⟩) (by assumption) ?r3_10
    case' w3_10 => first | rfl | (simp [Region.wanted, yielded, *]; done)
    try simp only [Act.put, List.getElem_toArray, List.getElem_cons_succ, List.getElem_cons_zero, List.setIfInBounds_toArray, List.set_cons_zero, List.set_cons_succ]
    refine wpAnyH_take (i := 11) (v := undef) rfl (by kernel_rfl) (by kernel_rfl) (by kernel_rfl) (fun _ _ _ h => h) (Or.inr ⟨?w3_11, rfl⟩) (by assumption) ?r3_11
    case' w3_11 => first | rfl | (simp [Region.wanted, yielded, *]; done)
    try simp only [Act.put, List.getElem_toArray, List.getElem_cons_succ, List.getElem_cons_zero, List.setIfInBounds_toArray, List.set_cons_zero, List.set_cons_succ]
    refine wpAnyH_take (i := 12) (v := undef) rfl (by kernel_rfl) (by kernel_rfl) (by kernel_rfl) (fun _ _ _ h => h) (Or.inr ⟨?w3_12, rfl⟩) (by assumption) ?r3_12
    case' w3_12 => first | rfl | (simp [Region.wanted, yielded, *]; done)
    try simp only [Act.put, List.getElem_toArray, List.getElem_cons_succ, List.getElem_cons_zero, List.setIfInBounds_toArray, List.set_cons_zero, List.set_cons_succ]
    refine wpAnyH_take (i := 13) (v := ?v3_13) rfl (by kernel_rfl) (by kernel_rfl) (by kernel_rfl) (fun _ _ _ h => h) (Or.inl ⟨by rfl, ?y3_13⟩) (by assumption) ?r3_13
    case' y3_13 => (intro w hSw; (try dsimp only at hSw); (try have hlS := HLK.out _ hSw); obtain ⟨hcS, hfS⟩ := bcell hSw; clear hSw; go_simp; try with_reducible rfl)
    try simp only [Act.put, List.getElem_toArray, List.getElem_cons_succ, List.getElem_cons_zero, List.setIfInBounds_toArray, List.set_cons_zero, List.set_cons_succ]
    refine wpAnyH_take (i := 14) (v := ?v3_14) rfl (by kernel_rfl) (by kernel_rfl) (by kernel_rfl) (fun _ _ _ h => h) (Or.inl ⟨by rfl, ?y3_14⟩) (by assumption) ?r3_14
    case' y3_14 => (intro w hSw; (try dsimp only at hSw); (try have hlS := HLK.out _ hSw); obtain ⟨hcS, hfS⟩ := bcell hSw; clear hSw; go_simp; try with_reducible rfl)
    try simp only [Act.put, List.getElem_toArray, List.getElem_cons_succ, List.getElem_cons_zero, List.setIfInBounds_toArray, List.set_cons_zero, List.set_cons_succ]
    refine wpAnyH_take (i := 15) (v := undef) rfl (by kernel_rfl) (by kernel_rfl) (by kernel_rfl) (fun _ _ _ h => h) (Or.inr ⟨?w3_15, rfl⟩) (by assumption) ?r3_15
    case' w3_15 => first | rfl | (simp [Region.wanted, yielded, *]; done)
    try simp only [Act.put, List.getElem_toArray, List.getElem_cons_succ, List.getElem_cons_zero, List.setIfInBounds_toArray, List.set_cons_zero, List.set_cons_succ]
    refine wpAnyH_take (i := 16) (v := undef) rfl (by kernel_rfl) (by kernel_rfl) (by kernel_rfl) (fun _ _ _ h => h) (Or.inr ⟨?w3_16, rfl⟩) (by assumption) ?r3_16
    case' w3_16 => first | rfl | (simp [Region.wanted, yielded, *]; done)
    try simp only [Act.put, List.getElem_toArray, List.getElem_cons_succ, List.getElem_cons_zero, List.setIfInBounds_toArray, List.set_cons_zero, List.set_cons_succ]
    refine wpAnyH_take (i := 17) (v := undef) rfl (by kernel_rfl) (by kernel_rfl) (by kernel_rfl) (fun _ _ _ h => h) (Or.inr ⟨?w3_17, rfl⟩) (by assumption) ?r3_17
    case' w3_17 => first | rfl | (simp [Region.wanted, yielded, *]; done)
    try simp only [Act.put, List.getElem_toArray, List.getElem_cons_succ, List.getElem_cons_zero, List.setIfInBounds_toArray, List.set_cons_zero, List.set_cons_succ]
    refine wpAnyH_take (i := 18) (v := undef) rfl (by kernel_rfl) (by kernel_rfl) (by kernel_rfl) (fun _ _ _ h => h) (Or.inr ⟨?w3_18, rfl⟩) (by assumption) ?r3_18
    case' w3_18 => first | rfl | (simp [Region.wanted, yielded, *]; done)
    try simp only [Act.put, List.getElem_toArray, List.getElem_cons_succ, List.getElem_cons_zero, List.setIfInBounds_toArray, List.set_cons_zero, List.set_cons_succ]
    refine wpAnyH_take (i := 19) (v := undef) rfl (by kernel_rfl) (by kernel_rfl) (by kernel_rfl) (fun _ _ _ h => h) (Or.inr ⟨?w3_19, rfl⟩) (by assumption) ?r3_19
    case' w3_19 => first | rfl | (simp [Region.wanted, yielded, *]; done)
    try simp only [Act.put, List.getElem_toArray, List.getElem_cons_succ, List.getElem_cons_zero, List.setIfInBounds_toArray, List.set_cons_zero, List.set_cons_succ]
    refine wpAnyH_take (i := 20) (v := undef) rfl (by kernel_rfl) (by kernel_rfl) (by kernel_rfl) (fun _ _ _ h => h) (Or.inr ⟨?w3_20, rfl⟩) (by assumption) ?r3_20
    case' w3_20 => first | rfl | (simp [Region.wanted, yielded, *]; done)
    try simp only [Act.put, List.getElem_toArray, List.getElem_cons_succ, List.getElem_cons_zero, List.setIfInBounds_toArray, List.set_cons_zero, List.set_cons_succ]
    refine wpAnyH_take (i := 21) (v := undef) rfl (by kernel_rfl) (by kernel_rfl) (by kernel_rfl) (fun _ _ _ h => h) (Or.inr ⟨?w3_21, rfl⟩) (by assumption) ?r3_21
    case' w3_21 => first | rfl | (simp [Region.wanted, yielded, *]; done)
    try simp only [Act.put, List.getElem_toArray, List.getElem_cons_succ, List.getElem_cons_zero, List.setIfInBounds_toArray, List.set_cons_zero, List.set_cons_succ]
    refine wpAnyH_take (i := 22) (v := undef) rfl (by kernel_rfl) (by kernel_rfl) (by kernel_rfl) (fun _ _ _ h => h) (Or.inr ⟨?w3_22, rfl⟩) (by assumption) ?r3_22
    case' w3_22 => first | rfl | (simp [Region.wanted, yielded, *]; done)
    try simp only [Act.put, List.getElem_toArray, List.getElem_cons_succ, List.getElem_cons_zero, List.setIfInBounds_toArray, List.set_cons_zero, List.set_cons_succ]
    refine wpAnyH_take (i := 23) (v := undef) rfl (by kernel_rfl) (by kernel_rfl) (by kernel_rfl) (fun _ _ _ h => h) (Or.inr ⟨?w3_23, rfl⟩) (by assumption) ?r3_23
    case' w3_23 => first | rfl | (simp [Region.wanted, yielded, *]; done)
    try simp only [Act.put, List.getElem_toArray, List.getElem_cons_succ, List.getElem_cons_zero, List.setIfInBounds_toArray, List.set_cons_zero, List.set_cons_succ]
    refine wpAnyH_take (i := 24) (v := undef) rfl (by kernel_rfl) (by kernel_rfl) (by kernel_rfl) (fun _ _ _ h => h) (Or.inr ⟨?w3_24, rfl⟩) (by assumption) ?r3_24
    case' w3_24 => first | rfl | (simp [Region.wanted, yielded, *]; done)
    try simp only [Act.put, List.getElem_toArray, List.getElem_cons_succ, List.getElem_cons_zero, List.setIfInBounds_toArray, List.set_cons_zero, List.set_cons_succ]
    refine wpAnyH_take (i := 25) (v := undef) rfl (by kernel_rfl) (by kernel_rfl) (by kernel_rfl) (fun _ _ _ h => h) (Or.inr ⟨?w3_25, rfl⟩) (by assumption) ?r3_25
    case' w3_25 => first | rfl | (simp [Region.wanted, yielded, *]; done)
    try simp only [Act.put, List.getElem_toArray, List.getElem_cons_succ, List.getElem_cons_zero, List.setIfInBounds_toArray, List.set_cons_zero, List.set_cons_succ]
    refine wpAnyH_take (i := 26) (v := ?v3_26) rfl (by kernel_rfl) (by kernel_rfl) (by kernel_rfl) (fun _ _ _ h => h) (Or.inl ⟨by rfl, ?y3_26⟩) (by assumption) ?r3_26
    case' y3_26 => (intro w hSw; (try dsimp only at hSw); (try have hlS := HLK.out _ hSw); obtain ⟨hcS, hfS⟩ := bcell hSw; clear hSw; go_simp; try with_reducible rfl)
    try simp only [Act.put, List.getElem_toArray, List.getElem_cons_succ, List.getElem_cons_zero, List.setIfInBounds_toArray, List.set_cons_zero, List.set_cons_succ]
    refine wpAnyH_take (i := 27) (v := ?v3_27) rfl (by kernel_rfl) (by kernel_rfl) (by kernel_rfl) (fun _ _ _ h => h) (Or.inl ⟨by rfl, ?y3_27⟩) (by assumption) ?r3_27
    case' y3_27 => (intro w hSw; (try dsimp only at hSw); (try have hlS := HLK.out _ hSw); obtain ⟨hcS, hfS⟩ := bcell hSw; clear hSw; go_simp; try with_reducible rfl)
    try simp only [Act.put, List.getElem_toArray, List.getElem_cons_succ, List.getElem_cons_zero, List.setIfInBounds_toArray, List.set_cons_zero, List.set_cons_succ]
    refine wpAnyH_take (i := 28) (v := ?v3_28) rfl (by kernel_rfl) (by kernel_rfl) (by kernel_rfl) (fun _ _ _ h => h) (Or.inl ⟨by rfl, ?y3_28⟩) (by assumption) ?r3_28
    case' y3_28 => (intro w hSw; (try dsimp only at hSw); (try have hlS := HLK.out _ hSw); obtain ⟨hcS, hfS⟩ := bcell hSw; clear hSw; go_simp; try with_reducible rfl)
    try simp only [Act.put, List.getElem_toArray, List.getElem_cons_succ, List.getElem_cons_zero, List.setIfInBounds_toArray, List.set_cons_zero, List.set_cons_succ]
    refine wpAnyH_done (by kernel_rfl) ?_ _
    go_wp2_with fail
    go_ret
    exact ⟨ret_bool HG.out.symm, Below.to HB0.out hHeld (Nat.le_refl _)⟩
  · obtain ⟨t, rfl⟩ := Int.eq_ofNat_of_zero_le (by omega : 0 ≤ q)
    have a3 : decide ((0 : Int) ≤ (t : Int)) = true := by simp
    clear h1 h2 h3
    by_cases h4 : t < i
    · have a4 : decide ((t : Int) < (i : Int)) = true := by simp; omega
      have ht : t < ks.length := by omega
      have t0 : (0 : Int) ≤ (t : Int) := by omega
      have t1 : (t : Int) < (ks.length : Int) := by omega
      obtain ⟨o2, ho2⟩ : ∃ o, (ks.getD t Kt.z).o = o := ⟨_, rfl⟩
      have p2 : w.cell? ⟨b, off + t * 3, none⟩ = some (.int .i64 o2) := by
        have := HC.out t 0 ht (by omega)
        rw [← ho2]; exact this
      have HG : Hid (goB ks i o t = decide (o < o2)) := by
        have := goB_nat (ks := ks) (k := i) (t := t) (o := o)
        rw [a4, Bool.true_and, ho2] at this
        exact this
      have HP2 := hide p2
      clear p2 ho2
      go_enter Try.func77, Try.ntmps77
      go_upto_region 1 with (fail)
      generalize hw0 : World.alloc _ _ = w0
      obtain ⟨hb0, hB0, hs0⟩ := alloc1 hw0
      clear hw0
      have HB0 := hide hB0
      have q0 : w0.cell? ⟨b, off + i * 3, none⟩ = some (.int .i64 o) := (hB0.cell (p := ⟨b, off + i * 3, none⟩) hb).trans HP.out
      have q2 : w0.cell? ⟨b, off + t * 3, none⟩ = some (.int .i64 o2) := (hB0.cell (p := ⟨b, off + t * 3, none⟩) hb).trans HP2.out
      have lb : b < w0.heap.size := Nat.lt_of_lt_of_le hb hB0.size
      clear hb0 hB0 hs0
      refine wp_region_held_drew (S := (fun w' => Below w0.heap.size w0 w')) (by kernel_rfl) ?_ (fun hHeld => ?_)
      · try dsimp only
        exact (by repeat (first | exact Below.refl _ _ | assumption | refine Below.drew ?_ | refine Below.drewN ?_ _ | refine Below.allocT ?_ (Nat.le_refl _) _ | refine Below.setCell ?_ (by simp <;> omega) _ | refine Below.to ?_ (by assumption) (Nat.le_refl _)))
      refine wpAnyH_take (i := 0) (v := ?v4_0) rfl (by kernel_rfl) (by kernel_rfl) (by kernel_rfl) (fun _ _ _ h => h) (Or.inl ⟨by rfl, ?y4_0⟩) (by assumption) ?r4_0
      case' y4_0 => (intro w hSw; (try dsimp only at hSw); (try have hlS := HLK.out _ hSw); obtain ⟨hcS, hfS⟩ := bcell hSw; clear hSw; go_simp; try with_reducible rfl)
      try simp only [Act.put, List.getElem_toArray, List.getElem_cons_succ, List.getElem_cons_zero, List.setIfInBounds_toArray, List.set_cons_zero, List.set_cons_succ]
      refine wpAnyH_take (i := 1) (v := ?v4_1) rfl (by kernel_rfl) (by kernel_rfl) (by kernel_rfl) (fun _ _ _ h => h) (Or.inl ⟨by rfl, ?y4_1⟩) (by assumption) ?r4_1
      case' y4_1 => (intro w hSw; (try dsimp only at hSw); (try have hlS := HLK.out _ hSw); obtain ⟨hcS, hfS⟩ := bcell hSw; clear hSw; go_simp; try with_reducible rfl)
      try simp only [Act.put, List.getElem_toArray, List.getElem_cons_succ, List.getElem_cons_zero, List.setIfInBounds_toArray, List.set_cons_zero, List.set_cons_succ]
      refine wpAnyH_take (i := 2) (v := ?v4_2) rfl (by kernel_rfl) (by kernel_rfl) (by kernel_rfl) (fun _ _ _ h => h) (Or.inl ⟨by rfl, ?y4_2⟩) (by assumption) ?r4_2
      case' y4_2 => (intro w hSw; (try dsimp only at hSw); (try have hlS := HLK.out _ hSw); obtain ⟨hcS, hfS⟩ := bcell hSw; clear hSw; go_simp; try with_reducible rfl)
      try simp only [Act.put, List.getElem_toArray, List.getElem_cons_succ, List.getElem_cons_zero, List.setIfInBounds_toArray, List.set_cons_zero, List.set_cons_succ]
      refine wpAnyH_take (i := 3) (v := ?v4_3) rfl (by kernel_rfl) (by kernel_rfl) (by kernel_rfl) (fun _ _ _ h => h) (Or.inl ⟨by rfl, ?y4_3⟩) (by assumption) ?r4_3
      case' y4_3 => (intro w hSw; (try dsimp only at hSw); (try have hlS := HLK.out _ hSw); obtain ⟨hcS, hfS⟩ := bcell hSw; clear hSw; go_simp; try with_reducible rfl)
      try simp only [Act.put, List.getElem_toArray, List.getElem_cons_succ, List.getElem_cons_zero, List.setIfInBounds_toArray, List.set_cons_zero, List.set_cons_succ]
      refine wpAnyH_take (i := 4) (v := ?v4_4) rfl (by kernel_rfl) (by kernel_rfl) (by kernel_rfl) (fun _ _ _ h => h) (Or.inl ⟨by rfl, ?y4_4⟩) (by assumption) ?r4_4
      case' y4_4 => (intro w hSw; (try dsimp only at hSw); (try have hlS := HLK.out _ hSw); obtain ⟨hcS, hfS⟩ := bcell hSw; clear hSw; go_simp; try with_reducible rfl)
      try simp only [Act.put, List.getElem_toArray, List.getElem_cons_succ, List.getElem_cons_zero, List.setIfInBounds_toArray, List.set_cons_zero, List.set_cons_succ]
      refine wpAnyH_take (i := 5) (v := ?v4_5) rfl (by kernel_rfl) (by kernel_rfl) (by kernel_rfl) (fun _ _ _ h => h) (Or.inl ⟨by rfl, ?y4_5⟩) (by assumption) ?r4_5
      case' y4_5 => (intro w hSw; (try dsimp only at hSw); (try have hlS := HLK.out _ hSw); obtain ⟨hcS, hfS⟩ := bcell hSw; clear hSw; go_simp; try with_reducible rfl)
      try simp only [Act.put, List.getElem_toArray, List.getElem_cons_succ, List.getElem_cons_zero, List.setIfInBounds_toArray, List.set_cons_zero, List.set_cons_succ]
      refine wpAnyH_take (i := 6) (v := ?v4_6) rfl (by kernel_rfl) (by kernel_rfl) (by kernel_rfl) (fun _ _ _ h => h) (Or.inl ⟨by rfl, ?y4_6⟩) (by assumption) ?r4_6
      case' y4_6 => (intro w hSw; (try dsimp only at hSw); (try have hlS := HLK.out _ hSw); obtain ⟨hcS, hfS⟩ := bcell hSw; clear hSw; go_simp; try with_reducible rfl)
      try simp only [Act.put, List.getElem_toArray, List.getElem_cons_succ, List.getElem_cons_zero, List.setIfInBounds_toArray, List.set_cons_zero, List.set_cons_succ]
      refine wpAnyH_take (i := 7) (v := ?v4_7) rfl (by kernel_rfl) (by kernel_rfl) (by kernel_rfl) (fun _ _ _ h => h) (Or.inl ⟨by rfl, ?y4_7⟩) (by assumption) ?r4_7
      case' y4_7 => (intro w hSw; (try dsimp only at hSw); (try have hlS := HLK.out _ hSw); obtain ⟨hcS, hfS⟩ := bcell hSw; clear hSw; go_simp; try with_reducible rfl)
      try simp only [Act.put, List.getElem_toArray, List.getElem_cons_succ, List.getElem_cons_zero, List.setIfInBounds_toArray, List.set_cons_zero, List.set_cons_succ]
      refine wpAnyH_take (i := 8) (v := ?v4_8) rfl (by kernel_rfl) (by kernel_rfl) (by kernel_rfl) (fun _ _ _ h => h) (Or.inl ⟨by rfl, ?y4_8⟩) (by assumption) ?r4_8
      case' y4_8 => (intro w hSw; (try dsimp only at hSw); (try have hlS := HLK.out _ hSw); obtain ⟨hcS, hfS⟩ := bcell hSw; clear hSw; go_simp; try with_reducible rfl)
      try simp only [Act.put, List.getElem_toArray, List.getElem_cons_succ, List.getElem_cons_zero, List.setIfInBounds_toArray, List.set_cons_zero, List.set_cons_succ]
      refine wpAnyH_take (i := 9) (v := ?v4_9) rfl (by kernel_rfl) (by kernel_rfl) (by kernel_rfl) (fun _ _ _ h => h) (Or.inl ⟨by rfl, ?y4_9⟩) (by assumption) ?r4_9
      case' y4_9 => (intro w hSw; (try dsimp only at hSw); (try have hlS := HLK.out _ hSw); obtain ⟨hcS, hfS⟩ := bcell hSw; clear hSw; go_simp; try with_reducible rfl)
      try simp only [Act.put, List.getElem_toArray, List.getElem_cons_succ, List.getElem_cons_zero, List.setIfInBounds_toArray, List.set_cons_zero, List.set_cons_succ]
      refine wpAnyH_take (i := 10) (v := ?v4_10) rfl (by kernel_rfl) (by kernel_rfl) (by kernel_rfl) (fun _ _ _ h => h) (Or.inl ⟨by rfl, ?y4_10⟩) (by assumption) ?r4_10
      case' y4_10 => (intro w hSw; (try dsimp only at hSw); (try have hlS := HLK.out _ hSw); obtain ⟨hcS, hfS⟩ := bcell hSw; clear hSw; go_simp; try with_reducible rfl)
      try simp only [Act.put, List.getElem_toArray, List.getElem_cons_succ, List.getElem_cons_zero, List.setIfInBounds_toArray, List.set_cons_zero, List.set_cons_succ]
      refine wpAnyH_take (i := 11) (v := ?v4_11) rfl (by kernel_rfl) (by kernel_rfl) (by kernel_rfl) (fun _ _ _ h => h) (Or.inl ⟨by rfl, ?y4_11⟩) (by assumption) ?r4_11
      case' y4_11 => (intro w hSw; (try dsimp only at hSw); (try have hlS := HLK.out _ hSw); obtain ⟨hcS, hfS⟩ := bcell hSw; clear hSw; go_simp; try with_reducible rfl)
      try simp only [Act.put, List.getElem_toArray, List.getElem_cons_succ, List.getElem_cons_zero, List.setIfInBounds_toArray, List.set_cons_zero, List.set_cons_succ]
      refine wpAnyH_take (i := 12) (v := ?v4_12) rfl (by kernel_rfl) (by kernel_rfl) (by kernel_rfl) (fun _ _ _ h => h) (Or.inl ⟨by rfl, ?y4_12⟩) (by assumption) ?r4_12
      case' y4_12 => (intro w hSw; (try dsimp only at hSw); (try have hlS := HLK.out _ hSw); obtain ⟨hcS, hfS⟩ := bcell hSw; clear hSw; go_simp; try with_reducible rfl)
      try simp only [Act.put, List.getElem_toArray, List.getElem_cons_succ, List.getElem_cons_zero, List.setIfInBounds_toArray, List.set_cons_zero, List.set_cons_succ]
      refine wpAnyH_take (i := 13) (v := ?v4_13) rfl (by kernel_rfl) (by kernel_rfl) (by kernel_rfl) (fun _ _ _ h => h) (Or.inl ⟨by rfl, ?y4_13⟩) (by assumption) ?r4_13
      case' y4_13 => (intro w hSw; (try dsimp only at hSw); (try have hlS := HLK.out _ hSw); obtain ⟨hcS, hfS⟩ := bcell hSw; clear hSw; go_simp; try with_reducible rfl)
      try simp only [Act.put, List.getElem_toArray, List.getElem_cons_succ, List.getElem_cons_zero, List.setIfInBounds_toArray, List.set_cons_zero, List.set_cons_succ]
      refine wpAnyH_take (i := 14) (v := ?v4_14) rfl (by kernel_rfl) (by kernel_rfl) (by kernel_rfl) (fun _ _ _ h => h) (Or.inl ⟨by rfl, ?y4_14⟩) (by assumption) ?r4_14
      case' y4_14 => (intro w hSw; (try dsimp only at hSw); (try have hlS := HLK.out _ hSw); obtain ⟨hcS, hfS⟩ := bcell hSw; clear hSw; go_simp; try with_reducible rfl)
      try simp only [Act.put, List.getElem_toArray, List.getElem_cons_succ, List.getElem_cons_zero, List.setIfInBounds_toArray, List.set_cons_zero, List.set_cons_succ]
      refine wpAnyH_take (i := 15) (v := ?v4_15) rfl (by kernel_rfl) (by kernel_rfl) (by kernel_rfl) (fun _ _ _ h => h) (Or.inl ⟨by rfl, ?y4_15⟩) (by assumption) ?r4_15
      case' y4_15 => (intro w hSw; (try dsimp only at hSw); (try have hlS := HLK.out _ hSw); obtain ⟨hcS, hfS⟩ := bcell hSw; clear hSw; go_simp; try with_reducible rfl)
      try simp only [Act.put, List.getElem_toArray, List.getElem_cons_succ, List.getElem_cons_zero, List.setIfInBounds_toArray, List.set_cons_zero, List.set_cons_succ]
      refine wpAnyH_take (i := 16) (v := ?v4_16) rfl (by kernel_rfl) (by kernel_rfl) (by kernel_rfl) (fun _ _ _ h => h) (Or.inl ⟨by rfl, ?y4_16⟩) (by assumption) ?r4_16
      case' y4_16 => (intro w hSw; (try dsimp only at hSw); (try have hlS := HLK.out _ hSw); obtain ⟨hcS, hfS⟩ := bcell hSw; clear hSw; go_simp; try with_reducible rfl)
      try simp only [Act.put, List.getElem_toArray, List.getElem_cons_succ, List.getElem_cons_zero, List.setIfInBounds_toArray, List.set_cons_zero, List.set_cons_succ]
      refine wpAnyH_take (i := 17) (v := ?v4_17) rfl (by kernel_rfl) (by kernel_rfl) (by kernel_rfl) (fun _ _ _ h => h) (Or.inl ⟨by rfl, ?y4_17⟩) (by assumption) ?r4_17
      case' y4_17 => (intro w hSw; (try dsimp only at hSw); (try have hlS := HLK.out _ hSw); obtain ⟨hcS, hfS⟩ := bcell hSw; clear hSw; go_simp; try with_reducible rfl)
      try simp only [Act.put, List.getElem_toArray, List.getElem_cons_succ, List.getElem_cons_zero, List.setIfInBounds_toArray, List.set_cons_zero, List.set_cons_succ]
      refine wpAnyH_take (i := 18) (v := ?v4_18) rfl (by kernel_rfl) (by kernel_rfl) (by kernel_rfl) (fun _ _ _ h => h) (Or.inl ⟨by rfl, ?y4_18⟩) (by assumption) ?r4_18
      case' y4_18 => (intro w hSw; (try dsimp only at hSw); (try have hlS := HLK.out _ hSw); obtain ⟨hcS, hfS⟩ := bcell hSw; clear hSw; go_simp; try with_reducible rfl)
      try simp only [Act.put, List.getElem_toArray, List.getElem_cons_succ, List.getElem_cons_zero, List.setIfInBounds_toArray, List.set_cons_zero, List.set_cons_succ]
      refine wpAnyH_take (i := 19) (v := ?v4_19) rfl (by kernel_rfl) (by kernel_rfl) (by kernel_rfl) (fun _ _ _ h => h) (Or.inl ⟨by rfl, ?y4_19⟩) (by assumption) ?r4_19
      case' y4_19 => (intro w hSw; (try dsimp only at hSw); (try have hlS := HLK.out _ hSw); obtain ⟨hcS, hfS⟩ := bcell hSw; clear hSw; go_simp; try with_reducible rfl)
      try simp only [Act.put, List.getElem_toArray, List.getElem_cons_succ, List.getElem_cons_zero, List.setIfInBounds_toArray, List.set_cons_zero, List.set_cons_succ]
      refine wpAnyH_take (i := 20) (v := ?v4_20) rfl (by kernel_rfl) (by kernel_rfl) (by kernel_rfl) (fun _ _ _ h => h) (Or.inl ⟨by rfl, ?y4_20⟩) (by assumption) ?r4_20
      case' y4_20 => (intro w hSw; (try dsimp only at hSw); (try have hlS := HLK.out _ hSw); obtain ⟨hcS, hfS⟩ := bcell hSw; clear hSw; go_simp; try with_reducible rfl)
      try simp only [Act.put, List.getElem_toArray, List.getElem_cons_succ, List.getElem_cons_zero, List.setIfInBounds_toArray, List.set_cons_zero, List.set_cons_succ]
      refine wpAnyH_take (i := 21) (v := ?v4_21) rfl (by kernel_rfl) (by kernel_rfl) (by kernel_rfl) (fun _ _ _ h => h) (Or.inl ⟨by rfl, ?y4_21⟩) (by assumption) ?r4_21
      case' y4_21 => (intro w hSw; (try dsimp only at hSw); (try have hlS := HLK.out _ hSw); obtain ⟨hcS, hfS⟩ := bcell hSw; clear hSw; go_simp; try with_reducible rfl)
      try simp only [Act.put, List.getElem_toArray, List.getElem_cons_succ, List.getElem_cons_zero, List.setIfInBounds_toArray, List.set_cons_zero, List.set_cons_succ]
      refine wpAnyH_take (i := 22) (v := ?v4_22) rfl (by kernel_rfl) (by kernel_rfl) (by kernel_rfl) (fun _ _ _ h => h) (Or.inl ⟨by rfl, ?y4_22⟩) (by assumption) ?r4_22
      case' y4_22 => (intro w hSw; (try dsimp only at hSw); (try have hlS := HLK.out _ hSw); obtain ⟨hcS, hfS⟩ := bcell hSw; clear hSw; go_simp; try with_reducible rfl)
      try simp only [Act.put, List.getElem_toArray, List.getElem_cons_succ, List.getElem_cons_zero, List.setIfInBounds_toArray, List.set_cons_zero, List.set_cons_succ]
      refine wpAnyH_take (i := 23) (v := ?v4_23) rfl (by kernel_rfl) (by kernel_rfl) (by kernel_rfl) (fun _ _ _ h => h) (Or.inl ⟨by rfl, ?y4_23⟩) (by assumption) ?r4_23
      case' y4_23 => (intro w hSw; (try dsimp only at hSw); (try have hlS := HLK.out _ hSw); obtain ⟨hcS, hfS⟩ := bcell hSw; clear hSw; go_simp; try with_reducible rfl)
      try simp only [Act.put, List.getElem_toArray, List.getElem_cons_succ, List.getElem_cons_zero, List.setIfInBounds_toArray, List.set_cons_zero, List.set_cons_succ]
      refine wpAnyH_take (i := 24) (v := ?v4_24) rfl (by kernel_rfl) (by kernel_rfl) (by kernel_rfl) (fun _ _ _ h => h) (Or.inl ⟨by rfl, ?y4_24⟩) (by assumption) ?r4_24
      case' y4_24 => (intro w hSw; (try dsimp only at hSw); (try have hlS := HLK.out _ hSw); obtain ⟨hcS, hfS⟩ := bcell hSw; clear hSw; go_simp; try with_reducible rfl)
      try simp only [Act.put, List.getElem_toArray, List.getElem_cons_succ, List.getElem_cons_zero, List.setIfInBounds_toArray, List.set_cons_zero, List.set_cons_succ]
      refine wpAnyH_take (i := 25) (v := ?v4_25) rfl (by kernel_rfl) (by kernel_rfl) (by kernel_rfl) (fun _ _ _ h => h) (Or.inl ⟨by rfl, ?y4_25⟩) (by assumption) ?r4_25
      case' y4_25 => (intro w hSw; (try dsimp only at hSw); (try have hlS := HLK.out _ hSw); obtain ⟨hcS, hfS⟩ := bcell hSw; clear hSw; go_simp; try with_reducible rfl)
      try simp only [Act.put, List.getElem_toArray, List.getElem_cons_succ, List.getElem_cons_zero, List.setIfInBounds_toArray, List.set_cons_zero, List.set_cons_succ]
      refine wpAnyH_take (i := 26) (v := ?v4_26) rfl (by kernel_rfl) (by kernel_rfl) (by kernel_rfl) (fun _ _ _ h => h) (Or.inl ⟨by rfl, ?y4_26⟩) (by assumption) ?r4_26
      case' y4_26 => (intro w hSw; (try dsimp only at hSw); (try have hlS := HLK.out _ hSw); obtain ⟨hcS, hfS⟩ := bcell hSw; clear hSw; go_simp; try with_reducible rfl)
      try simp only [Act.put, List.getElem_toArray, List.getElem_cons_succ, List.getElem_cons_zero, List.setIfInBounds_toArray, List.set_cons_zero, List.set_cons_succ]
      refine wpAnyH_take (i := 27) (v := ?v4_27) rfl (by kernel_rfl) (by kernel_rfl) (by kernel_rfl) (fun _ _ _ h => h) (Or.inl ⟨by rfl, ?y4_27⟩) (by assumption) ?r4_27
      case' y4_27 => (intro w hSw; (try dsimp only at hSw); (try have hlS := HLK.out _ hSw); obtain ⟨hcS, hfS⟩ := bcell hSw; clear hSw; go_simp; try with_reducible rfl)
      try simp only [Act.put, List.getElem_toArray, List.getElem_cons_succ, List.getElem_cons_zero, List.setIfInBounds_toArray, List.set_cons_zero, List.set_cons_succ]
      refine wpAnyH_take (i := 28) (v := ?v4_28) rfl (by kernel_rfl) (by kernel_rfl) (by kernel_rfl) (fun _ _ _ h => h) (Or.inl ⟨by rfl, ?y4_28⟩) (by assumption) ?r4_28
      case' y4_28 => (intro w hSw; (try dsimp only at hSw); (try have hlS := HLK.out _ hSw); obtain ⟨hcS, hfS⟩ := bcell hSw; clear hSw; go_simp; try with_reducible rfl)
      try simp only [Act.put, List.getElem_toArray, List.getElem_cons_succ, List.getElem_cons_zero, List.setIfInBounds_toArray, List.set_cons_zero, List.set_cons_succ]
      refine wpAnyH_done (by kernel_rfl) ?_ _
      go_wp2_with fail
      go_ret
      exact ⟨ret_bool HG.out.symm, Below.to HB0.out hHeld (Nat.le_refl _)⟩
    · have a4 : decide ((t : Int) < (i : Int)) = false := by simp; omega
      have HG : Hid (goB ks i o t = false) := by
        have := goB_nat (ks := ks) (k := i) (t := t) (o := o)
        rw [a4, Bool.false_and] at this
        exact this
      go_enter Try.func77, Try.ntmps77
      go_upto_region 1 with (fail)
      generalize hw0 : World.alloc _ _ = w0
      obtain ⟨hb0, hB0, hs0⟩ := alloc1 hw0
      clear hw0
      have HB0 := hide hB0
      clear hb0 hB0 hs0
      refine wp_region_held_drew (S := (fun w' => Below w0.heap.size w0 w')) (by kernel_rfl) ?_ (fun hHeld => ?_)
      · try dsimp only
        exact (by repeat (first | exact Below.refl _ _ | assumption | refine Below.drew ?_ | refine Below.drewN ?_ _ | refine Below.allocT ?_ (Nat.le_refl _) _ | refine Below.setCell ?_ (by simp <;> omega) _ | refine Below.to ?_ (by assumption) (Nat.le_refl _)))
      refine wpAnyH_take (i := 0) (v := ?v5_0) rfl (by kernel_rfl) (by kernel_rfl) (by kernel_rfl) (fun _ _ _ h => h) (Or.inl ⟨by rfl, ?y5_0⟩) (by assumption) ?r5_0
      case' y5_0 => (intro w hSw; (try dsimp only at hSw); (try have hlS := HLK.out _ hSw); obtain ⟨hcS, hfS⟩ := bcell hSw; clear hSw; go_simp; try with_reducible rfl)
      try simp only [Act.put, List.getElem_toArray, List.getElem_cons_succ, List.getElem_cons_zero, List.setIfInBounds_toArray, List.set_cons_zero, List.set_cons_succ]
      refine wpAnyH_take (i := 1) (v := ?v5_1) rfl (by kernel_rfl) (by kernel_rfl) (by kernel_rfl) (fun _ _ _ h => h) (Or.inl ⟨by rfl, ?y5_1⟩) (by assumption) ?r5_1
      case' y5_1 => (intro w hSw; (try dsimp only at hSw); (try have hlS := HLK.out _ hSw); obtain ⟨hcS, hfS⟩ := bcell hSw; clear hSw; go_simp; try with_reducible rfl)
      try simp only [Act.put, List.getElem_toArray, List.getElem_cons_succ, List.getElem_cons_zero, List.setIfInBounds_toArray, List.set_cons_zero, List.set_cons_succ]
      refine wpAnyH_take (i := 2) (v := ?v5_2) rfl (by kernel_rfl) (by kernel_rfl) (by kernel_rfl) (fun _ _ _ h => h) (Or.inl ⟨by rfl, ?y5_2⟩) (by assumption) ?r5_2
      case' y5_2 => (intro w hSw; (try dsimp only at hSw); (try have hlS := HLK.out _ hSw); obtain ⟨hcS, hfS⟩ := bcell hSw; clear hSw; go_simp; try with_reducible rfl)
      try simp only [Act.put, List.getElem_toArray, List.getElem_cons_succ, List.getElem_cons_zero, List.setIfInBounds_toArray, List.set_cons_zero, List.set_cons_succ]
      refine wpAnyH_take (i := 3) (v := ?v5_3) rfl (by kernel_rfl) (by kernel_rfl) (by kernel_rfl) (fun _ _ _ h => h) (Or.inl ⟨by rfl, ?y5_3⟩) (by assumption) ?r5_3
      case' y5_3 => (intro w hSw; (try dsimp only at hSw); (try have hlS := HLK.out _ hSw); obtain ⟨hcS, hfS⟩ := bcell hSw; clear hSw; go_simp; try with_reducible rfl)
      try simp only [Act.put, List.getElem_toArray, List.getElem_cons_succ, List.getElem_cons_zero, List.setIfInBounds_toArray, List.set_cons_zero, List.set_cons_succ]
      refine wpAnyH_take (i := 4) (v := ?v5_4) rfl (by kernel_rfl) (by kernel_rfl) (by kernel_rfl) (fun _ _ _ h => h) (Or.inl ⟨by rfl, ?y5_4⟩) (by assumption) ?r5_4
      case' y5_4 => (intro w hSw; (try dsimp only at hSw); (try have hlS := HLK.out _ hSw); obtain ⟨hcS, hfS⟩ := bcell hSw; clear hSw; go_simp; try with_reducible rfl)
      try simp only [Act.put, List.getElem_toArray, List.getElem_cons_succ, List.getElem_cons_zero, List.setIfInBounds_toArray, List.set_cons_zero, List.set_cons_succ]
      refine wpAnyH_take (i := 5) (v := ?v5_5) rfl (by kernel_rfl) (by kernel_rfl) (by kernel_rfl) (fun _ _ _ h => h) (Or.inl ⟨by rfl, ?y5_5⟩) (by assumption) ?r5_5
      case' y5_5 => (intro w hSw; (try dsimp only at hSw); (try have hlS := HLK.out _ hSw); obtain ⟨hcS, hfS⟩ := bcell hSw; clear hSw; go_simp; try with_reducible rfl)
      try simp only [Act.put, List.getElem_toArray, List.getElem_cons_succ, List.getElem_cons_zero, List.setIfInBounds_toArray, List.set_cons_zero, List.set_cons_succ]
      refine wpAnyH_take (i := 6) (v := ?v5_6) rfl (by kernel_rfl) (by kernel_rfl) (by kernel_rfl) (fun _ _ _ h => h) (Or.inl ⟨by rfl, ?y5_6⟩) (by assumption) ?r5_6
      case' y5_6 => (intro w hSw; (try dsimp only at hSw); (try have hlS := HLK.out _ hSw); obtain ⟨hcS, hfS⟩ := bcell hSw; clear hSw; go_simp; try with_reducible rfl)
      try simp only [Act.put, List.getElem_toArray, List.getElem_cons_succ, List.getElem_cons_zero, List.setIfInBounds_toArray, List.set_cons_zero, List.set_cons_succ]
      refine wpAnyH_take (i := 7) (v := ?v5_7) rfl (by kernel_rfl) (by kernel_rfl) (by kernel_rfl) (fun _ _ _ h => h) (Or.inl ⟨by rfl, ?y5_7⟩) (by assumption) ?r5_7
      case' y5_7 => (intro w hSw; (try dsimp only at hSw); (try have hlS := HLK.out _ hSw); obtain ⟨hcS, hfS⟩ := bcell hSw; clear hSw; go_simp; try with_reducible rfl)
      try simp only [Act.put, List.getElem_toArray, List.getElem_cons_succ, List.getElem_cons_zero, List.setIfInBounds_toArray, List.set_cons_zero, List.set_cons_succ]
      refine wpAnyH_take (i := 8) (v := ?v5_8) rfl (by kernel_rfl) (by kernel_rfl) (by kernel_rfl) (fun _ _ _ h => h) (Or.inl ⟨by rfl, ?y5_8⟩) (by assumption) ?r5_8
      case' y5_8 => (intro w hSw; (try dsimp only at hSw); (try have hlS := HLK.out _ hSw); obtain ⟨hcS, hfS⟩ := bcell hSw; clear hSw; go_simp; try with_reducible rfl)
      try simp only [Act.put, List.getElem_toArray, List.getElem_cons_succ, List.getElem_cons_zero, List.setIfInBounds_toArray, List.set_cons_zero, List.set_cons_succ]
      refine wpAnyH_take (i := 9) (v := ?v5_9) rfl (by kernel_rfl) (by kernel_rfl) (by kernel_rfl) (fun _ _ _ h => h) (Or.inl ⟨by rfl, ?y5_9⟩) (by assumption) ?r5_9
      case' y5_9 => (intro w hSw; (try dsimp only at hSw); (try have hlS := HLK.out _ hSw); obtain ⟨hcS, hfS⟩ := bcell hSw; clear hSw; go_simp; try with_reducible rfl)
      try simp only [Act.put, List.getElem_toArray, List.getElem_cons_succ, List.getElem_cons_zero, List.setIfInBounds_toArray, List.set_cons_zero, List.set_cons_succ]
      refine wpAnyH_take (i := 10) (v := ?v5_10) rfl (by kernel_rfl) (by kernel_rfl) (by kernel_rfl) (fun _ _ _ h => h) (Or.inl ⟨by rfl, ?y5_10⟩) (by assumption) ?r5_10
      case' y5_10 => (intro w hSw; (try dsimp only at hSw); (try have hlS := HLK.out _ hSw); obtain ⟨hcS, hfS⟩ := bcell hSw; clear hSw; go_simp; try with_reducible rfl)
      try simp only [Act.put, List.getElem_toArray, List.getElem_cons_succ, List.getElem_cons_zero, List.setIfInBounds_toArray, List.set_cons_zero, List.set_cons_succ]
      refine wpAnyH_take (i := 11) (v := ?v5_11) rfl (by kernel_rfl) (by kernel_rfl) (by kernel_rfl) (fun _ _ _ h => h) (Or.inl ⟨by rfl, ?y5_11⟩) (by assumption) ?r5_11
      case' y5_11 => (intro w hSw; (try dsimp only at hSw); (try have hlS := HLK.out _ hSw); obtain ⟨hcS, hfS⟩ := bcell hSw; clear hSw; go_simp; try with_reducible rfl)
      try simp only [Act.put, List.getElem_toArray, List.getElem_cons_succ, List.getElem_cons_zero, List.setIfInBounds_toArray, List.set_cons_zero, List.set_cons_succ]
      refine wpAnyH_take (i := 12) (v := ?v5_12) rfl (by kernel_rfl) (by kernel_rfl) (by kernel_rfl) (fun _ _ _ h => h) (Or.inl ⟨by rfl, ?y5_12⟩) (by assumption) ?r5_12
      case' y5_12 => (intro w hSw; (try dsimp only at hSw); (try have hlS := HLK.out _ hSw); obtain ⟨hcS, hfS⟩ := bcell hSw; clear hSw; go_simp; try with_reducible rfl)
      try simp only [Act.put, List.getElem_toArray, List.getElem_cons_succ, List.getElem_cons_zero, List.setIfInBounds_toArray, List.set_cons_zero, List.set_cons_succ]
      refine wpAnyH_take (i := 13) (v := ?v5_13) rfl (by kernel_rfl) (by kernel_rfl) (by kernel_rfl) (fun _ _ _ h => h) (Or.inl ⟨by rfl, ?y5_13⟩) (by assumption) ?r5_13
      case' y5_13 => (intro w hSw; (try dsimp only at hSw); (try have hlS := HLK.out _ hSw); obtain ⟨hcS, hfS⟩ := bcell hSw; clear hSw; go_simp; try with_reducible rfl)
      try simp only [Act.put, List.getElem_toArray, List.getElem_cons_succ, List.getElem_cons_zero, List.setIfInBounds_toArray, List.set_cons_zero, List.set_cons_succ]
      refine wpAnyH_take (i := 14) (v := ?v5_14) rfl (by kernel_rfl) (by kernel_rfl) (by kernel_rfl) (fun _ _ _ h => h) (Or.inl ⟨by rfl, ?y5_14⟩) (by assumption) ?r5_14
      case' y5_14 => (intro w hSw; (try dsimp only at hSw); (try have hlS := HLK.out _ hSw); obtain ⟨hcS, hfS⟩ := bcell hSw; clear hSw; go_simp; try with_reducible rfl)
      try simp only [Act.put, List.getElem_toArray, List.getElem_cons_succ, List.getElem_cons_zero, List.setIfInBounds_toArray, List.set_cons_zero, List.set_cons_succ]
      refine wpAnyH_take (i := 15) (v := undef) rfl (by kernel_rfl) (by kernel_rfl) (by kernel_rfl) (fun _ _ _ h => h) (Or.inr ⟨?w5_15, rfl⟩) (by assumption) ?r5_15
      case' w5_15 => first | rfl | (simp [Region.wanted, yielded, *]; done)
      try simp only [Act.put, List.getElem_toArray, List.getElem_cons_succ, List.getElem_cons_zero, List.setIfInBounds_toArray, List.set_cons_zero, List.set_cons_succ]
      refine wpAnyH_take (i := 16) (v := undef) rfl (by kernel_rfl) (by kernel_rfl) (by kernel_rfl) (fun _ _ _ h => h) (Or.inr ⟨?w5_16, rfl⟩) (by assumption) ?r5_16
      case' w5_16 => first | rfl | (simp [Region.wanted, yielded, *]; done)
      try simp only [Act.put, List.getElem_toArray, List.getElem_cons_succ, List.getElem_cons_zero, List.setIfInBounds_toArray, List.set_cons_zero, List.set_cons_succ]
      refine wpAnyH_take (i := 17) (v := undef) rfl (by kernel_rfl) (by kernel_rfl) (by kernel_rfl) (fun _ _ _ h => h) (Or.inr ⟨?w5_17, rfl⟩) (by assumption) ?r5_17
      case' w5_17 => first | rfl | (simp [Region.wanted, yielded, *]; done)
      try simp only [Act.put, List.getElem_toArray, List.getElem_cons_succ, List.getElem_cons_zero, List.setIfInBounds_toArray, List.set_cons_zero, List.set_cons_succ]
      refine wpAnyH_take (i := 18) (v := undef) rfl (by kernel_rfl) (by kernel_rfl) (by kernel_rfl) (fun _ _ _ h => h) (Or.inr ⟨?w5_18, rfl⟩) (by assumption) ?r5_18
      case' w5_18 => first | rfl | (simp [Region.wanted, yielded, *]; done)
      try simp only [Act.put, List.getElem_toArray, List.getElem_cons_succ, List.getElem_cons_zero, List.setIfInBounds_toArray, List.set_cons_zero, List.set_cons_succ]
      refine wpAnyH_take (i := 19) (v := undef) rfl (by kernel_rfl) (by kernel_rfl) (by kernel_rfl) (fun _ _ _ h => h) (Or.inr ⟨?w5_19, rfl⟩) (by assumption) ?r5_19
      case' w5_19 => first | rfl | (simp [Region.wanted, yielded, *]; done)
      try simp only [Act.put, List.getElem_toArray, List.getElem_cons_succ, List.getElem_cons_zero, List.setIfInBounds_toArray, List.set_cons_zero, List.set_cons_succ]
      refine wpAnyH_take (i := 20) (v := undef) rfl (by kernel_rfl) (by kernel_rfl) (by kernel_rfl) (fun _ _ _ h => h) (Or.inr ⟨?w5_20, rfl⟩) (by assumption) ?r5_20
      case' w5_20 => first | rfl | (simp [Region.wanted, yielded, *]; done)
      try simp only [Act.put, List.getElem_toArray, List.getElem_cons_succ, List.getElem_cons_zero, List.setIfInBounds_toArray, List.set_cons_zero, List.set_cons_succ]
      refine wpAnyH_take (i := 21) (v := undef) rfl (by kernel_rfl) (by kernel_rfl) (by kernel_rfl) (fun _ _ _ h => h) (Or.inr ⟨?w5_21, rfl⟩) (by assumption) ?r5_21
      case' w5_21 => first | rfl | (simp [Region.wanted, yielded, *]; done)
      try simp only [Act.put, List.getElem_toArray, List.getElem_cons_succ, List.getElem_cons_zero, List.setIfInBounds_toArray, List.set_cons_zero, List.set_cons_succ]
      refine wpAnyH_take (i := 22) (v := undef) rfl (by kernel_rfl) (by kernel_rfl) (by kernel_rfl) (fun _ _ _ h => h) (Or.inr ⟨?w5_22, rfl⟩) (by assumption) ?r5_22
      case' w5_22 => first | rfl | (simp [Region.wanted, yielded, *]; done)
      try simp only [Act.put, List.getElem_toArray, List.getElem_cons_succ, List.getElem_cons_zero, List.setIfInBounds_toArray, List.set_cons_zero, List.set_cons_succ]
      refine wpAnyH_take (i := 23) (v := undef) rfl (by kernel_rfl) (by kernel_rfl) (by kernel_rfl) (fun _ _ _ h => h) (Or.inr ⟨?w5_23, rfl⟩) (by assumption) ?r5_23
      case' w5_23 => first | rfl | (simp [Region.wanted, yielded, *]; done)
      try simp only [Act.put, List.getElem_toArray, List.getElem_cons_succ, List.getElem_cons_zero, List.setIfInBounds_toArray, List.set_cons_zero, List.set_cons_succ]
      refine wpAnyH_take (i := 24) (v := undef) rfl (by kernel_rfl) (by kernel_rfl) (by kernel_rfl) (fun _ _ _ h => h) (Or.inr ⟨?w5_24, rfl⟩) (by assumption) ?r5_24
      case' w5_24 => first | rfl | (simp [Region.wanted, yielded, *]; done)
      try simp only [Act.put, List.getElem_toArray, List.getElem_cons_succ, List.getElem_cons_zero, List.setIfInBounds_toArray, List.set_cons_zero, List.set_cons_succ]
      refine wpAnyH_take (i := 25) (v := undef) rfl (by kernel_rfl) (by kernel_rfl) (by kernel_rfl) (fun _ _ _ h => h) (Or.inr ⟨?w5_25, rfl⟩) (by assumption) ?r5_25
      case' w5_25 => first | rfl | (simp [Region.wanted, yielded, *]; done)
      try simp only [Act.put, List.getElem_toArray, List.getElem_cons_succ, List.getElem_cons_zero, List.setIfInBounds_toArray, List.set_cons_zero, List.set_cons_succ]
      refine wpAnyH_take (i := 26) (v := ?v5_26) rfl (by kernel_rfl) (by kernel_rfl) (by kernel_rfl) (fun _ _ _ h => h) (Or.inl ⟨by rfl, ?y5_26⟩) (by assumption) ?r5_26
      case' y5_26 => (intro w hSw; (try dsimp only at hSw); (try have hlS := HLK.out _ hSw); obtain ⟨hcS, hfS⟩ := bcell hSw; clear hSw; go_simp; try with_reducible rfl)
      try simp only [Act.put, List.getElem_toArray, List.getElem_cons_succ, List.getElem_cons_zero, List.setIfInBounds_toArray, List.set_cons_zero, List.set_cons_succ]
      refine wpAnyH_take (i := 27) (v := ?v5_27) rfl (by kernel_rfl) (by kernel_rfl) (by kernel_rfl) (fun _ _ _ h => h) (Or.inl ⟨by rfl, ?y5_27⟩) (by assumption) ?r5_27
      case' y5_27 => (intro w hSw; (try dsimp only at hSw); (try have hlS := HLK.out _ hSw); obtain ⟨hcS, hfS⟩ := bcell hSw; clear hSw; go_simp; try with_reducible rfl)
      try simp only [Act.put, List.getElem_toArray, List.getElem_cons_succ, List.getElem_cons_zero, List.setIfInBounds_toArray, List.set_cons_zero, List.set_cons_succ]
      refine wpAnyH_take (i := 28) (v := ?v5_28) rfl (by kernel_rfl) (by kernel_rfl) (by kernel_rfl) (fun _ _ _ h => h) (Or.inl ⟨by rfl, ?y5_28⟩) (by assumption) ?r5_28
      case' y5_28 => (intro w hSw; (try dsimp only at hSw); (try have hlS := HLK.out _ hSw); obtain ⟨hcS, hfS⟩ := bcell hSw; clear hSw; go_simp; try with_reducible rfl)
      try simp only [Act.put, List.getElem_toArray, List.getElem_cons_succ, List.getElem_cons_zero, List.setIfInBounds_toArray, List.set_cons_zero, List.set_cons_succ]
      refine wpAnyH_done (by kernel_rfl) ?_ _
      go_wp2_with fail
      go_ret
      exact ⟨ret_bool HG.out.symm, Below.to HB0.out hHeld (Nat.le_refl _)⟩
set_option maxRecDepth 100000 in
set_option maxHeartbeats 4000000 in
theorem goes_any (ks : List Kt) (i : Nat) (o q : Int) (A Ar : Option Addr) (n cap nr capr : Nat) (kv : Value) (w : World) (hi : i ≤ ks.length) (h : Kts w w.heap.size kv ks) :
    Calls Try.prog 78 #[.agg #[.slice A n cap, .slice Ar nr capr], kv, .int .i64 i, .int .i64 o, .int .i64 q] w fun e w' => e = .returned (.bool (goB ks i o q)) ∧ Below w.heap.size w w' := by
  obtain ⟨Ak, b, off, capk, rfl, hnc, hA, hc⟩ := h
  have HC := hide hc
  have HA := hide hA
  clear hA hc
  by_cases h1 : q = -1
  · subst h1
    go_enter Try.func78, Try.ntmps78
    go_wp2_with fail
    go_ret
    exact ⟨rfl, (by repeat (first | exact Below.refl _ _ | assumption | refine Below.drew ?_ | refine Below.drewN ?_ _ | refine Below.allocT ?_ (Nat.le_refl _) _ | refine Below.setCell ?_ (by simp <;> omega) _ | refine Below.to ?_ (by assumption) (Nat.le_refl _)))⟩
  by_cases h2 : q = -2
  · subst h2
    go_enter Try.func78, Try.ntmps78
    go_wp2_with fail
    go_ret
    exact ⟨rfl, (by repeat (first | exact Below.refl _ _ | assumption | refine Below.drew ?_ | refine Below.drewN ?_ _ | refine Below.allocT ?_ (Nat.le_refl _) _ | refine Below.setCell ?_ (by simp <;> omega) _ | refine Below.to ?_ (by assumption) (Nat.le_refl _)))⟩
  have a1 : (q == -1) = false := by simpa using h1
  have a2 : (q == -2) = false := by simpa using h2
  by_cases h3 : q < 0
  · have a3 : decide (0 ≤ q) = false := by simp; omega
    have HG := hide (goB_neg (ks := ks) (k := i) (o := o) h1 h2 h3)
    clear h1 h2 h3
    go_enter Try.func78, Try.ntmps78
    go_wp2_with fail
    go_ret
    exact ⟨ret_bool HG.out.symm, (by repeat (first | exact Below.refl _ _ | assumption | refine Below.drew ?_ | refine Below.drewN ?_ _ | refine Below.allocT ?_ (Nat.le_refl _) _ | refine Below.setCell ?_ (by simp <;> omega) _ | refine Below.to ?_ (by assumption) (Nat.le_refl _)))⟩
  · obtain ⟨t, rfl⟩ := Int.eq_ofNat_of_zero_le (by omega : 0 ≤ q)
    have a3 : decide ((0 : Int) ≤ (t : Int)) = true := by simp
    clear h1 h2 h3
    by_cases h4 : t < i
    · have a4 : decide ((t : Int) < (i : Int)) = true := by simp; omega
      have ht : t < ks.length := by omega
      have t0 : (0 : Int) ≤ (t : Int) := by omega
      have t1 : (t : Int) < (ks.length : Int) := by omega
      obtain ⟨o2, ho2⟩ : ∃ o, (ks.getD t Kt.z).o = o := ⟨_, rfl⟩
      obtain ⟨rfl, hb, p2, _, _⟩ := kAt HA.out HC.out ht
      rw [ho2] at p2
      have HG : Hid (goB ks i o t = decide (o < o2)) := by
        have := goB_nat (ks := ks) (k := i) (t := t) (o := o)
        rw [a4, Bool.true_and, ho2] at this
        exact this
      have HP2 := hide p2
      clear p2 ho2
      go_enter Try.func78, Try.ntmps78
      go_upto_region 1 with (fail)
      generalize hw0 : World.alloc _ _ = w0
      obtain ⟨hb0, hB0, hs0⟩ := alloc1 hw0
      clear hw0
      have HB0 := hide hB0
      have q2 : w0.cell? ⟨b, off + t * 3, none⟩ = some (.int .i64 o2) := (hB0.cell (p := ⟨b, off + t * 3, none⟩) hb).trans HP2.out
      clear hb0 hB0 hs0
      go_wp2_with fail
      go_ret
      exact ⟨ret_bool HG.out.symm, HB0.out⟩
    · have a4 : decide ((t : Int) < (i : Int)) = false := by simp; omega
      have HG : Hid (goB ks i o t = false) := by
        have := goB_nat (ks := ks) (k := i) (t := t) (o := o)
        rw [a4, Bool.false_and] at this
        exact this
      go_enter Try.func78, Try.ntmps78
      go_wp2_with fail
      go_ret
      exact ⟨ret_bool HG.out.symm, (by repeat (first | exact Below.refl _ _ | assumption | refine Below.drew ?_ | refine Below.drewN ?_ _ | refine Below.allocT ?_ (Nat.le_refl _) _ | refine Below.setCell ?_ (by simp <;> omega) _ | refine Below.to ?_ (by assumption) (Nat.le_refl _)))⟩
end Go.Proofs.Ytohofcmikfkilaa
/- Follow: walk. -/
namespace Go.Proofs.Ytohofcmikfkilaa
open Go.RowKit
set_option linter.unusedVariables false
set_option linter.unusedSimpArgs false
theorem Kts.up {w w' : World} {v : Value} {ks : List Kt} (h : Kts w w.heap.size v ks) (hb : Below w.heap.size w w') : Kts w' w'.heap.size v ks := Sl.up h hb
theorem ret_fol {a b : Bool} {x y : Int} (h1 : a = b) (h2 : x = y) : Ending.returned (.tuple #[.bool a, .int .i64 x]) = .returned (.tuple #[.bool b, .int .i64 y]) := by rw [h1, h2]
set_option maxRecDepth 100000 in
set_option maxHeartbeats 8000000 in
theorem Follow_any (m : Mo) (ks : List Kt) (root : Int) (vs : List Bool) (ov rv kv vv : Value) (w : World) (hs : SizedM m) (hkl : ks.length ≤ 3000) (hvl : vs.length ≤ maxLen) (h : MoAt w w.heap.size ov rv m) (hk : Kts w w.heap.size kv ks) (hv : Bols w w.heap.size vv vs) :
    Calls Try.prog 32 #[.agg #[ov, rv], kv, .int .i64 root, vv] w fun e w' => e = .returned (.tuple #[.bool (folB m ks root vs), .int .i64 (folE m ks root vs)]) ∧ Below w.heap.size w w' := by
  unfold maxLen at hvl
  obtain ⟨A, cap, hov⟩ := Sl.form h.o
  obtain ⟨Ar, capr, hrv⟩ := h.r.form
  have hnl := hs.n
  unfold maxLen at hnl
  have H := hide h
  have HS := hide hs
  have HKS := hide hk
  obtain ⟨Ak, bk, offk, capk, rfl, hnck, hAk, hck⟩ := hk
  obtain ⟨Av, bv, offv, capv, rfl, hncv, hAv, hcv⟩ := hv
  have HAK := hide hAk
  have HCK := hide hck
  have HAV := hide hAv
  have HCV := hide hcv
  subst hov hrv
  clear h hs hAk hck hAv hcv
  by_cases he : m.err = 0
  case neg =>
    obtain ⟨hE, hB⟩ := fol_err (ks := ks) (r := root) (v := vs) he
    obtain ⟨z, hz⟩ : ∃ z, m.err = z := ⟨_, rfl⟩
    rw [hz] at he hE
    have hz1 : (z != 0) = true := by simpa using he
    have HE := hide hE
    have HB := hide hB
    have HZ := hide hz
    clear he hE hB hz
    go_enter Try.func32, Try.ntmps32
    go_upto_region 1 with (fail)
    generalize hw0 : World.alloc _ _ = w0
    obtain ⟨hb0, hB0, hs0⟩ := alloc1 hw0
    clear hw0
    have HB0 := hide hB0
    have c0 := cellOf hb0 0
    have c1 := cellOf hb0 1
    have H0 : Hid (MoAt w0 w0.heap.size (.slice A m.opts.length cap) (.slice Ar m.rules.length capr) m) := H.out.up hB0
    clear hb0 hB0 hs0
    go_wp2_with (go_at_call 24; refine (CheckModel_any m _ _ _ HS.out H0.out).mono ?_; rw [HZ.out]; rintro e w1 ⟨rfl, hB1⟩)
    go_ret2
    exact ⟨ret_fol HB.out.symm HE.out.symm, Below.to HB0.out hB1 (Nat.le_refl _)⟩
  case pos =>
    have HE0 := hide he
    by_cases hbad : 2000 < ks.length ∨ root < -2 ∨ (ks.length : Int) ≤ root ∨ vs.length ≠ m.opts.length
    · obtain ⟨hE, hB⟩ := fol_arg (m := m) (ks := ks) (r := root) (v := vs) he (by omega)
      have HE := hide hE
      have HB := hide hB
      clear hE hB he
      go_enter Try.func32, Try.ntmps32
      go_upto_region 1 with (fail)
      generalize hw0 : World.alloc _ _ = w0
      obtain ⟨hb0, hB0, hs0⟩ := alloc1 hw0
      clear hw0
      have HX0 : Hid (MoBox w0 w.heap.size (.slice A m.opts.length cap) (.slice Ar m.rules.length capr)) := hb0
      have HB0 := hide hB0
      have c0 := cellOf hb0 0
      have c1 := cellOf hb0 1
      have H0 : Hid (MoAt w0 w0.heap.size (.slice A m.opts.length cap) (.slice Ar m.rules.length capr) m) := H.out.up hB0
      clear hb0 hB0 hs0
      go_upto_region 4 with (go_at_call 24; refine (CheckModel_any m _ _ _ HS.out H0.out).mono ?_; rw [HE0.out]; rintro e w1 ⟨rfl, hB1⟩; have hbx := box_to HX0.out hB1; have d0 := cellOf hbx 0; have d1 := cellOf hbx 1; have HB1 : Hid (Below w.heap.size w w1) := Below.to HB0.out hB1 (Nat.le_refl _); clear hbx hB1 c0 c1)
      by_cases b1 : 2000 < ks.length
      · have e1 : decide ((2000 : Int) < (ks.length : Int)) = true := by simp; omega
        clear hbad b1
        go_wp2_with fail
        go_ret2
        exact ⟨ret_fol HB.out.symm HE.out.symm, HB1.out⟩
      have e1 : decide ((2000 : Int) < (ks.length : Int)) = false := by simp; omega
      by_cases b2 : root < -2
      · have e2 : decide (root < -2) = true := by simp; omega
        clear hbad b1 b2
        go_wp2_with fail
        go_ret2
        exact ⟨ret_fol HB.out.symm HE.out.symm, HB1.out⟩
      have e2 : decide (root < -2) = false := by simp; omega
      by_cases b3 : (ks.length : Int) ≤ root
      · have e3 : decide ((ks.length : Int) ≤ root) = true := by simp; omega
        clear hbad b1 b2 b3
        go_wp2_with fail
        go_ret2
        exact ⟨ret_fol HB.out.symm HE.out.symm, HB1.out⟩
      have e3 : decide ((ks.length : Int) ≤ root) = false := by simp; omega
      have e4 : ((vs.length : Int) != (m.opts.length : Int)) = true := by simp; omega
      clear hbad b1 b2 b3
      go_wp2_with fail
      go_ret2
      exact ⟨ret_fol HB.out.symm HE.out.symm, HB1.out⟩
    · have e1 : decide ((2000 : Int) < (ks.length : Int)) = false := by simp; omega
      have e2 : decide (root < -2) = false := by simp; omega
      have e3 : decide ((ks.length : Int) ≤ root) = false := by simp; omega
      have e4 : ((vs.length : Int) != (m.opts.length : Int)) = false := by simp; omega
      have hg1 : ks.length ≤ 2000 := by omega
      have hg2 : -2 ≤ root := by omega
      have hg3 : root < ks.length := by omega
      have hg4 : vs.length = m.opts.length := by omega
      have HG4 := hide hg4
      clear he hbad hg4
      go_enter Try.func32, Try.ntmps32
      go_upto_region 1 with (fail)
      generalize hw0 : World.alloc _ _ = w0
      obtain ⟨hb0, hB0, hs0⟩ := alloc1 hw0
      clear hw0
      have HX0 : Hid (MoBox w0 w.heap.size (.slice A m.opts.length cap) (.slice Ar m.rules.length capr)) := hb0
      have HB0 := hide hB0
      have c0 := cellOf hb0 0
      have c1 := cellOf hb0 1
      have H0 : Hid (MoAt w0 w0.heap.size (.slice A m.opts.length cap) (.slice Ar m.rules.length capr) m) := H.out.up hB0
      clear hb0 hB0 hs0
      go_wp2_with (go_at_call 24; refine (CheckModel_any m _ _ _ HS.out H0.out).mono ?_; rw [HE0.out]; rintro e w1 ⟨rfl, hB1⟩; have hbx := box_to HX0.out hB1; have HX1 : Hid (MoBox w1 w.heap.size (.slice A m.opts.length cap) (.slice Ar m.rules.length capr)) := hbx; have d0 := cellOf hbx 0; have d1 := cellOf hbx 1; have HB1 : Hid (Below w.heap.size w w1) := Below.to HB0.out hB1 (Nat.le_refl _); clear hbx hB1 c0 c1)
      clear e1 e2 e3 e4 d0 d1
      go_loopw [42] (fun i wr => ∃ k : Nat, k ≤ ks.length ∧ i = .int .i64 k ∧ Hid (∀ j, j < k → okB m.opts.length ks j = true) ∧ Hid (Below w1.heap.size w1 wr)) (fun i _ => ks.length - (intOf i).toNat)
      case atStart => exact ⟨0, Nat.zero_le _, rfl, fun j hj => by omega, Below.refl _ _⟩
      case round =>
        obtain ⟨k, hk, rfl, hall, hB⟩ := hrel
        obtain ⟨wo, hwo⟩ : ∃ wo : World, wo = wr := ⟨_, rfl⟩
        subst hwo
        have hbx := box_to HX1.out hB.out
        have HBX : Hid (MoBox wo w.heap.size (.slice A m.opts.length cap) (.slice Ar m.rules.length capr)) := hbx
        have hsl := box_lt hbx
        have HBW : Hid (Below w.heap.size w wo) := Below.to HB1.out hB.out (Nat.le_refl _)
        clear hbx
        by_cases hlt : k < ks.length
        · obtain ⟨rfl, hb, p0, p1, p2⟩ := kAt (k := k) HAK.out HCK.out hlt
          obtain ⟨⟨o, l, h⟩, hkk⟩ : ∃ x, ks.getD k Kt.z = x := ⟨_, rfl⟩
          rw [hkk] at p0 p1 p2
          have q0 := (HBW.out.cell (p := ⟨bk, offk + k * 3, none⟩) hb).trans p0
          have q1 := (HBW.out.cell (p := ⟨bk, offk + k * 3 + 1, none⟩) hb).trans p1
          have q2 := (HBW.out.cell (p := ⟨bk, offk + k * 3 + 2, none⟩) hb).trans p2
          have lb : bk < wo.heap.size := Nat.lt_of_lt_of_le hb HBW.out.size
          have i0 : (0 : Int) ≤ (k : Int) := by omega
          have i1 : (k : Int) < (ks.length : Int) := by omega
          have HKK := hide hkk
          clear p0 p1 p2 hkk
          go_upto_region 9 with (fail)
          generalize hw0 : World.alloc _ _ = w2
          obtain ⟨hb0, hB0, hs0⟩ := alloc1 hw0
          clear hw0
          have HK2 : Hid (w2.heap[wo.heap.size]? = some (.cells #[.int .i64 o, .int .i64 l, .int .i64 h] 114 (0, 0))) := hb0
          have HX2 : Hid (MoBox w2 w.heap.size (.slice A m.opts.length cap) (.slice Ar m.rules.length capr)) := box_to HBX.out hB0
          have HB2 : Hid (Below w.heap.size w w2) := Below.to HBW.out hB0 (Nat.le_refl _)
          have HBo : Hid (Below wo.heap.size wo w2) := hB0
          have s0 := box_lt hb0
          have s1 := box_lt HX2.out
          have x0 := cellOf HX2.out 0
          have x1 := cellOf HX2.out 1
          have z0 := cellOf hb0 0
          have z1 := cellOf hb0 1
          have z2 := cellOf hb0 2
          have hll : ∀ (W : World) (q : Int), Below w.heap.size w W → Calls Try.prog 77 #[.agg #[.slice A m.opts.length cap, .slice Ar m.rules.length capr], .slice (some ⟨bk, offk, none⟩) ks.length capk, .int .i64 k, .int .i64 q] W fun e w' => e = .returned (.bool (goB ks k o q)) ∧ Below W.heap.size W w' := fun W q hW => by
            have := leads_any ks k q A Ar m.opts.length cap m.rules.length capr _ W hlt (HKS.out.up hW)
            rw [HKK.out] at this
            exact this
          have HLL := hide hll
          have hok : okB m.opts.length ks k = (decide (0 ≤ o) && decide (o < m.opts.length) && goB ks k o l && goB ks k o h) := by unfold okB; rw [HKK.out]
          have hno : okB m.opts.length ks k = false → folE m ks root vs = 1 ∧ folB m ks root vs = false := fun hh => fol_arg HE0.out (.inr (.inl (allB_no hlt hh)))
          clear hb0 hB0 hs0 q0 q1 q2 hll
          by_cases ho : o < 0
          · have d1 : decide (o < 0) = true := by simp; omega
            have HN := hide (hno (by rw [hok, decide_eq_false (by omega : ¬ 0 ≤ o)]; simp))
            clear hok hno ho
            go_wp2_with fail
            go_ret2
            exact ⟨ret_fol HN.out.2.symm HN.out.1.symm, HB2.out⟩
          have d1 : decide (o < 0) = false := by simp; omega
          by_cases ho2 : (m.opts.length : Int) ≤ o
          · have d2 : decide ((m.opts.length : Int) ≤ o) = true := by simp; omega
            have HN := hide (hno (by rw [hok, decide_eq_false (by omega : ¬ o < (m.opts.length : Int))]; simp))
            clear hok hno ho ho2
            go_wp2_with fail
            go_ret2
            exact ⟨ret_fol HN.out.2.symm HN.out.1.symm, HB2.out⟩
          have d2 : decide ((m.opts.length : Int) ≤ o) = false := by simp; omega
          rw [decide_eq_true (by omega : 0 ≤ o), decide_eq_true (by omega : o < (m.opts.length : Int)), Bool.true_and, Bool.true_and] at hok
          cases hg1 : goB ks k o l with
          | false =>
            have HN := hide (hno (by rw [hok, hg1]; rfl))
            have HG1 := hide hg1
            clear hok hno ho ho2 hg1
            go_wp2_with (go_at_call 77; refine (HLL.out w2 l HB2.out).mono ?_; rw [HG1.out]; rintro e w3 ⟨rfl, hB3⟩)
            go_ret2
            exact ⟨ret_fol HN.out.2.symm HN.out.1.symm, Below.to HB2.out hB3 (Nat.le_refl _)⟩
          | true =>
            cases hg2 : goB ks k o h with
            | false =>
              have HN := hide (hno (by rw [hok, hg1, hg2]; rfl))
              have HG1 := hide hg1
              have HG2 := hide hg2
              clear hok hno ho ho2 hg1 hg2
              go_wp2_with (go_at_call 77; refine (HLL.out _ _ (by first | exact HB2.out | exact HB3.out)).mono ?_; first | (rw [HG1.out]; rintro e w3 ⟨rfl, hB3⟩; have HB3 : Hid (Below w.heap.size w w3) := Below.to HB2.out hB3 (Nat.le_refl _); have y0 := cellOf (box_to HX2.out hB3) 0; have y1 := cellOf (box_to HX2.out hB3) 1; have v2 := cellOf (box_to HK2.out hB3) 2; clear hB3) | (rw [HG2.out]; rintro e w4 ⟨rfl, hB4⟩))
              go_ret2
              exact ⟨ret_fol HN.out.2.symm HN.out.1.symm, Below.to HB3.out hB4 (Nat.le_refl _)⟩
            | true =>
              have HOK : Hid (okB m.opts.length ks k = true) := by rw [hok, hg1, hg2]; rfl
              have HG1 := hide hg1
              have HG2 := hide hg2
              clear hok hno ho ho2 hg1 hg2
              go_wp2_with (go_at_call 77; refine (HLL.out _ _ (by first | exact HB2.out | exact HB3.out)).mono ?_; first | (rw [HG1.out]; rintro e w3 ⟨rfl, hB3⟩; have HB3 : Hid (Below w.heap.size w w3) := Below.to HB2.out hB3 (Nat.le_refl _); have HB23 := hide hB3; have y0 := cellOf (box_to HX2.out hB3) 0; have y1 := cellOf (box_to HX2.out hB3) 1; have v2 := cellOf (box_to HK2.out hB3) 2; clear hB3) | (rw [HG2.out]; rintro e w4 ⟨rfl, hB4⟩))
              go_roundw
              case rel => exact ⟨k + 1, by omega, by go_num, fun j hj => by
                  rcases Nat.lt_or_ge j k with h | h
                  · exact hall.out j h
                  · rw [show j = k from by omega]; exact HOK.out, Below.to (Below.to (Below.to hB.out HBo.out (Nat.le_refl _)) HB23.out (Nat.le_refl _)) hB4 (Nat.le_refl _)⟩
              case measure => simp [intOf]; omega
        · have hok := fol_ok (r := root) (v := vs) HE0.out hg1 (allB_yes fun i hi => hall.out i (by omega)) hg2 hg3 HG4.out
          have HOK := hide hok
          have hal : ∀ i, i < ks.length → okB m.opts.length ks i = true := fun i hi => hall.out i (by omega)
          have HAL := hide hal
          clear hok hal hB
          go_wp2_with fail
          go_loopw [2] (fun i wr => ∃ (r : Int) (mm : Nat), i = .int .i64 r ∧ -2 ≤ r ∧ r < ks.length ∧ r < mm ∧ Hid (flw ks vs ks.length root = flw ks vs mm r) ∧ Hid (Below wo.heap.size wo wr)) (fun i _ => (intOf i + 3).toNat)
          case atStart => exact ⟨root, ks.length, rfl, hg2, hg3, hg3, rfl, Below.refl _ _⟩
          case round =>
            obtain ⟨r, mm, rfl, hr1, hr2, hr3, hf, hBi⟩ := hrel
            have HBi : Hid (Below w.heap.size w wr) := Below.to HBW.out hBi.out (Nat.le_refl _)
            by_cases hr : 0 ≤ r
            · obtain ⟨k, rfl⟩ := Int.eq_ofNat_of_zero_le hr
              have hkl2 : k < ks.length := by omega
              obtain ⟨mm, rfl⟩ : ∃ m2, mm = m2 + 1 := ⟨mm - 1, by omega⟩
              have hkok := HAL.out k hkl2
              have hnb := nxt_bd (v := vs) hkok
              have hob := okB_bd hkok
              have hf2 := hf.out.trans (flw_go ks vs mm hr)
              have hnx : nxt ks vs k = if vs.getD (ks.getD k Kt.z).o.toNat false then (ks.getD k Kt.z).h else (ks.getD k Kt.z).l := by unfold nxt; rw [Int.toNat_natCast]
              obtain ⟨rfl, hb, p0, p1, p2⟩ := kAt (k := k) HAK.out HCK.out hkl2
              obtain ⟨⟨o, l, h⟩, hkk⟩ : ∃ x, ks.getD k Kt.z = x := ⟨_, rfl⟩
              rw [hkk] at p0 p1 p2 hob hnx
              obtain ⟨t, rfl⟩ : ∃ t : Nat, o = (t : Int) := Int.eq_ofNat_of_zero_le hob.1
              have htv : t < vs.length := by have := HG4.out; have := hob.2; simp only at this; omega
              obtain ⟨rfl, hbv⟩ : Av = some ⟨bv, offv, none⟩ ∧ bv < w.heap.size := by
                rcases HAV.out with h | h
                · exact h
                · omega
              obtain ⟨x, hx⟩ : ∃ x, vs.getD t false = x := ⟨_, rfl⟩
              have cv : w.cell? ⟨bv, offv + t, none⟩ = some (.bool x) := by
                have h1 := HCV.out t 0 htv (by omega)
                rw [Nat.mul_one, Nat.add_zero, hx] at h1
                exact h1
              rw [Int.toNat_natCast, hx] at hnx
              have q0 := (HBi.out.cell (p := ⟨bk, offk + k * 3, none⟩) hb).trans p0
              have q1 := (HBi.out.cell (p := ⟨bk, offk + k * 3 + 1, none⟩) hb).trans p1
              have q2 := (HBi.out.cell (p := ⟨bk, offk + k * 3 + 2, none⟩) hb).trans p2
              have HCV2 := hide cv
              have lb : bk < wr.heap.size := Nat.lt_of_lt_of_le hb HBi.out.size
              have i0 : (0 : Int) ≤ (k : Int) := by omega
              have i1 : (k : Int) < (ks.length : Int) := by omega
              have j0 : (0 : Int) ≤ (t : Int) := by omega
              have j1 : (t : Int) < (vs.length : Int) := by omega
              have HF2 := hide hf2
              have HNX := hide hnx
              have HNB := hide hnb
              clear p0 p1 p2 hkk cv hx hf2 hnx hnb hob hkok hf
              go_upto_region 14 with (fail)
              generalize hw0 : World.alloc _ _ = w2
              obtain ⟨hb0, hB0, hs0⟩ := alloc1 hw0
              clear hw0
              have HB2 : Hid (Below w.heap.size w w2) := Below.to HBi.out hB0 (Nat.le_refl _)
              have HBo : Hid (Below wo.heap.size wo w2) := Below.to hBi.out hB0 (Nat.le_refl _)
              have s0 := box_lt hb0
              have z0 := cellOf hb0 0
              have z1 := cellOf hb0 1
              have z2 := cellOf hb0 2
              have cv2 := (HB2.out.cell (p := ⟨bv, offv + t, none⟩) hbv).trans HCV2.out
              have lv : bv < w2.heap.size := Nat.lt_of_lt_of_le hbv HB2.out.size
              clear hb0 hB0 hs0 q0 q1 q2
              cases x with
              | true =>
                go_wp2_with fail
                go_roundw
                case rel => 
                  have hn : nxt ks vs k = h := by rw [HNX.out]; rfl
                  have h1 := HNB.out
                  rw [hn] at h1
                  exact ⟨h, mm, rfl, h1.1, by omega, by omega, by rw [HF2.out, hn]; rfl, HBo.out⟩
                case measure =>
                  have hn : nxt ks vs k = h := by rw [HNX.out]; rfl
                  have h1 := HNB.out
                  rw [hn] at h1
                  simp [intOf]; omega
              | false =>
                go_wp2_with fail
                go_roundw
                case rel => 
                  have hn : nxt ks vs k = l := by rw [HNX.out]; rfl
                  have h1 := HNB.out
                  rw [hn] at h1
                  exact ⟨l, mm, rfl, h1.1, by omega, by omega, by rw [HF2.out, hn]; rfl, HBo.out⟩
                case measure =>
                  have hn : nxt ks vs k = l := by rw [HNX.out]; rfl
                  have h1 := HNB.out
                  rw [hn] at h1
                  simp [intOf]; omega
            · have hn := flw_neg ks vs mm (by omega : r < 0)
              have hz := HOK.out.2
              rw [hf.out, hn] at hz
              have HZ := hide hz
              clear hn hz hf
              go_wp2_with fail
              go_ret2
              exact ⟨ret_fol HZ.out.symm HOK.out.1.symm, HBi.out⟩
end Go.Proofs.Ytohofcmikfkilaa
/- Follow as the elder program has it: walk. -/
namespace Go.Proofs.Ytohofcmikfkilaa
open Go.RowKit
set_option linter.unusedVariables false
set_option linter.unusedSimpArgs false
theorem goB_root {n : Nat} {ks : List Kt} {r : Int} (h : ∀ i, i < ks.length → okB n ks i = true) : goB ks ks.length (-1) r = decide (-2 ≤ r ∧ r < ks.length) := by
  by_cases h1 : r = -1
  · subst h1
    rw [goB_one, decide_eq_true (by omega)]
  by_cases h2 : r = -2
  · subst h2
    rw [goB_two, decide_eq_true (by omega)]
  by_cases h3 : r < 0
  · rw [goB_neg h1 h2 h3, decide_eq_false (by omega)]
  · obtain ⟨t, rfl⟩ := Int.eq_ofNat_of_zero_le (by omega : 0 ≤ r)
    rw [goB_nat]
    by_cases h4 : t < ks.length
    · have := okB_bd (h t h4)
      rw [decide_eq_true (by omega), decide_eq_true (by omega), decide_eq_true (by omega)]; rfl
    · rw [decide_eq_false (by omega : ¬ (t : Int) < (ks.length : Int)), Bool.false_and]; exact (decide_eq_false (by omega)).symm
set_option maxRecDepth 100000 in
set_option maxHeartbeats 8000000 in
theorem rFollow_any (m : Mo) (ks : List Kt) (root : Int) (vs : List Bool) (ov rv kv vv : Value) (w : World) (hs : SizedM m) (hkl : ks.length ≤ 3000) (hvl : vs.length ≤ maxLen) (h : MoAt w w.heap.size ov rv m) (hk : Kts w w.heap.size kv ks) (hv : Bols w w.heap.size vv vs) :
    Calls Try.prog 33 #[.agg #[ov, rv], kv, .int .i64 root, vv] w fun e w' => e = .returned (.tuple #[.bool (folB m ks root vs), .int .i64 (folE m ks root vs)]) ∧ Below w.heap.size w w' := by
  unfold maxLen at hvl
  obtain ⟨A, cap, hov⟩ := Sl.form h.o
  obtain ⟨Ar, capr, hrv⟩ := h.r.form
  have hnl := hs.n
  unfold maxLen at hnl
  have H := hide h
  have HS := hide hs
  have HKS := hide hk
  obtain ⟨Ak, bk, offk, capk, rfl, hnck, hAk, hck⟩ := hk
  obtain ⟨Av, bv, offv, capv, rfl, hncv, hAv, hcv⟩ := hv
  have HAK := hide hAk
  have HCK := hide hck
  have HAV := hide hAv
  have HCV := hide hcv
  subst hov hrv
  clear h hs hAk hck hAv hcv
  by_cases he : m.err = 0
  case neg =>
    obtain ⟨hE, hB⟩ := fol_err (ks := ks) (r := root) (v := vs) he
    obtain ⟨z, hz⟩ : ∃ z, m.err = z := ⟨_, rfl⟩
    rw [hz] at he hE
    have hz1 : (z != 0) = true := by simpa using he
    have HE := hide hE
    have HB := hide hB
    have HZ := hide hz
    clear he hE hB hz
    go_enter Try.func33, Try.ntmps33
    go_upto_region 1 with (fail)
    generalize hw0 : World.alloc _ _ = w0
    obtain ⟨hb0, hB0, hs0⟩ := alloc1 hw0
    clear hw0
    have HB0 := hide hB0
    have c0 := cellOf hb0 0
    have c1 := cellOf hb0 1
    have H0 : Hid (MoAt w0 w0.heap.size (.slice A m.opts.length cap) (.slice Ar m.rules.length capr) m) := H.out.up hB0
    clear hb0 hB0 hs0
    go_wp2_with (go_at_call 25; refine (rCheckModel_any m _ _ _ HS.out H0.out).mono ?_; rw [HZ.out]; rintro e w1 ⟨rfl, hB1⟩)
    go_ret2
    exact ⟨ret_fol HB.out.symm HE.out.symm, Below.to HB0.out hB1 (Nat.le_refl _)⟩
  case pos =>
    have HE0 := hide he
    by_cases hbad : 2000 < ks.length
    · obtain ⟨hE, hB⟩ := fol_arg (m := m) (ks := ks) (r := root) (v := vs) he (.inl hbad)
      have HE := hide hE
      have HB := hide hB
      have e1 : decide ((2000 : Int) < (ks.length : Int)) = true := by simp; omega
      clear hE hB he
      go_enter Try.func33, Try.ntmps33
      go_upto_region 1 with (fail)
      generalize hw0 : World.alloc _ _ = w0
      obtain ⟨hb0, hB0, hs0⟩ := alloc1 hw0
      clear hw0
      have HX0 : Hid (MoBox w0 w.heap.size (.slice A m.opts.length cap) (.slice Ar m.rules.length capr)) := hb0
      have HB0 := hide hB0
      have c0 := cellOf hb0 0
      have c1 := cellOf hb0 1
      have H0 : Hid (MoAt w0 w0.heap.size (.slice A m.opts.length cap) (.slice Ar m.rules.length capr) m) := H.out.up hB0
      clear hb0 hB0 hs0
      go_wp2_with (go_at_call 25; refine (rCheckModel_any m _ _ _ HS.out H0.out).mono ?_; rw [HE0.out]; rintro e w1 ⟨rfl, hB1⟩; have hbx := box_to HX0.out hB1; have d0 := cellOf hbx 0; have d1 := cellOf hbx 1; have HB1 : Hid (Below w.heap.size w w1) := Below.to HB0.out hB1 (Nat.le_refl _); clear hbx hB1 c0 c1)
      go_ret2
      exact ⟨ret_fol HB.out.symm HE.out.symm, HB1.out⟩
    · have e1 : decide ((2000 : Int) < (ks.length : Int)) = false := by simp; omega
      have hg1 : ks.length ≤ 2000 := by omega
      clear he hbad
      go_enter Try.func33, Try.ntmps33
      go_upto_region 1 with (fail)
      generalize hw0 : World.alloc _ _ = w0
      obtain ⟨hb0, hB0, hs0⟩ := alloc1 hw0
      clear hw0
      have HX0 : Hid (MoBox w0 w.heap.size (.slice A m.opts.length cap) (.slice Ar m.rules.length capr)) := hb0
      have HB0 := hide hB0
      have c0 := cellOf hb0 0
      have c1 := cellOf hb0 1
      have H0 : Hid (MoAt w0 w0.heap.size (.slice A m.opts.length cap) (.slice Ar m.rules.length capr) m) := H.out.up hB0
      clear hb0 hB0 hs0
      go_wp2_with (go_at_call 25; refine (rCheckModel_any m _ _ _ HS.out H0.out).mono ?_; rw [HE0.out]; rintro e w1 ⟨rfl, hB1⟩; have hbx := box_to HX0.out hB1; have HX1 : Hid (MoBox w1 w.heap.size (.slice A m.opts.length cap) (.slice Ar m.rules.length capr)) := hbx; have d0 := cellOf hbx 0; have d1 := cellOf hbx 1; have HB1 : Hid (Below w.heap.size w w1) := Below.to HB0.out hB1 (Nat.le_refl _); clear hbx hB1 c0 c1)
      clear e1 d0 d1
      go_loopw [11] (fun i wr => ∃ k : Nat, k ≤ ks.length ∧ i = .int .i64 k ∧ Hid (∀ j, j < k → okB m.opts.length ks j = true) ∧ Hid (Below w1.heap.size w1 wr)) (fun i _ => ks.length - (intOf i).toNat)
      case atStart => exact ⟨0, Nat.zero_le _, rfl, fun j hj => by omega, Below.refl _ _⟩
      case round =>
        obtain ⟨k, hk, rfl, hall, hB⟩ := hrel
        obtain ⟨wo, hwo⟩ : ∃ wo : World, wo = wr := ⟨_, rfl⟩
        subst hwo
        have hbx := box_to HX1.out hB.out
        have HBX : Hid (MoBox wo w.heap.size (.slice A m.opts.length cap) (.slice Ar m.rules.length capr)) := hbx
        have hsl := box_lt hbx
        have HBW : Hid (Below w.heap.size w wo) := Below.to HB1.out hB.out (Nat.le_refl _)
        clear hbx
        by_cases hlt : k < ks.length
        · obtain ⟨rfl, hb, p0, p1, p2⟩ := kAt (k := k) HAK.out HCK.out hlt
          obtain ⟨⟨o, l, h⟩, hkk⟩ : ∃ x, ks.getD k Kt.z = x := ⟨_, rfl⟩
          rw [hkk] at p0 p1 p2
          have q0 := (HBW.out.cell (p := ⟨bk, offk + k * 3, none⟩) hb).trans p0
          have q1 := (HBW.out.cell (p := ⟨bk, offk + k * 3 + 1, none⟩) hb).trans p1
          have q2 := (HBW.out.cell (p := ⟨bk, offk + k * 3 + 2, none⟩) hb).trans p2
          have lb : bk < wo.heap.size := Nat.lt_of_lt_of_le hb HBW.out.size
          have i0 : (0 : Int) ≤ (k : Int) := by omega
          have i1 : (k : Int) < (ks.length : Int) := by omega
          have HKK := hide hkk
          clear p0 p1 p2 hkk
          go_upto_region 10 with (fail)
          generalize hw0 : World.alloc _ _ = w2
          obtain ⟨hb0, hB0, hs0⟩ := alloc1 hw0
          clear hw0
          have HK2 : Hid (w2.heap[wo.heap.size]? = some (.cells #[.int .i64 o, .int .i64 l, .int .i64 h] 114 (0, 0))) := hb0
          have HX2 : Hid (MoBox w2 w.heap.size (.slice A m.opts.length cap) (.slice Ar m.rules.length capr)) := box_to HBX.out hB0
          have HB2 : Hid (Below w.heap.size w w2) := Below.to HBW.out hB0 (Nat.le_refl _)
          have HBo : Hid (Below wo.heap.size wo w2) := hB0
          have s0 := box_lt hb0
          have s1 := box_lt HX2.out
          have x0 := cellOf HX2.out 0
          have x1 := cellOf HX2.out 1
          have z0 := cellOf hb0 0
          have z1 := cellOf hb0 1
          have z2 := cellOf hb0 2
          have hll : ∀ (W : World) (q : Int), Below w.heap.size w W → Calls Try.prog 78 #[.agg #[.slice A m.opts.length cap, .slice Ar m.rules.length capr], .slice (some ⟨bk, offk, none⟩) ks.length capk, .int .i64 k, .int .i64 o, .int .i64 q] W fun e w' => e = .returned (.bool (goB ks k o q)) ∧ Below W.heap.size W w' := fun W q hW => by
            exact goes_any ks k o q A Ar m.opts.length cap m.rules.length capr _ W (by omega) (HKS.out.up hW)
          have HLL := hide hll
          have hok : okB m.opts.length ks k = (decide (0 ≤ o) && decide (o < m.opts.length) && goB ks k o l && goB ks k o h) := by unfold okB; rw [HKK.out]
          have hno : okB m.opts.length ks k = false → folE m ks root vs = 1 ∧ folB m ks root vs = false := fun hh => fol_arg HE0.out (.inr (.inl (allB_no hlt hh)))
          clear hb0 hB0 hs0 q0 q1 q2 hll
          by_cases ho : o < 0
          · have d1 : decide (o < 0) = true := by simp; omega
            have HN := hide (hno (by rw [hok, decide_eq_false (by omega : ¬ 0 ≤ o)]; simp))
            clear hok hno ho
            go_wp2_with fail
            go_ret2
            exact ⟨ret_fol HN.out.2.symm HN.out.1.symm, HB2.out⟩
          have d1 : decide (o < 0) = false := by simp; omega
          by_cases ho2 : (m.opts.length : Int) ≤ o
          · have d2 : decide ((m.opts.length : Int) ≤ o) = true := by simp; omega
            have HN := hide (hno (by rw [hok, decide_eq_false (by omega : ¬ o < (m.opts.length : Int))]; simp))
            clear hok hno ho ho2
            go_wp2_with fail
            go_ret2
            exact ⟨ret_fol HN.out.2.symm HN.out.1.symm, HB2.out⟩
          have d2 : decide ((m.opts.length : Int) ≤ o) = false := by simp; omega
          rw [decide_eq_true (by omega : 0 ≤ o), decide_eq_true (by omega : o < (m.opts.length : Int)), Bool.true_and, Bool.true_and] at hok
          cases hg1 : goB ks k o l with
          | false =>
            have HN := hide (hno (by rw [hok, hg1]; rfl))
            have HG1 := hide hg1
            clear hok hno ho ho2 hg1
            go_wp2_with (go_at_call 78; refine (HLL.out w2 l HB2.out).mono ?_; rw [HG1.out]; rintro e w3 ⟨rfl, hB3⟩)
            go_ret2
            exact ⟨ret_fol HN.out.2.symm HN.out.1.symm, Below.to HB2.out hB3 (Nat.le_refl _)⟩
          | true =>
            cases hg2 : goB ks k o h with
            | false =>
              have HN := hide (hno (by rw [hok, hg1, hg2]; rfl))
              have HG1 := hide hg1
              have HG2 := hide hg2
              clear hok hno ho ho2 hg1 hg2
              go_wp2_with (go_at_call 78; refine (HLL.out _ _ (by first | exact HB2.out | exact HB3.out)).mono ?_; first | (rw [HG1.out]; rintro e w3 ⟨rfl, hB3⟩; have HB3 : Hid (Below w.heap.size w w3) := Below.to HB2.out hB3 (Nat.le_refl _); have y0 := cellOf (box_to HX2.out hB3) 0; have y1 := cellOf (box_to HX2.out hB3) 1; have v0 := cellOf (box_to HK2.out hB3) 0; have v2 := cellOf (box_to HK2.out hB3) 2; clear hB3) | (rw [HG2.out]; rintro e w4 ⟨rfl, hB4⟩))
              go_ret2
              exact ⟨ret_fol HN.out.2.symm HN.out.1.symm, Below.to HB3.out hB4 (Nat.le_refl _)⟩
            | true =>
              have HOK : Hid (okB m.opts.length ks k = true) := by rw [hok, hg1, hg2]; rfl
              have HG1 := hide hg1
              have HG2 := hide hg2
              clear hok hno ho ho2 hg1 hg2
              go_wp2_with (go_at_call 78; refine (HLL.out _ _ (by first | exact HB2.out | exact HB3.out)).mono ?_; first | (rw [HG1.out]; rintro e w3 ⟨rfl, hB3⟩; have HB3 : Hid (Below w.heap.size w w3) := Below.to HB2.out hB3 (Nat.le_refl _); have HB23 := hide hB3; have y0 := cellOf (box_to HX2.out hB3) 0; have y1 := cellOf (box_to HX2.out hB3) 1; have v0 := cellOf (box_to HK2.out hB3) 0; have v2 := cellOf (box_to HK2.out hB3) 2; clear hB3) | (rw [HG2.out]; rintro e w4 ⟨rfl, hB4⟩))
              go_roundw
              case rel => exact ⟨k + 1, by omega, by go_num, fun j hj => by
                  rcases Nat.lt_or_ge j k with h | h
                  · exact hall.out j h
                  · rw [show j = k from by omega]; exact HOK.out, Below.to (Below.to (Below.to hB.out HBo.out (Nat.le_refl _)) HB23.out (Nat.le_refl _)) hB4 (Nat.le_refl _)⟩
              case measure => simp [intOf]; omega
        · have hal : ∀ i, i < ks.length → okB m.opts.length ks i = true := fun i hi => hall.out i (by omega)
          have HAL := hide hal
          have hgr := goB_root (r := root) hal
          have hx := HBX.out
          have x0 := cellOf hx 0
          have x1 := cellOf hx 1
          have hlr := goes_any ks ks.length (-1) root A Ar m.opts.length cap m.rules.length capr _ wo (Nat.le_refl _) (HKS.out.up HBW.out)
          clear hal hB hx
          by_cases hrt : -2 ≤ root ∧ root < ks.length
          case neg =>
            obtain ⟨hE, hF⟩ := fol_arg (ks := ks) (r := root) (v := vs) HE0.out (by omega)
            rw [decide_eq_false hrt] at hgr
            rw [hgr] at hlr
            have HLR := hide hlr
            have HE := hide hE
            have HF := hide hF
            clear hgr hrt hlr hE hF
            go_wp2_with (go_at_call 78; refine HLR.out.mono ?_; rintro e w4 ⟨rfl, hB4⟩)
            go_ret2
            exact ⟨ret_fol HF.out.symm HE.out.symm, Below.to HBW.out hB4 (Nat.le_refl _)⟩
          rw [decide_eq_true hrt] at hgr
          rw [hgr] at hlr
          have HLR := hide hlr
          obtain ⟨hg2, hg3⟩ := hrt
          clear hgr hlr
          by_cases hg4 : vs.length = m.opts.length
          case neg =>
            obtain ⟨hE, hF⟩ := fol_arg (ks := ks) (r := root) (v := vs) HE0.out (by omega)
            have e4 : ((vs.length : Int) != (m.opts.length : Int)) = true := by simp; omega
            have HE := hide hE
            have HF := hide hF
            clear hg4 hE hF
            go_wp2_with (go_at_call 78; refine HLR.out.mono ?_; rintro e w4 ⟨rfl, hB4⟩; have y0 := cellOf (box_to HBX.out hB4) 0; have y1 := cellOf (box_to HBX.out hB4) 1)
            go_ret2
            exact ⟨ret_fol HF.out.symm HE.out.symm, Below.to HBW.out hB4 (Nat.le_refl _)⟩
          have e4 : ((vs.length : Int) != (m.opts.length : Int)) = false := by simp; omega
          have HG4 := hide hg4
          have hok := fol_ok (r := root) (v := vs) HE0.out hg1 (allB_yes fun i hi => HAL.out i hi) hg2 hg3 hg4
          have HOK := hide hok
          clear hok hg4
          go_wp2_with (go_at_call 78; refine HLR.out.mono ?_; rintro e w4 ⟨rfl, hB4⟩; have y0 := cellOf (box_to HBX.out hB4) 0; have y1 := cellOf (box_to HBX.out hB4) 1; have HBW4 : Hid (Below w.heap.size w w4) := Below.to HBW.out hB4 (Nat.le_refl _); clear hB4)
          clear x0 x1 y0 y1 e4
          go_loopw [2] (fun i wr => ∃ (r : Int) (mm : Nat), i = .int .i64 r ∧ -2 ≤ r ∧ r < ks.length ∧ r < mm ∧ Hid (flw ks vs ks.length root = flw ks vs mm r) ∧ Hid (Below w4.heap.size w4 wr)) (fun i _ => (intOf i + 3).toNat)
          case atStart => exact ⟨root, ks.length, rfl, hg2, hg3, hg3, rfl, Below.refl _ _⟩
          case round =>
            obtain ⟨r, mm, rfl, hr1, hr2, hr3, hf, hBi⟩ := hrel
            have HBi : Hid (Below w.heap.size w wr) := Below.to HBW4.out hBi.out (Nat.le_refl _)
            by_cases hr : 0 ≤ r
            · obtain ⟨k, rfl⟩ := Int.eq_ofNat_of_zero_le hr
              have hkl2 : k < ks.length := by omega
              obtain ⟨mm, rfl⟩ : ∃ m2, mm = m2 + 1 := ⟨mm - 1, by omega⟩
              have hkok := HAL.out k hkl2
              have hnb := nxt_bd (v := vs) hkok
              have hob := okB_bd hkok
              have hf2 := hf.out.trans (flw_go ks vs mm hr)
              have hnx : nxt ks vs k = if vs.getD (ks.getD k Kt.z).o.toNat false then (ks.getD k Kt.z).h else (ks.getD k Kt.z).l := by unfold nxt; rw [Int.toNat_natCast]
              obtain ⟨rfl, hb, p0, p1, p2⟩ := kAt (k := k) HAK.out HCK.out hkl2
              obtain ⟨⟨o, l, h⟩, hkk⟩ : ∃ x, ks.getD k Kt.z = x := ⟨_, rfl⟩
              rw [hkk] at p0 p1 p2 hob hnx
              obtain ⟨t, rfl⟩ : ∃ t : Nat, o = (t : Int) := Int.eq_ofNat_of_zero_le hob.1
              have htv : t < vs.length := by have := HG4.out; have := hob.2; simp only at this; omega
              obtain ⟨rfl, hbv⟩ : Av = some ⟨bv, offv, none⟩ ∧ bv < w.heap.size := by
                rcases HAV.out with h | h
                · exact h
                · omega
              obtain ⟨x, hx⟩ : ∃ x, vs.getD t false = x := ⟨_, rfl⟩
              have cv : w.cell? ⟨bv, offv + t, none⟩ = some (.bool x) := by
                have h1 := HCV.out t 0 htv (by omega)
                rw [Nat.mul_one, Nat.add_zero, hx] at h1
                exact h1
              rw [Int.toNat_natCast, hx] at hnx
              have q0 := (HBi.out.cell (p := ⟨bk, offk + k * 3, none⟩) hb).trans p0
              have q1 := (HBi.out.cell (p := ⟨bk, offk + k * 3 + 1, none⟩) hb).trans p1
              have q2 := (HBi.out.cell (p := ⟨bk, offk + k * 3 + 2, none⟩) hb).trans p2
              have HCV2 := hide cv
              have lb : bk < wr.heap.size := Nat.lt_of_lt_of_le hb HBi.out.size
              have i0 : (0 : Int) ≤ (k : Int) := by omega
              have i1 : (k : Int) < (ks.length : Int) := by omega
              have j0 : (0 : Int) ≤ (t : Int) := by omega
              have j1 : (t : Int) < (vs.length : Int) := by omega
              have HF2 := hide hf2
              have HNX := hide hnx
              have HNB := hide hnb
              clear p0 p1 p2 hkk cv hx hf2 hnx hnb hob hkok hf
              have cv2 := (HBi.out.cell (p := ⟨bv, offv + t, none⟩) hbv).trans HCV2.out
              have lv : bv < wr.heap.size := Nat.lt_of_lt_of_le hbv HBi.out.size
              cases x with
              | true =>
                go_wp2_with fail
                go_roundw
                case rel => 
                  have hn : nxt ks vs k = h := by rw [HNX.out]; rfl
                  have h1 := HNB.out
                  rw [hn] at h1
                  exact ⟨h, mm, rfl, h1.1, by omega, by omega, by rw [HF2.out, hn]; rfl, hBi.out⟩
                case measure =>
                  have hn : nxt ks vs k = h := by rw [HNX.out]; rfl
                  have h1 := HNB.out
                  rw [hn] at h1
                  simp [intOf]; omega
              | false =>
                go_wp2_with fail
                go_roundw
                case rel => 
                  have hn : nxt ks vs k = l := by rw [HNX.out]; rfl
                  have h1 := HNB.out
                  rw [hn] at h1
                  exact ⟨l, mm, rfl, h1.1, by omega, by omega, by rw [HF2.out, hn]; rfl, hBi.out⟩
                case measure =>
                  have hn : nxt ks vs k = l := by rw [HNX.out]; rfl
                  have h1 := HNB.out
                  rw [hn] at h1
                  simp [intOf]; omega
            · have hn := flw_neg ks vs mm (by omega : r < 0)
              have hz := HOK.out.2
              rw [hf.out, hn] at hz
              have HZ := hide hz
              clear hn hz hf
              go_wp2_with fail
              go_ret2
              exact ⟨ret_fol HZ.out.symm HOK.out.1.symm, HBi.out⟩
end Go.Proofs.Ytohofcmikfkilaa
/- The value of a formula as the elder program has it: walk. -/
namespace Go.Proofs.Ytohofcmikfkilaa
open Go.RowKit
set_option linter.unusedVariables false
set_option linter.unusedSimpArgs false
theorem ret_ev {a b : Bool} {x y : Nat} (h1 : a = b) (h2 : x = y) : Ending.returned (.tuple #[.bool a, .int .i64 x]) = .returned (.tuple #[.bool b, .int .i64 y]) := by rw [h1, h2]
/-- What eval tells of the term at place p. -/
def EvR (N : Nat) (v : Nat → Bool) (f : List Int) (p c : Nat) (x : Bool) (q : Nat) : Prop :=
  p < q ∧ q ≤ f.length ∧ vld N c (f.drop q) = true ∧ evS v (f.drop p) = x :: evS v (f.drop q)
theorem vld_ne {N c p : Nat} {f : List Int} (h : vld N (c + 1) (f.drop p) = true) : p < f.length := by
  rcases Nat.lt_or_ge p f.length with h1 | h1
  · exact h1
  · rw [List.drop_eq_nil_of_le h1] at h
    simp [vld] at h
theorem EvR.leaf {N c p : Nat} {v : Nat → Bool} {f : List Int} {o : Int} {x : Bool} (hd : f.drop p = o :: f.drop (p + 1)) (h : vld N (c + 1) (f.drop p) = true) (ha : arO o = 0) (hs : ∀ S, stp v o S = x :: S) : EvR N v f p c x (p + 1) := by
  have hp := vld_ne h
  rw [hd] at h
  simp only [vld, Bool.and_eq_true, ha, Nat.add_zero] at h
  refine ⟨by omega, by omega, h.2, ?_⟩
  rw [hd, evS_cons, hs]
theorem EvR.one {N c p q : Nat} {v : Nat → Bool} {f : List Int} {x : Bool} (hd : f.drop p = -3 :: f.drop (p + 1)) (h : EvR N v f (p + 1) c x q) : EvR N v f p c (!x) q := by
  obtain ⟨h1, h2, h3, h4⟩ := h
  refine ⟨by omega, h2, h3, ?_⟩
  rw [hd, evS_cons, h4]
  rfl
theorem EvR.two {N c p q r : Nat} {v : Nat → Bool} {f : List Int} {x y z : Bool} {o : Int} (hd : f.drop p = o :: f.drop (p + 1)) (h : EvR N v f (p + 1) (c + 1) x q) (k : EvR N v f q c y r) (hs : ∀ S, stp v o (x :: y :: S) = z :: S) : EvR N v f p c z r := by
  obtain ⟨h1, h2, h3, h4⟩ := h
  obtain ⟨k1, k2, k3, k4⟩ := k
  refine ⟨by omega, k2, k3, ?_⟩
  rw [hd, evS_cons, h4, k4, hs]
theorem vld_next {N c p : Nat} {f : List Int} {o : Int} (hd : f.drop p = o :: f.drop (p + 1)) (h : vld N (c + 1) (f.drop p) = true) : vld N (c + arO o) (f.drop (p + 1)) = true ∧ -6 ≤ o ∧ o < N := by
  rw [hd] at h
  simp only [vld, Bool.and_eq_true, decide_eq_true_eq] at h
  exact ⟨h.2, h.1.1, h.1.2⟩
def EvP (N : Nat) (v : Nat → Bool) (f : List Int) (p c : Nat) (w : World) (e : Ending) (W : World) : Prop := ∃ (x : Bool) (q : Nat), e = .returned (.tuple #[.bool x, .int .i64 (q : Nat)]) ∧ EvR N v f p c x q ∧ w = W
set_option maxRecDepth 100000 in
set_option maxHeartbeats 4000000 in
theorem eval_any (f : List Int) (N : Nat) (vs : List Bool) (fv vv : Value) (B : Nat) (w : World) (hm : f.length ≤ 1000) (hf : Ints w B fv f) (hv : Bols w B vv vs) (hN : vs.length = N) :
    ∀ (n p c : Nat), f.length - p ≤ n → vld N (c + 1) (f.drop p) = true → Calls Try.prog 99 #[fv, .int .i64 p, vv] w (EvP N (vf vs) f p c w) := by
  obtain ⟨A, b, off, cap, rfl, hnc, hA, hc⟩ := hf
  obtain ⟨Av, bv, offv, capv, rfl, hncv, hAv, hcv⟩ := hv
  have HC := hide hc
  have HA := hide hA
  have HCV := hide hcv
  have HAV := hide hAv
  have HN := hide hN
  clear hc hA hcv hAv hN
  intro n
  induction n with
  | zero =>
    intro p c h1 h2
    have := vld_ne h2
    omega
  | succ n ih =>
    intro p c hn hvl
    have hp := vld_ne hvl
    obtain ⟨rfl, hb⟩ : A = some ⟨b, off, none⟩ ∧ b < B := by
      rcases HA.out with h | h
      · exact h
      · omega
    obtain ⟨o, ho⟩ : ∃ o, f.getD p 0 = o := ⟨_, rfl⟩
    have c0 : w.cell? ⟨b, off + p, none⟩ = some (.int .i64 o) := by
      have h1 := HC.out p 0 hp (by omega)
      rw [Nat.mul_one, Nat.add_zero] at h1
      rw [← ho]; exact h1
    have hd : f.drop p = o :: f.drop (p + 1) := by rw [drop_getD hp, ho]
    obtain ⟨hnx, hlo, hhi⟩ := vld_next hd hvl
    have i0 : (0 : Int) ≤ (p : Int) := by omega
    have i1 : (p : Int) < (f.length : Int) := by omega
    have HD := hide hd
    have HVL := hide hvl
    have HNX := hide hnx
    have IH := hide ih
    clear hd hvl hnx ih ho
    by_cases h0 : 0 ≤ o
    · obtain ⟨t, rfl⟩ := Int.eq_ofNat_of_zero_le h0
      have ht : t < vs.length := by have := HN.out; omega
      obtain ⟨rfl, hbv⟩ : Av = some ⟨bv, offv, none⟩ ∧ bv < B := by
        rcases HAV.out with h | h
        · exact h
        · omega
      obtain ⟨x, hx⟩ : ∃ x, vs.getD t false = x := ⟨_, rfl⟩
      have c1 : w.cell? ⟨bv, offv + t, none⟩ = some (.bool x) := by
        have h1 := HCV.out t 0 ht (by omega)
        rw [Nat.mul_one, Nat.add_zero] at h1
        rw [← hx]; exact h1
      have d0 : decide ((0 : Int) ≤ (t : Int)) = true := by simp
      have j1 : (t : Int) < (vs.length : Int) := by omega
      have HR : Hid (EvR N (vf vs) f p c x (p + 1)) := EvR.leaf HD.out HVL.out (by unfold arO; (repeat' split) <;> omega) (fun S => by
        unfold stp
        rw [if_neg (by omega), if_neg (by omega), if_neg (by omega), if_neg (by omega), if_neg (by omega), if_neg (by omega), Int.toNat_natCast, ← hx]; rfl)
      clear hx
      go_enter Try.func99, Try.ntmps99
      go_wp2_with fail
      go_ret2
      exact ⟨x, p + 1, rfl, HR.out, rfl⟩
    have d0 : decide (0 ≤ o) = false := by simp; omega
    by_cases h1 : o = -1
    · subst h1
      have HR : Hid (EvR N (vf vs) f p c true (p + 1)) := EvR.leaf HD.out HVL.out rfl (fun S => rfl)
      go_enter Try.func99, Try.ntmps99
      go_wp2_with fail
      go_ret2
      exact ⟨true, p + 1, rfl, HR.out, rfl⟩
    by_cases h2 : o = -2
    · subst h2
      have HR : Hid (EvR N (vf vs) f p c false (p + 1)) := EvR.leaf HD.out HVL.out rfl (fun S => rfl)
      go_enter Try.func99, Try.ntmps99
      go_wp2_with fail
      go_ret2
      exact ⟨false, p + 1, rfl, HR.out, rfl⟩
    by_cases h3 : o = -3
    · subst h3
      have hih := IH.out (p + 1) c (by omega) HNX.out
      have HIH := hide hih
      clear hih
      go_enter Try.func99, Try.ntmps99
      go_wp2_with (go_at_call 99; refine HIH.out.mono ?_; rintro e w1 ⟨x, q, rfl, hr, rfl⟩; have HR := hide hr; clear hr)
      go_ret2
      exact ⟨!x, q, rfl, EvR.one HD.out HR.out, rfl⟩
    have ha : arO o = 2 := by unfold arO; (repeat' split) <;> omega
    have hih := IH.out (p + 1) (c + 1) (by omega) (by have := HNX.out; rw [ha] at this; exact this)
    have HIH := hide hih
    have e1 : (o == -1) = false := by simpa using h1
    have e2 : (o == -2) = false := by simpa using h2
    have e3 : (o == -3) = false := by simpa using h3
    clear hih ha
    go_enter Try.func99, Try.ntmps99
    go_upto_region 9 with (go_at_call 99; refine HIH.out.mono ?_; rintro e w1 ⟨x, q, rfl, hr, rfl⟩; have HR := hide hr; clear hr)
    have hih := IH.out q c (by have := HR.out.1; omega) HR.out.2.2.1
    have HIH2 := hide hih
    clear hih
    go_upto_region 10 with (go_at_call 99; refine HIH2.out.mono ?_; rintro e w1 ⟨y, r, rfl, hr2, rfl⟩; have HR2 := hide hr2; clear hr2)
    rcases (by omega : o = -4 ∨ o = -5 ∨ o = -6) with rfl | rfl | rfl
    · have HT : Hid (EvR N (vf vs) f p c (x && y) r) := EvR.two HD.out HR.out HR2.out (fun S => rfl)
      cases x
      · go_wp2_with fail
        go_ret2
        exact ⟨_, r, rfl, HT.out, rfl⟩
      · go_wp2_with fail
        go_ret2
        exact ⟨_, r, rfl, HT.out, rfl⟩
    · have HT : Hid (EvR N (vf vs) f p c (x || y) r) := EvR.two HD.out HR.out HR2.out (fun S => rfl)
      cases x
      · go_wp2_with fail
        go_ret2
        exact ⟨_, r, rfl, HT.out, rfl⟩
      · go_wp2_with fail
        go_ret2
        exact ⟨_, r, rfl, HT.out, rfl⟩
    · have HT : Hid (EvR N (vf vs) f p c (x == y) r) := EvR.two HD.out HR.out HR2.out (fun S => rfl)
      go_wp2_with fail
      go_ret2
      exact ⟨_, r, rfl, HT.out, rfl⟩
theorem evF1_of {N q c : Nat} {v : Nat → Bool} {f : List Int} {x : Bool} (h : EvR N v f 0 c x q) : x = evF1 v f := by
  have h4 := h.2.2.2
  rw [List.drop_zero] at h4
  unfold evF1
  rw [h4]; rfl
end Go.Proofs.Ytohofcmikfkilaa
/- A formula's value as the elder program has it: walk. -/
namespace Go.Proofs.Ytohofcmikfkilaa
open Go.RowKit
set_option linter.unusedVariables false
set_option linter.unusedSimpArgs false
set_option maxRecDepth 100000 in
set_option maxHeartbeats 2000000 in
theorem True_any (f : List Int) (N : Nat) (vs : List Bool) (fv vv : Value) (B : Nat) (w : World) (hf : Ints w B fv f) (hv : Bols w B vv vs) (hN : vs.length = N) (hok : validF N f = true) :
    Calls Try.prog 66 #[fv, vv] w fun e W => e = .returned (.bool (evF1 (vf vs) f)) ∧ w = W := by
  unfold validF at hok
  simp only [Bool.and_eq_true, decide_eq_true_eq] at hok
  obtain ⟨A, cap, hfv⟩ := Sl.form hf
  obtain ⟨Av, capv, hvv⟩ := Sl.form hv
  have he := eval_any f N vs fv vv B w (by omega) hf hv hN f.length 0 0 (by omega) (by rw [List.drop_zero]; exact hok.1)
  have he2 : Calls Try.prog 99 #[fv, .int .i64 0, vv] w fun e W => ∃ (x : Option Bool) (q : Nat), e = .returned (.tuple #[.bool (evF1 (vf vs) f), .int .i64 (q : Nat)]) ∧ w = W :=
    he.mono fun e W hh => by
      obtain ⟨x, q, h1, h2, h3⟩ := hh
      exact ⟨none, q, by rw [h1, evF1_of h2], h3⟩
  have HE := hide he2
  subst hfv hvv
  clear he he2 hf hv hok hN
  go_enter Try.func66, Try.ntmps66
  go_wp2_with (go_at_call 99; refine HE.out.mono ?_; rintro e w1 ⟨_, q, rfl, rfl⟩)
  go_ret
  exact ⟨rfl, rfl⟩
end Go.Proofs.Ytohofcmikfkilaa
/- Holds and Buildable as the elder program has them: walks. -/
namespace Go.Proofs.Ytohofcmikfkilaa
open Go.RowKit
set_option linter.unusedVariables false
set_option linter.unusedSimpArgs false
/-- What Holds returns. -/
def holE (m : Mo) (f : List Int) (vs : List Bool) : Int := if m.errF [f] ≠ 0 then m.errF [f] else if vs.length ≠ m.opts.length then 1 else 0
def holB (m : Mo) (f : List Int) (vs : List Bool) : Bool := if holE m f vs = 0 then evF1 (vf vs) f else false
theorem hol_err {m : Mo} {f : List Int} {vs : List Bool} (h : m.errF [f] ≠ 0) : holE m f vs = m.errF [f] ∧ holB m f vs = false := by
  have h1 : holE m f vs = m.errF [f] := by unfold holE; rw [if_pos h]
  exact ⟨h1, by unfold holB; rw [h1, if_neg h]⟩
theorem hol_arg {m : Mo} {f : List Int} {vs : List Bool} (h : m.errF [f] = 0) (h2 : vs.length ≠ m.opts.length) : holE m f vs = 1 ∧ holB m f vs = false := by
  have h1 : holE m f vs = 1 := by unfold holE; rw [if_neg (by simp [h]), if_pos h2]
  exact ⟨h1, by unfold holB; rw [h1, if_neg (by omega)]⟩
theorem hol_ok {m : Mo} {f : List Int} {vs : List Bool} (h : m.errF [f] = 0) (h2 : vs.length = m.opts.length) : holE m f vs = 0 ∧ holB m f vs = evF1 (vf vs) f := by
  have h1 : holE m f vs = 0 := by unfold holE; rw [if_neg (by simp [h]), if_neg (by simp [h2])]
  exact ⟨h1, by unfold holB; rw [if_pos h1]⟩
/-- The first rule that does not hold. -/
def fstR (vs : List Bool) (rules : List (List Int)) : Int := idxI (fun f => !evF1 (vf vs) f) rules
set_option maxRecDepth 100000 in
set_option maxHeartbeats 4000000 in
theorem rHolds_any (m : Mo) (f : List Int) (vs : List Bool) (ov rv fv vv : Value) (w : World) (hs : SizedM m) (hl : f.length ≤ maxLen) (h : MoAt w w.heap.size ov rv m) (hf : Ints w w.heap.size fv f) (hv : Bols w w.heap.size vv vs) :
    Calls Try.prog 46 #[.agg #[ov, rv], fv, vv] w fun e w' => e = .returned (.tuple #[.bool (holB m f vs), .int .i64 (holE m f vs)]) ∧ Below w.heap.size w w' := by
  obtain ⟨A, cap, hov⟩ := Sl.form h.o
  obtain ⟨Ar, capr, hrv⟩ := h.r.form
  obtain ⟨Al, capl, hlv⟩ := Sl.form hf
  obtain ⟨Av, capv, hvv⟩ := Sl.form hv
  have H := hide h
  have HF := hide hf
  have HV := hide hv
  have HS := hide hs
  subst hov hrv hlv hvv
  clear h hf hv hs
  go_enter Try.func46, Try.ntmps46
  go_upto_region 1 with (fail)
  generalize hw0 : World.alloc _ _ = w0
  obtain ⟨hb0, hB0, hs0⟩ := alloc1 hw0
  clear hw0
  have HX0 : Hid (MoBox w0 w.heap.size (.slice A m.opts.length cap) (.slice Ar m.rules.length capr)) := hb0
  have HB0 := hide hB0
  have c0 := cellOf hb0 0
  have c1 := cellOf hb0 1
  have hck := rCheckFormula_any m f (.slice A m.opts.length cap) (.slice Ar m.rules.length capr) (.slice Al f.length capl) w0 HS.out hl (H.out.up hB0) (HF.out.up hB0)
  have HCK := hide hck
  clear hb0 hB0 hs0 hck
  by_cases he : m.errF [f] = 0
  · have HE := hide he
    go_upto_region 4 with (go_at_call 27; refine HCK.out.mono ?_; rw [HE.out]; rintro e w1 ⟨rfl, hB1⟩; have hbx := box_to HX0.out hB1; have d0 := cellOf hbx 0; have d1 := cellOf hbx 1; have HB1 : Hid (Below w.heap.size w w1) := Below.to HB0.out hB1 (Nat.le_refl _); clear hbx hB1 c0 c1)
    by_cases hn : vs.length = m.opts.length
    · obtain ⟨h1, h2⟩ := hol_ok he hn
      have e1 : ((vs.length : Int) != (m.opts.length : Int)) = false := by simp; omega
      have ht := True_any f m.opts.length vs (.slice Al f.length capl) (.slice Av vs.length capv) w.heap.size w1 (HF.out.below HB1.out) (Sl.below HV.out HB1.out) hn ((Mo.okF he).2 f (by simp))
      have HT := hide ht
      have H1 := hide h1
      have H2 := hide h2
      clear ht h1 h2 he hn
      go_wp2_with (go_at_call 66; refine HT.out.mono ?_; rintro e w2 ⟨rfl, rfl⟩)
      go_ret2
      exact ⟨by rw [H1.out, H2.out]; rfl, HB1.out⟩
    · obtain ⟨h1, h2⟩ := hol_arg he hn
      have e1 : ((vs.length : Int) != (m.opts.length : Int)) = true := by simp; omega
      have H1 := hide h1
      have H2 := hide h2
      clear h1 h2 he hn
      go_wp2_with fail
      go_ret2
      exact ⟨by rw [H1.out, H2.out]; rfl, HB1.out⟩
  · obtain ⟨h1, h2⟩ := hol_err (vs := vs) he
    obtain ⟨z, hz⟩ : ∃ z, m.errF [f] = z := ⟨_, rfl⟩
    rw [hz] at he h1
    have hz1 : (z != 0) = true := by simpa using he
    have HZ := hide hz
    have H1 := hide h1
    have H2 := hide h2
    clear he hz h1 h2
    go_wp2_with (go_at_call 27; refine HCK.out.mono ?_; rw [HZ.out]; rintro e w1 ⟨rfl, hB1⟩)
    go_ret2
    exact ⟨by rw [H1.out, H2.out]; rfl, Below.to HB0.out hB1 (Nat.le_refl _)⟩
set_option maxRecDepth 100000 in
set_option maxHeartbeats 4000000 in
theorem rfirst_any (m : Mo) (vs : List Bool) (ov rv vv : Value) (w : World) (h : MoAt w w.heap.size ov rv m) (hv : Bols w w.heap.size vv vs) (he : m.err = 0) (hn : vs.length = m.opts.length) :
    Calls Try.prog 87 #[.agg #[ov, rv], vv] w fun e w' => e = .returned (.int .i64 (fstR vs m.rules)) ∧ Below w.heap.size w w' := by
  obtain ⟨A, cap, hov⟩ := Sl.form h.o
  obtain ⟨Av, capv, hvv⟩ := Sl.form hv
  have hok := (Mo.ok he).2.2.2
  have h60 := (Mo.ok he).2.1
  obtain ⟨fvs, ⟨Al, bl, offl, capl, rfl, hncl, hAl, hcl⟩, hfi⟩ := h.r
  have HAL := hide hAl
  have HCL := hide hcl
  have HFI := hide hfi
  have HV := hide hv
  have HOK := hide hok
  have HN := hide hn
  subst hov hvv
  clear h hv he hn hok hAl hcl hfi
  go_enter Try.func87, Try.ntmps87
  go_upto_region 1 with (fail)
  generalize hw0 : World.alloc _ _ = w0
  obtain ⟨hb0, hB0, hs0⟩ := alloc1 hw0
  clear hw0
  have HX0 : Hid (MoBox w0 w.heap.size (.slice A m.opts.length cap) (.slice Al m.rules.length capl)) := hb0
  have HB0 := hide hB0
  have c0 := cellOf hb0 0
  have c1 := cellOf hb0 1
  have hlt0 := box_lt hb0
  clear hb0 hB0 hs0
  go_wp2_with fail
  go_loop [5] (fun i => ∃ t : Nat, t ≤ m.rules.length ∧ i = .int .i64 t ∧ Hid (∀ j, j < t → (fun f => !evF1 (vf vs) f) (m.rules.getD j []) = false)) (fun i => m.rules.length - (intOf i).toNat)
  case atStart => exact ⟨0, Nat.zero_le _, rfl, fun j hj => by omega⟩
  case round =>
    obtain ⟨t, ht, rfl, hall⟩ := hrel
    by_cases htl : t < m.rules.length
    · obtain ⟨rfl, hbb⟩ : Al = some ⟨bl, offl, none⟩ ∧ bl < w.heap.size := by
        rcases HAL.out with h | h
        · exact h
        · omega
      obtain ⟨f, hfe⟩ : ∃ f, m.rules.getD t [] = f := ⟨_, rfl⟩
      have hfm : f ∈ m.rules := by rw [← hfe]; exact getD_mem htl
      have hin : Ints w w.heap.size (fvs t) f := by have := HFI.out t htl; rwa [hfe] at this
      obtain ⟨Af, capf, hff⟩ := Sl.form hin
      have q0 : w0.cell? ⟨bl, offl + t, none⟩ = some (.slice Af f.length capf) := by
        have h1 := HCL.out t 0 htl (by omega)
        rw [Nat.mul_one, Nat.add_zero, hff] at h1
        exact (HB0.out.cell (p := ⟨bl, offl + t, none⟩) hbb).trans h1
      have lb : bl < w0.heap.size := Nat.lt_of_lt_of_le hbb HB0.out.size
      rw [hff] at hin
      have htr := True_any f m.opts.length vs (.slice Af f.length capf) (.slice Av vs.length capv) w.heap.size w0 (hin.below HB0.out) (Sl.below HV.out HB0.out) HN.out (HOK.out f hfm)
      have it0 : (0 : Int) ≤ (t : Int) := by omega
      have it2 : (t : Int) < (m.rules.length : Int) := by omega
      have HFE := hide hfe
      cases hx : evF1 (vf vs) f with
      | true =>
        rw [hx] at htr
        have HTR := hide htr
        have HX := hide hx
        clear hfm hin hff htr hx hfe
        go_wp2_with (go_at_call 66; refine HTR.out.mono ?_; rintro e w2 ⟨rfl, rfl⟩)
        go_round
        case rel => exact ⟨t + 1, by omega, by go_num, fun j hj => by
            rcases Nat.lt_or_ge j t with h | h
            · exact hall.out j h
            · rw [show j = t from by omega, HFE.out]; simp only [HX.out]; rfl⟩
        case measure => simp [intOf]; omega
      | false =>
        rw [hx] at htr
        have HTR := hide htr
        have hid : fstR vs m.rules = t := idxI_at _ [] m.rules t hall.out htl (by rw [hfe]; simp only [hx]; rfl)
        have HID := hide hid
        clear hfm hin hff htr hx hfe hid
        go_wp2_with (go_at_call 66; refine HTR.out.mono ?_; rintro e w2 ⟨rfl, rfl⟩)
        go_ret
        exact ⟨ret_int HID.out.symm, HB0.out⟩
    · have hid : fstR vs m.rules = -1 := idxI_none _ [] m.rules (fun j hj => hall.out j (by omega))
      have HID := hide hid
      clear hid
      go_wp2_with fail
      go_ret
      exact ⟨ret_int HID.out.symm, HB0.out⟩
end Go.Proofs.Ytohofcmikfkilaa
/- Buildable as the elder program has it: walk. -/
namespace Go.Proofs.Ytohofcmikfkilaa
open Go.RowKit
set_option linter.unusedVariables false
set_option linter.unusedSimpArgs false
/-- What Buildable returns. -/
def buiE (m : Mo) (vs : List Bool) : Int := if m.err ≠ 0 then m.err else if vs.length ≠ m.opts.length then 1 else 0
def buiR (m : Mo) (vs : List Bool) : Int := if buiE m vs = 0 then fstR vs m.rules else 0
def buiB (m : Mo) (vs : List Bool) : Bool := if buiE m vs = 0 then decide (fstR vs m.rules < 0) else false
theorem bui_bad {m : Mo} {vs : List Bool} {z : Int} (h : buiE m vs = z) (hz : z ≠ 0) : buiR m vs = 0 ∧ buiB m vs = false := by
  constructor
  · unfold buiR; rw [h, if_neg hz]
  · unfold buiB; rw [h, if_neg hz]
theorem bui_ok {m : Mo} {vs : List Bool} (h : m.err = 0) (h2 : vs.length = m.opts.length) : buiE m vs = 0 ∧ buiR m vs = fstR vs m.rules ∧ buiB m vs = decide (fstR vs m.rules < 0) := by
  have h1 : buiE m vs = 0 := by unfold buiE; rw [if_neg (by simp [h]), if_neg (by simp [h2])]
  exact ⟨h1, by unfold buiR; rw [if_pos h1], by unfold buiB; rw [if_pos h1]⟩
set_option maxRecDepth 100000 in
set_option maxHeartbeats 4000000 in
theorem rBuildable_any (m : Mo) (vs : List Bool) (ov rv vv : Value) (w : World) (hs : SizedM m) (h : MoAt w w.heap.size ov rv m) (hv : Bols w w.heap.size vv vs) :
    Calls Try.prog 48 #[.agg #[ov, rv], vv] w fun e w' => e = .returned (.tuple #[.int .i64 (buiR m vs), .bool (buiB m vs), .int .i64 (buiE m vs)]) ∧ Below w.heap.size w w' := by
  obtain ⟨A, cap, hov⟩ := Sl.form h.o
  obtain ⟨Ar, capr, hrv⟩ := h.r.form
  obtain ⟨Av, capv, hvv⟩ := Sl.form hv
  have H := hide h
  have HV := hide hv
  have HS := hide hs
  subst hov hrv hvv
  clear h hv hs
  go_enter Try.func48, Try.ntmps48
  go_upto_region 1 with (fail)
  generalize hw0 : World.alloc _ _ = w0
  obtain ⟨hb0, hB0, hs0⟩ := alloc1 hw0
  clear hw0
  have HX0 : Hid (MoBox w0 w.heap.size (.slice A m.opts.length cap) (.slice Ar m.rules.length capr)) := hb0
  have HB0 := hide hB0
  have c0 := cellOf hb0 0
  have c1 := cellOf hb0 1
  have hck := rCheckModel_any m (.slice A m.opts.length cap) (.slice Ar m.rules.length capr) w0 HS.out (H.out.up hB0)
  have HCK := hide hck
  clear hb0 hB0 hs0 hck
  by_cases he : m.err = 0
  · have HE := hide he
    go_upto_region 4 with (go_at_call 25; refine HCK.out.mono ?_; rw [HE.out]; rintro e w1 ⟨rfl, hB1⟩; have hbx := box_to HX0.out hB1; have d0 := cellOf hbx 0; have d1 := cellOf hbx 1; have HB1 : Hid (Below w.heap.size w w1) := Below.to HB0.out hB1 (Nat.le_refl _); clear hbx hB1 c0 c1)
    by_cases hn : vs.length = m.opts.length
    · obtain ⟨h1, h2, h3⟩ := bui_ok he hn
      have e1 : ((vs.length : Int) != (m.opts.length : Int)) = false := by simp; omega
      have hf := rfirst_any m vs (.slice A m.opts.length cap) (.slice Ar m.rules.length capr) (.slice Av vs.length capv) w1 (H.out.up HB1.out) (Sl.up HV.out HB1.out) he hn
      obtain ⟨z, hz⟩ : ∃ z, fstR vs m.rules = z := ⟨_, rfl⟩
      rw [hz] at hf h2 h3
      have HF := hide hf
      have H1 := hide h1
      have H2 := hide h2
      have H3 := hide h3
      clear hf h1 h2 h3 he hn hz
      go_wp2_with (go_at_call 87; refine HF.out.mono ?_; rintro e w2 ⟨rfl, hB2⟩)
      go_ret3
      exact ⟨by rw [H1.out, H2.out, H3.out]; rfl, Below.to HB1.out hB2 (Nat.le_refl _)⟩
    · have h1 : buiE m vs = 1 := by unfold buiE; rw [if_neg (by simp [he]), if_pos hn]
      obtain ⟨h2, h3⟩ := bui_bad h1 (by omega)
      have e1 : ((vs.length : Int) != (m.opts.length : Int)) = true := by simp; omega
      have H1 := hide h1
      have H2 := hide h2
      have H3 := hide h3
      clear h1 h2 h3 he hn
      go_wp2_with fail
      go_ret3
      exact ⟨by rw [H1.out, H2.out, H3.out]; rfl, HB1.out⟩
  · obtain ⟨z, hz⟩ : ∃ z, m.err = z := ⟨_, rfl⟩
    have h1 : buiE m vs = z := by unfold buiE; rw [if_pos he, hz]
    rw [hz] at he
    obtain ⟨h2, h3⟩ := bui_bad h1 he
    have hz1 : (z != 0) = true := by simpa using he
    have HZ := hide hz
    have H1 := hide h1
    have H2 := hide h2
    have H3 := hide h3
    clear he hz h1 h2 h3
    go_wp2_with (go_at_call 25; refine HCK.out.mono ?_; rw [HZ.out]; rintro e w1 ⟨rfl, hB1⟩)
    go_ret3
    exact ⟨by rw [H1.out, H2.out, H3.out]; rfl, Below.to HB0.out hB1 (Nat.le_refl _)⟩
end Go.Proofs.Ytohofcmikfkilaa
/- A stack of Bools. -/
namespace Go.Proofs.Ytohofcmikfkilaa
open Go.RowKit
set_option linter.unusedVariables false
set_option linter.unusedSimpArgs false
/-- The slice is a stack of its own above block B. -/
def BStk (B : Nat) (w : World) (sv : Value) (S : List Bool) : Prop := w.ownsRow B 4 1 sv S.length (S.map Value.bool)
theorem BStk.below {B : Nat} {w w' : World} {sv : Value} {S : List Bool} (h : BStk B w sv S) (hb : Below w.heap.size w w') : BStk B w' sv S := owns_below h hb
theorem BStk.shape {B : Nat} {w : World} {sv : Value} {S : List Bool} (h : BStk B w sv S) : ∃ A cap, sv = .slice A S.length cap ∧ S.length ≤ cap ∧ cap ≤ maxLen := by
  rcases h.2 with ⟨h1, h2⟩ | ⟨g, cap, cur, h1, _, _, h2, h3, _⟩
  · exact ⟨none, 0, by rw [h1, h2], by omega, by unfold maxLen; omega⟩
  · exact ⟨_, cap, h1, h2, h3⟩
theorem BStk.cells {B : Nat} {w : World} {A : Option Addr} {n cap : Nat} {S : List Bool} (h : BStk B w (.slice A n cap) S) (hn : 0 < S.length) : ∃ g, A = some ⟨g, 0, none⟩ ∧ g < w.heap.size ∧ ∀ i, i < S.length → w.cell? ⟨g, i, none⟩ = some (.bool (S.getD i false)) := by
  obtain ⟨g, cap', hv, _, hl⟩ := World.ownsRow.form h hn
  injection hv with h1 h2 h3
  subst h1
  refine ⟨g, rfl, hl, fun i hi => ?_⟩
  have := World.ownsRow.cells (g := g) h rfl i (.bool (S.getD i false)) (by simp [hi])
  have he : (⟨g, 0, none⟩ : Addr).add i = ⟨g, i, none⟩ := by
    unfold Addr.add
    split
    · rename_i h0; rw [h0]
    · rw [Nat.zero_add]
  rwa [he] at this
theorem BStk.cut {B : Nat} {w : World} {A : Option Addr} {n cap : Nat} {S : List Bool} (h : BStk B w (.slice A n cap) S) {r : Nat} (hr : r ≤ S.length) : w.ownsRow B 4 1 (.slice A r cap) r ((S.take r).map Value.bool) := by
  obtain ⟨h1, ⟨h2, h3⟩ | ⟨g, cap', cur, h2, h3, h4, h5, h6, h7, h8⟩⟩ := h
  · injection h2 with e1 e2 e3
    subst e1 e3
    obtain rfl : r = 0 := by omega
    exact ⟨by simp, .inl ⟨rfl, rfl⟩⟩
  · injection h2 with e1 e2 e3
    subst e1 e3
    refine ⟨by simp; omega, .inr ⟨g, cap, cur, rfl, h3, h4, by omega, h6, h7, ?_⟩⟩
    rw [List.map_take, ← h8, List.take_take, Nat.mul_one, Nat.mul_one, Nat.min_eq_left hr]
theorem brev_top {S : List Bool} {p : Nat} (h : S.length = p + 1) : S.reverse = S.getD p false :: (S.take p).reverse := by
  have : S = S.take p ++ [S.getD p false] := by
    have h1 := List.take_succ_eq_append_getElem (l := S) (i := p) (by omega)
    rw [List.take_of_length_le (by omega)] at h1
    rw [List.getD_eq_getElem?_getD, List.getElem?_eq_getElem (by omega)]
    exact h1
  conv => lhs; rw [this]
  simp
theorem brev_top2 {S : List Bool} {p : Nat} (h : S.length = p + 2) : S.reverse = S.getD (p + 1) false :: S.getD p false :: (S.take p).reverse := by
  rw [brev_top h, brev_top (S := S.take (p + 1)) (p := p) (by simp; omega), List.take_take, Nat.min_eq_left (by omega)]
  congr 2
  simp [List.getD_eq_getElem?_getD]
end Go.Proofs.Ytohofcmikfkilaa
/- Whether a formula holds: walk. -/
namespace Go.Proofs.Ytohofcmikfkilaa
open Go.RowKit
set_option linter.unusedVariables false
set_option linter.unusedSimpArgs false
def BopP (v : Nat → Bool) (o : Int) (S : List Bool) (w : World) (x : Value) (wx : World) : Prop := ∃ y : Bool, x = .bool y ∧ Below w.heap.size w wx ∧ stp v o S.reverse = y :: S.reverse.drop (arO o)
set_option maxRecDepth 100000 in
set_option maxHeartbeats 4000000 in
theorem holds_any (f : List Int) (N : Nat) (vs : List Bool) (fv vv : Value) (w : World) (hv : validF N f = true) (hf : Ints w w.heap.size fv f) (hb : Bols w w.heap.size vv vs) (hN : vs.length = N) :
    Calls Try.prog 84 #[fv, vv] w fun e w' => e = .returned (.bool (evF1 (vf vs) f)) ∧ Below w.heap.size w w' := by
  obtain ⟨i0, hi0, hz0, hz1, hz2⟩ := info_parts infoBool
  obtain ⟨p1, p2⟩ := validF_pos hv
  obtain ⟨A, b, off, cap, rfl, hnc, hA, hc⟩ := hf
  obtain ⟨Av, bv, offv, capv, rfl, hncv, hAv, hcv⟩ := hb
  obtain ⟨rfl, hbb⟩ : A = some ⟨b, off, none⟩ ∧ b < w.heap.size := by
    rcases hA with h | h
    · exact h
    · omega
  have HC := hide hc
  have HCV := hide hcv
  have HAV := hide hAv
  have HV := hide hv
  have HN := hide hN
  clear hv hc hcv hA hAv hN
  have hlen : (f.length : Int) ≤ 100 := by omega
  have hnil : Hid (([] : List Bool).reverse = evS (vf vs) (f.drop f.length)) := by
    show ([] : List Bool).reverse = _
    rw [List.drop_length]; rfl
  go_enter Try.func84, Try.ntmps84
  go_wp2
  go_loopw [5, 6] (fun sv i wr => ∃ (j : Nat) (S : List Bool), j ≤ f.length ∧ i = .int .i64 ((j : Int) - 1) ∧ Hid (BStk w.heap.size wr sv S) ∧ Hid (Below w.heap.size w wr) ∧ Hid (S.reverse = evS (vf vs) (f.drop j))) (fun _ i _ => (intOf i + 1).toNat)
  case atStart => exact ⟨f.length, [], Nat.le_refl _, by go_num, World.ownsRow_nil w w.heap.size 4 1, Below.refl _ _, hnil⟩
  case round =>
    obtain ⟨j, S, hj, rfl, hS, hB, hev⟩ := hrel
    match j, hj, hev with
    | 0, _, hev =>
      have hS1 : S.length = 1 := by
        have h1 := hev.out
        rw [List.drop_zero, validF_one HV.out] at h1
        have := congrArg List.length h1
        simpa using this
      obtain ⟨A1, cap1, rfl, hcap1, hcap2⟩ := hS.out.shape
      obtain ⟨g, rfl, hg1, hg3⟩ := hS.out.cells (by omega)
      have x0 := hg3 0 (by omega)
      have hk0 : (0 : Int) < (S.length : Int) := by omega
      have hk1 : 0 < S.length := by omega
      have HS1 := hide hS1
      obtain ⟨x, hx⟩ : ∃ x, S.getD 0 false = x := ⟨_, rfl⟩
      rw [hx] at x0
      have HX := hide hx
      clear hg3 hS1 hx
      go_wp2_with fail
      go_ret
      refine ⟨ret_bool ?_, hB.out⟩
      have h1 := hev.out
      rw [List.drop_zero, validF_one HV.out, brev_top (p := 0) HS1.out, HX.out] at h1
      injection h1
    | q + 1, hj, hev =>
      have hq : ((q + 1 : Nat) : Int) - 1 = (q : Int) := by omega
      rw [hq]
      clear hq
      obtain ⟨o, ho⟩ : ∃ o, f.getD q 0 = o := ⟨_, rfl⟩
      obtain ⟨w1, _, hv2, hlo, hhi⟩ := vld_at (by have := HV.out; simp only [validF, Bool.and_eq_true] at this; exact this.1) (show q < f.length by omega)
      rw [ho] at hv2 hlo hhi
      have hSn : S.length = w1 + arO o := by
        have h1 := evS_len (vf vs) _ _ hv2
        rw [← hev.out, List.length_reverse] at h1
        exact h1
      have c0 : wr.cell? ⟨b, off + q, none⟩ = some (.int .i64 o) := by
        have h1 := HC.out q 0 (by omega) (by omega)
        rw [Nat.mul_one, Nat.add_zero, ho] at h1
        exact (hB.out.cell (p := ⟨b, off + q, none⟩) hbb).trans h1
      have hwr := hB.out.size
      have hbw : b < wr.heap.size := by omega
      obtain ⟨A1, cap1, rfl, hcap1, hcap2⟩ := hS.out.shape
      have hS100 : S.length ≤ 100 := by
        have h1 := vld_le _ _ hv2
        rw [List.length_drop] at h1
        omega
      have HOQ := hide ho
      have HSN := hide hSn
      have HV2 := hide hv2
      have gi0 : (0 : Int) ≤ (q : Int) := by omega
      have gi1 : (q : Int) < (f.length : Int) := by omega
      have gi2 : (0 : Int) ≤ (S.length : Int) := by omega
      have gi3 : (S.length : Int) ≤ 100 := by omega
      clear ho hSn hv2
      go_upto_block 2 with (fail)
      go_cut [7] from 12 to 81 (fun x wx => BopP (vf vs) o S wr x wx)
      case first =>
        by_cases o1 : o = -1
        · subst o1
          go_wp2_with fail
          go_meet
          exact ⟨true, rfl, Below.refl _ _, rfl⟩
        by_cases o2 : o = -2
        · subst o2
          go_wp2_with fail
          go_meet
          exact ⟨false, rfl, Below.refl _ _, rfl⟩
        by_cases o3 : o = -3
        · subst o3
          obtain ⟨p, hp⟩ : ∃ p, S.length = p + 1 := ⟨w1, HSN.out⟩
          obtain ⟨g, rfl, hg1, hg3⟩ := hS.out.cells (by omega)
          have x0 := hg3 p (by omega)
          obtain ⟨x, hx⟩ : ∃ x, S.getD p false = x := ⟨_, rfl⟩
          rw [hx] at x0
          have HX := hide hx
          have HP := hide hp
          have k0 : (1 : Int) ≤ (S.length : Int) := by omega
          have k1 : ((S.length : Int) - 1).toNat = p := by omega
          clear hx hg3 hp
          go_wp2_with fail
          go_meet
          exact ⟨!x, rfl, Below.refl _ _, by rw [brev_top HP.out, HX.out]; rfl⟩
        by_cases o456 : o = -4 ∨ o = -5 ∨ o = -6
        · obtain ⟨p, hp⟩ : ∃ p, S.length = p + 2 := ⟨w1, by
            have := HSN.out
            unfold arO at this
            rw [if_neg o3, if_pos o456] at this
            exact this⟩
          obtain ⟨g, rfl, hg1, hg3⟩ := hS.out.cells (by omega)
          have x0 := hg3 (p + 1) (by omega)
          have y0 := hg3 p (by omega)
          obtain ⟨x, hx⟩ : ∃ x, S.getD (p + 1) false = x := ⟨_, rfl⟩
          obtain ⟨y, hy⟩ : ∃ y, S.getD p false = y := ⟨_, rfl⟩
          rw [hx] at x0
          rw [hy] at y0
          have HXY := hide (And.intro hx hy)
          have HP := hide hp
          have k0 : (1 : Int) ≤ (S.length : Int) := by omega
          have k1 : ((S.length : Int) - 1).toNat = p + 1 := by omega
          have k2 : (2 : Int) ≤ (S.length : Int) := by omega
          have k3 : ((S.length : Int) - 2).toNat = p := by omega
          have k4 : IntKind.i64.wrap ((S.length : Int) - 1) = (S.length : Int) - 1 := IntWalk.i64_in _ (by omega)
          have k5 : IntKind.i64.wrap ((S.length : Int) - 2) = (S.length : Int) - 2 := IntWalk.i64_in _ (by omega)
          have k6 : (S.length : Int) - 1 < (S.length : Int) := by omega
          have k7 : (S.length : Int) - 2 < (S.length : Int) := by omega
          clear hx hy hg3 hp o1 o2 o3
          rcases o456 with rfl | rfl | rfl
          · have HT : Hid (stp (vf vs) (-4) S.reverse = (x && y) :: S.reverse.drop (arO (-4))) := by show _ = _; rw [brev_top2 HP.out, HXY.out.1, HXY.out.2]; rfl
            cases x
            · go_wp2_with fail
              go_meet
              exact ⟨_, rfl, Below.refl _ _, HT.out⟩
            · go_wp2_with fail
              go_meet
              exact ⟨_, rfl, Below.refl _ _, HT.out⟩
          · have HT : Hid (stp (vf vs) (-5) S.reverse = (x || y) :: S.reverse.drop (arO (-5))) := by show _ = _; rw [brev_top2 HP.out, HXY.out.1, HXY.out.2]; rfl
            cases x
            · go_wp2_with fail
              go_meet
              exact ⟨_, rfl, Below.refl _ _, HT.out⟩
            · go_wp2_with fail
              go_meet
              exact ⟨_, rfl, Below.refl _ _, HT.out⟩
          · have HT : Hid (stp (vf vs) (-6) S.reverse = (x == y) :: S.reverse.drop (arO (-6))) := by show _ = _; rw [brev_top2 HP.out, HXY.out.1, HXY.out.2]; rfl
            go_wp2_with fail
            refine wp_region_held_drew (S := (fun w' => Below wr.heap.size wr w')) (by kernel_rfl) ?_ (fun hHeld => ?_)
            · try dsimp only
              exact (by repeat (first | exact Below.refl _ _ | assumption | refine Below.drew ?_ | refine Below.drewN ?_ _ | refine Below.allocT ?_ (Nat.le_refl _) _ | refine Below.setCell ?_ (by simp <;> omega) _ | refine Below.to ?_ (by assumption) (Nat.le_refl _)))
            refine wpAnyH_take (i := 0) (v := ?v15_0) rfl (by kernel_rfl) (by kernel_rfl) (by kernel_rfl) (fun _ _ _ h => h) (Or.inl ⟨by rfl, ?y15_0⟩) (by assumption) ?r15_0
            case' y15_0 => (intro w hSw; (try dsimp only at hSw); (try have hlS := HLK.out _ hSw); obtain ⟨hcS, hfS⟩ := bcell hSw; clear hSw; go_simp; try with_reducible rfl)
            try simp only [Act.put, List.getElem_toArray, List.getElem_cons_succ, List.getElem_cons_zero, List.setIfInBounds_toArray, List.set_cons_zero, List.set_cons_succ]
            refine wpAnyH_take (i := 1) (v := ?v15_1) rfl (by kernel_rfl) (by kernel_rfl) (by kernel_rfl) (fun _ _ _ h => h) (Or.inl ⟨by rfl, ?y15_1⟩) (by assumption) ?r15_1
            case' y15_1 => (intro w hSw; (try dsimp only at hSw); (try have hlS := HLK.out _ hSw); obtain ⟨hcS, hfS⟩ := bcell hSw; clear hSw; go_simp; try with_reducible rfl)
            try simp only [Act.put, List.getElem_toArray, List.getElem_cons_succ, List.getElem_cons_zero, List.setIfInBounds_toArray, List.set_cons_zero, List.set_cons_succ]
            refine wpAnyH_take (i := 2) (v := ?v15_2) rfl (by kernel_rfl) (by kernel_rfl) (by kernel_rfl) (fun _ _ _ h => h) (Or.inl ⟨by rfl, ?y15_2⟩) (by assumption) ?r15_2
            case' y15_2 => (intro w hSw; (try dsimp only at hSw); (try have hlS := HLK.out _ hSw); obtain ⟨hcS, hfS⟩ := bcell hSw; clear hSw; go_simp; try with_reducible rfl)
            try simp only [Act.put, List.getElem_toArray, List.getElem_cons_succ, List.getElem_cons_zero, List.setIfInBounds_toArray, List.set_cons_zero, List.set_cons_succ]
            refine wpAnyH_take (i := 3) (v := ?v15_3) rfl (by kernel_rfl) (by kernel_rfl) (by kernel_rfl) (fun _ _ _ h => h) (Or.inl ⟨by rfl, ?y15_3⟩) (by assumption) ?r15_3
            case' y15_3 => (intro w hSw; (try dsimp only at hSw); (try have hlS := HLK.out _ hSw); obtain ⟨hcS, hfS⟩ := bcell hSw; clear hSw; go_simp; try with_reducible rfl)
            try simp only [Act.put, List.getElem_toArray, List.getElem_cons_succ, List.getElem_cons_zero, List.setIfInBounds_toArray, List.set_cons_zero, List.set_cons_succ]
            refine wpAnyH_take (i := 4) (v := ?v15_4) rfl (by kernel_rfl) (by kernel_rfl) (by kernel_rfl) (fun _ _ _ h => h) (Or.inl ⟨by rfl, ?y15_4⟩) (by assumption) ?r15_4
            case' y15_4 => (intro w hSw; (try dsimp only at hSw); (try have hlS := HLK.out _ hSw); obtain ⟨hcS, hfS⟩ := bcell hSw; clear hSw; go_simp; try with_reducible rfl)
            try simp only [Act.put, List.getElem_toArray, List.getElem_cons_succ, List.getElem_cons_zero, List.setIfInBounds_toArray, List.set_cons_zero, List.set_cons_succ]
            refine wpAnyH_take (i := 5) (v := ?v15_5) rfl (by kernel_rfl) (by kernel_rfl) (by kernel_rfl) (fun _ _ _ h => h) (Or.inl ⟨by rfl, ?y15_5⟩) (by assumption) ?r15_5
            case' y15_5 => (intro w hSw; (try dsimp only at hSw); (try have hlS := HLK.out _ hSw); obtain ⟨hcS, hfS⟩ := bcell hSw; clear hSw; go_simp; try with_reducible rfl)
            try simp only [Act.put, List.getElem_toArray, List.getElem_cons_succ, List.getElem_cons_zero, List.setIfInBounds_toArray, List.set_cons_zero, List.set_cons_succ]
            refine wpAnyH_take (i := 6) (v := ?v15_6) rfl (by kernel_rfl) (by kernel_rfl) (by kernel_rfl) (fun _ _ _ h => h) (Or.inl ⟨by rfl, ?y15_6⟩) (by assumption) ?r15_6
            case' y15_6 => (intro w hSw; (try dsimp only at hSw); (try have hlS := HLK.out _ hSw); obtain ⟨hcS, hfS⟩ := bcell hSw; clear hSw; go_simp; try with_reducible rfl)
            try simp only [Act.put, List.getElem_toArray, List.getElem_cons_succ, List.getElem_cons_zero, List.setIfInBounds_toArray, List.set_cons_zero, List.set_cons_succ]
            refine wpAnyH_take (i := 7) (v := ?v15_7) rfl (by kernel_rfl) (by kernel_rfl) (by kernel_rfl) (fun _ _ _ h => h) (Or.inl ⟨by rfl, ?y15_7⟩) (by assumption) ?r15_7
            case' y15_7 => (intro w hSw; (try dsimp only at hSw); (try have hlS := HLK.out _ hSw); obtain ⟨hcS, hfS⟩ := bcell hSw; clear hSw; go_simp; try with_reducible rfl)
            try simp only [Act.put, List.getElem_toArray, List.getElem_cons_succ, List.getElem_cons_zero, List.setIfInBounds_toArray, List.set_cons_zero, List.set_cons_succ]
            refine wpAnyH_take (i := 8) (v := ?v15_8) rfl (by kernel_rfl) (by kernel_rfl) (by kernel_rfl) (fun _ _ _ h => h) (Or.inl ⟨by rfl, ?y15_8⟩) (by assumption) ?r15_8
            case' y15_8 => (intro w hSw; (try dsimp only at hSw); (try have hlS := HLK.out _ hSw); obtain ⟨hcS, hfS⟩ := bcell hSw; clear hSw; go_simp; try with_reducible rfl)
            try simp only [Act.put, List.getElem_toArray, List.getElem_cons_succ, List.getElem_cons_zero, List.setIfInBounds_toArray, List.set_cons_zero, List.set_cons_succ]
            refine wpAnyH_take (i := 9) (v := ?v15_9) rfl (by kernel_rfl) (by kernel_rfl) (by kernel_rfl) (fun _ _ _ h => h) (Or.inl ⟨by rfl, ?y15_9⟩) (by assumption) ?r15_9
            case' y15_9 => (intro w hSw; (try dsimp only at hSw); (try have hlS := HLK.out _ hSw); obtain ⟨hcS, hfS⟩ := bcell hSw; clear hSw; go_simp; try with_reducible rfl)
            try simp only [Act.put, List.getElem_toArray, List.getElem_cons_succ, List.getElem_cons_zero, List.setIfInBounds_toArray, List.set_cons_zero, List.set_cons_succ]
            refine wpAnyH_take (i := 10) (v := ?v15_10) rfl (by kernel_rfl) (by kernel_rfl) (by kernel_rfl) (fun _ _ _ h => h) (Or.inl ⟨by rfl, ?y15_10⟩) (by assumption) ?r15_10
            case' y15_10 => (intro w hSw; (try dsimp only at hSw); (try have hlS := HLK.out _ hSw); obtain ⟨hcS, hfS⟩ := bcell hSw; clear hSw; go_simp; try with_reducible rfl)
            try simp only [Act.put, List.getElem_toArray, List.getElem_cons_succ, List.getElem_cons_zero, List.setIfInBounds_toArray, List.set_cons_zero, List.set_cons_succ]
            refine wpAnyH_take (i := 11) (v := ?v15_11) rfl (by kernel_rfl) (by kernel_rfl) (by kernel_rfl) (fun _ _ _ h => h) (Or.inl ⟨by rfl, ?y15_11⟩) (by assumption) ?r15_11
            case' y15_11 => (intro w hSw; (try dsimp only at hSw); (try have hlS := HLK.out _ hSw); obtain ⟨hcS, hfS⟩ := bcell hSw; clear hSw; go_simp; try with_reducible rfl)
            try simp only [Act.put, List.getElem_toArray, List.getElem_cons_succ, List.getElem_cons_zero, List.setIfInBounds_toArray, List.set_cons_zero, List.set_cons_succ]
            refine wpAnyH_done (by kernel_rfl) ?_ _
            go_wp2_with fail
            go_meet
            exact ⟨_, rfl, hHeld, HT.out⟩
        have o7 : 0 ≤ o := by omega
        have k1 : (o == -1) = false := by simpa using o1
        have k2 : (o == -2) = false := by simpa using o2
        have k3 : (o == -3) = false := by simpa using o3
        have k4 : (o == -4) = false := by simp; omega
        have k5 : (o == -5) = false := by simp; omega
        have k6 : (o == -6) = false := by simp; omega
        obtain ⟨t, rfl⟩ : ∃ x : Nat, o = (x : Int) := ⟨o.toNat, by omega⟩
        have ht : t < vs.length := by have := HN.out; omega
        obtain ⟨rfl, hbv⟩ : Av = some ⟨bv, offv, none⟩ ∧ bv < w.heap.size := by
          rcases HAV.out with h | h
          · exact h
          · omega
        obtain ⟨x, hx⟩ : ∃ x, vs.getD t false = x := ⟨_, rfl⟩
        have cv : wr.cell? ⟨bv, offv + t, none⟩ = some (.bool x) := by
          have h1 := HCV.out t 0 ht (by omega)
          rw [Nat.mul_one, Nat.add_zero] at h1
          rw [← hx]
          exact (hB.out.cell (p := ⟨bv, offv + t, none⟩) hbv).trans h1
        have j1 : (t : Int) < (vs.length : Int) := by omega
        have HT : Hid (stp (vf vs) (t : Int) S.reverse = x :: S.reverse.drop (arO (t : Int))) := by
          show _ = _
          unfold stp arO
          rw [if_neg (by omega), if_neg (by omega), if_neg (by omega), if_neg (by omega), if_neg (by omega), if_neg (by omega), if_neg (by omega), if_neg (by omega), Int.toNat_natCast, ← hx]
          rfl
        clear hx o1 o2 o3 o456
        go_wp2_with fail
        go_meet
        exact ⟨x, rfl, Below.refl _ _, HT.out⟩
      case rest =>
        obtain ⟨y, rfl, hBc, hstp⟩ := hcut
        obtain ⟨r, hrn⟩ : ∃ r, S.length = r + arO o := ⟨w1, HSN.out⟩
        have HSTP := hide hstp
        have hcut := (hS.out.below hBc).cut (r := r) (by omega)
        have HBC : Hid (Below w.heap.size w wc) := Below.to hB.out hBc (Nat.le_refl _)
        have d0 : wc.cell? ⟨b, off + q, none⟩ = some (.int .i64 o) := (hBc.cell (p := ⟨b, off + q, none⟩) hbw).trans c0
        have hbc : b < wc.heap.size := Nat.lt_of_lt_of_le hbw hBc.size
        have hr1 : (S.length : Int) - (arO o : Int) = (r : Int) := by omega
        have hr2 : (r : Int) ≤ 100 := by omega
        have hr3 : r ≤ cap1 := by omega
        have hr4 : (r : Int) ≤ (cap1 : Int) := by omega
        have hcap3 : (cap1 : Int) ≤ 9223372036854775807 := by have := hcap2; unfold maxLen at this; omega
        have hwc : w.heap.size ≤ wc.heap.size := HBC.out.size
        have HCUT := hide hcut
        have HRN := hide hrn
        have gi4 : (arO o : Int) ≤ 2 := by unfold arO; split; omega; split <;> omega
        have hlo1 : ∀ i, (Value.slice A1 r cap1).ownBlock = some i → w.heap.size ≤ i := fun i hi => (World.ownsRow.lt hcut i hi).1
        have HLO := hide hlo1
        clear hcut hrn c0 hstp hBc hlo1
        go_wp2_with (first | (go_at_call 95; refine (operands_any _ _).mono ?_; rintro e w2 ⟨rfl, rfl⟩) | (at_builtin; go_must (refine wpList_append_own_at _ rfl (.tmp 90) (.tmp 92) _ rfl w.heap.size 4 i0 _ 1 1 Try.underlying29 hi0 hz0 hz1 hz2 rfl (by omega) _ _ _ rfl (HCUT.out.alloc _) ⟨wc.heap.size, 0, none⟩ 1 1 [.bool y] rfl rfl (World.news_of_block (heap_alloc_new wc _)) (by simp [Value.oneCell']) (by unfold maxLen; omega) (by omega) (by simp; omega) ?_); intro v1 w1 hown1 hg1 _ hat1; have HOWN := hide hown1; have HG1 := hide hg1; have HAT := hide hat1; clear hown1 hg1 hat1))
        have hown2 : BStk w.heap.size w1 v1 (S.take r ++ [y]) := by
          have h1 := HOWN.out
          have h2 : (S.take r ++ [y]).length = r + 1 := by simp; omega
          unfold BStk
          rw [h2, List.map_append]
          exact h1
        have hkeep : Keeps (fun i => (Value.slice A1 r cap1).ownBlock = some i) wc w1 :=
          Keeps.trans ((Keeps.refl _ wc).alloc _) (Keeps.of_grown HG1.out (fun k hk => hk)) (fun _ _ h => h)
        have hb2 : Below w.heap.size w w1 := HBC.out.trans (hkeep.below (B := w.heap.size) hwc (fun k hk => HLO.out k hk))
        have HOW2 := hide hown2
        have HB2 := hide hb2
        clear hown2 hkeep hb2
        go_wp2_with fail
        go_roundw
        case rel =>
          refine ⟨q, S.take r ++ [y], by omega, by go_num, HOW2.out, HB2.out, ?_⟩
          have hq1 : q < f.length := by omega
          show (S.take r ++ [y]).reverse = _
          rw [drop_getD hq1, evS_cons, HOQ.out, ← hev.out, HSTP.out, List.reverse_append]
          show [y] ++ _ = _
          rw [List.singleton_append]
          congr 1
          rw [List.drop_reverse]
          have : S.length - arO o = r := by have := HRN.out; omega
          rw [this]
        case measure => simp [intOf]
end Go.Proofs.Ytohofcmikfkilaa
/- Holds: walk. -/
namespace Go.Proofs.Ytohofcmikfkilaa
open Go.RowKit
set_option linter.unusedVariables false
set_option linter.unusedSimpArgs false
set_option maxRecDepth 100000 in
set_option maxHeartbeats 4000000 in
theorem Holds_any (m : Mo) (f : List Int) (vs : List Bool) (ov rv fv vv : Value) (w : World) (hs : SizedM m) (hl : f.length ≤ maxLen) (h : MoAt w w.heap.size ov rv m) (hf : Ints w w.heap.size fv f) (hv : Bols w w.heap.size vv vs) :
    Calls Try.prog 45 #[.agg #[ov, rv], fv, vv] w fun e w' => e = .returned (.tuple #[.bool (holB m f vs), .int .i64 (holE m f vs)]) ∧ Below w.heap.size w w' := by
  obtain ⟨A, cap, hov⟩ := Sl.form h.o
  obtain ⟨Ar, capr, hrv⟩ := h.r.form
  obtain ⟨Al, capl, hlv⟩ := Sl.form hf
  obtain ⟨Av, capv, hvv⟩ := Sl.form hv
  have H := hide h
  have HF := hide hf
  have HV := hide hv
  have HS := hide hs
  subst hov hrv hlv hvv
  clear h hf hv hs
  go_enter Try.func45, Try.ntmps45
  go_upto_region 1 with (fail)
  generalize hw0 : World.alloc _ _ = w0
  obtain ⟨hb0, hB0, hs0⟩ := alloc1 hw0
  clear hw0
  have HX0 : Hid (MoBox w0 w.heap.size (.slice A m.opts.length cap) (.slice Ar m.rules.length capr)) := hb0
  have HB0 := hide hB0
  have c0 := cellOf hb0 0
  have c1 := cellOf hb0 1
  have hB2 : Below w.heap.size w (w0.alloc (.cells #[.slice Al f.length capl] 35 (0, 0))) := Below.allocT hB0 (Nat.le_refl _) _
  have hX2 : MoBox (w0.alloc (.cells #[.slice Al f.length capl] 35 (0, 0))) w.heap.size (.slice A m.opts.length cap) (.slice Ar m.rules.length capr) := box_to hb0 (Below.allocT (Below.refl _ _) (Nat.le_refl _) _)
  have hck := check_any m [f] (.slice A m.opts.length cap) (.slice Ar m.rules.length capr) (.slice (some ⟨w0.heap.size, 0, none⟩) 1 1) _ HS.out (sized_one hl) (H.out.up hB2) (forms_one (heap_new _ _ _ rfl) (by simp) (HF.out.up hB2))
  have HCK := hide hck
  have HB2 := hide hB2
  have HX2 := hide hX2
  clear hb0 hB0 hs0 hck hB2 hX2
  by_cases he : m.errF [f] = 0
  · have HE := hide he
    go_upto_region 4 with (go_at_call 72; refine HCK.out.mono ?_; rw [HE.out]; rintro e w1 ⟨rfl, hB1⟩; have hbx := box_to HX2.out hB1; have d0 := cellOf hbx 0; have d1 := cellOf hbx 1; have HB1 : Hid (Below w.heap.size w w1) := Below.to HB2.out hB1 (Nat.le_refl _); clear hbx hB1 c0 c1)
    by_cases hn : vs.length = m.opts.length
    · obtain ⟨h1, h2⟩ := hol_ok he hn
      have e1 : ((vs.length : Int) != (m.opts.length : Int)) = false := by simp; omega
      have ht := holds_any f m.opts.length vs (.slice Al f.length capl) (.slice Av vs.length capv) w1 ((Mo.okF he).2 f (by simp)) (HF.out.up HB1.out) (Sl.up HV.out HB1.out) hn
      have HT := hide ht
      have H1 := hide h1
      have H2 := hide h2
      clear ht h1 h2 he hn
      go_wp2_with (go_at_call 84; refine HT.out.mono ?_; rintro e w2 ⟨rfl, hB3⟩)
      go_ret2
      exact ⟨by rw [H1.out, H2.out]; rfl, Below.to HB1.out hB3 (Nat.le_refl _)⟩
    · obtain ⟨h1, h2⟩ := hol_arg he hn
      have e1 : ((vs.length : Int) != (m.opts.length : Int)) = true := by simp; omega
      have H1 := hide h1
      have H2 := hide h2
      clear h1 h2 he hn
      go_wp2_with fail
      go_ret2
      exact ⟨by rw [H1.out, H2.out]; rfl, HB1.out⟩
  · obtain ⟨h1, h2⟩ := hol_err (vs := vs) he
    obtain ⟨z, hz⟩ : ∃ z, m.errF [f] = z := ⟨_, rfl⟩
    rw [hz] at he h1
    have hz1 : (z != 0) = true := by simpa using he
    have HZ := hide hz
    have H1 := hide h1
    have H2 := hide h2
    clear he hz h1 h2
    go_wp2_with (go_at_call 72; refine HCK.out.mono ?_; rw [HZ.out]; rintro e w1 ⟨rfl, hB1⟩)
    go_ret2
    exact ⟨by rw [H1.out, H2.out]; rfl, Below.to HB2.out hB1 (Nat.le_refl _)⟩
end Go.Proofs.Ytohofcmikfkilaa
/- Buildable: walk. -/
namespace Go.Proofs.Ytohofcmikfkilaa
open Go.RowKit
set_option linter.unusedVariables false
set_option linter.unusedSimpArgs false
set_option maxRecDepth 100000 in
theorem holdsClo_any (f : List Int) (N : Nat) (vs : List Bool) (fv vv : Value) (vb : Nat) (W : World) (hok : validF N f = true) (hbx : W.heap[vb]? = some (.cells #[vv] 29 (0, 0))) (hf : Ints W W.heap.size fv f) (hv : Bols W W.heap.size vv vs) (hN : vs.length = N) :
    Calls Try.prog 86 #[fv, .pointer (some ⟨vb, 0, none⟩)] W fun e w' => e = .returned (.bool (!evF1 (vf vs) f)) ∧ Below W.heap.size W w' := by
  have hh := holds_any f N vs fv vv W hok hf hv hN
  obtain ⟨Al, capl, hlv⟩ := Sl.form hf
  obtain ⟨Av, capv, hvv⟩ := Sl.form hv
  subst hlv hvv
  have c0 := cellOf hbx 0
  have HH := hide hh
  clear hh hf hv hN hok hbx
  go_enter Try.func86, Try.ntmps86
  go_wp2_with (go_at_call 84; refine HH.out.mono ?_; rintro e w1 ⟨rfl, hB1⟩)
  go_ret
  exact ⟨rfl, hB1⟩
set_option maxRecDepth 100000 in
theorem indexForms_holds (p : List Int → Bool) (cap0 : Value) (v : Value) (fs : List (List Int)) (w : World) (hm : fs.length ≤ maxLen) (h : Forms w w.heap.size v fs)
    (hf : ∀ (i : Nat) (f : List Int) (fv : Value) (W : World), i < fs.length → fs.getD i [] = f → Below w.heap.size w W → Ints W w.heap.size fv f → Calls Try.prog 86 #[fv, cap0] W fun e w' => e = .returned (.bool (p f)) ∧ Below W.heap.size W w') :
    Calls Try.prog 85 #[v, .func (.func 86) #[] #[cap0]] w fun e w' => e = .returned (.int .i64 (idxI p fs)) ∧ Below w.heap.size w w' := by
  unfold maxLen at hm
  obtain ⟨fvs, ⟨A, b, off, cap, rfl, hnc, hA, hc⟩, hin⟩ := h
  have HC := hide hc
  have HA := hide hA
  have HF := hide hf
  have HIN := hide hin
  clear hc hA hf hin
  go_enter Try.func85, Try.ntmps85
  go_wp2
  go_loopw [5, 8] (fun _ i wr => ∃ k : Nat, k ≤ fs.length ∧ i = .int .i64 k ∧ Hid (∀ j, j < k → p (fs.getD j []) = false) ∧ Below w.heap.size w wr) (fun _ i _ => fs.length - (intOf i).toNat)
  case atStart => exact ⟨0, Nat.zero_le _, rfl, fun j hj => by omega, Below.refl _ _⟩
  case round =>
    obtain ⟨k, hk, rfl, hz, hB⟩ := hrel
    by_cases hlt : k < fs.length
    · obtain ⟨rfl, hbb⟩ : A = some ⟨b, off, none⟩ ∧ b < w.heap.size := by
        rcases HA.out with h | h
        · exact h
        · omega
      obtain ⟨f, hfe⟩ : ∃ f, fs.getD k [] = f := ⟨_, rfl⟩
      have c0 : wr.cell? ⟨b, off + k, none⟩ = some (fvs k) := by
        have h1 := HC.out k 0 hlt (by omega)
        rw [Nat.mul_one, Nat.add_zero] at h1
        exact (hB.cell (p := ⟨b, off + k, none⟩) hbb).trans h1
      have hi : Ints wr w.heap.size (fvs k) f := by
        have := (HIN.out k hlt).below hB
        rwa [hfe] at this
      have hcl := HF.out k f (fvs k) wr hlt hfe hB hi
      obtain ⟨Af, capf, hfv⟩ := Sl.form hi
      rw [hfv] at c0 hcl
      have HFE := hide hfe
      clear hfe hi hfv
      by_cases hp : p f = true
      · rw [hp] at hcl
        have HCL := hide hcl
        have HP := hide hp
        clear hcl hp
        go_wp2_with (go_at_call 86; refine HCL.out.mono ?_; rintro e w1 ⟨rfl, hB1⟩)
        go_ret
        exact ⟨ret_int (idxI_at p [] fs k hz.out hlt (by rw [HFE.out]; exact HP.out)).symm, (by repeat (first | exact Below.refl _ _ | assumption | refine Below.drew ?_ | refine Below.drewN ?_ _ | refine Below.allocT ?_ (Nat.le_refl _) _ | refine Below.setCell ?_ (by simp <;> omega) _ | refine Below.to ?_ (by assumption) (Nat.le_refl _)))⟩
      · have hp' : p f = false := by simpa using hp
        rw [hp'] at hcl
        have HCL := hide hcl
        have HP := hide hp'
        clear hcl hp hp'
        go_wp2_with (go_at_call 86; refine HCL.out.mono ?_; rintro e w1 ⟨rfl, hB1⟩)
        go_roundw
        case rel => exact ⟨k + 1, by omega, by go_num, fun j hj => by
            rcases Nat.lt_or_ge j k with h | h
            · exact hz.out j h
            · rw [show j = k from by omega, HFE.out]; exact HP.out, (by repeat (first | exact Below.refl _ _ | assumption | refine Below.drew ?_ | refine Below.drewN ?_ _ | refine Below.allocT ?_ (Nat.le_refl _) _ | refine Below.setCell ?_ (by simp <;> omega) _ | refine Below.to ?_ (by assumption) (Nat.le_refl _)))⟩
        case measure => simp [intOf]; omega
    · go_wp2
      go_ret
      exact ⟨ret_int (idxI_none p [] fs (fun j hj => hz.out j (by omega))).symm, (by repeat (first | exact Below.refl _ _ | assumption | refine Below.drew ?_ | refine Below.drewN ?_ _ | refine Below.allocT ?_ (Nat.le_refl _) _ | refine Below.setCell ?_ (by simp <;> omega) _ | refine Below.to ?_ (by assumption) (Nat.le_refl _)))⟩

set_option maxRecDepth 100000 in
set_option maxHeartbeats 4000000 in
theorem Buildable_any (m : Mo) (vs : List Bool) (ov rv vv : Value) (w : World) (hs : SizedM m) (h : MoAt w w.heap.size ov rv m) (hv : Bols w w.heap.size vv vs) :
    Calls Try.prog 47 #[.agg #[ov, rv], vv] w fun e w' => e = .returned (.tuple #[.int .i64 (buiR m vs), .bool (buiB m vs), .int .i64 (buiE m vs)]) ∧ Below w.heap.size w w' := by
  obtain ⟨A, cap, hov⟩ := Sl.form h.o
  obtain ⟨Ar, capr, hrv⟩ := h.r.form
  obtain ⟨Av, capv, hvv⟩ := Sl.form hv
  have H := hide h
  have HV := hide hv
  have HS := hide hs
  subst hov hrv hvv
  clear h hv hs
  go_enter Try.func47, Try.ntmps47
  go_upto_region 1 with (fail)
  obtain ⟨w0, hw0⟩ : ∃ w0 : World, (w.alloc (.cells #[.slice A m.opts.length cap, .slice Ar m.rules.length capr] 25)).alloc (.cells #[.slice Av vs.length capv] 29) = w0 := ⟨_, rfl⟩
  have hB0 : Below w.heap.size w w0 := by rw [← hw0]; exact Below.allocT (Below.allocT (Below.refl _ _) (Nat.le_refl _) _) (Nat.le_refl _) _
  have hb0 : w0.heap[w.heap.size]? = some (.cells #[.slice A m.opts.length cap, .slice Ar m.rules.length capr] 25 (0, 0)) := by rw [← hw0, heap_old _ _ _ (by simp)]; exact heap_new _ _ _ rfl
  have hb1 : w0.heap[w.heap.size + 1]? = some (.cells #[.slice Av vs.length capv] 29 (0, 0)) := by rw [← hw0]; exact heap_new _ _ _ (by simp)
  rw [hw0]
  clear hw0
  have HX0 : Hid (MoBox w0 w.heap.size (.slice A m.opts.length cap) (.slice Ar m.rules.length capr)) := hb0
  have HY0 := hide hb1
  have HB0 := hide hB0
  have c0 := cellOf hb0 0
  have c1 := cellOf hb0 1
  have hck := CheckModel_any m (.slice A m.opts.length cap) (.slice Ar m.rules.length capr) w0 HS.out (H.out.up hB0)
  have HCK := hide hck
  clear hb0 hb1 hB0 hck
  by_cases he : m.err = 0
  · have HE := hide he
    go_upto_region 4 with (go_at_call 24; refine HCK.out.mono ?_; rw [HE.out]; rintro e w1 ⟨rfl, hB1⟩; have hbx := box_to HX0.out hB1; have d0 := cellOf hbx 0; have d1 := cellOf hbx 1; have hby := box_to HY0.out hB1; have f0 := cellOf hby 0; have HY1 := hide hby; have HB1 : Hid (Below w.heap.size w w1) := Below.to HB0.out hB1 (Nat.le_refl _); clear hbx hby hB1 c0 c1)
    by_cases hn : vs.length = m.opts.length
    · obtain ⟨h1, h2, h3⟩ := bui_ok he hn
      have e1 : ((vs.length : Int) != (m.opts.length : Int)) = false := by simp; omega
      have hix := indexForms_holds (fun f => !evF1 (vf vs) f) (.pointer (some ⟨w.heap.size + 1, 0, none⟩)) (.slice Ar m.rules.length capr) m.rules w1 HS.out.r.1 (H.out.up HB1.out).r
        (fun i f fv W hi hfe hB hin => holdsClo_any f m.opts.length vs fv _ (w.heap.size + 1) W ((Mo.ok he).2.2.2 f (by rw [← hfe]; exact getD_mem hi)) (box_to HY1.out hB) (hin.more hB.size) (Sl.up (Sl.up HV.out HB1.out) hB) hn)
      obtain ⟨z, hz⟩ : ∃ z, fstR vs m.rules = z := ⟨_, rfl⟩
      rw [show idxI (fun f => !evF1 (vf vs) f) m.rules = z from hz] at hix
      rw [hz] at h2 h3
      have HIX := hide hix
      have H1 := hide h1
      have H2 := hide h2
      have H3 := hide h3
      clear hix h1 h2 h3 he hn hz
      go_wp2_with (go_at_call 85; refine HIX.out.mono ?_; rintro e w2 ⟨rfl, hB2⟩)
      go_ret3
      exact ⟨by rw [H1.out, H2.out, H3.out]; rfl, Below.to HB1.out hB2 (Nat.le_refl _)⟩
    · have h1 : buiE m vs = 1 := by unfold buiE; rw [if_neg (by simp [he]), if_pos hn]
      obtain ⟨h2, h3⟩ := bui_bad h1 (by omega)
      have e1 : ((vs.length : Int) != (m.opts.length : Int)) = true := by simp; omega
      have H1 := hide h1
      have H2 := hide h2
      have H3 := hide h3
      clear h1 h2 h3 he hn
      go_wp2_with fail
      go_ret3
      exact ⟨by rw [H1.out, H2.out, H3.out]; rfl, HB1.out⟩
  · obtain ⟨z, hz⟩ : ∃ z, m.err = z := ⟨_, rfl⟩
    have h1 : buiE m vs = z := by unfold buiE; rw [if_pos he, hz]
    rw [hz] at he
    obtain ⟨h2, h3⟩ := bui_bad h1 he
    have hz1 : (z != 0) = true := by simpa using he
    have HZ := hide hz
    have H1 := hide h1
    have H2 := hide h2
    have H3 := hide h3
    clear he hz h1 h2 h3
    go_wp2_with (go_at_call 24; refine HCK.out.mono ?_; rw [HZ.out]; rintro e w1 ⟨rfl, hB1⟩)
    go_ret3
    exact ⟨by rw [H1.out, H2.out, H3.out]; rfl, Below.to HB0.out hB1 (Nat.le_refl _)⟩
end Go.Proofs.Ytohofcmikfkilaa

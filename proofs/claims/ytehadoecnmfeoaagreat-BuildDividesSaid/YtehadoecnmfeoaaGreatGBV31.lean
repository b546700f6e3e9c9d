/- Part 31 of this claim's texts: walks and plain laws. -/
import Derived.Test.YtehadoecnmfeoaaGreatRows
import Derived.Test.YtehadoecnmfeoaaGreatGBV13
import Derived.Test.YtehadoecnmfeoaaGreatGBV18
import Derived.Test.YtehadoecnmfeoaaGreatGBV30
import Derived.Test.YtehadoecnmfeoaaGreatGBV23
import Derived.Deep.RegionHeld3
import Derived.Deep.DrawnRows
import Derived.Test.YtehadoecnmfeoaaGreatGBV26
import Derived.Test.YtehadoecnmfeoaaGreatGBV3
/- Modules of wires that go together: plain laws. -/
namespace Go.Proofs.YtehadoecnmfeoaaGreat
set_option linter.unusedVariables false
set_option linter.unusedSimpArgs false
/-- Whether two formulas hold in the same buildable variants. -/
def tgB (m : Mo) (f g : List Int) : Bool := (allM m).all fun x => evF1 (vf x) f == evF1 (vf x) g
def sometB (m : Mo) (f : List Int) : Bool := (allM m).any fun x => evF1 (vf x) f
theorem imp_empty (m : Mo) (f g : List Int) : (impL m f g).isEmpty = (allM m).all fun x => !evF1 (vf x) f || evF1 (vf x) g := by
  unfold impL
  rw [satM_all]
  induction allM m with
  | nil => rfl
  | cons a t ih =>
    rw [List.filter_cons, List.all_cons, ← ih]
    cases evF1 (vf a) f <;> cases evF1 (vf a) g <;> simp
theorem imp_tg (m : Mo) (f g : List Int) : ((impL m f g).isEmpty && (impL m g f).isEmpty) = tgB m f g := by
  rw [imp_empty, imp_empty]
  unfold tgB
  induction allM m with
  | nil => rfl
  | cons a t ih =>
    rw [List.all_cons, List.all_cons, List.all_cons, ← ih]
    cases evF1 (vf a) f <;> cases evF1 (vf a) g <;> simp
theorem mee_some (m : Mo) (f : List Int) : (!(meeL m [f]).isEmpty) = sometB m f := by
  unfold meeL sometB
  rw [satM_all]
  induction allM m with
  | nil => rfl
  | cons a t ih =>
    rw [List.filter_cons, List.any_cons, ← ih]
    have h : allF (vf a) [f] = evF1 (vf a) f := by simp [allF]
    rw [h]
    cases evF1 (vf a) f <;> simp
def fmW (l : Lo) (w : Nat) : List Int := (l.ws.getD w Wi.o).form
/-- The module that a wire joins; below 0: none. -/
def fndD (l : Lo) (D : List Md) (w : Nat) : Int := idxI (fun d => tgB l.m d.f (fmW l w)) D
def putD (D : List Md) (k w : Nat) : List Md := D.set k ⟨(D.getD k Md.o).f, (D.getD k Md.o).ws ++ [(w : Int)]⟩
def divS (l : Lo) (D : List Md) (w : Nat) : List Md := if sometB l.m (fmW l w) = true then (if 0 ≤ fndD l D w then putD D (fndD l D w).toNat w else D ++ [⟨fmW l w, [(w : Int)]⟩]) else D
def divN (l : Lo) : Nat → List Md
  | 0 => []
  | n + 1 => divS l (divN l n) n
def divL (l : Lo) : List Md := if l.err = 0 then divN l l.ws.length else []
structure DivI (l : Lo) (n : Nat) (D : List Md) : Prop where
  len : D.length ≤ n
  at_ : ∀ i, i < D.length → ∃ (w0 : Nat) (t : List Int), (D.getD i Md.o).ws = (w0 : Int) :: t ∧ w0 < n ∧ (D.getD i Md.o).f = fmW l w0 ∧ t.length < n
theorem DivI.zero (l : Lo) : DivI l 0 [] := ⟨Nat.le_refl _, fun i hi => absurd hi (by simp)⟩
theorem getD_snoc {α : Type} (L : List α) (a z : α) (i : Nat) : (L ++ [a]).getD i z = if i < L.length then L.getD i z else if i = L.length then a else z := by
  rcases Nat.lt_trichotomy i L.length with h | h | h
  · rw [if_pos h, List.getD_eq_getElem?_getD, List.getElem?_append_left h, List.getD_eq_getElem?_getD]
  · subst h
    rw [if_neg (Nat.lt_irrefl _), if_pos rfl, List.getD_eq_getElem?_getD, List.getElem?_append_right (Nat.le_refl _)]
    simp
  · rw [if_neg (by omega), if_neg (by omega), List.getD_eq_getElem?_getD, List.getElem?_eq_none (by simp; omega)]
    rfl
theorem getD_set9 {α : Type} (L : List α) (a z : α) {k : Nat} (hk : k < L.length) (i : Nat) : (L.set k a).getD i z = if i = k then a else L.getD i z := by
  by_cases h : i = k
  · subst h
    rw [if_pos rfl, List.getD_eq_getElem?_getD, List.getElem?_set_self hk]
    rfl
  · rw [if_neg h, List.getD_eq_getElem?_getD, List.getElem?_set_ne (fun q => h q.symm), List.getD_eq_getElem?_getD]
theorem fndD_lt {l : Lo} {D : List Md} {w : Nat} (h : 0 ≤ fndD l D w) : (fndD l D w).toNat < D.length := by
  have h1 : ∀ (L : List Md) (p : Md → Bool), 0 ≤ idxI p L → idxI p L < (L.length : Int) := by
    intro L p
    induction L with
    | nil => intro h; exact absurd h (by simp [idxI])
    | cons a t ih =>
      intro h
      unfold idxI at h ⊢
      rw [List.length_cons]
      split
      · omega
      · rename_i h2
        rw [if_neg h2] at h
        split at h
        · omega
        · rename_i h3
          rw [if_neg h3]
          have := ih (by omega)
          omega
  have := h1 D _ h
  unfold fndD at h this ⊢
  omega
theorem DivI.step {l : Lo} {n : Nat} {D : List Md} (h : DivI l n D) : DivI l (n + 1) (divS l D n) := by
  unfold divS
  split
  · split
    · rename_i h2
      have hk := fndD_lt h2
      obtain ⟨k, hke⟩ : ∃ k, (fndD l D n).toNat = k := ⟨_, rfl⟩
      rw [hke] at hk ⊢
      unfold putD
      refine ⟨by rw [List.length_set]; have := h.len; omega, fun i hi => ?_⟩
      rw [List.length_set] at hi
      rw [getD_set9 D _ _ hk]
      obtain ⟨w0, t, h3, h4, h5, h6⟩ := h.at_ i hi
      by_cases e : i = k
      · subst e
        rw [if_pos rfl]
        refine ⟨w0, t ++ [(n : Int)], ?_, by omega, h5, by rw [List.length_append, List.length_singleton]; omega⟩
        show (D.getD i Md.o).ws ++ [(n : Int)] = _
        rw [h3]
        rfl
      · rw [if_neg e]
        exact ⟨w0, t, h3, by omega, h5, by omega⟩
    · refine ⟨by rw [List.length_append, List.length_singleton]; have := h.len; omega, fun i hi => ?_⟩
      rw [getD_snoc]
      by_cases e : i < D.length
      · rw [if_pos e]
        obtain ⟨w0, t, h3, h4, h5, h6⟩ := h.at_ i e
        exact ⟨w0, t, h3, by omega, h5, by omega⟩
      · rw [List.length_append, List.length_singleton] at hi
        rw [if_neg e, if_pos (by omega)]
        exact ⟨n, [], rfl, by omega, rfl, by simp⟩
  · refine ⟨Nat.le_succ_of_le h.len, fun i hi => ?_⟩
    obtain ⟨w0, t, h3, h4, h5, h6⟩ := h.at_ i hi
    exact ⟨w0, t, h3, by omega, h5, by omega⟩
theorem divN_i (l : Lo) : ∀ n, DivI l n (divN l n)
  | 0 => DivI.zero l
  | n + 1 => (divN_i l n).step
end Go.Proofs.YtehadoecnmfeoaaGreat
/- Whether a loom is larger than a statement looks at: walk. -/
namespace Go.Proofs.YtehadoecnmfeoaaGreat
open Go.RowKit
set_option linter.unusedVariables false
set_option linter.unusedSimpArgs false
theorem any_yes {α : Type} {z : α} {p : α → Bool} {l : List α} {k : Nat} (hk : k < l.length) (h : p (l.getD k z) = true) : l.any p = true :=
  List.any_eq_true.2 ⟨_, by rw [List.getD_eq_getElem?_getD, List.getElem?_eq_getElem hk]; exact List.getElem_mem hk, h⟩
theorem any_no {α : Type} {z : α} {p : α → Bool} {l : List α} (h : ∀ j, j < l.length → p (l.getD j z) = false) : l.any p = false := by
  rw [← Bool.not_eq_true, List.any_eq_true]
  rintro ⟨x, hx, hp⟩
  obtain ⟨i, hi, rfl⟩ := List.mem_iff_getElem.1 hx
  have := h i hi
  rw [List.getD_eq_getElem?_getD, List.getElem?_eq_getElem hi, Option.getD_some, hp] at this
  cases this
theorem getD_mem3f {α : Type} {l : List α} {z : α} {k : Nat} (h : k < l.length) : l.getD k z ∈ l := by
  rw [List.getD_eq_getElem?_getD, List.getElem?_eq_getElem h]
  exact List.getElem_mem h
def farN (l : Lo) : Bool := decide (10 < l.m.opts.length) || decide (10 < l.m.rules.length) || decide (12 < l.ss.length) || decide (12 < l.us.length) || decide (10 < l.ps.length) || decide (12 < l.ws.length)
def farW (x : Wi) : Bool := decide (100 < x.name.size) || decide (40 < x.form.length)
/-- Whether a loom is larger than a statement looks at. -/
def farB (l : Lo) : Bool := farN l || (l.m.rules.any fun f => decide (40 < f.length)) || (l.m.opts.any fun s => decide (100 < s.size)) || (l.ps.any fun p => decide (100 < p.name.size)) || l.ws.any farW
end Go.Proofs.YtehadoecnmfeoaaGreat
/- The elder checks of spots and pins: walks. -/
namespace Go.Proofs.YtehadoecnmfeoaaGreat
open Go.RowKit
set_option linter.unusedVariables false
set_option linter.unusedSimpArgs false
theorem btw_neg {n m : Int} (h : n < 0) : btw n 0 m = false := btw_f (.inl h)
theorem btw_dec {n : Int} {m : Nat} (h : 0 ≤ n) : btw n 0 ((m : Int) - 1) = decide (n < (m : Int)) := by
  unfold btw
  rw [decide_eq_true h, Bool.true_and]
  exact decide_eq_decide.2 (by omega)
theorem btw_dec2 {n m : Int} (h : 0 ≤ n) : btw n 0 (m - 1) = decide (n < m) := by
  unfold btw
  rw [decide_eq_true h, Bool.true_and]
  exact decide_eq_decide.2 (by omega)
set_option maxRecDepth 100000 in
set_option maxHeartbeats 1000000 in
theorem rspot_any (n : Int) (A0 A1 A2 A3 A4 A5 : Option Addr) (q0 q1 q2 q3 q4 q5 : Nat) (l : Lo) (w : World) (b : Bool) (hb : btw n 0 ((l.ss.length : Int) - 1) = b) :
    Calls Tryz.prog 202 #[.agg #[.slice A0 l.m.opts.length q0, .slice A1 l.m.rules.length q1, .slice A2 l.ss.length q2, .slice A3 l.us.length q3, .slice A4 l.ps.length q4, .slice A5 l.ws.length q5], .int .i64 n] w fun e w' => e = .returned (.bool b) ∧ Below w.heap.size w w' := by
  subst hb
  by_cases h0 : 0 ≤ n
  · have hr := btw_dec (n := n) (m := l.ss.length) h0
    have HR := hide hr
    clear hr
    go_enter Tryz.func202, Tryz.ntmps202
    go_wp2_with fail
    go_ret
    exact ⟨ret_bool HR.out.symm, (by repeat (first | exact Below.refl _ _ | assumption | refine Below.drew ?_ | refine Below.drewN ?_ _ | refine Below.allocT ?_ (Nat.le_refl _) _ | refine Below.setCell ?_ (by simp <;> omega) _ | refine Below.to ?_ (by assumption) (Nat.le_refl _)))⟩
  · have hr := btw_neg (n := n) (m := (l.ss.length : Int) - 1) (by omega)
    have HR := hide hr
    clear hr
    go_enter Tryz.func202, Tryz.ntmps202
    go_wp2_with fail
    go_ret
    exact ⟨ret_bool HR.out.symm, (by repeat (first | exact Below.refl _ _ | assumption | refine Below.drew ?_ | refine Below.drewN ?_ _ | refine Below.allocT ?_ (Nat.le_refl _) _ | refine Below.setCell ?_ (by simp <;> omega) _ | refine Below.to ?_ (by assumption) (Nat.le_refl _)))⟩
set_option maxRecDepth 100000 in
set_option maxHeartbeats 2000000 in
theorem rpin_any (p c : Int) (A0 A1 A2 A3 A4 A5 : Option Addr) (q0 q1 q2 q3 q4 q5 : Nat) (l : Lo) (w : World) (h : LoA w w.heap.size A0 A1 A2 A3 A4 A5 q0 q1 q2 q3 q4 q5 l) (b : Bool) (hb : pinOk l p c = b) :
    Calls Tryz.prog 204 #[.agg #[.slice A0 l.m.opts.length q0, .slice A1 l.m.rules.length q1, .slice A2 l.ss.length q2, .slice A3 l.us.length q3, .slice A4 l.ps.length q4, .slice A5 l.ws.length q5], .agg #[.int .i64 p, .int .i64 c]] w fun e w' => e = .returned (.bool b) ∧ Below w.heap.size w w' := by
  subst hb
  have H := hide h
  clear h
  by_cases h0 : 0 ≤ p
  case neg =>
    have hr : pinOk l p c = false := by unfold pinOk; rw [btw_f (.inl (by omega))]; rfl
    have HR := hide hr
    have e0 : decide ((0 : Int) ≤ p) = false := decide_eq_false h0
    clear hr
    go_enter Tryz.func204, Tryz.ntmps204
    go_upto_region 1 with (fail)
    generalize hw0 : World.alloc _ _ = w0
    obtain ⟨hb0, hb1, hB0, hs0⟩ := alloc2 hw0
    have HB0 := hide hB0
    have c4 := cellOf hb0 4
    have d0 := cellOf hb1 0
    have d1 := cellOf hb1 1
    have l0 := box_lt hb0
    have l1 := box_lt hb1
    clear hw0 hb0 hb1 hB0 hs0
    refine wp_region_held_drew (S := (fun w' => Below w0.heap.size w0 w')) (by kernel_rfl) ?_ (fun hHeld => ?_)
    · try dsimp only
      exact (by repeat (first | exact Below.refl _ _ | assumption | refine Below.drew ?_ | refine Below.drewN ?_ _ | refine Below.allocT ?_ (Nat.le_refl _) _ | refine Below.setCell ?_ (by simp <;> omega) _ | refine Below.to ?_ (by assumption) (Nat.le_refl _)))
    refine zT 0 rfl ?_
    try simp only [zX]
    refine zT 1 rfl ?_
    try simp only [zX]
    refine zT 2 rfl ?_
    try simp only [zX]
    refine zT 3 rfl ?_
    try simp only [zX]
    refine wpAnyH_take (i := 4) (v := undef) rfl (by kernel_rfl) (by kernel_rfl) (by kernel_rfl) (fun _ _ _ h => h) (Or.inr ⟨?w1_4, rfl⟩) (by assumption) ?r1_4
    case' w1_4 => first | rfl | (simp [Region.wanted, yielded, *]; done)
    try simp only [zX]
    refine wpAnyH_take (i := 5) (v := undef) rfl (by kernel_rfl) (by kernel_rfl) (by kernel_rfl) (fun _ _ _ h => h) (Or.inr ⟨?w1_5, rfl⟩) (by assumption) ?r1_5
    case' w1_5 => first | rfl | (simp [Region.wanted, yielded, *]; done)
    try simp only [zX]
    refine wpAnyH_take (i := 6) (v := undef) rfl (by kernel_rfl) (by kernel_rfl) (by kernel_rfl) (fun _ _ _ h => h) (Or.inr ⟨?w1_6, rfl⟩) (by assumption) ?r1_6
    case' w1_6 => first | rfl | (simp [Region.wanted, yielded, *]; done)
    try simp only [zX]
    refine wpAnyH_take (i := 7) (v := undef) rfl (by kernel_rfl) (by kernel_rfl) (by kernel_rfl) (fun _ _ _ h => h) (Or.inr ⟨?w1_7, rfl⟩) (by assumption) ?r1_7
    case' w1_7 => first | rfl | (simp [Region.wanted, yielded, *]; done)
    try simp only [zX]
    refine wpAnyH_take (i := 8) (v := undef) rfl (by kernel_rfl) (by kernel_rfl) (by kernel_rfl) (fun _ _ _ h => h) (Or.inr ⟨?w1_8, rfl⟩) (by assumption) ?r1_8
    case' w1_8 => first | rfl | (simp [Region.wanted, yielded, *]; done)
    try simp only [zX]
    refine wpAnyH_take (i := 9) (v := undef) rfl (by kernel_rfl) (by kernel_rfl) (by kernel_rfl) (fun _ _ _ h => h) (Or.inr ⟨?w1_9, rfl⟩) (by assumption) ?r1_9
    case' w1_9 => first | rfl | (simp [Region.wanted, yielded, *]; done)
    try simp only [zX]
    refine zT 10 rfl ?_
    try simp only [zX]
    refine zT 11 rfl ?_
    try simp only [zX]
    refine wpAnyH_take (i := 12) (v := undef) rfl (by kernel_rfl) (by kernel_rfl) (by kernel_rfl) (fun _ _ _ h => h) (Or.inr ⟨?w1_12, rfl⟩) (by assumption) ?r1_12
    case' w1_12 => first | rfl | (simp [Region.wanted, yielded, *]; done)
    try simp only [zX]
    refine wpAnyH_take (i := 13) (v := undef) rfl (by kernel_rfl) (by kernel_rfl) (by kernel_rfl) (fun _ _ _ h => h) (Or.inr ⟨?w1_13, rfl⟩) (by assumption) ?r1_13
    case' w1_13 => first | rfl | (simp [Region.wanted, yielded, *]; done)
    try simp only [zX]
    refine wpAnyH_take (i := 14) (v := undef) rfl (by kernel_rfl) (by kernel_rfl) (by kernel_rfl) (fun _ _ _ h => h) (Or.inr ⟨?w1_14, rfl⟩) (by assumption) ?r1_14
    case' w1_14 => first | rfl | (simp [Region.wanted, yielded, *]; done)
    try simp only [zX]
    refine zT 15 rfl ?_
    try simp only [zX]
    refine zT 16 rfl ?_
    try simp only [zX]
    refine wpAnyH_take (i := 17) (v := undef) rfl (by kernel_rfl) (by kernel_rfl) (by kernel_rfl) (fun _ _ _ h => h) (Or.inr ⟨?w1_17, rfl⟩) (by assumption) ?r1_17
    case' w1_17 => first | rfl | (simp [Region.wanted, yielded, *]; done)
    try simp only [zX]
    refine wpAnyH_take (i := 18) (v := undef) rfl (by kernel_rfl) (by kernel_rfl) (by kernel_rfl) (fun _ _ _ h => h) (Or.inr ⟨?w1_18, rfl⟩) (by assumption) ?r1_18
    case' w1_18 => first | rfl | (simp [Region.wanted, yielded, *]; done)
    try simp only [zX]
    refine wpAnyH_take (i := 19) (v := undef) rfl (by kernel_rfl) (by kernel_rfl) (by kernel_rfl) (fun _ _ _ h => h) (Or.inr ⟨?w1_19, rfl⟩) (by assumption) ?r1_19
    case' w1_19 => first | rfl | (simp [Region.wanted, yielded, *]; done)
    try simp only [zX]
    refine wpAnyH_take (i := 20) (v := undef) rfl (by kernel_rfl) (by kernel_rfl) (by kernel_rfl) (fun _ _ _ h => h) (Or.inr ⟨?w1_20, rfl⟩) (by assumption) ?r1_20
    case' w1_20 => first | rfl | (simp [Region.wanted, yielded, *]; done)
    try simp only [zX]
    refine wpAnyH_take (i := 21) (v := undef) rfl (by kernel_rfl) (by kernel_rfl) (by kernel_rfl) (fun _ _ _ h => h) (Or.inr ⟨?w1_21, rfl⟩) (by assumption) ?r1_21
    case' w1_21 => first | rfl | (simp [Region.wanted, yielded, *]; done)
    try simp only [zX]
    refine wpAnyH_take (i := 22) (v := undef) rfl (by kernel_rfl) (by kernel_rfl) (by kernel_rfl) (fun _ _ _ h => h) (Or.inr ⟨?w1_22, rfl⟩) (by assumption) ?r1_22
    case' w1_22 => first | rfl | (simp [Region.wanted, yielded, *]; done)
    try simp only [zX]
    refine wpAnyH_take (i := 23) (v := undef) rfl (by kernel_rfl) (by kernel_rfl) (by kernel_rfl) (fun _ _ _ h => h) (Or.inr ⟨?w1_23, rfl⟩) (by assumption) ?r1_23
    case' w1_23 => first | rfl | (simp [Region.wanted, yielded, *]; done)
    try simp only [zX]
    refine wpAnyH_take (i := 24) (v := undef) rfl (by kernel_rfl) (by kernel_rfl) (by kernel_rfl) (fun _ _ _ h => h) (Or.inr ⟨?w1_24, rfl⟩) (by assumption) ?r1_24
    case' w1_24 => first | rfl | (simp [Region.wanted, yielded, *]; done)
    try simp only [zX]
    refine wpAnyH_take (i := 25) (v := undef) rfl (by kernel_rfl) (by kernel_rfl) (by kernel_rfl) (fun _ _ _ h => h) (Or.inr ⟨?w1_25, rfl⟩) (by assumption) ?r1_25
    case' w1_25 => first | rfl | (simp [Region.wanted, yielded, *]; done)
    try simp only [zX]
    refine wpAnyH_take (i := 26) (v := undef) rfl (by kernel_rfl) (by kernel_rfl) (by kernel_rfl) (fun _ _ _ h => h) (Or.inr ⟨?w1_26, rfl⟩) (by assumption) ?r1_26
    case' w1_26 => first | rfl | (simp [Region.wanted, yielded, *]; done)
    try simp only [zX]
    refine zT 27 rfl ?_
    try simp only [zX]
    refine zT 28 rfl ?_
    try simp only [zX]
    refine wpAnyH_done (by kernel_rfl) ?_ _
    go_wp2_with fail
    go_ret
    exact ⟨ret_bool HR.out.symm, Below.to HB0.out hHeld (Nat.le_refl _)⟩
  case pos =>
  have e0 : decide ((0 : Int) ≤ p) = true := decide_eq_true h0
  by_cases h1 : p < (l.ps.length : Int)
  case neg =>
    have hr : pinOk l p c = false := by unfold pinOk; rw [btw_f (.inr (by omega))]; rfl
    have HR := hide hr
    have e1 : decide (p < (l.ps.length : Int)) = false := decide_eq_false h1
    clear hr
    go_enter Tryz.func204, Tryz.ntmps204
    go_upto_region 1 with (fail)
    generalize hw0 : World.alloc _ _ = w0
    obtain ⟨hb0, hb1, hB0, hs0⟩ := alloc2 hw0
    have HB0 := hide hB0
    have c4 := cellOf hb0 4
    have d0 := cellOf hb1 0
    have d1 := cellOf hb1 1
    have l0 := box_lt hb0
    have l1 := box_lt hb1
    clear hw0 hb0 hb1 hB0 hs0
    refine wp_region_held_drew (S := (fun w' => Below w0.heap.size w0 w')) (by kernel_rfl) ?_ (fun hHeld => ?_)
    · try dsimp only
      exact (by repeat (first | exact Below.refl _ _ | assumption | refine Below.drew ?_ | refine Below.drewN ?_ _ | refine Below.allocT ?_ (Nat.le_refl _) _ | refine Below.setCell ?_ (by simp <;> omega) _ | refine Below.to ?_ (by assumption) (Nat.le_refl _)))
    refine zT 0 rfl ?_
    try simp only [zX]
    refine zT 1 rfl ?_
    try simp only [zX]
    refine zT 2 rfl ?_
    try simp only [zX]
    refine zT 3 rfl ?_
    try simp only [zX]
    refine zT 4 rfl ?_
    try simp only [zX]
    refine zT 5 rfl ?_
    try simp only [zX]
    refine zT 6 rfl ?_
    try simp only [zX]
    refine zT 7 rfl ?_
    try simp only [zX]
    refine zT 8 rfl ?_
    try simp only [zX]
    refine zT 9 rfl ?_
    try simp only [zX]
    refine zT 10 rfl ?_
    try simp only [zX]
    refine zT 11 rfl ?_
    try simp only [zX]
    refine wpAnyH_take (i := 12) (v := undef) rfl (by kernel_rfl) (by kernel_rfl) (by kernel_rfl) (fun _ _ _ h => h) (Or.inr ⟨?w2_12, rfl⟩) (by assumption) ?r2_12
    case' w2_12 => first | rfl | (simp [Region.wanted, yielded, *]; done)
    try simp only [zX]
    refine wpAnyH_take (i := 13) (v := undef) rfl (by kernel_rfl) (by kernel_rfl) (by kernel_rfl) (fun _ _ _ h => h) (Or.inr ⟨?w2_13, rfl⟩) (by assumption) ?r2_13
    case' w2_13 => first | rfl | (simp [Region.wanted, yielded, *]; done)
    try simp only [zX]
    refine wpAnyH_take (i := 14) (v := undef) rfl (by kernel_rfl) (by kernel_rfl) (by kernel_rfl) (fun _ _ _ h => h) (Or.inr ⟨?w2_14, rfl⟩) (by assumption) ?r2_14
    case' w2_14 => first | rfl | (simp [Region.wanted, yielded, *]; done)
    try simp only [zX]
    refine zT 15 rfl ?_
    try simp only [zX]
    refine zT 16 rfl ?_
    try simp only [zX]
    refine wpAnyH_take (i := 17) (v := undef) rfl (by kernel_rfl) (by kernel_rfl) (by kernel_rfl) (fun _ _ _ h => h) (Or.inr ⟨?w2_17, rfl⟩) (by assumption) ?r2_17
    case' w2_17 => first | rfl | (simp [Region.wanted, yielded, *]; done)
    try simp only [zX]
    refine wpAnyH_take (i := 18) (v := undef) rfl (by kernel_rfl) (by kernel_rfl) (by kernel_rfl) (fun _ _ _ h => h) (Or.inr ⟨?w2_18, rfl⟩) (by assumption) ?r2_18
    case' w2_18 => first | rfl | (simp [Region.wanted, yielded, *]; done)
    try simp only [zX]
    refine wpAnyH_take (i := 19) (v := undef) rfl (by kernel_rfl) (by kernel_rfl) (by kernel_rfl) (fun _ _ _ h => h) (Or.inr ⟨?w2_19, rfl⟩) (by assumption) ?r2_19
    case' w2_19 => first | rfl | (simp [Region.wanted, yielded, *]; done)
    try simp only [zX]
    refine wpAnyH_take (i := 20) (v := undef) rfl (by kernel_rfl) (by kernel_rfl) (by kernel_rfl) (fun _ _ _ h => h) (Or.inr ⟨?w2_20, rfl⟩) (by assumption) ?r2_20
    case' w2_20 => first | rfl | (simp [Region.wanted, yielded, *]; done)
    try simp only [zX]
    refine wpAnyH_take (i := 21) (v := undef) rfl (by kernel_rfl) (by kernel_rfl) (by kernel_rfl) (fun _ _ _ h => h) (Or.inr ⟨?w2_21, rfl⟩) (by assumption) ?r2_21
    case' w2_21 => first | rfl | (simp [Region.wanted, yielded, *]; done)
    try simp only [zX]
    refine wpAnyH_take (i := 22) (v := undef) rfl (by kernel_rfl) (by kernel_rfl) (by kernel_rfl) (fun _ _ _ h => h) (Or.inr ⟨?w2_22, rfl⟩) (by assumption) ?r2_22
    case' w2_22 => first | rfl | (simp [Region.wanted, yielded, *]; done)
    try simp only [zX]
    refine wpAnyH_take (i := 23) (v := undef) rfl (by kernel_rfl) (by kernel_rfl) (by kernel_rfl) (fun _ _ _ h => h) (Or.inr ⟨?w2_23, rfl⟩) (by assumption) ?r2_23
    case' w2_23 => first | rfl | (simp [Region.wanted, yielded, *]; done)
    try simp only [zX]
    refine wpAnyH_take (i := 24) (v := undef) rfl (by kernel_rfl) (by kernel_rfl) (by kernel_rfl) (fun _ _ _ h => h) (Or.inr ⟨?w2_24, rfl⟩) (by assumption) ?r2_24
    case' w2_24 => first | rfl | (simp [Region.wanted, yielded, *]; done)
    try simp only [zX]
    refine wpAnyH_take (i := 25) (v := undef) rfl (by kernel_rfl) (by kernel_rfl) (by kernel_rfl) (fun _ _ _ h => h) (Or.inr ⟨?w2_25, rfl⟩) (by assumption) ?r2_25
    case' w2_25 => first | rfl | (simp [Region.wanted, yielded, *]; done)
    try simp only [zX]
    refine wpAnyH_take (i := 26) (v := undef) rfl (by kernel_rfl) (by kernel_rfl) (by kernel_rfl) (fun _ _ _ h => h) (Or.inr ⟨?w2_26, rfl⟩) (by assumption) ?r2_26
    case' w2_26 => first | rfl | (simp [Region.wanted, yielded, *]; done)
    try simp only [zX]
    refine zT 27 rfl ?_
    try simp only [zX]
    refine zT 28 rfl ?_
    try simp only [zX]
    refine wpAnyH_done (by kernel_rfl) ?_ _
    go_wp2_with fail
    go_ret
    exact ⟨ret_bool HR.out.symm, Below.to HB0.out hHeld (Nat.le_refl _)⟩
  case pos =>
  have e1 : decide (p < (l.ps.length : Int)) = true := decide_eq_true h1
  by_cases h2 : 0 ≤ c
  case neg =>
    have hr : pinOk l p c = false := by unfold pinOk; rw [btw_f (n := c) (.inl (by omega))]; simp
    have HR := hide hr
    have e2 : decide ((0 : Int) ≤ c) = false := decide_eq_false h2
    clear hr
    go_enter Tryz.func204, Tryz.ntmps204
    go_upto_region 1 with (fail)
    generalize hw0 : World.alloc _ _ = w0
    obtain ⟨hb0, hb1, hB0, hs0⟩ := alloc2 hw0
    have HB0 := hide hB0
    have c4 := cellOf hb0 4
    have d0 := cellOf hb1 0
    have d1 := cellOf hb1 1
    have l0 := box_lt hb0
    have l1 := box_lt hb1
    clear hw0 hb0 hb1 hB0 hs0
    refine wp_region_held_drew (S := (fun w' => Below w0.heap.size w0 w')) (by kernel_rfl) ?_ (fun hHeld => ?_)
    · try dsimp only
      exact (by repeat (first | exact Below.refl _ _ | assumption | refine Below.drew ?_ | refine Below.drewN ?_ _ | refine Below.allocT ?_ (Nat.le_refl _) _ | refine Below.setCell ?_ (by simp <;> omega) _ | refine Below.to ?_ (by assumption) (Nat.le_refl _)))
    refine zT 0 rfl ?_
    try simp only [zX]
    refine zT 1 rfl ?_
    try simp only [zX]
    refine zT 2 rfl ?_
    try simp only [zX]
    refine zT 3 rfl ?_
    try simp only [zX]
    refine zT 4 rfl ?_
    try simp only [zX]
    refine zT 5 rfl ?_
    try simp only [zX]
    refine zT 6 rfl ?_
    try simp only [zX]
    refine zT 7 rfl ?_
    try simp only [zX]
    refine zT 8 rfl ?_
    try simp only [zX]
    refine zT 9 rfl ?_
    try simp only [zX]
    refine zT 10 rfl ?_
    try simp only [zX]
    refine zT 11 rfl ?_
    try simp only [zX]
    refine zT 12 rfl ?_
    try simp only [zX]
    refine zT 13 rfl ?_
    try simp only [zX]
    refine zT 14 rfl ?_
    try simp only [zX]
    refine zT 15 rfl ?_
    try simp only [zX]
    refine zT 16 rfl ?_
    try simp only [zX]
    refine wpAnyH_take (i := 17) (v := undef) rfl (by kernel_rfl) (by kernel_rfl) (by kernel_rfl) (fun _ _ _ h => h) (Or.inr ⟨?w3_17, rfl⟩) (by assumption) ?r3_17
    case' w3_17 => first | rfl | (simp [Region.wanted, yielded, *]; done)
    try simp only [zX]
    refine wpAnyH_take (i := 18) (v := undef) rfl (by kernel_rfl) (by kernel_rfl) (by kernel_rfl) (fun _ _ _ h => h) (Or.inr ⟨?w3_18, rfl⟩) (by assumption) ?r3_18
    case' w3_18 => first | rfl | (simp [Region.wanted, yielded, *]; done)
    try simp only [zX]
    refine wpAnyH_take (i := 19) (v := undef) rfl (by kernel_rfl) (by kernel_rfl) (by kernel_rfl) (fun _ _ _ h => h) (Or.inr ⟨?w3_19, rfl⟩) (by assumption) ?r3_19
    case' w3_19 => first | rfl | (simp [Region.wanted, yielded, *]; done)
    try simp only [zX]
    refine wpAnyH_take (i := 20) (v := undef) rfl (by kernel_rfl) (by kernel_rfl) (by kernel_rfl) (fun _ _ _ h => h) (Or.inr ⟨?w3_20, rfl⟩) (by assumption) ?r3_20
    case' w3_20 => first | rfl | (simp [Region.wanted, yielded, *]; done)
    try simp only [zX]
    refine wpAnyH_take (i := 21) (v := undef) rfl (by kernel_rfl) (by kernel_rfl) (by kernel_rfl) (fun _ _ _ h => h) (Or.inr ⟨?w3_21, rfl⟩) (by assumption) ?r3_21
    case' w3_21 => first | rfl | (simp [Region.wanted, yielded, *]; done)
    try simp only [zX]
    refine wpAnyH_take (i := 22) (v := undef) rfl (by kernel_rfl) (by kernel_rfl) (by kernel_rfl) (fun _ _ _ h => h) (Or.inr ⟨?w3_22, rfl⟩) (by assumption) ?r3_22
    case' w3_22 => first | rfl | (simp [Region.wanted, yielded, *]; done)
    try simp only [zX]
    refine wpAnyH_take (i := 23) (v := undef) rfl (by kernel_rfl) (by kernel_rfl) (by kernel_rfl) (fun _ _ _ h => h) (Or.inr ⟨?w3_23, rfl⟩) (by assumption) ?r3_23
    case' w3_23 => first | rfl | (simp [Region.wanted, yielded, *]; done)
    try simp only [zX]
    refine wpAnyH_take (i := 24) (v := undef) rfl (by kernel_rfl) (by kernel_rfl) (by kernel_rfl) (fun _ _ _ h => h) (Or.inr ⟨?w3_24, rfl⟩) (by assumption) ?r3_24
    case' w3_24 => first | rfl | (simp [Region.wanted, yielded, *]; done)
    try simp only [zX]
    refine wpAnyH_take (i := 25) (v := undef) rfl (by kernel_rfl) (by kernel_rfl) (by kernel_rfl) (fun _ _ _ h => h) (Or.inr ⟨?w3_25, rfl⟩) (by assumption) ?r3_25
    case' w3_25 => first | rfl | (simp [Region.wanted, yielded, *]; done)
    try simp only [zX]
    refine wpAnyH_take (i := 26) (v := undef) rfl (by kernel_rfl) (by kernel_rfl) (by kernel_rfl) (fun _ _ _ h => h) (Or.inr ⟨?w3_26, rfl⟩) (by assumption) ?r3_26
    case' w3_26 => first | rfl | (simp [Region.wanted, yielded, *]; done)
    try simp only [zX]
    refine zT 27 rfl ?_
    try simp only [zX]
    refine zT 28 rfl ?_
    try simp only [zX]
    refine wpAnyH_done (by kernel_rfl) ?_ _
    go_wp2_with fail
    go_ret
    exact ⟨ret_bool HR.out.symm, Below.to HB0.out hHeld (Nat.le_refl _)⟩
  case pos =>
  have e2 : decide ((0 : Int) ≤ c) = true := decide_eq_true h2
  obtain ⟨k, rfl⟩ := Int.eq_ofNat_of_zero_le h0
  have hk : k < l.ps.length := by omega
  obtain ⟨b, off, x, HX, rfl, hbb, hq, f0, f1, f2⟩ := H.out.pl hk
  have iq : (l.ps.length : Int) ≤ (q4 : Int) := by omega
  have hr : pinOk l k c = decide (c < x.cav) := by unfold pinOk; rw [btw_t h0 (by omega), Int.toNat_natCast, HX.out, btw_dec2 h2]; rfl
  have HR := hide hr
  clear hr
  go_enter Tryz.func204, Tryz.ntmps204
  go_upto_region 1 with (fail)
  generalize hw0 : World.alloc _ _ = w0
  obtain ⟨hb0, hb1, hB0, hs0⟩ := alloc2 hw0
  have HB0 := hide hB0
  have c4 := cellOf hb0 4
  have d0 := cellOf hb1 0
  have d1 := cellOf hb1 1
  have l0 := box_lt hb0
  have l1 := box_lt hb1
  have l2 : b < w0.heap.size := by omega
  have g2 := (hB0.cell (p := ⟨b, off + k * 3 + 2, none⟩) hbb).trans f2
  clear f0 f1 f2
  clear hw0 hb0 hb1 hB0 hs0
  refine wp_region_held_drew (S := (fun w' => Below w0.heap.size w0 w')) (by kernel_rfl) ?_ (fun hHeld => ?_)
  · try dsimp only
    exact (by repeat (first | exact Below.refl _ _ | assumption | refine Below.drew ?_ | refine Below.drewN ?_ _ | refine Below.allocT ?_ (Nat.le_refl _) _ | refine Below.setCell ?_ (by simp <;> omega) _ | refine Below.to ?_ (by assumption) (Nat.le_refl _)))
  refine zT 0 rfl ?_
  try simp only [zX]
  refine zT 1 rfl ?_
  try simp only [zX]
  refine zT 2 rfl ?_
  try simp only [zX]
  refine zT 3 rfl ?_
  try simp only [zX]
  refine zT 4 rfl ?_
  try simp only [zX]
  refine zT 5 rfl ?_
  try simp only [zX]
  refine zT 6 rfl ?_
  try simp only [zX]
  refine zT 7 rfl ?_
  try simp only [zX]
  refine zT 8 rfl ?_
  try simp only [zX]
  refine zT 9 rfl ?_
  try simp only [zX]
  refine zT 10 rfl ?_
  try simp only [zX]
  refine zT 11 rfl ?_
  try simp only [zX]
  refine zT 12 rfl ?_
  try simp only [zX]
  refine zT 13 rfl ?_
  try simp only [zX]
  refine zT 14 rfl ?_
  try simp only [zX]
  refine zT 15 rfl ?_
  try simp only [zX]
  refine zT 16 rfl ?_
  try simp only [zX]
  refine zT 17 rfl ?_
  try simp only [zX]
  refine zT 18 rfl ?_
  try simp only [zX]
  refine zT 19 rfl ?_
  try simp only [zX]
  refine zT 20 rfl ?_
  try simp only [zX]
  refine zT 21 rfl ?_
  try simp only [zX]
  refine zT 22 rfl ?_
  try simp only [zX]
  refine zT 23 rfl ?_
  try simp only [zX]
  refine zT 24 rfl ?_
  try simp only [zX]
  refine zT 25 rfl ?_
  try simp only [zX]
  refine zT 26 rfl ?_
  try simp only [zX]
  refine zT 27 rfl ?_
  try simp only [zX]
  refine zT 28 rfl ?_
  try simp only [zX]
  refine wpAnyH_done (by kernel_rfl) ?_ _
  go_wp2_with fail
  go_ret
  exact ⟨ret_bool HR.out.symm, Below.to HB0.out hHeld (Nat.le_refl _)⟩
end Go.Proofs.YtehadoecnmfeoaaGreat

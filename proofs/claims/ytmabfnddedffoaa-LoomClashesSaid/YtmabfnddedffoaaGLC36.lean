/- Part 36 of this claim's texts: walks and plain laws. -/
import Derived.Test.YtmabfnddedffoaaRows
import Derived.Test.YtmabfnddedffoaaGLC27
import Derived.Test.YtmabfnddedffoaaGLC35
import Derived.Deep.RegionHeld3
import Derived.Deep.DrawnRows
import Derived.Deep.DeepMust
/- Meets and Implies as the elder program has them: walks. -/
namespace Go.Proofs.Ytmabfnddedffoaa
open Go.RowKit
set_option linter.unusedVariables false
set_option linter.unusedSimpArgs false
/-- Those of the buildable variants in which the first k formulas hold. -/
def whereK (m : Mo) (l : List (List Int)) (k : Nat) : List (List Bool) := (l.take k).foldl whereF (allM m)
theorem whereK_succ {m : Mo} {l : List (List Int)} {k : Nat} (hk : k < l.length) : whereK m l (k + 1) = whereF (whereK m l k) (l.getD k []) := by
  unfold whereK
  rw [take_getD (z := []) hk, List.foldl_append]
  rfl
theorem whereK_mem (l : List (List Int)) : ∀ (M : List (List Bool)) (x : List Bool), x ∈ l.foldl whereF M → x ∈ M := by
  induction l with
  | nil => intro M x h; exact h
  | cons f l ih => intro M x h; exact whereF_mem (ih _ _ h)
theorem whereK_len (l : List (List Int)) : ∀ (M : List (List Bool)), (l.foldl whereF M).length ≤ M.length := by
  induction l with
  | nil => intro M; exact Nat.le_refl _
  | cons f l ih => intro M; exact Nat.le_trans (ih _) (whereF_le _ _)
theorem foldl_where (l : List (List Int)) : ∀ (M : List (List Bool)), l.foldl whereF M = M.filter fun x => allF (vf x) l := by
  induction l with
  | nil => intro M; exact (List.filter_eq_self.2 (fun _ _ => rfl)).symm
  | cons f l ih =>
    intro M
    simp only [List.foldl_cons, ih, whereF, List.filter_filter]
    refine List.filter_congr fun x _ => ?_
    simp only [allF, List.all_cons]
    rw [Bool.and_comm]
theorem whereK_all (m : Mo) (l : List (List Int)) : whereK m l l.length = meeL m l := by
  unfold whereK meeL
  rw [List.take_length, foldl_where, satM_all]
set_option maxRecDepth 100000 in
set_option maxHeartbeats 4000000 in
theorem rMeets_any (m : Mo) (l : List (List Int)) (ov rv lv : Value) (w : World) (hs : SizedM m) (hl : Sized l) (h : MoAt w w.heap.size ov rv m) (hf : Forms w w.heap.size lv l) (hN : m.err = 0 → m.opts.length ≤ 12) :
    Calls Try.prog 124 #[.agg #[ov, rv], lv] w (MeeP (meeX m l) (meeB m l) (frmE m l) w) := by
  obtain ⟨A, cap, hov⟩ := Sl.form h.o
  obtain ⟨Ar, capr, hrv⟩ := h.r.form
  have HFO := hide hf
  obtain ⟨fvs, ⟨Al, bl, offl, capl, rfl, hncl, hAl, hcl⟩, hfi⟩ := hf
  have H := hide h
  have HS := hide hs
  have HAL := hide hAl
  have HCL := hide hcl
  have HFI := hide hfi
  have HL := hide hl
  have HN := hide hN
  subst hov hrv
  clear h hs hAl hcl hfi hl hN
  go_enter Try.func124, Try.ntmps124
  go_upto_region 1 with (fail)
  generalize hw0 : World.alloc _ _ = w0
  obtain ⟨hb0, hB0, hs0⟩ := alloc1 hw0
  clear hw0
  have HX0 : Hid (MoBox w0 w.heap.size (.slice A m.opts.length cap) (.slice Ar m.rules.length capr)) := hb0
  have HB0 := hide hB0
  have c0 := cellOf hb0 0
  have c1 := cellOf hb0 1
  have hck := rcheckForms_any m l (.slice A m.opts.length cap) (.slice Ar m.rules.length capr) (.slice Al l.length capl) w0 HS.out HL.out (H.out.up hB0) (HFO.out.up hB0)
  have HCK := hide hck
  clear hb0 hB0 hs0 hck
  by_cases he : frmE m l = 0
  · have HE := hide he
    obtain ⟨heF, hl200⟩ := frm_ok he
    have HEF := hide (Mo.okF heF)
    have hN2 := HN.out (Mo.okF heF).1
    clear he heF
    go_wp2_with (first | (go_at_call 151; refine HCK.out.mono ?_; rw [HE.out]; rintro e w1 ⟨rfl, hB1⟩; have hbx := box_to HX0.out hB1; have d0 := cellOf hbx 0; have d1 := cellOf hbx 1; have HB1 : Hid (Below w.heap.size w w1) := Below.to HB0.out hB1 (Nat.le_refl _); clear hbx hB1 c0 c1) | (go_at_call 152; refine (Variants_any m _ _ _ (H.out.up HB1.out) HEF.out.1 hN2).mono ?_; rintro e w2 ⟨v2, rfl, hv2, hB2⟩; have HV2 := hide hv2.rows; have HB2 : Hid (Below w.heap.size w w2) := Below.to HB1.out hB2 (Nat.le_refl _); clear hv2 hB2 d0 d1))
    go_loopw [8, 9] (fun av i wr => ∃ k : Nat, k ≤ l.length ∧ i = .int .i64 k ∧ Hid (Vars wr wr.heap.size av (whereK m l k)) ∧ Hid (Below w.heap.size w wr)) (fun _ i _ => l.length - (intOf i).toNat)
    case atStart => exact ⟨0, Nat.zero_le _, rfl, HV2.out, HB2.out⟩
    case round =>
      obtain ⟨k, hk, rfl, hV, hB⟩ := hrel
      obtain ⟨A1, cap1, hA1⟩ := hV.out.form
      subst hA1
      have hm4 : (whereK m l k).length ≤ 4096 := Nat.le_trans (whereK_len _ _) (allM_le4 hN2)
      obtain ⟨M, hM⟩ : ∃ M, whereK m l k = M := ⟨_, rfl⟩
      rw [hM] at hV hm4
      have hMl : ∀ x ∈ M, x.length = m.opts.length := fun x hx => by
        rw [← hM] at hx
        exact allM_len (whereK_mem _ _ _ hx)
      rw [hM]
      have HM := hide hM
      have HML := hide hMl
      clear hM hMl
      by_cases hkl : k < l.length
      · obtain ⟨rfl, hbb, Af, capf, p0, p1⟩ := rows_get (enc := Value.int .i64) (z := 0) HAL.out HCL.out HFI.out hkl
        obtain ⟨f, hfe⟩ : ∃ f, l.getD k [] = f := ⟨_, rfl⟩
        rw [hfe] at p0 p1
        have hfv : validF m.opts.length f = true := HEF.out.2 f (by rw [← hfe]; exact getD_mem hkl)
        have c2 : wr.cell? ⟨bl, offl + k, none⟩ = some (.slice Af f.length capf) := (hB.out.cell (p := ⟨bl, offl + k, none⟩) hbb).trans p0
        have hwh := Where_any m.opts.length M f (.slice A1 M.length cap1) (.slice Af f.length capf) wr hV.out (GRow.up (enc := Value.int .i64) (z := 0) p1 hB.out) HML.out hfv (by omega)
        have HWH := hide hwh
        have hws := whereK_succ (m := m) hkl
        rw [HM.out, hfe] at hws
        have HWS := hide hws
        have j0 : (k : Int) < (l.length : Int) := by omega
        clear p0 p1 hfe hfv hwh hws
        go_wp2_with (go_at_call 153; refine HWH.out.mono ?_; rintro e w3 ⟨v3, rfl, hv3, hB3⟩; have HV3 := hide hv3.rows; have HB3 := hide hB3; clear hv3 hB3)
        go_roundw
        case rel => exact ⟨k + 1, by omega, by go_num, by rw [HWS.out]; exact HV3.out, Below.to hB.out HB3.out (Nat.le_refl _)⟩
        case measure => simp [intOf]; omega
      · obtain rfl : k = l.length := by omega
        have hall : meeL m l = M := by rw [← whereK_all]; exact HM.out
        have HALL := hide hall
        by_cases hM0 : M = []
        · subst hM0
          have HBAD := hide (mee_no HE.out hall)
          clear hall
          go_wp2_with fail
          go_ret3
          rw [HE.out]
          exact MeeP.bad HBAD.out hB.out
        · have hpos : 0 < M.length := List.length_pos_iff.2 hM0
          have hMl : ((M.length : Int) == 0) = false := by simp; omega
          obtain ⟨x, hx⟩ : ∃ x, M.getD 0 [] = x := ⟨_, rfl⟩
          have hhead : (meeL m l).head? = some x := by
            rw [hall, ← hx]
            match M, hpos with
            | a :: r, _ => rfl
          have HYES := hide (mee_yes HE.out hhead)
          obtain ⟨rvs, ⟨A9, bm, offm, cap9, hse, hncm, hAm, hcm⟩, hrm⟩ := hV.out
          injection hse with e1 e2 e3
          subst e1
          obtain ⟨rfl, hbm, Ax, capx, q0, q1⟩ := rows_get (enc := Value.bool) (z := false) hAm hcm hrm hpos
          rw [hx] at q0 q1
          rw [Nat.add_zero] at q0
          have j0 : (0 : Int) < (M.length : Int) := by omega
          have HQ1 := hide q1
          clear hall hM0 hhead hx hAm hcm hrm q1 e2 e3 hncm
          go_wp2_with fail
          go_ret3
          rw [HE.out, HYES.out.1, HYES.out.2]
          exact ⟨_, rfl, HQ1.out, hB.out⟩
  · have hbad := mee_bad he
    obtain ⟨z, hz⟩ : ∃ z, frmE m l = z := ⟨_, rfl⟩
    rw [hz] at he
    have hz1 : (z != 0) = true := by simpa using he
    have HZ := hide hz
    have HBAD := hide hbad
    clear he hz hbad
    go_wp2_with (go_at_call 151; refine HCK.out.mono ?_; rw [HZ.out]; rintro e w1 ⟨rfl, hB1⟩)
    go_ret3
    rw [HZ.out]
    exact MeeP.bad HBAD.out (Below.to HB0.out hB1 (Nat.le_refl _))
end Go.Proofs.Ytmabfnddedffoaa
/- Wires that share a pin; clashes, both: walks. -/
namespace Go.Proofs.Ytmabfnddedffoaa
open Go.RowKit
set_option linter.unusedVariables false
set_option linter.unusedSimpArgs false
theorem pinNe (a b c d : Int) (w : World) : (binOp BinOp.neq 65 (.agg #[.int .i64 a, .int .i64 b]) (.agg #[.int .i64 c, .int .i64 d])).run Try.prog w = Result.ok (.bool (!(a == c && b == d))) w := by
  cases h : a == c <;> cases h2 : b == d <;> go_simp
theorem pinEq (a b c d : Int) (w : World) : (binOp BinOp.eql 65 (.agg #[.int .i64 a, .int .i64 b]) (.agg #[.int .i64 c, .int .i64 d])).run Try.prog w = Result.ok (.bool (a == c && b == d)) w := by
  cases h : a == c <;> cases h2 : b == d <;> go_simp
def pinB (a b c d : Int) : Bool := a == c && b == d
def sharB (x y : Wi) : Bool := pinB x.fp x.fc y.fp y.fc || pinB x.fp x.fc y.tp y.tc || pinB x.tp x.tc y.fp y.fc || pinB x.tp x.tc y.tp y.tc
set_option maxRecDepth 100000 in
set_option maxHeartbeats 2000000 in
theorem share_any (x y : Wi) (Af Ag : Option Addr) (n m qf qg : Nat) (w : World) (b : Bool) (hb : sharB x y = b) :
    Calls Try.prog 123 #[.agg #[.string x.name, .int .i64 x.fp, .int .i64 x.fc, .int .i64 x.tp, .int .i64 x.tc, .int .i64 x.size, .slice Af n qf], .agg #[.string y.name, .int .i64 y.fp, .int .i64 y.fc, .int .i64 y.tp, .int .i64 y.tc, .int .i64 y.size, .slice Ag m qg]] w fun e w' => e = .returned (.bool b) ∧ Below w.heap.size w w' := by
  subst hb
  have h1 := fun w => pinEq x.fp x.fc y.fp y.fc w
  have h2 := fun w => pinEq x.fp x.fc y.tp y.tc w
  have h3 := fun w => pinEq x.tp x.tc y.fp y.fc w
  have h4 := fun w => pinEq x.tp x.tc y.tp y.tc w
  obtain ⟨b1, e1⟩ : ∃ b, pinB x.fp x.fc y.fp y.fc = b := ⟨_, rfl⟩
  obtain ⟨b2, e2⟩ : ∃ b, pinB x.fp x.fc y.tp y.tc = b := ⟨_, rfl⟩
  obtain ⟨b3, e3⟩ : ∃ b, pinB x.tp x.tc y.fp y.fc = b := ⟨_, rfl⟩
  obtain ⟨b4, e4⟩ : ∃ b, pinB x.tp x.tc y.tp y.tc = b := ⟨_, rfl⟩
  rw [show (x.fp == y.fp && x.fc == y.fc) = b1 from e1] at h1
  rw [show (x.fp == y.tp && x.fc == y.tc) = b2 from e2] at h2
  rw [show (x.tp == y.fp && x.tc == y.fc) = b3 from e3] at h3
  rw [show (x.tp == y.tp && x.tc == y.tc) = b4 from e4] at h4
  have hr : sharB x y = (b1 || b2 || b3 || b4) := by unfold sharB; rw [e1, e2, e3, e4]
  rw [hr]
  clear e1 e2 e3 e4 hr
  go_enter Try.func123, Try.ntmps123
  go_upto_region 1 with (fail)
  cases b1 with
  | true =>
    go_wp2_with fail
    go_ret
    exact ⟨rfl, (by repeat (first | exact Below.refl _ _ | assumption | refine Below.drew ?_ | refine Below.drewN ?_ _ | refine Below.allocT ?_ (Nat.le_refl _) _ | refine Below.setCell ?_ (by simp <;> omega) _ | refine Below.to ?_ (by assumption) (Nat.le_refl _)))⟩
  | false =>
    cases b2 with
    | true =>
      go_wp2_with fail
      go_ret
      exact ⟨rfl, (by repeat (first | exact Below.refl _ _ | assumption | refine Below.drew ?_ | refine Below.drewN ?_ _ | refine Below.allocT ?_ (Nat.le_refl _) _ | refine Below.setCell ?_ (by simp <;> omega) _ | refine Below.to ?_ (by assumption) (Nat.le_refl _)))⟩
    | false =>
      cases b3 with
      | true =>
        go_wp2_with fail
        go_ret
        exact ⟨rfl, (by repeat (first | exact Below.refl _ _ | assumption | refine Below.drew ?_ | refine Below.drewN ?_ _ | refine Below.allocT ?_ (Nat.le_refl _) _ | refine Below.setCell ?_ (by simp <;> omega) _ | refine Below.to ?_ (by assumption) (Nat.le_refl _)))⟩
      | false =>
        go_wp2_with fail
        go_ret
        exact ⟨rfl, (by repeat (first | exact Below.refl _ _ | assumption | refine Below.drew ?_ | refine Below.drewN ?_ _ | refine Below.allocT ?_ (Nat.le_refl _) _ | refine Below.setCell ?_ (by simp <;> omega) _ | refine Below.to ?_ (by assumption) (Nat.le_refl _)))⟩
/-! lists of pairs of numbers -/
def prsL (K : List (Nat × Nat)) : List Value := K.flatMap fun p => [.int .i64 (p.1 : Nat), .int .i64 (p.2 : Nat)]
theorem prsL_snoc (K : List (Nat × Nat)) (a b : Nat) : prsL (K ++ [(a, b)]) = prsL K ++ [.int .i64 a, .int .i64 b] := by simp [prsL]
def prF (p : Nat × Nat) (j : Nat) : Value := match j with
  | 0 => .int .i64 (p.1 : Nat)
  | _ => .int .i64 (p.2 : Nat)
theorem prsL_get : ∀ (K : List (Nat × Nat)) (i j : Nat), i < K.length → j < 2 → (prsL K)[i * 2 + j]? = some (prF (K.getD i (0, 0)) j)
  | [], i, j, hi, _ => by simp at hi
  | k :: K, 0, j, _, hj => by
    have h : prsL (k :: K) = [.int .i64 (k.1 : Nat), .int .i64 (k.2 : Nat)] ++ prsL K := rfl
    rw [h]
    rcases (by omega : j = 0 ∨ j = 1) with rfl | rfl <;> rfl
  | k :: K, i + 1, j, hi, hj => by
    have h : prsL (k :: K) = [.int .i64 (k.1 : Nat), .int .i64 (k.2 : Nat)] ++ prsL K := rfl
    rw [h, List.getElem?_append_right (by simp; omega), List.getD_cons_succ, ← prsL_get K i j (by simpa using hi) hj]
    congr 1
    simp
    omega
/-- A list of pairs of numbers in memory. -/
def Prs (w : World) (B : Nat) (v : Value) (K : List (Nat × Nat)) : Prop := Sl w B 2 v K.length (fun i j => prF (K.getD i (0, 0)) j)
/-- A list of pairs of the call's own. -/
structure ClS (w0 wr : World) (ty : Nat) (v : Value) (K : List (Nat × Nat)) : Prop where
  below : Below w0.heap.size w0 wr
  own : wr.ownsRow w0.heap.size ty 2 v K.length (prsL K)
section
variable {w0 wr w' : World} {ty : Nat} {v v1 : Value} {K : List (Nat × Nat)} {a b : Nat} {o : Obj}
theorem ClS.start (w0 : World) (ty : Nat) : ClS w0 w0 ty (.slice none 0 0) [] := ⟨Below.refl _ _, World.ownsRow_nil _ _ _ _⟩
theorem ClS.to (h : ClS w0 wr ty v K) (hb : Below wr.heap.size wr w') : ClS w0 w' ty v K := ⟨Below.to h.below hb (Nat.le_refl _), owns_below h.own hb⟩
theorem ClS.push (h : ClS w0 wr ty v K) (hown : w'.ownsRow w0.heap.size ty 2 v1 (K.length + 1) (prsL K ++ [.int .i64 (a : Nat), .int .i64 (b : Nat)])) (hg : (wr.alloc o).grownBy w' v.ownBlock) : ClS w0 w' ty v1 (K ++ [(a, b)]) :=
  ⟨own_low h.below h.own (Nat.le_refl _) hg, by rw [List.length_append, List.length_singleton, prsL_snoc]; exact hown⟩
theorem ClS.box {g t : Nat} {C : Array Value} (h : ClS w0 wr ty v K) (hb : wr.heap[g]? = some (.cells C t (0, 0))) (hne : ty ≠ t) (hg : (wr.alloc o).grownBy w' v.ownBlock) : w'.heap[g]? = some (.cells C t (0, 0)) :=
  (hg.block g (by have := box_lt hb; simp; omega) (fun e => ownsNot h.own hb hne e.symm)).trans (box_to hb ((Below.refl _ _).alloc (Nat.le_refl _) _))
theorem ClS.prs (h : ClS w0 wr ty v K) : Prs wr wr.heap.size v K := Sl.of_owns h.own fun i j hi hj => prsL_get K i j hi hj
end
theorem SizedL.form {l : Lo} (h : SizedL l) {i : Nat} (hi : i < l.ws.length) : (l.ws.getD i Wi.o).form.length ≤ maxLen := (h.wn _ (getD_mem3 hi)).2
/-! the clashes -/
def claB (l : Lo) (i k : Nat) : Bool := sharB (l.ws.getD i Wi.o) (l.ws.getD k Wi.o) && meeB l.m [(l.ws.getD i Wi.o).form, (l.ws.getD k Wi.o).form]
/-- The clashes of wire i with those up to k. -/
def claI (l : Lo) (i k : Nat) : List (Nat × Nat) := ((List.range k).filter fun j => decide (i < j) && claB l i j).map fun j => (i, j)
def claO (l : Lo) (i : Nat) : List (Nat × Nat) := (List.range i).flatMap fun j => claI l j l.ws.length
def claE (l : Lo) : List (Nat × Nat) := if l.err = 0 then claO l l.ws.length else []
theorem claI_len (l : Lo) (i k : Nat) : (claI l i k).length ≤ k := by
  unfold claI
  rw [List.length_map]
  exact Nat.le_trans (List.length_filter_le _ _) (by simp)
theorem claO_len (l : Lo) : ∀ i, (claO l i).length ≤ i * l.ws.length
  | 0 => by simp [claO]
  | i + 1 => by
    have h1 := claO_len l i
    have h2 := claI_len l i l.ws.length
    have h3 : claO l (i + 1) = claO l i ++ claI l i l.ws.length := by simp [claO, List.range_succ, List.flatMap_append]
    rw [h3, List.length_append, Nat.add_mul, Nat.one_mul]
    omega
theorem claO_next (l : Lo) (i : Nat) : claO l (i + 1) = claO l i ++ claI l i l.ws.length := by simp [claO, List.range_succ, List.flatMap_append]
theorem claI_start (l : Lo) (i : Nat) : claI l i (i + 1) = [] := by
  unfold claI
  rw [List.map_eq_nil_iff, List.filter_eq_nil_iff]
  intro j hj
  rw [List.mem_range] at hj
  have : ¬ i < j := by omega
  simp [this]
theorem claI_next {l : Lo} {i k : Nat} (h : i < k) (b : Bool) (hb : claB l i k = b) : claI l i (k + 1) = claI l i k ++ if b then [(i, k)] else [] := by
  unfold claI
  rw [List.range_succ, List.filter_append, List.map_append]
  congr 1
  cases b with
  | true => simp [h, hb]
  | false => simp [h, hb]
theorem claI_no {l : Lo} {i k : Nat} (h : i < k) (hb : claB l i k = false) : claI l i (k + 1) = claI l i k := by rw [claI_next h false hb]; simp
theorem claI_yes {l : Lo} {i k : Nat} (h : i < k) (hb : claB l i k = true) : claI l i (k + 1) = claI l i k ++ [(i, k)] := by rw [claI_next h true hb]; simp
theorem infoPair : (Try.prog.info? 76).map (fun i => (i.zero, i.size, i.bytes)) = some (some (.agg #[.int .i64 0, .int .i64 0]), 2, 16) := by kernel_rfl
theorem infoBend : (Try.prog.info? 78).map (fun i => (i.zero, i.size, i.bytes)) = some (some (.agg #[.int .i64 0, .int .i64 0]), 2, 16) := by kernel_rfl
/-- A list of pairs and an error. -/
def PrsP (K : List (Nat × Nat)) (er : Int) (w : World) (e : Ending) (w' : World) : Prop := ∃ v, e = .returned (.tuple #[v, .int .i64 er]) ∧ Prs w' w'.heap.size v K ∧ Below w.heap.size w w'
set_option maxRecDepth 100000 in
set_option maxHeartbeats 8000000 in
theorem Clashes_any (A0 A1 A2 A3 A4 A5 : Option Addr) (q0 q1 q2 q3 q4 q5 : Nat) (l : Lo) (w : World) (hs : SizedL l) (h : LoA w w.heap.size A0 A1 A2 A3 A4 A5 q0 q1 q2 q3 q4 q5 l) (hN : l.m.opts.length ≤ 12) :
    Calls Try.prog 43 #[.agg #[.slice A0 l.m.opts.length q0, .slice A1 l.m.rules.length q1, .slice A2 l.ss.length q2, .slice A3 l.us.length q3, .slice A4 l.ps.length q4, .slice A5 l.ws.length q5]] w (PrsP (claE l) l.err w) := by
  obtain ⟨i0, hi0, iz0, iz1, iz2⟩ := info_parts infoPair
  have H := hide h
  have HS := hide hs
  obtain ⟨z, hz⟩ : ∃ z, l.err = z := ⟨_, rfl⟩
  obtain ⟨K0, hK0⟩ : ∃ K, claE l = K := ⟨_, rfl⟩
  rw [hz, hK0]
  have HZ := hide hz
  clear h hs
  by_cases hz0 : z = 0
  case neg =>
    have hK : K0 = [] := by rw [← hK0]; unfold claE; rw [if_neg (by rw [hz]; exact hz0)]
    subst hK
    have hz1 : (z != 0) = true := by simpa using hz0
    clear hz hz0 hK0
    go_enter Try.func43, Try.ntmps43
    go_upto_region 1 with (fail)
    generalize hw0 : World.alloc _ _ = w0
    obtain ⟨hb0, hB0, hs0⟩ := alloc1 hw0
    have c0 := cellOf hb0 0; have c1 := cellOf hb0 1; have c2 := cellOf hb0 2; have c3 := cellOf hb0 3; have c4 := cellOf hb0 4; have c5 := cellOf hb0 5
    have hlb := box_lt hb0
    have HB0 := hide hB0
    clear hw0 hb0 hB0 hs0
    go_wp2_with (go_at_call 17; refine (Check_any A0 A1 A2 A3 A4 A5 q0 q1 q2 q3 q4 q5 l _ HS.out (H.out.up HB0.out)).mono ?_; rw [HZ.out]; rintro e w1 ⟨rfl, hB1⟩; have HB1 := hide (Below.to HB0.out hB1 (Nat.le_refl _)); clear hB1 c0 c1 c2 c3 c4 c5 hlb)
    go_ret2
    exact ⟨_, rfl, Sl.nil _ _ _ _, HB1.out⟩
  case pos =>
  subst hz0
  have ok := Lo.err_ok hz
  have hK : K0 = claO l l.ws.length := by rw [← hK0]; unfold claE; rw [if_pos hz]
  subst hK
  have OK := hide ok
  have w60 := ok.w60
  have HSM := hide (SizedL.m HS.out)
  clear hz hK0 ok
  go_enter Try.func43, Try.ntmps43
  go_upto_region 1 with (fail)
  generalize hw0 : World.alloc _ _ = w0
  obtain ⟨hb0, hB0, hs0⟩ := alloc1 hw0
  have c0 := cellOf hb0 0; have c1 := cellOf hb0 1; have c2 := cellOf hb0 2; have c3 := cellOf hb0 3; have c4 := cellOf hb0 4; have c5 := cellOf hb0 5
  have hlb := box_lt hb0
  have HB0 := hide hB0
  have HL0 : Hid (LoBox w0 w.heap.size A0 A1 A2 A3 A4 A5 q0 q1 q2 q3 q4 q5 l) := hb0
  clear hw0 hb0 hB0 hs0
  go_wp2_with (go_at_call 17; refine (Check_any A0 A1 A2 A3 A4 A5 q0 q1 q2 q3 q4 q5 l _ HS.out (H.out.up HB0.out)).mono ?_; rw [HZ.out]; rintro e w1 ⟨rfl, hB1⟩; have HL1 := hide (HL0.out.to hB1); have d0 := cellOf HL1.out 0; have d1 := cellOf HL1.out 1; have d2 := cellOf HL1.out 2; have d3 := cellOf HL1.out 3; have d4 := cellOf HL1.out 4; have d5 := cellOf HL1.out 5; have ld := box_lt HL1.out; have HB1 := hide (Below.to HB0.out hB1 (Nat.le_refl _)); clear hB1 c0 c1 c2 c3 c4 c5 hlb)
  clear d0 d1 d2 d3 d4 d5 ld
  go_loopw [5, 6, 7, 8, 9, 10, 11, 12, 21] (fun o _ _ _ _ _ _ _ i wr => ∃ (p : Nat) (A : Option Addr) (cap : Nat) (K : List (Nat × Nat)), i = .int .i64 p ∧ o = .slice A K.length cap ∧ p ≤ l.ws.length ∧ Hid (claO l p = K) ∧ Hid (ClS w1 wr 76 (.slice A K.length cap) K)) (fun _ _ _ _ _ _ _ _ i _ => l.ws.length - (intOf i).toNat)
  case atStart => exact ⟨0, none, 0, [], rfl, rfl, Nat.zero_le _, rfl, ClS.start _ _⟩
  case round =>
    obtain ⟨p, Ao, cap, K, rfl, rfl, hp, HK, R⟩ := hrel
    by_cases hpl : p < l.ws.length
    · have hKl : K.length ≤ p * l.ws.length := by rw [← HK.out]; exact claO_len l p
      have hKl2 : K.length ≤ 3600 := Nat.le_trans hKl (Nat.mul_le_mul (by omega : p ≤ 60) (by omega : l.ws.length ≤ 60))
      obtain ⟨bw, offw, x, Af, qf, HX, rfl, hbw, hq5, HFO, e0, e1, e2, e3, e4, e5, e6⟩ := (H.out.up HB1.out).wi hpl
      have hxl := SizedL.form HS.out hpl
      rw [HX.out] at hxl
      have lbw : bw < wr.heap.size := Nat.lt_of_lt_of_le hbw R.out.below.size
      have z0 := (R.out.below.cell (p := ⟨bw, offw + p * 7, none⟩) hbw).trans e0
      have z1 := (R.out.below.cell (p := ⟨bw, offw + p * 7 + 1, none⟩) hbw).trans e1
      have z2 := (R.out.below.cell (p := ⟨bw, offw + p * 7 + 2, none⟩) hbw).trans e2
      have z3 := (R.out.below.cell (p := ⟨bw, offw + p * 7 + 3, none⟩) hbw).trans e3
      have z4 := (R.out.below.cell (p := ⟨bw, offw + p * 7 + 4, none⟩) hbw).trans e4
      have z5 := (R.out.below.cell (p := ⟨bw, offw + p * 7 + 5, none⟩) hbw).trans e5
      have z6 := (R.out.below.cell (p := ⟨bw, offw + p * 7 + 6, none⟩) hbw).trans e6
      have ip : (p : Int) < (l.ws.length : Int) := by omega
      have iq : (l.ws.length : Int) ≤ (q5 : Int) := by omega
      have HBW := hide hbw
      clear hKl e0 e1 e2 e3 e4 e5 e6 hbw
      go_upto_region 8 with (fail)
      generalize hw2 : World.alloc _ _ = w2
      obtain ⟨hb2, hB2, hs2⟩ := alloc1 hw2
      obtain ⟨ba, hba⟩ : ∃ b, wr.heap.size = b := ⟨_, rfl⟩
      rw [hba] at hb2
      rw [hba]
      have R2 := hide (R.out.to hB2)
      have HA2 := hide hb2
      clear hw2 hb2 hB2 hs2 hba R z0 z1 z2 z3 z4 z5 z6 lbw
      go_wp2_with fail
      go_loopw [5, 8, 9, 10, 11, 12] (fun o i _ _ _ _ wr => ∃ (k : Nat) (A : Option Addr) (cap : Nat) (K' : List (Nat × Nat)), i = .int .i64 k ∧ o = .slice A K'.length cap ∧ p < k ∧ k ≤ l.ws.length ∧ K'.length ≤ 3600 + k ∧ Hid (K ++ claI l p k = K') ∧ Hid (ClS w1 wr 76 (.slice A K'.length cap) K') ∧ Hid (wr.heap[ba]? = some (.cells #[.string x.name, .int .i64 x.fp, .int .i64 x.fc, .int .i64 x.tp, .int .i64 x.tc, .int .i64 x.size, .slice Af x.form.length qf] 68 (0, 0)))) (fun _ i _ _ _ _ _ => l.ws.length - (intOf i).toNat)
      case atStart => exact ⟨p + 1, Ao, cap, K, by go_num, rfl, by omega, by omega, by omega, by rw [claI_start, List.append_nil]; rfl, R2.out, HA2.out⟩
      case round =>
        clear R2 HA2
        obtain ⟨k, A', cap', K', rfl, rfl, hpk, hk, hKl', HK', R, HA⟩ := hrel
        have HLr := hide (HL1.out.to R.out.below)
        have d0 := cellOf HLr.out 0; have d1 := cellOf HLr.out 1; have d2 := cellOf HLr.out 2; have d3 := cellOf HLr.out 3; have d4 := cellOf HLr.out 4; have d5 := cellOf HLr.out 5
        have ld := box_lt HLr.out
        by_cases hkl : k < l.ws.length
        · obtain ⟨bv, offv, y, Ag, qg, HY, he5, hbv, hq5', HFY, e0, e1, e2, e3, e4, e5, e6⟩ := (H.out.up HB1.out).wi hkl
          injection he5 with he5
          injection he5 with he5a he5b he5c
          subst he5a he5b
          have hyl := SizedL.form HS.out hkl
          rw [HY.out] at hyl
          have lbw : bw < wr.heap.size := Nat.lt_of_lt_of_le HBW.out R.out.below.size
          have z0 := (R.out.below.cell (p := ⟨bw, offw + k * 7, none⟩) HBW.out).trans e0
          have z1 := (R.out.below.cell (p := ⟨bw, offw + k * 7 + 1, none⟩) HBW.out).trans e1
          have z2 := (R.out.below.cell (p := ⟨bw, offw + k * 7 + 2, none⟩) HBW.out).trans e2
          have z3 := (R.out.below.cell (p := ⟨bw, offw + k * 7 + 3, none⟩) HBW.out).trans e3
          have z4 := (R.out.below.cell (p := ⟨bw, offw + k * 7 + 4, none⟩) HBW.out).trans e4
          have z5 := (R.out.below.cell (p := ⟨bw, offw + k * 7 + 5, none⟩) HBW.out).trans e5
          have z6 := (R.out.below.cell (p := ⟨bw, offw + k * 7 + 6, none⟩) HBW.out).trans e6
          have ik : (k : Int) < (l.ws.length : Int) := by omega
          clear e0 e1 e2 e3 e4 e5 e6 hbv he5c hq5'
          go_upto_region 12 with (fail)
          generalize hw4 : World.alloc _ _ = w4
          obtain ⟨hb4, hB4, hs4⟩ := alloc1 hw4
          have R4 := hide (R.out.to hB4)
          have HA4 := hide (box_to HA.out hB4)
          have HL4 := hide (HLr.out.to hB4)
          have hb4a := hb4
          have y0 := cellOf hb4a 0; have y1 := cellOf hb4a 1; have y2 := cellOf hb4a 2; have y3 := cellOf hb4a 3; have y4 := cellOf hb4a 4; have y5 := cellOf hb4a 5; have y6 := cellOf hb4a 6
          have ly := box_lt hb4
          have ha4 := HA4.out
          have x0 := cellOf ha4 0; have x1 := cellOf ha4 1; have x2 := cellOf ha4 2; have x3 := cellOf ha4 3; have x4 := cellOf ha4 4; have x5 := cellOf ha4 5; have x6 := cellOf ha4 6
          have lx := box_lt HA4.out
          have HB4 := hide hb4
          clear hw4 hb4 hb4a ha4 hB4 hs4 R HA z0 z1 z2 z3 z4 z5 z6 lbw HLr d0 d1 d2 d3 d4 d5 ld
          have h1 := fun w => pinNe x.fp x.fc y.fp y.fc w
          have h2 := fun w => pinNe x.fp x.fc y.tp y.tc w
          have h3 := fun w => pinNe x.tp x.tc y.fp y.fc w
          have h4 := fun w => pinNe x.tp x.tc y.tp y.tc w
          obtain ⟨b1, f1⟩ : ∃ b, pinB x.fp x.fc y.fp y.fc = b := ⟨_, rfl⟩
          obtain ⟨b2, f2⟩ : ∃ b, pinB x.fp x.fc y.tp y.tc = b := ⟨_, rfl⟩
          obtain ⟨b3, f3⟩ : ∃ b, pinB x.tp x.tc y.fp y.fc = b := ⟨_, rfl⟩
          obtain ⟨b4, f4⟩ : ∃ b, pinB x.tp x.tc y.tp y.tc = b := ⟨_, rfl⟩
          rw [show (x.fp == y.fp && x.fc == y.fc) = b1 from f1] at h1
          rw [show (x.fp == y.tp && x.fc == y.tc) = b2 from f2] at h2
          rw [show (x.tp == y.fp && x.tc == y.fc) = b3 from f3] at h3
          rw [show (x.tp == y.tp && x.tc == y.tc) = b4 from f4] at h4
          obtain ⟨c, hc⟩ : ∃ c, meeB l.m [x.form, y.form] = c := ⟨_, rfl⟩
          have hcl : claB l p k = ((b1 || b2 || b3 || b4) && c) := by unfold claB sharB; rw [HX.out, HY.out, f1, f2, f3, f4, hc]
          have HC := hide hc
          have HCL := hide hcl
          have hfx := HFO.out
          have hfy := HFY.out
          have HF2 := hide (And.intro (Ints.more (Ints.below hfx R4.out.below) R4.out.below.size) (Ints.more (Ints.below hfy R4.out.below) R4.out.below.size))
          have HH4 := hide (H.out.up (Below.to HB1.out R4.out.below (Nat.le_refl _)))
          have hcase : (b1 = true ∨ (b1 = false ∧ b2 = true) ∨ (b1 = false ∧ b2 = false ∧ b3 = true) ∨ (b1 = false ∧ b2 = false ∧ b3 = false ∧ b4 = true)) ∨ (b1 = false ∧ b2 = false ∧ b3 = false ∧ b4 = false) := by
            cases b1 <;> cases b2 <;> cases b3 <;> cases b4 <;> simp
          clear f1 f2 f3 f4 hc hcl hfx hfy
          rcases hcase with hcase | ⟨rfl, rfl, rfl, rfl⟩
          · rcases hcase with rfl | ⟨rfl, rfl⟩ | ⟨rfl, rfl, rfl⟩ | ⟨rfl, rfl, rfl, rfl⟩
            all_goals
              have d0 := cellOf HL4.out 0; have d1 := cellOf HL4.out 1; have d2 := cellOf HL4.out 2; have d3 := cellOf HL4.out 3; have d4 := cellOf HL4.out 4; have d5 := cellOf HL4.out 5
              have ld := box_lt HL4.out
              cases c with
              | false =>
                have hst : claB l p k = false := by rw [HCL.out]; simp
                have HST := hide hst
                clear hst
                go_wp2_with (go_at_call 122; go_must (refine (Meets_any l.m [x.form, y.form] _ _ _ _ HSM.out (sized_two hxl hyl) (HH4.out.up ((Below.refl _ _).alloc (Nat.le_refl _) _)).m (forms_two (heap_alloc_new w4 _) (by simp) (Ints.up HF2.out.1 ((Below.refl _ _).alloc (Nat.le_refl _) _)) (Ints.up HF2.out.2 ((Below.refl _ _).alloc (Nat.le_refl _) _))) (fun _ => hN)).mono ?_); rw [HC.out]; rintro e w5 ⟨v5, rfl, hv5, hB5⟩; have hB5' := Below.to ((Below.refl w4.heap.size w4).alloc (Nat.le_refl _) _) hB5 (Nat.le_refl _); have R5 := hide (R4.out.to hB5'); have HA5 := hide (box_to HA4.out hB5'); clear hv5 hB5 hB5' d0 d1 d2 d3 d4 d5 ld y0 y1 y2 y3 y4 y5 y6 ly x0 x1 x2 x3 x4 x5 x6 lx)
                go_roundw
                case rel => exact ⟨k + 1, A', cap', K', by go_num, rfl, by omega, by omega, by omega, by rw [claI_no hpk HST.out]; exact HK'.out, R5.out, HA5.out⟩
                case measure => simp [intOf]; omega
              | true =>
                have hst : claB l p k = true := by rw [HCL.out]; simp
                have HST := hide hst
                have hKb : K'.length ≤ 3700 := by omega
                clear hst
                go_wp2_with (first | (go_at_call 122; refine (Meets_any l.m [x.form, y.form] _ _ _ _ HSM.out (sized_two hxl hyl) (HH4.out.up ((Below.refl _ _).alloc (Nat.le_refl _) _)).m (forms_two (heap_alloc_new w4 _) (by simp) (Ints.up HF2.out.1 ((Below.refl _ _).alloc (Nat.le_refl _) _)) (Ints.up HF2.out.2 ((Below.refl _ _).alloc (Nat.le_refl _) _))) (fun _ => hN)).mono ?_; rw [HC.out]; rintro e w5 ⟨v5, rfl, hv5, hB5⟩; have hB5' := Below.to ((Below.refl w4.heap.size w4).alloc (Nat.le_refl _) _) hB5 (Nat.le_refl _); have R5 := hide (R4.out.to hB5'); have HA5 := hide (box_to HA4.out hB5'); have hBw := R5.out.below.size; clear hv5 hB5 hB5' d0 d1 d2 d3 d4 d5 ld y0 y1 y2 y3 y4 y5 y6 ly x0 x1 x2 x3 x4 x5 x6 lx) | (at_builtin; go_must (refine wpList_append_own_at _ rfl (.tmp 79) (.tmp 83) _ rfl (w1.heap.size) 76 i0 _ 2 16 Try.underlying69 hi0 iz0 iz1 iz2 rfl (by omega) _ _ _ rfl ((R5.out.own).alloc _) ⟨w5.heap.size, 0, none⟩ 1 1 [.int .i64 (p : Nat), .int .i64 (k : Nat)] rfl rfl (World.news_of_block (heap_alloc_new w5 _)) (by simp [Value.oneCell']) (by have h1 := hKb; unfold maxLen; omega) (by have h1 := hKb; omega) (by have h1 := hBw; simp; omega) ?_); intro v1 w3 hown1 hg1 _ hat1; obtain ⟨A6, cap6, hv6⟩ := owns_form hown1; subst hv6; have R6 := hide (R5.out.push hown1 hg1); have HA6 := hide (R5.out.box HA5.out (by decide) hg1); clear hown1 hg1 hat1))
                go_roundw
                case rel => exact ⟨k + 1, A6, cap6, K' ++ [(p, k)], by go_num, by rw [List.length_append, List.length_singleton], by omega, by omega, by rw [List.length_append, List.length_singleton]; omega, by rw [claI_yes hpk HST.out, ← List.append_assoc, HK'.out]; rfl, by rw [List.length_append, List.length_singleton]; exact R6.out, HA6.out⟩
                case measure => simp [intOf]; omega
          · have hst : claB l p k = false := by rw [HCL.out]; simp
            have HST := hide hst
            clear hst
            go_wp2_with fail
            clear y0 y1 y2 y3 y4 y5 y6 ly x0 x1 x2 x3 x4 x5 x6 lx h1 h2 h3 h4
            go_roundw
            case rel => exact ⟨k + 1, A', cap', K', by go_num, rfl, by omega, by omega, by omega, by rw [claI_no hpk HST.out]; exact HK'.out, R4.out, HA4.out⟩
            case measure => simp [intOf]; omega
        · have hke : k = l.ws.length := by omega
          subst hke
          go_wp2_with fail
          clear d0 d1 d2 d3 d4 d5 ld
          go_roundw
          case rel => exact ⟨p + 1, A', cap', K', by go_num, rfl, by omega, by rw [claO_next, HK.out]; exact HK'.out, R.out⟩
          case measure => simp [intOf]; omega
    · have hpe : p = l.ws.length := by omega
      subst hpe
      go_wp2_with fail
      go_ret2
      exact ⟨_, rfl, by rw [HK.out]; exact R.out.prs, Below.to HB1.out R.out.below (Nat.le_refl _)⟩
end Go.Proofs.Ytmabfnddedffoaa

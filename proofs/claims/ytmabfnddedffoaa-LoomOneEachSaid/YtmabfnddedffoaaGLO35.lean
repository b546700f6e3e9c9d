/- Part 35 of this claim's texts: walks and plain laws. -/
import Derived.Test.YtmabfnddedffoaaRows
import Derived.Test.YtmabfnddedffoaaGLO34
import Derived.Deep.RegionHeld3
import Derived.Deep.DrawnRows
import Derived.Deep.DeepMust
import Derived.Test.YtmabfnddedffoaaGLO25
import Derived.Laws.EntriesVeiled
/- Wires that share a pin; clashes, both: walks. -/
namespace Go.Proofs.Ytmabfnddedffoaa
open Go.RowKit
set_option linter.unusedVariables false
set_option linter.unusedSimpArgs false
theorem pinNe (a b c d : Int) (w : World) : (binOp BinOp.neq 65 (.agg #[.int .i64 a, .int .i64 b]) (.agg #[.int .i64 c, .int .i64 d])).run Try.prog w = Result.ok (.bool (!(a == c && b == d))) w := by
  cases h : a == c <;> cases h2 : b == d <;> go_simp
theorem pinEq (a b c d : Int) (w : World) : (binOp BinOp.eql 65 (.agg #[.int .i64 a, .int .i64 b]) (.agg #[.int .i64 c, .int .i64 d])).run Try.prog w = Result.ok (.bool (a == c && b == d)) w := by
  cases h : a == c <;> cases h2 : b == d <;> go_simp
def pinB (a b c d : Int) : Bool := a == c && b == d
def sharB (x y : Wi) : Bool := pinB x.fp x.fc y.fp y.fc || pinB x.fp x.fc y.tp y.tc || pinB x.tp x.tc y.fp y.fc || pinB x.tp x.tc y.tp y.tc
/-! lists of pairs of numbers -/
def prsL (K : List (Nat × Nat)) : List Value := K.flatMap fun p => [.int .i64 (p.1 : Nat), .int .i64 (p.2 : Nat)]
theorem prsL_snoc (K : List (Nat × Nat)) (a b : Nat) : prsL (K ++ [(a, b)]) = prsL K ++ [.int .i64 a, .int .i64 b] := by simp [prsL]
def prF (p : Nat × Nat) (j : Nat) : Value := match j with
  | 0 => .int .i64 (p.1 : Nat)
  | _ => .int .i64 (p.2 : Nat)
theorem prsL_get : ∀ (K : List (Nat × Nat)) (i j : Nat), i < K.length → j < 2 → (prsL K)[i * 2 + j]? = some (prF (K.getD i (0, 0)) j)
  | [], i, j, hi, _ => by simp at hi
  | k :: K, 0, j, _, hj => by
    have h : prsL (k :: K) = [.int .i64 (k.1 : Nat), .int .i64 (k.2 : Nat)] ++ prsL K := rfl
    rw [h]
    rcases (by omega : j = 0 ∨ j = 1) with rfl | rfl <;> rfl
  | k :: K, i + 1, j, hi, hj => by
    have h : prsL (k :: K) = [.int .i64 (k.1 : Nat), .int .i64 (k.2 : Nat)] ++ prsL K := rfl
    rw [h, List.getElem?_append_right (by simp; omega), List.getD_cons_succ, ← prsL_get K i j (by simpa using hi) hj]
    congr 1
    simp
    omega
/-- A list of pairs of numbers in memory. -/
def Prs (w : World) (B : Nat) (v : Value) (K : List (Nat × Nat)) : Prop := Sl w B 2 v K.length (fun i j => prF (K.getD i (0, 0)) j)
/-- A list of pairs of the call's own. -/
structure ClS (w0 wr : World) (ty : Nat) (v : Value) (K : List (Nat × Nat)) : Prop where
  below : Below w0.heap.size w0 wr
  own : wr.ownsRow w0.heap.size ty 2 v K.length (prsL K)
section
variable {w0 wr w' : World} {ty : Nat} {v v1 : Value} {K : List (Nat × Nat)} {a b : Nat} {o : Obj}
theorem ClS.start (w0 : World) (ty : Nat) : ClS w0 w0 ty (.slice none 0 0) [] := ⟨Below.refl _ _, World.ownsRow_nil _ _ _ _⟩
theorem ClS.to (h : ClS w0 wr ty v K) (hb : Below wr.heap.size wr w') : ClS w0 w' ty v K := ⟨Below.to h.below hb (Nat.le_refl _), owns_below h.own hb⟩
theorem ClS.push (h : ClS w0 wr ty v K) (hown : w'.ownsRow w0.heap.size ty 2 v1 (K.length + 1) (prsL K ++ [.int .i64 (a : Nat), .int .i64 (b : Nat)])) (hg : (wr.alloc o).grownBy w' v.ownBlock) : ClS w0 w' ty v1 (K ++ [(a, b)]) :=
  ⟨own_low h.below h.own (Nat.le_refl _) hg, by rw [List.length_append, List.length_singleton, prsL_snoc]; exact hown⟩
theorem ClS.box {g t : Nat} {C : Array Value} (h : ClS w0 wr ty v K) (hb : wr.heap[g]? = some (.cells C t (0, 0))) (hne : ty ≠ t) (hg : (wr.alloc o).grownBy w' v.ownBlock) : w'.heap[g]? = some (.cells C t (0, 0)) :=
  (hg.block g (by have := box_lt hb; simp; omega) (fun e => ownsNot h.own hb hne e.symm)).trans (box_to hb ((Below.refl _ _).alloc (Nat.le_refl _) _))
theorem ClS.prs (h : ClS w0 wr ty v K) : Prs wr wr.heap.size v K := Sl.of_owns h.own fun i j hi hj => prsL_get K i j hi hj
end
theorem SizedL.form {l : Lo} (h : SizedL l) {i : Nat} (hi : i < l.ws.length) : (l.ws.getD i Wi.o).form.length ≤ maxLen := (h.wn _ (getD_mem3 hi)).2
/-! the clashes -/
def claB (l : Lo) (i k : Nat) : Bool := sharB (l.ws.getD i Wi.o) (l.ws.getD k Wi.o) && meeB l.m [(l.ws.getD i Wi.o).form, (l.ws.getD k Wi.o).form]
/-- The clashes of wire i with those up to k. -/
def claI (l : Lo) (i k : Nat) : List (Nat × Nat) := ((List.range k).filter fun j => decide (i < j) && claB l i j).map fun j => (i, j)
def claO (l : Lo) (i : Nat) : List (Nat × Nat) := (List.range i).flatMap fun j => claI l j l.ws.length
def claE (l : Lo) : List (Nat × Nat) := if l.err = 0 then claO l l.ws.length else []
theorem claI_len (l : Lo) (i k : Nat) : (claI l i k).length ≤ k := by
  unfold claI
  rw [List.length_map]
  exact Nat.le_trans (List.length_filter_le _ _) (by simp)
theorem claO_len (l : Lo) : ∀ i, (claO l i).length ≤ i * l.ws.length
  | 0 => by simp [claO]
  | i + 1 => by
    have h1 := claO_len l i
    have h2 := claI_len l i l.ws.length
    have h3 : claO l (i + 1) = claO l i ++ claI l i l.ws.length := by simp [claO, List.range_succ, List.flatMap_append]
    rw [h3, List.length_append, Nat.add_mul, Nat.one_mul]
    omega
theorem claO_next (l : Lo) (i : Nat) : claO l (i + 1) = claO l i ++ claI l i l.ws.length := by simp [claO, List.range_succ, List.flatMap_append]
theorem claI_start (l : Lo) (i : Nat) : claI l i (i + 1) = [] := by
  unfold claI
  rw [List.map_eq_nil_iff, List.filter_eq_nil_iff]
  intro j hj
  rw [List.mem_range] at hj
  have : ¬ i < j := by omega
  simp [this]
theorem claI_next {l : Lo} {i k : Nat} (h : i < k) (b : Bool) (hb : claB l i k = b) : claI l i (k + 1) = claI l i k ++ if b then [(i, k)] else [] := by
  unfold claI
  rw [List.range_succ, List.filter_append, List.map_append]
  congr 1
  cases b with
  | true => simp [h, hb]
  | false => simp [h, hb]
theorem claI_no {l : Lo} {i k : Nat} (h : i < k) (hb : claB l i k = false) : claI l i (k + 1) = claI l i k := by rw [claI_next h false hb]; simp
theorem claI_yes {l : Lo} {i k : Nat} (h : i < k) (hb : claB l i k = true) : claI l i (k + 1) = claI l i k ++ [(i, k)] := by rw [claI_next h true hb]; simp
theorem infoPair : (Try.prog.info? 76).map (fun i => (i.zero, i.size, i.bytes)) = some (some (.agg #[.int .i64 0, .int .i64 0]), 2, 16) := by kernel_rfl
/-- A list of pairs and an error. -/
def PrsP (K : List (Nat × Nat)) (er : Int) (w : World) (e : Ending) (w' : World) : Prop := ∃ v, e = .returned (.tuple #[v, .int .i64 er]) ∧ Prs w' w'.heap.size v K ∧ Below w.heap.size w w'
set_option maxRecDepth 100000 in
set_option maxHeartbeats 8000000 in
theorem Clashes_any (A0 A1 A2 A3 A4 A5 : Option Addr) (q0 q1 q2 q3 q4 q5 : Nat) (l : Lo) (w : World) (hs : SizedL l) (h : LoA w w.heap.size A0 A1 A2 A3 A4 A5 q0 q1 q2 q3 q4 q5 l) (hN : l.m.opts.length ≤ 12) :
    Calls Try.prog 43 #[.agg #[.slice A0 l.m.opts.length q0, .slice A1 l.m.rules.length q1, .slice A2 l.ss.length q2, .slice A3 l.us.length q3, .slice A4 l.ps.length q4, .slice A5 l.ws.length q5]] w (PrsP (claE l) l.err w) := by
  obtain ⟨i0, hi0, iz0, iz1, iz2⟩ := info_parts infoPair
  have H := hide h
  have HS := hide hs
  obtain ⟨z, hz⟩ : ∃ z, l.err = z := ⟨_, rfl⟩
  obtain ⟨K0, hK0⟩ : ∃ K, claE l = K := ⟨_, rfl⟩
  rw [hz, hK0]
  have HZ := hide hz
  clear h hs
  by_cases hz0 : z = 0
  case neg =>
    have hK : K0 = [] := by rw [← hK0]; unfold claE; rw [if_neg (by rw [hz]; exact hz0)]
    subst hK
    have hz1 : (z != 0) = true := by simpa using hz0
    clear hz hz0 hK0
    go_enter Try.func43, Try.ntmps43
    go_upto_region 1 with (fail)
    generalize hw0 : World.alloc _ _ = w0
    obtain ⟨hb0, hB0, hs0⟩ := alloc1 hw0
    have c0 := cellOf hb0 0; have c1 := cellOf hb0 1; have c2 := cellOf hb0 2; have c3 := cellOf hb0 3; have c4 := cellOf hb0 4; have c5 := cellOf hb0 5
    have hlb := box_lt hb0
    have HB0 := hide hB0
    clear hw0 hb0 hB0 hs0
    go_wp2_with (go_at_call 17; refine (Check_any A0 A1 A2 A3 A4 A5 q0 q1 q2 q3 q4 q5 l _ HS.out (H.out.up HB0.out)).mono ?_; rw [HZ.out]; rintro e w1 ⟨rfl, hB1⟩; have HB1 := hide (Below.to HB0.out hB1 (Nat.le_refl _)); clear hB1 c0 c1 c2 c3 c4 c5 hlb)
    go_ret2
    exact ⟨_, rfl, Sl.nil _ _ _ _, HB1.out⟩
  case pos =>
  subst hz0
  have ok := Lo.err_ok hz
  have hK : K0 = claO l l.ws.length := by rw [← hK0]; unfold claE; rw [if_pos hz]
  subst hK
  have OK := hide ok
  have w60 := ok.w60
  have HSM := hide (SizedL.m HS.out)
  clear hz hK0 ok
  go_enter Try.func43, Try.ntmps43
  go_upto_region 1 with (fail)
  generalize hw0 : World.alloc _ _ = w0
  obtain ⟨hb0, hB0, hs0⟩ := alloc1 hw0
  have c0 := cellOf hb0 0; have c1 := cellOf hb0 1; have c2 := cellOf hb0 2; have c3 := cellOf hb0 3; have c4 := cellOf hb0 4; have c5 := cellOf hb0 5
  have hlb := box_lt hb0
  have HB0 := hide hB0
  have HL0 : Hid (LoBox w0 w.heap.size A0 A1 A2 A3 A4 A5 q0 q1 q2 q3 q4 q5 l) := hb0
  clear hw0 hb0 hB0 hs0
  go_wp2_with (go_at_call 17; refine (Check_any A0 A1 A2 A3 A4 A5 q0 q1 q2 q3 q4 q5 l _ HS.out (H.out.up HB0.out)).mono ?_; rw [HZ.out]; rintro e w1 ⟨rfl, hB1⟩; have HL1 := hide (HL0.out.to hB1); have d0 := cellOf HL1.out 0; have d1 := cellOf HL1.out 1; have d2 := cellOf HL1.out 2; have d3 := cellOf HL1.out 3; have d4 := cellOf HL1.out 4; have d5 := cellOf HL1.out 5; have ld := box_lt HL1.out; have HB1 := hide (Below.to HB0.out hB1 (Nat.le_refl _)); clear hB1 c0 c1 c2 c3 c4 c5 hlb)
  clear d0 d1 d2 d3 d4 d5 ld
  go_loopw [5, 6, 7, 8, 9, 10, 11, 12, 21] (fun o _ _ _ _ _ _ _ i wr => ∃ (p : Nat) (A : Option Addr) (cap : Nat) (K : List (Nat × Nat)), i = .int .i64 p ∧ o = .slice A K.length cap ∧ p ≤ l.ws.length ∧ Hid (claO l p = K) ∧ Hid (ClS w1 wr 76 (.slice A K.length cap) K)) (fun _ _ _ _ _ _ _ _ i _ => l.ws.length - (intOf i).toNat)
  case atStart => exact ⟨0, none, 0, [], rfl, rfl, Nat.zero_le _, rfl, ClS.start _ _⟩
  case round =>
    obtain ⟨p, Ao, cap, K, rfl, rfl, hp, HK, R⟩ := hrel
    by_cases hpl : p < l.ws.length
    · have hKl : K.length ≤ p * l.ws.length := by rw [← HK.out]; exact claO_len l p
      have hKl2 : K.length ≤ 3600 := Nat.le_trans hKl (Nat.mul_le_mul (by omega : p ≤ 60) (by omega : l.ws.length ≤ 60))
      obtain ⟨bw, offw, x, Af, qf, HX, rfl, hbw, hq5, HFO, e0, e1, e2, e3, e4, e5, e6⟩ := (H.out.up HB1.out).wi hpl
      have hxl := SizedL.form HS.out hpl
      rw [HX.out] at hxl
      have lbw : bw < wr.heap.size := Nat.lt_of_lt_of_le hbw R.out.below.size
      have z0 := (R.out.below.cell (p := ⟨bw, offw + p * 7, none⟩) hbw).trans e0
      have z1 := (R.out.below.cell (p := ⟨bw, offw + p * 7 + 1, none⟩) hbw).trans e1
      have z2 := (R.out.below.cell (p := ⟨bw, offw + p * 7 + 2, none⟩) hbw).trans e2
      have z3 := (R.out.below.cell (p := ⟨bw, offw + p * 7 + 3, none⟩) hbw).trans e3
      have z4 := (R.out.below.cell (p := ⟨bw, offw + p * 7 + 4, none⟩) hbw).trans e4
      have z5 := (R.out.below.cell (p := ⟨bw, offw + p * 7 + 5, none⟩) hbw).trans e5
      have z6 := (R.out.below.cell (p := ⟨bw, offw + p * 7 + 6, none⟩) hbw).trans e6
      have ip : (p : Int) < (l.ws.length : Int) := by omega
      have iq : (l.ws.length : Int) ≤ (q5 : Int) := by omega
      have HBW := hide hbw
      clear hKl e0 e1 e2 e3 e4 e5 e6 hbw
      go_upto_region 8 with (fail)
      generalize hw2 : World.alloc _ _ = w2
      obtain ⟨hb2, hB2, hs2⟩ := alloc1 hw2
      obtain ⟨ba, hba⟩ : ∃ b, wr.heap.size = b := ⟨_, rfl⟩
      rw [hba] at hb2
      rw [hba]
      have R2 := hide (R.out.to hB2)
      have HA2 := hide hb2
      clear hw2 hb2 hB2 hs2 hba R z0 z1 z2 z3 z4 z5 z6 lbw
      go_wp2_with fail
      go_loopw [5, 8, 9, 10, 11, 12] (fun o i _ _ _ _ wr => ∃ (k : Nat) (A : Option Addr) (cap : Nat) (K' : List (Nat × Nat)), i = .int .i64 k ∧ o = .slice A K'.length cap ∧ p < k ∧ k ≤ l.ws.length ∧ K'.length ≤ 3600 + k ∧ Hid (K ++ claI l p k = K') ∧ Hid (ClS w1 wr 76 (.slice A K'.length cap) K') ∧ Hid (wr.heap[ba]? = some (.cells #[.string x.name, .int .i64 x.fp, .int .i64 x.fc, .int .i64 x.tp, .int .i64 x.tc, .int .i64 x.size, .slice Af x.form.length qf] 68 (0, 0)))) (fun _ i _ _ _ _ _ => l.ws.length - (intOf i).toNat)
      case atStart => exact ⟨p + 1, Ao, cap, K, by go_num, rfl, by omega, by omega, by omega, by rw [claI_start, List.append_nil]; rfl, R2.out, HA2.out⟩
      case round =>
        clear R2 HA2
        obtain ⟨k, A', cap', K', rfl, rfl, hpk, hk, hKl', HK', R, HA⟩ := hrel
        have HLr := hide (HL1.out.to R.out.below)
        have d0 := cellOf HLr.out 0; have d1 := cellOf HLr.out 1; have d2 := cellOf HLr.out 2; have d3 := cellOf HLr.out 3; have d4 := cellOf HLr.out 4; have d5 := cellOf HLr.out 5
        have ld := box_lt HLr.out
        by_cases hkl : k < l.ws.length
        · obtain ⟨bv, offv, y, Ag, qg, HY, he5, hbv, hq5', HFY, e0, e1, e2, e3, e4, e5, e6⟩ := (H.out.up HB1.out).wi hkl
          injection he5 with he5
          injection he5 with he5a he5b he5c
          subst he5a he5b
          have hyl := SizedL.form HS.out hkl
          rw [HY.out] at hyl
          have lbw : bw < wr.heap.size := Nat.lt_of_lt_of_le HBW.out R.out.below.size
          have z0 := (R.out.below.cell (p := ⟨bw, offw + k * 7, none⟩) HBW.out).trans e0
          have z1 := (R.out.below.cell (p := ⟨bw, offw + k * 7 + 1, none⟩) HBW.out).trans e1
          have z2 := (R.out.below.cell (p := ⟨bw, offw + k * 7 + 2, none⟩) HBW.out).trans e2
          have z3 := (R.out.below.cell (p := ⟨bw, offw + k * 7 + 3, none⟩) HBW.out).trans e3
          have z4 := (R.out.below.cell (p := ⟨bw, offw + k * 7 + 4, none⟩) HBW.out).trans e4
          have z5 := (R.out.below.cell (p := ⟨bw, offw + k * 7 + 5, none⟩) HBW.out).trans e5
          have z6 := (R.out.below.cell (p := ⟨bw, offw + k * 7 + 6, none⟩) HBW.out).trans e6
          have ik : (k : Int) < (l.ws.length : Int) := by omega
          clear e0 e1 e2 e3 e4 e5 e6 hbv he5c hq5'
          go_upto_region 12 with (fail)
          generalize hw4 : World.alloc _ _ = w4
          obtain ⟨hb4, hB4, hs4⟩ := alloc1 hw4
          have R4 := hide (R.out.to hB4)
          have HA4 := hide (box_to HA.out hB4)
          have HL4 := hide (HLr.out.to hB4)
          have hb4a := hb4
          have y0 := cellOf hb4a 0; have y1 := cellOf hb4a 1; have y2 := cellOf hb4a 2; have y3 := cellOf hb4a 3; have y4 := cellOf hb4a 4; have y5 := cellOf hb4a 5; have y6 := cellOf hb4a 6
          have ly := box_lt hb4
          have ha4 := HA4.out
          have x0 := cellOf ha4 0; have x1 := cellOf ha4 1; have x2 := cellOf ha4 2; have x3 := cellOf ha4 3; have x4 := cellOf ha4 4; have x5 := cellOf ha4 5; have x6 := cellOf ha4 6
          have lx := box_lt HA4.out
          have HB4 := hide hb4
          clear hw4 hb4 hb4a ha4 hB4 hs4 R HA z0 z1 z2 z3 z4 z5 z6 lbw HLr d0 d1 d2 d3 d4 d5 ld
          have h1 := fun w => pinNe x.fp x.fc y.fp y.fc w
          have h2 := fun w => pinNe x.fp x.fc y.tp y.tc w
          have h3 := fun w => pinNe x.tp x.tc y.fp y.fc w
          have h4 := fun w => pinNe x.tp x.tc y.tp y.tc w
          obtain ⟨b1, f1⟩ : ∃ b, pinB x.fp x.fc y.fp y.fc = b := ⟨_, rfl⟩
          obtain ⟨b2, f2⟩ : ∃ b, pinB x.fp x.fc y.tp y.tc = b := ⟨_, rfl⟩
          obtain ⟨b3, f3⟩ : ∃ b, pinB x.tp x.tc y.fp y.fc = b := ⟨_, rfl⟩
          obtain ⟨b4, f4⟩ : ∃ b, pinB x.tp x.tc y.tp y.tc = b := ⟨_, rfl⟩
          rw [show (x.fp == y.fp && x.fc == y.fc) = b1 from f1] at h1
          rw [show (x.fp == y.tp && x.fc == y.tc) = b2 from f2] at h2
          rw [show (x.tp == y.fp && x.tc == y.fc) = b3 from f3] at h3
          rw [show (x.tp == y.tp && x.tc == y.tc) = b4 from f4] at h4
          obtain ⟨c, hc⟩ : ∃ c, meeB l.m [x.form, y.form] = c := ⟨_, rfl⟩
          have hcl : claB l p k = ((b1 || b2 || b3 || b4) && c) := by unfold claB sharB; rw [HX.out, HY.out, f1, f2, f3, f4, hc]
          have HC := hide hc
          have HCL := hide hcl
          have hfx := HFO.out
          have hfy := HFY.out
          have HF2 := hide (And.intro (Ints.more (Ints.below hfx R4.out.below) R4.out.below.size) (Ints.more (Ints.below hfy R4.out.below) R4.out.below.size))
          have HH4 := hide (H.out.up (Below.to HB1.out R4.out.below (Nat.le_refl _)))
          have hcase : (b1 = true ∨ (b1 = false ∧ b2 = true) ∨ (b1 = false ∧ b2 = false ∧ b3 = true) ∨ (b1 = false ∧ b2 = false ∧ b3 = false ∧ b4 = true)) ∨ (b1 = false ∧ b2 = false ∧ b3 = false ∧ b4 = false) := by
            cases b1 <;> cases b2 <;> cases b3 <;> cases b4 <;> simp
          clear f1 f2 f3 f4 hc hcl hfx hfy
          rcases hcase with hcase | ⟨rfl, rfl, rfl, rfl⟩
          · rcases hcase with rfl | ⟨rfl, rfl⟩ | ⟨rfl, rfl, rfl⟩ | ⟨rfl, rfl, rfl, rfl⟩
            all_goals
              have d0 := cellOf HL4.out 0; have d1 := cellOf HL4.out 1; have d2 := cellOf HL4.out 2; have d3 := cellOf HL4.out 3; have d4 := cellOf HL4.out 4; have d5 := cellOf HL4.out 5
              have ld := box_lt HL4.out
              cases c with
              | false =>
                have hst : claB l p k = false := by rw [HCL.out]; simp
                have HST := hide hst
                clear hst
                go_wp2_with (go_at_call 122; go_must (refine (Meets_any l.m [x.form, y.form] _ _ _ _ HSM.out (sized_two hxl hyl) (HH4.out.up ((Below.refl _ _).alloc (Nat.le_refl _) _)).m (forms_two (heap_alloc_new w4 _) (by simp) (Ints.up HF2.out.1 ((Below.refl _ _).alloc (Nat.le_refl _) _)) (Ints.up HF2.out.2 ((Below.refl _ _).alloc (Nat.le_refl _) _))) (fun _ => hN)).mono ?_); rw [HC.out]; rintro e w5 ⟨v5, rfl, hv5, hB5⟩; have hB5' := Below.to ((Below.refl w4.heap.size w4).alloc (Nat.le_refl _) _) hB5 (Nat.le_refl _); have R5 := hide (R4.out.to hB5'); have HA5 := hide (box_to HA4.out hB5'); clear hv5 hB5 hB5' d0 d1 d2 d3 d4 d5 ld y0 y1 y2 y3 y4 y5 y6 ly x0 x1 x2 x3 x4 x5 x6 lx)
                go_roundw
                case rel => exact ⟨k + 1, A', cap', K', by go_num, rfl, by omega, by omega, by omega, by rw [claI_no hpk HST.out]; exact HK'.out, R5.out, HA5.out⟩
                case measure => simp [intOf]; omega
              | true =>
                have hst : claB l p k = true := by rw [HCL.out]; simp
                have HST := hide hst
                have hKb : K'.length ≤ 3700 := by omega
                clear hst
                go_wp2_with (first | (go_at_call 122; refine (Meets_any l.m [x.form, y.form] _ _ _ _ HSM.out (sized_two hxl hyl) (HH4.out.up ((Below.refl _ _).alloc (Nat.le_refl _) _)).m (forms_two (heap_alloc_new w4 _) (by simp) (Ints.up HF2.out.1 ((Below.refl _ _).alloc (Nat.le_refl _) _)) (Ints.up HF2.out.2 ((Below.refl _ _).alloc (Nat.le_refl _) _))) (fun _ => hN)).mono ?_; rw [HC.out]; rintro e w5 ⟨v5, rfl, hv5, hB5⟩; have hB5' := Below.to ((Below.refl w4.heap.size w4).alloc (Nat.le_refl _) _) hB5 (Nat.le_refl _); have R5 := hide (R4.out.to hB5'); have HA5 := hide (box_to HA4.out hB5'); have hBw := R5.out.below.size; clear hv5 hB5 hB5' d0 d1 d2 d3 d4 d5 ld y0 y1 y2 y3 y4 y5 y6 ly x0 x1 x2 x3 x4 x5 x6 lx) | (at_builtin; go_must (refine wpList_append_own_at _ rfl (.tmp 79) (.tmp 83) _ rfl (w1.heap.size) 76 i0 _ 2 16 Try.underlying69 hi0 iz0 iz1 iz2 rfl (by omega) _ _ _ rfl ((R5.out.own).alloc _) ⟨w5.heap.size, 0, none⟩ 1 1 [.int .i64 (p : Nat), .int .i64 (k : Nat)] rfl rfl (World.news_of_block (heap_alloc_new w5 _)) (by simp [Value.oneCell']) (by have h1 := hKb; unfold maxLen; omega) (by have h1 := hKb; omega) (by have h1 := hBw; simp; omega) ?_); intro v1 w3 hown1 hg1 _ hat1; obtain ⟨A6, cap6, hv6⟩ := owns_form hown1; subst hv6; have R6 := hide (R5.out.push hown1 hg1); have HA6 := hide (R5.out.box HA5.out (by decide) hg1); clear hown1 hg1 hat1))
                go_roundw
                case rel => exact ⟨k + 1, A6, cap6, K' ++ [(p, k)], by go_num, by rw [List.length_append, List.length_singleton], by omega, by omega, by rw [List.length_append, List.length_singleton]; omega, by rw [claI_yes hpk HST.out, ← List.append_assoc, HK'.out]; rfl, by rw [List.length_append, List.length_singleton]; exact R6.out, HA6.out⟩
                case measure => simp [intOf]; omega
          · have hst : claB l p k = false := by rw [HCL.out]; simp
            have HST := hide hst
            clear hst
            go_wp2_with fail
            clear y0 y1 y2 y3 y4 y5 y6 ly x0 x1 x2 x3 x4 x5 x6 lx h1 h2 h3 h4
            go_roundw
            case rel => exact ⟨k + 1, A', cap', K', by go_num, rfl, by omega, by omega, by omega, by rw [claI_no hpk HST.out]; exact HK'.out, R4.out, HA4.out⟩
            case measure => simp [intOf]; omega
        · have hke : k = l.ws.length := by omega
          subst hke
          go_wp2_with fail
          clear d0 d1 d2 d3 d4 d5 ld
          go_roundw
          case rel => exact ⟨p + 1, A', cap', K', by go_num, rfl, by omega, by rw [claO_next, HK.out]; exact HK'.out, R.out⟩
          case measure => simp [intOf]; omega
    · have hpe : p = l.ws.length := by omega
      subst hpe
      go_wp2_with fail
      go_ret2
      exact ⟨_, rfl, by rw [HK.out]; exact R.out.prs, Below.to HB1.out R.out.below (Nat.le_refl _)⟩
end Go.Proofs.Ytmabfnddedffoaa
/- The program's search for a way: its lists and what its closure has captured. -/
namespace Go.Proofs.Ytmabfnddedffoaa
open Go.RowKit
set_option linter.unusedVariables false
set_option linter.unusedSimpArgs false
/-- Numbers as values. -/
def nvL (S : List Nat) : List Value := S.map fun (n : Nat) => Value.int .i64 n
theorem nvL_snoc (S : List Nat) (k : Nat) : nvL (S ++ [k]) = nvL S ++ [.int .i64 k] := by simp [nvL]
/-- The closure of the search, its lists and what it has captured; the blocks lie from n on. -/
structure WyAt (w0 w : World) (n : Nat) (A0 A1 A2 A3 A4 A5 : Option Addr) (q0 q1 q2 q3 q4 q5 : Nat) (l : Lo) (b : Nat) (sv rv : Value) (S R : List Nat) : Prop where
  below : Below n w0 w
  box : LoBox w n A0 A1 A2 A3 A4 A5 q0 q1 q2 q3 q4 q5 l
  tb : w.heap[n + 1]? = some (.cells #[.int .i64 b] 3 (0, 0))
  s : w.heap[n + 2]? = some (.cells #[sv] 41 (0, 0))
  r : w.heap[n + 3]? = some (.cells #[rv] 41 (0, 0))
  v : w.heap[n + 4]? = some (.cells #[.func (.func 145) #[] #[.pointer (some ⟨n + 2, 0, none⟩), .pointer (some ⟨n + 1, 0, none⟩), .pointer (some ⟨n, 0, none⟩), .pointer (some ⟨n + 3, 0, none⟩), .pointer (some ⟨n + 4, 0, none⟩)]] 154 (0, 0))
  sr : w.ownsRow (n + 5) 3 1 sv S.length (nvL S)
  rr : w.ownsRow (n + 5) 3 1 rv R.length (nvL R)
  ne : ∀ g, sv.ownBlock = some g → rv.ownBlock ≠ some g
  n0 : n = w0.heap.size
section
variable {w0 w w' : World} {n b : Nat} {A0 A1 A2 A3 A4 A5 : Option Addr} {q0 q1 q2 q3 q4 q5 : Nat} {l : Lo} {sv rv v1 : Value} {S R : List Nat} {o : Obj} {a : Nat}
theorem WyAt.size (h : WyAt w0 w n A0 A1 A2 A3 A4 A5 q0 q1 q2 q3 q4 q5 l b sv rv S R) : n + 5 ≤ w.heap.size := by
  have := box_lt h.v
  omega
theorem WyAt.up (h : WyAt w0 w n A0 A1 A2 A3 A4 A5 q0 q1 q2 q3 q4 q5 l b sv rv S R) (hb : Below w.heap.size w w') : WyAt w0 w' n A0 A1 A2 A3 A4 A5 q0 q1 q2 q3 q4 q5 l b sv rv S R :=
  ⟨Below.to h.below hb (by have := h.size; have := h.n0; omega), box_to h.box hb, box_to h.tb hb, box_to h.s hb, box_to h.r hb, box_to h.v hb, owns_below h.sr hb, owns_below h.rr hb, h.ne, h.n0⟩
theorem WyAt.snoS (h : WyAt w0 w n A0 A1 A2 A3 A4 A5 q0 q1 q2 q3 q4 q5 l b sv rv S R) (hown : w'.ownsRow (n + 5) 3 1 v1 (S.length + 1) (nvL S ++ [.int .i64 a])) (hg : (w.alloc o).grownBy w' sv.ownBlock) (hat : v1.ownBlock = sv.ownBlock ∨ v1.ownBlock = some (w.alloc o).heap.size) :
    WyAt w0 (w'.setCell ⟨n + 2, 0, none⟩ v1) n A0 A1 A2 A3 A4 A5 q0 q1 q2 q3 q4 q5 l b v1 rv (S ++ [a]) R := by
  have hz := h.size
  have hk : ∀ k, k < w.heap.size → sv.ownBlock ≠ some k → k ≠ n + 2 → (w'.setCell ⟨n + 2, 0, none⟩ v1).heap[k]? = w.heap[k]? := fun k h1 h2 h3 =>
    (Below.heap_setCell _ _ _ _ h3).trans ((hg.block k (by simp; omega) (fun e => h2 e.symm)).trans (Below.heap_alloc _ _ _ h1))
  have hlow : ∀ k, k < n + 5 → sv.ownBlock ≠ some k := fun k h1 h2 => by have := (h.sr.lt k h2).1; omega
  have hs : w'.heap[n + 2]? = some (.cells #[sv] 41 (0, 0)) := (hg.block (n + 2) (by simp; omega) (fun e => hlow _ (by omega) e.symm)).trans ((Below.heap_alloc _ _ _ (by omega)).trans h.s)
  have hv1 : ∀ k, v1.ownBlock = some k → n + 5 ≤ k := fun k h1 => (hown.lt k h1).1
  refine ⟨?_, (hk n (by omega) (hlow _ (by omega)) (by omega)).trans h.box, (hk (n + 1) (by omega) (hlow _ (by omega)) (by omega)).trans h.tb, setCellOf hs v1, (hk (n + 3) (by omega) (hlow _ (by omega)) (by omega)).trans h.r, (hk (n + 4) (by omega) (hlow _ (by omega)) (by omega)).trans h.v, ?_, ?_, ?_, h.n0⟩
  · exact Below.setCell (Below.grown (h.below.alloc (by omega) o) hg (by simp; omega) (fun k h1 => by have := (h.sr.lt k h1).1; omega)) (by show n ≤ n + 2; omega) v1
  · rw [List.length_append, List.length_singleton, nvL_snoc]
    exact ownsRow_same hown fun k h1 => Below.heap_setCell _ _ _ _ (by have := hv1 k h1; show k ≠ n + 2; omega)
  · exact ownsRow_same h.rr fun k h1 => hk k (h.rr.lt k h1).2 (fun e => h.ne k e h1) (by have := (h.rr.lt k h1).1; omega)
  · intro g h1 h2
    rcases hat with e | e
    · exact h.ne g (by rw [← e]; exact h1) h2
    · rw [e] at h1
      injection h1 with h1
      have := (h.rr.lt g h2).2
      simp at h1
      omega
theorem WyAt.snoR (h : WyAt w0 w n A0 A1 A2 A3 A4 A5 q0 q1 q2 q3 q4 q5 l b sv rv S R) (hown : w'.ownsRow (n + 5) 3 1 v1 (R.length + 1) (nvL R ++ [.int .i64 a])) (hg : (w.alloc o).grownBy w' rv.ownBlock) (hat : v1.ownBlock = rv.ownBlock ∨ v1.ownBlock = some (w.alloc o).heap.size) :
    WyAt w0 (w'.setCell ⟨n + 3, 0, none⟩ v1) n A0 A1 A2 A3 A4 A5 q0 q1 q2 q3 q4 q5 l b sv v1 S (R ++ [a]) := by
  have hz := h.size
  have hk : ∀ k, k < w.heap.size → rv.ownBlock ≠ some k → k ≠ n + 3 → (w'.setCell ⟨n + 3, 0, none⟩ v1).heap[k]? = w.heap[k]? := fun k h1 h2 h3 =>
    (Below.heap_setCell _ _ _ _ h3).trans ((hg.block k (by simp; omega) (fun e => h2 e.symm)).trans (Below.heap_alloc _ _ _ h1))
  have hlow : ∀ k, k < n + 5 → rv.ownBlock ≠ some k := fun k h1 h2 => by have := (h.rr.lt k h2).1; omega
  have hs : w'.heap[n + 3]? = some (.cells #[rv] 41 (0, 0)) := (hg.block (n + 3) (by simp; omega) (fun e => hlow _ (by omega) e.symm)).trans ((Below.heap_alloc _ _ _ (by omega)).trans h.r)
  have hv1 : ∀ k, v1.ownBlock = some k → n + 5 ≤ k := fun k h1 => (hown.lt k h1).1
  refine ⟨?_, (hk n (by omega) (hlow _ (by omega)) (by omega)).trans h.box, (hk (n + 1) (by omega) (hlow _ (by omega)) (by omega)).trans h.tb, (hk (n + 2) (by omega) (hlow _ (by omega)) (by omega)).trans h.s, setCellOf hs v1, (hk (n + 4) (by omega) (hlow _ (by omega)) (by omega)).trans h.v, ?_, ?_, ?_, h.n0⟩
  · exact Below.setCell (Below.grown (h.below.alloc (by omega) o) hg (by simp; omega) (fun k h1 => by have := (h.rr.lt k h1).1; omega)) (by show n ≤ n + 3; omega) v1
  · exact ownsRow_same h.sr fun k h1 => hk k (h.sr.lt k h1).2 (fun e => h.ne k h1 e) (by have := (h.sr.lt k h1).1; omega)
  · rw [List.length_append, List.length_singleton, nvL_snoc]
    exact ownsRow_same hown fun k h1 => Below.heap_setCell _ _ _ _ (by have := hv1 k h1; show k ≠ n + 3; omega)
  · intro g h1 h2
    rcases hat with e | e
    · exact h.ne g h1 (by rw [← e]; exact h2)
    · rw [e] at h2
      injection h2 with h2
      have := (h.sr.lt g h1).2
      simp at h2
      omega
theorem own_cut {e B : Nat} {A : Option Addr} {m cap : Nat} {xs : List Value} (h : w.ownsRow B e 1 (.slice A m cap) m xs) {r : Nat} (hr : r ≤ m) : w.ownsRow B e 1 (.slice A r cap) r (xs.take r) := by
  obtain ⟨h1, ⟨h2, h3⟩ | ⟨g, cap', cur, h2, h3, h4, h5, h6, h7, h8⟩⟩ := h
  · injection h2 with e1 e2 e3
    subst e1 e3
    obtain rfl : r = 0 := by omega
    exact ⟨by simp, .inl ⟨rfl, rfl⟩⟩
  · injection h2 with e1 e2 e3
    subst e1 e3
    refine ⟨by simp; omega, .inr ⟨g, cap, cur, rfl, h3, h4, by omega, h6, h7, ?_⟩⟩
    rw [← h8, List.take_take, Nat.mul_one, Nat.mul_one, Nat.min_eq_left hr]
theorem own_block (A : Option Addr) (m m' cap cap' : Nat) : (Value.slice A m cap).ownBlock = (Value.slice A m' cap').ownBlock := by cases A <;> rfl
theorem nvL_take (S : List Nat) (a : Nat) : (nvL (S ++ [a])).take S.length = nvL S := by
  rw [nvL_snoc, List.take_append_of_le_length (by simp [nvL])]
  rw [List.take_of_length_le (by simp [nvL])]
theorem WyAt.popS {A : Option Addr} {cap : Nat} (h : WyAt w0 w n A0 A1 A2 A3 A4 A5 q0 q1 q2 q3 q4 q5 l b (.slice A (S.length + 1) cap) rv (S ++ [a]) R) : WyAt w0 (w.setCell ⟨n + 2, 0, none⟩ (.slice A S.length cap)) n A0 A1 A2 A3 A4 A5 q0 q1 q2 q3 q4 q5 l b (.slice A S.length cap) rv S R := by
  have hz := h.size
  have hk : ∀ k, k ≠ n + 2 → (w.setCell ⟨n + 2, 0, none⟩ (.slice A S.length cap)).heap[k]? = w.heap[k]? := fun k h3 => Below.heap_setCell _ _ _ _ h3
  have hc := h.sr
  rw [List.length_append, List.length_singleton] at hc
  have hc := own_cut hc (r := S.length) (by omega)
  rw [nvL_take] at hc
  refine ⟨Below.setCell h.below (by show n ≤ n + 2; omega) _, (hk n (by omega)).trans h.box, (hk _ (by omega)).trans h.tb, setCellOf h.s _, (hk _ (by omega)).trans h.r, (hk _ (by omega)).trans h.v, ?_, ?_, fun g hg => h.ne g (by rw [own_block A _ S.length _ cap]; exact hg), h.n0⟩
  · exact ownsRow_same hc fun k h1 => hk k (by have := (hc.lt k h1).1; omega)
  · exact ownsRow_same h.rr fun k h1 => hk k (by have := (h.rr.lt k h1).1; omega)
theorem WyAt.popR {A : Option Addr} {cap : Nat} (h : WyAt w0 w n A0 A1 A2 A3 A4 A5 q0 q1 q2 q3 q4 q5 l b sv (.slice A (R.length + 1) cap) S (R ++ [a])) : WyAt w0 (w.setCell ⟨n + 3, 0, none⟩ (.slice A R.length cap)) n A0 A1 A2 A3 A4 A5 q0 q1 q2 q3 q4 q5 l b sv (.slice A R.length cap) S R := by
  have hz := h.size
  have hk : ∀ k, k ≠ n + 3 → (w.setCell ⟨n + 3, 0, none⟩ (.slice A R.length cap)).heap[k]? = w.heap[k]? := fun k h3 => Below.heap_setCell _ _ _ _ h3
  have hc := h.rr
  rw [List.length_append, List.length_singleton] at hc
  have hc := own_cut hc (r := R.length) (by omega)
  rw [nvL_take] at hc
  refine ⟨Below.setCell h.below (by show n ≤ n + 3; omega) _, (hk n (by omega)).trans h.box, (hk _ (by omega)).trans h.tb, (hk _ (by omega)).trans h.s, setCellOf h.r _, (hk _ (by omega)).trans h.v, ?_, ?_, fun g hg => by rw [own_block A _ (R.length + 1) _ cap]; exact h.ne g hg, h.n0⟩
  · exact ownsRow_same h.sr fun k h1 => hk k (by have := (h.sr.lt k h1).1; omega)
  · exact ownsRow_same hc fun k h1 => hk k (by have := (hc.lt k h1).1; omega)
end
end Go.Proofs.Ytmabfnddedffoaa

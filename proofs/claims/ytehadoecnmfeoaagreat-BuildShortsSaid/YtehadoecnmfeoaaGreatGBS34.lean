/- Part 34 of this claim's texts: walks and plain laws. -/
import Derived.Test.YtehadoecnmfeoaaGreatRows
import Derived.Test.YtehadoecnmfeoaaGreatGBS33
import Derived.Test.YtehadoecnmfeoaaGreatGBS19
import Derived.Deep.DeepMust
import Derived.Deep.RegionHeld3
import Derived.Deep.DrawnRows
import Derived.Test.YtehadoecnmfeoaaGreatGBS26
import Derived.Lib.SliceRun
import Derived.Test.YtehadoecnmfeoaaGreatGBS1
import Derived.Test.YtehadoecnmfeoaaGreatGBS3
import Derived.Test.YtehadoecnmfeoaaGreatGBS18
import Derived.Test.YtehadoecnmfeoaaGreatGBS27
import Derived.Maps.RangeWalk
import Derived.WideKeyEntry
import Derived.DeepKeys4
set_option linter.unusedVariables false
set_option linter.unusedSimpArgs false
set_option linter.unusedSectionVars false
namespace Go.Proofs.YtehadoecnmfeoaaGreat
open Go.RowKit
structure NetS (w : World) (b0 B : Nat) (v : Value) (o : List (List Pn)) (vs : List Value) : Prop where
 own : w.ownsRow b0 86 1 v o.length vs
 len : vs.length = o.length
 low : ∀ j, v.ownBlock = some j → j < B
 row : ∀ i, i < o.length → w.ownsRow b0 74 2 (vs.getD i undef) (o.getD i []).length (rowV pnE (o.getD i [])) ∧ ∀ j, (vs.getD i undef).ownBlock = some j → j < B
 small : ∀ i, i < o.length → (o.getD i []).length ≤ 100000
theorem NetS.to {w w' : World} {b0 B : Nat} {v : Value} {o : List (List Pn)} {vs : List Value} (h : NetS w b0 B v o vs) (hb : Below B w w') : NetS w' b0 B v o vs :=
 ⟨ownsRow_same7 h.own fun j hj => hb.block j (h.low j hj), h.len, h.low, fun i hi => ⟨ownsRow_same7 (h.row i hi).1 fun j hj => hb.block j ((h.row i hi).2 j hj), (h.row i hi).2⟩, h.small⟩
theorem NetS.at {w : World} {b0 B n q : Nat} {A : Option Addr} {o : List (List Pn)} {vs : List Value} (h : NetS w b0 B (.slice A n q) o vs) {k : Nat} (hk : k < o.length) : ∃ g Ai qi net, Hid (o.getD k [] = net) ∧ A = some ⟨g, 0, none⟩ ∧ g < w.heap.size ∧ o.length ≤ q ∧ net.length ≤ 100000 ∧ vs.getD k undef = .slice Ai net.length qi ∧ w.cell? ⟨g, k, none⟩ = some (.slice Ai net.length qi) ∧ Pns w w.heap.size (.slice Ai net.length qi) net := by
 have h1 := h.own
 rcases h1.2 with ⟨_, hl⟩ | ⟨g, cap, cur, hv, hB, hg, hnc, _⟩
 ·
  omega
 injection hv with e1 e2 e3
 subst e1 e2 e3
 have h2 := h.own.cellAt k (by omega)
 obtain ⟨h3, _⟩ := h.row k hk
 obtain ⟨Ai, qi, h4⟩ := owns_form h3
 have h5 : vs[k]? = some (vs.getD k undef) := by
  have hk2 : k < vs.length := by rw [h.len]; exact hk
  rw [List.getD_eq_getElem?_getD, List.getElem?_eq_getElem hk2]
  rfl
 rw [h5, h4] at h2
 rw [h4] at h3
 exact ⟨g, Ai, qi, _, rfl, rfl, box_lt hg, hnc, h.small k hk, h4, h2, Pns.of_own h3⟩
def fstJ (J : List Pn) (a b : Pn) (o : List (List Pn)) : List Pn := if 0 ≤ idxI (touB a b) o then J ++ o.getD (idxI (touB a b) o).toNat [] else J
theorem fstJ_none {J : List Pn} {a b : Pn} {o : List (List Pn)} (h : idxI (touB a b) o = -1) : fstJ J a b o = J := by unfold fstJ; rw [h, if_neg (by omega)]
theorem fstJ_at {J : List Pn} {a b : Pn} {o : List (List Pn)} {k : Nat} (h : idxI (touB a b) o = (k : Int)) : fstJ J a b o = J ++ o.getD k [] := by unfold fstJ; rw [h, if_pos (by omega), Int.toNat_natCast]
theorem JonP.trans {B jb wb : Nat} {J J' : List Pn} {w wr w' : World} (h : JonP B jb wb J w wr) (k : JonP B jb wb J' wr w') : JonP B jb wb J' w w' := by
 obtain ⟨_, _, _, h1, h2⟩ := h
 obtain ⟨jv, k1, k2, k3, k4⟩ := k
 exact ⟨jv, k1, k2, h1.trans k3, k4.trans h2⟩
set_option maxRecDepth 100000 in
set_option maxHeartbeats 2000000 in
theorem indexNets_any (J : List Pn) (a b : Pn) (o : List (List Pn)) (vs : List Value) (A : Option Addr) (q : Nat) (jv nm sz fm : Value) (wb jb b0 B : Nat) (w : World) (hw : w.heap[wb]? = some (.cells #[nm, .int .i64 a.1, .int .i64 a.2, .int .i64 b.1, .int .i64 b.2, sz, fm] 76 (0, 0))) (hj : w.heap[jb]? = some (.cells #[jv] 86 (0, 0))) (ho : w.ownsRow B 74 2 jv J.length (rowV pnE J)) (hn : NetS w b0 B (.slice A o.length q) o vs) (hJ : J.length ≤ 100000) (hN : o.length ≤ 100000) (hB : B ≤ w.heap.size) (hBj : B ≤ jb) :
  Calls Tryz.prog 234 #[.slice A o.length q, .func (.func 182) #[] #[.pointer (some ⟨wb, 0, none⟩), .pointer (some ⟨jb, 0, none⟩)]] w
   fun e w' => e = .returned (.int .i64 (idxI (touB a b) o)) ∧ JonP B jb wb (fstJ J a b o) w w' := by
 have HW := hide hw
 have HS := hide hn
 have HJ0 : Hid (JonP B jb wb J w w) := ⟨jv, hj, ho, Below.refl _ _, rfl⟩
 clear hw hn hj ho
 go_enter Tryz.func234, Tryz.ntmps234
 go_wp2
 go_loopw [5, 8] (fun _ i wr => ∃ k : Nat, k ≤ o.length ∧ i = .int .i64 k ∧ Hid (∀ j, j < k → touB a b (o.getD j []) = false) ∧ Hid (JonP B jb wb J w wr)) (fun _ i _ => o.length - (intOf i).toNat)
 case atStart => exact ⟨0, Nat.zero_le _, rfl, fun j hj => by omega, HJ0⟩
 case round =>
  obtain ⟨k, hk, rfl, hz, HJP⟩ := hrel
  obtain ⟨jv1, hj1, ho1, hb1, hw1⟩ := HJP.out
  by_cases hlt : k < o.length
  case neg =>
   have hlt1 : ¬ (k : Int) < (o.length : Int) := by omega
   clear hj1 ho1 hb1 hw1
   go_wp2
   go_ret
   have hid : idxI (touB a b) o = -1 := idxI_none _ [] o (fun j hj => hz.out j (by omega))
   refine ⟨ret_int hid.symm, ?_⟩
   rw [fstJ_none hid]
   exact HJP.out
  case pos =>
   have hlt1 : (k : Int) < (o.length : Int) := by omega
   have ik0 : (0 : Int) ≤ (k : Int) := by omega
   obtain ⟨g, Ai, qi, net, HNT, hA, lg, hq, hnl, _, cg, hpn⟩ := (HS.out.to hb1).at hlt
   subst hA
   have HPN := hide hpn
   have HW1 : Hid (wr.heap[wb]? = some (.cells #[nm, .int .i64 a.1, .int .i64 a.2, .int .i64 b.1, .int .i64 b.2, sz, fm] 76 (0, 0))) := hw1.trans HW.out
   have HJ1 := hide hj1
   have HO1 := hide ho1
   have hBw : B ≤ wr.heap.size := Nat.le_trans hB hb1.size
   have iq : (o.length : Int) ≤ (q : Int) := by omega
   obtain ⟨c, hc⟩ : ∃ c, touB a b net = c := ⟨_, rfl⟩
   have hcall : ∀ W, W = wr → Calls Tryz.prog 182 #[.slice Ai net.length qi, .pointer (some ⟨wb, 0, none⟩), .pointer (some ⟨jb, 0, none⟩)] W fun e w' => e = .returned (.bool c) ∧ JonP B jb wb (if c then J ++ net else J) W w' := fun W hW => by
    subst hW
    have h1 := nets1_any J net a b Ai qi jv1 nm sz fm wb jb B W HW1.out HJ1.out HO1.out HPN.out hJ hnl hBw hBj
    rw [hc] at h1
    exact h1
   have HCALL := hide hcall
   have HC := hide hc
   clear hcall hj1 ho1 hb1 hw1 hpn hq hc hnl
   cases c with
   | true =>
    go_wp2_with (go_at_call 182; refine (HCALL.out _ rfl).mono ?_; rintro e w1 ⟨rfl, hj2⟩; have HJ2 := hide (HJP.out.trans hj2); clear hj2 cg lg)
    go_ret
    have hid : idxI (touB a b) o = (k : Int) := idxI_at _ [] o k hz.out hlt (by rw [HNT.out]; exact HC.out)
    refine ⟨ret_int hid.symm, ?_⟩
    rw [fstJ_at hid, HNT.out]
    exact HJ2.out
   | false =>
    go_wp2_with (go_at_call 182; refine (HCALL.out _ rfl).mono ?_; rintro e w1 ⟨rfl, hj2⟩; have HJ2 := hide (HJP.out.trans hj2); clear hj2 cg lg)
    go_roundw
    case rel => exact ⟨k + 1, by omega, by go_num, fun j hj => by
     rcases Nat.lt_or_ge j k with h | h
     ·
      exact hz.out j h
     ·
      rw [show j = k from by omega, HNT.out]; exact HC.out, HJ2⟩
    case measure => simp [intOf]; omega
end Go.Proofs.YtehadoecnmfeoaaGreat
namespace Go.Proofs.YtehadoecnmfeoaaGreat
def kepN (a b : Pn) (o : List (List Pn)) (k : Nat) : List Nat := (List.range k).filter fun i => !touB a b (o.getD i [])
def jonK (J : List Pn) (a b : Pn) (o : List (List Pn)) (k : Nat) : List Pn := J ++ ((List.range k).filter fun i => touB a b (o.getD i [])).flatMap fun i => o.getD i []
theorem kepN_succ (a b : Pn) (o : List (List Pn)) (k : Nat) : kepN a b o (k + 1) = if touB a b (o.getD k []) = true then kepN a b o k else kepN a b o k ++ [k] := by
 unfold kepN
 rw [List.range_succ, List.filter_append, List.filter_cons]
 cases touB a b (o.getD k []) <;> simp
theorem jonK_succ (J : List Pn) (a b : Pn) (o : List (List Pn)) (k : Nat) : jonK J a b o (k + 1) = if touB a b (o.getD k []) = true then jonK J a b o k ++ o.getD k [] else jonK J a b o k := by
 unfold jonK
 rw [List.range_succ, List.filter_append, List.filter_cons]
 cases touB a b (o.getD k []) <;> simp
theorem kepN_le (a b : Pn) (o : List (List Pn)) (k : Nat) : (kepN a b o k).length ≤ k := by
 have h := List.length_filter_le (fun i => !touB a b (o.getD i [])) (List.range k)
 rw [List.length_range] at h
 exact h
theorem kepN_none {a b : Pn} {o : List (List Pn)} : ∀ {k : Nat}, (∀ j, j < k → touB a b (o.getD j []) = false) → kepN a b o k = List.range k
 | 0, _ => rfl
 | k + 1, h => by
  rw [kepN_succ, if_neg (by rw [h k (by omega)]; simp), kepN_none fun j hj => h j (by omega), List.range_succ]
theorem jonK_none {J : List Pn} {a b : Pn} {o : List (List Pn)} : ∀ {k : Nat}, (∀ j, j < k → touB a b (o.getD j []) = false) → jonK J a b o k = J
 | 0, _ => by simp [jonK]
 | k + 1, h => by
  rw [jonK_succ, if_neg (by rw [h k (by omega)]; simp), jonK_none fun j hj => h j (by omega)]
theorem map_rangeD (o : List (List Pn)) : (List.range o.length).map (fun i => o.getD i []) = o := by
 apply List.ext_getElem
 ·
  simp
 ·
  intro i h1 h2
  rw [List.getElem_map, List.getElem_range, List.getD_eq_getElem?_getD, List.getElem?_eq_getElem h2]
  rfl
theorem kepN_all (a b : Pn) (o : List (List Pn)) : (kepN a b o o.length).map (fun i => o.getD i []) = o.filter fun n => !touB a b n := by
 have h := List.filter_map (f := fun i => o.getD i []) (p := fun n => !touB a b n) (l := List.range o.length)
 rw [map_rangeD] at h
 rw [h]
 rfl
theorem jonK_all (J : List Pn) (a b : Pn) (o : List (List Pn)) : jonK J a b o o.length = J ++ bothL o a b := by
 have h := List.filter_map (f := fun i => o.getD i []) (p := touB a b) (l := List.range o.length)
 rw [map_rangeD] at h
 unfold jonK bothL
 rw [h, List.flatMap_def]
 rfl
structure KepR {α : Type} (z : α) (X vs : List α) (K : List Nat) (j : Nat) : Prop where
 len : X.length = vs.length
 le : K.length ≤ j
 pre : X.take K.length = K.map fun i => vs.getD i z
 rest : ∀ p, j ≤ p → X[p]? = vs[p]?
theorem KepR.start {α : Type} (z : α) (vs : List α) {f : Nat} (hf : f < vs.length) : KepR z vs vs (List.range f) (f + 1) := by
 refine ⟨rfl, by simp, ?_, fun p _ => rfl⟩
 rw [List.length_range]
 apply List.ext_getElem
 ·
  rw [List.length_take, List.length_map, List.length_range]; omega
 ·
  intro i h1 h2
  rw [List.getElem_take, List.getElem_map, List.getElem_range, List.getD_eq_getElem?_getD, List.getElem?_eq_getElem]
  rfl
theorem KepR.drop {α : Type} {z : α} {X vs : List α} {K : List Nat} {j : Nat} (h : KepR z X vs K j) : KepR z X vs K (j + 1) :=
 ⟨h.len, Nat.le_succ_of_le h.le, h.pre, fun p hp => h.rest p (by omega)⟩
theorem KepR.keep {α : Type} {z : α} {X vs : List α} {K : List Nat} {j : Nat} (h : KepR z X vs K j) (hj : j < vs.length) : KepR z (X.set K.length (vs.getD j z)) vs (K ++ [j]) (j + 1) := by
 have hl := h.len
 have hk := h.le
 refine ⟨by rw [List.length_set]; exact hl, by simp; omega, ?_, fun p hp => ?_⟩
 ·
  rw [List.length_append, List.length_singleton, List.take_add_one, List.take_set_of_le (Nat.le_refl _), h.pre, List.map_append, List.getElem?_set_self (by omega)]
  rfl
 ·
  rw [List.getElem?_set_ne (by omega)]
  exact h.rest p (by omega)
end Go.Proofs.YtehadoecnmfeoaaGreat
namespace Go.Proofs.YtehadoecnmfeoaaGreat
open Go.RowKit
structure Hol (B g : Nat) (w w' : World) : Prop where
 os : w'.os = w.os
 tape : w'.tape = w.tape
 output : w'.output = w.output
 size : w.heap.size ≤ w'.heap.size
 block : ∀ k, k < B → k ≠ g → w'.heap[k]? = w.heap[k]?
theorem Hol.trans {B g : Nat} {a b c : World} (h : Hol B g a b) (k : Hol B g b c) : Hol B g a c :=
 ⟨k.os.trans h.os, k.tape.trans h.tape, k.output.trans h.output, Nat.le_trans h.size k.size, fun i hi hn => (k.block i hi hn).trans (h.block i hi hn)⟩
theorem Hol.of {B g : Nat} {a b : World} (h : Below B a b) : Hol B g a b := ⟨h.os, h.tape, h.output, h.size, fun i hi _ => h.block i hi⟩
theorem Hol.only {B g : Nat} {a b : World} (h : a.grownBy b (some g)) (hB : B ≤ a.heap.size) : Hol B g a b := ⟨h.os, h.tape, h.output, h.size, fun i hi hn => h.block i (by omega) (fun e => hn (by injection e))⟩
theorem Hol.below {B0 B g : Nat} {a b : World} (h : Hol B g a b) (h0 : B0 ≤ B) (hg : B0 ≤ g) : Below B0 a b := ⟨h.os, h.tape, h.output, h.size, fun i hi => h.block i (by omega) (by omega)⟩
def NetR (w : World) (b0 B : Nat) (o : List (List Pn)) (vs : List Value) : Prop := ∀ i, i < o.length → w.ownsRow b0 74 2 (vs.getD i undef) (o.getD i []).length (rowV pnE (o.getD i [])) ∧ ∀ j, (vs.getD i undef).ownBlock = some j → j < B
theorem NetR.hol {w w' : World} {b0 B g : Nat} {o : List (List Pn)} {vs : List Value} {C : Array Value} (h : NetR w b0 B o vs) (hg : w.heap[g]? = some (.cells C 86 (0, 0))) (hh : Hol B g w w') : NetR w' b0 B o vs := fun i hi => by
 obtain ⟨h1, h2⟩ := h i hi
 refine ⟨ownsRow_same7 h1 fun j hj => hh.block j (h2 j hj) fun e => ?_, h2⟩
 subst e
 exact ownsNot h1 hg (by decide) hj
theorem NetR.at {w : World} {b0 B : Nat} {o : List (List Pn)} {vs : List Value} (h : NetR w b0 B o vs) {k : Nat} (hk : k < o.length) : ∃ Ai qi net, Hid (o.getD k [] = net) ∧ vs.getD k undef = .slice Ai net.length qi ∧ Pns w w.heap.size (.slice Ai net.length qi) net := by
 obtain ⟨h3, _⟩ := h k hk
 obtain ⟨Ai, qi, h4⟩ := owns_form h3
 rw [h4] at h3
 exact ⟨Ai, qi, _, rfl, h4, Pns.of_own h3⟩
def JonG (B g jb wb : Nat) (J : List Pn) (w w' : World) : Prop := ∃ jv, w'.heap[jb]? = some (.cells #[jv] 86 (0, 0)) ∧ w'.ownsRow B 74 2 jv J.length (rowV pnE J) ∧ Hol B g w w' ∧ w'.heap[wb]? = w.heap[wb]?
theorem JonG.of {B g jb wb : Nat} {J : List Pn} {w w' : World} (h : JonP B jb wb J w w') : JonG B g jb wb J w w' := by
 obtain ⟨jv, h1, h2, h3, h4⟩ := h
 exact ⟨jv, h1, h2, Hol.of h3, h4⟩
theorem JonG.trans {B g jb wb : Nat} {J J' : List Pn} {w wr w' : World} (h : JonG B g jb wb J w wr) (k : JonP B jb wb J' wr w') : JonG B g jb wb J' w w' := by
 obtain ⟨_, _, _, h1, h2⟩ := h
 obtain ⟨jv, k1, k2, k3, k4⟩ := k
 exact ⟨jv, k1, k2, h1.trans (Hol.of k3), k4.trans h2⟩
theorem JonG.only {B g jb wb : Nat} {J : List Pn} {w wr w' : World} {C : Array Value} (h : JonG B g jb wb J w wr) (hg : wr.heap[g]? = some (.cells C 86 (0, 0))) (k : wr.grownBy w' (some g)) (hB : B ≤ w.heap.size) (hgB : g < B) (hj : B ≤ jb) (hw : B ≤ wb) (hwl : wb < w.heap.size) : JonG B g jb wb J w w' := by
 obtain ⟨jv, h1, h2, h3, h4⟩ := h
 have hB2 : B ≤ wr.heap.size := Nat.le_trans hB h3.size
 exact ⟨jv, (k.block jb (box_lt h1) (fun e => by injection e with e; omega)).trans h1, owns_grown h2 k hg (by decide), h3.trans (Hol.only k hB2), (k.block wb (Nat.lt_of_lt_of_le hwl h3.size) (fun e => by injection e with e; omega)).trans h4⟩
theorem own_clear {base e g cap n : Nat} (z : Value) : ∀ (k s : Nat) (w : World) (xs : List Value), w.ownsRow base e 1 (.slice (some ⟨g, 0, none⟩) n cap) n xs → ∃ ys, (w.setCells g s (List.replicate k z)).ownsRow base e 1 (.slice (some ⟨g, 0, none⟩) n cap) n ys ∧ ys.take s = xs.take s ∧ w.grownBy (w.setCells g s (List.replicate k z)) (some g)
 | 0, s, w, xs, h => ⟨xs, h, rfl, only_refl _ _⟩
 | k + 1, s, w, xs, h => by
  obtain ⟨h1, h2⟩ := h.stored s z
  obtain ⟨ys, h3, h4, h5⟩ := own_clear z k (s + 1) _ _ h1
  refine ⟨ys, h3, ?_, only_trans h2 h5⟩
  have h6 : ys.take s = (ys.take (s + 1)).take s := by rw [List.take_take, Nat.min_eq_left (by omega)]
  rw [h6, h4, List.take_take, Nat.min_eq_left (by omega), List.take_set_of_le (Nat.le_refl _)]
theorem own_box1 {w : World} {B e n q g : Nat} {xs : List Value} (h : w.ownsRow B e 1 (.slice (some ⟨g, 0, none⟩) n q) n xs) : ∃ C, w.heap[g]? = some (.cells C e (0, 0)) := by
 rcases h.2 with ⟨h', _⟩ | ⟨g', cap', cur, h', _, hg, _⟩
 ·
  cases h'
 ·
  injection h' with e1
  injection e1 with e1
  injection e1 with e1
  subst e1
  exact ⟨cur, hg⟩
theorem first_or (p : Nat → Bool) : ∀ n : Nat, (∀ j, j < n → p j = false) ∨ ∃ k, k < n ∧ (∀ j, j < k → p j = false) ∧ p k = true
 | 0 => .inl fun j hj => by omega
 | n + 1 => by
  rcases first_or p n with h | ⟨k, h1, h2, h3⟩
  ·
   cases hp : p n with
   | false =>
    refine .inl fun j hj => ?_
    rcases Nat.lt_or_ge j n with h1 | h1
    ·
     exact h j h1
    ·
     rw [show j = n by omega]; exact hp
   | true => exact .inr ⟨n, by omega, h, hp⟩
  ·
   exact .inr ⟨k, by omega, h2, h3⟩
theorem NetS.kept {w : World} {b0 B : Nat} {v : Value} {o : List (List Pn)} {vs : List Value} {K : List Nat} (hr : NetR w b0 B o vs) (hs : ∀ i, i < o.length → (o.getD i []).length ≤ 100000) (ho : w.ownsRow b0 86 1 v K.length (K.map fun i => vs.getD i undef)) (hv : ∀ j, v.ownBlock = some j → j < B) (hK : ∀ i ∈ K, i < o.length) : NetS w b0 B v (K.map fun i => o.getD i []) (K.map fun i => vs.getD i undef) := by
 have hg : ∀ i, i < K.length → ∃ k, k < o.length ∧ (K.map fun i => o.getD i []).getD i [] = o.getD k [] ∧ (K.map fun i => vs.getD i undef).getD i undef = vs.getD k undef := fun i hi => by
  refine ⟨K[i], hK _ (List.getElem_mem hi), ?_, ?_⟩
  ·
   rw [List.getD_eq_getElem?_getD, List.getElem?_map, List.getElem?_eq_getElem hi]
   rfl
  ·
   rw [List.getD_eq_getElem?_getD, List.getElem?_map, List.getElem?_eq_getElem hi]
   rfl
 refine ⟨by rw [List.length_map]; exact ho, by simp, hv, fun i hi => ?_, fun i hi => ?_⟩
 ·
  rw [List.length_map] at hi
  obtain ⟨k, h1, h2, h3⟩ := hg i hi
  rw [h2, h3]
  exact hr k h1
 ·
  rw [List.length_map] at hi
  obtain ⟨k, h1, h2, _⟩ := hg i hi
  rw [h2]
  exact hs k h1
def DelP (b0 B jb wb : Nat) (o : List (List Pn)) (J : List Pn) (w : World) (e : Ending) (w' : World) : Prop :=
 ∃ v vs jv, e = .returned v ∧ NetS w' b0 B v o vs ∧ w'.heap[jb]? = some (.cells #[jv] 86 (0, 0)) ∧ w'.ownsRow B 74 2 jv J.length (rowV pnE J) ∧ Below b0 w w' ∧ w'.heap[wb]? = w.heap[wb]?
set_option maxRecDepth 100000 in
set_option maxHeartbeats 4000000 in
theorem deleteNets_any (J : List Pn) (a b : Pn) (o : List (List Pn)) (vs : List Value) (A : Option Addr) (q : Nat) (jv nm sz fm : Value) (wb jb b0 B : Nat) (w : World) (hw : w.heap[wb]? = some (.cells #[nm, .int .i64 a.1, .int .i64 a.2, .int .i64 b.1, .int .i64 b.2, sz, fm] 76 (0, 0))) (hj : w.heap[jb]? = some (.cells #[jv] 86 (0, 0))) (ho : w.ownsRow B 74 2 jv J.length (rowV pnE J)) (hn : NetS w b0 B (.slice A o.length q) o vs) (hJ : ∀ k, k ≤ o.length → (jonK J a b o k).length ≤ 100000) (hN : o.length ≤ 100000) (hB : B ≤ w.heap.size) (hBj : B ≤ jb) (hBw : B ≤ wb) (hb0 : b0 ≤ B) :
  Calls Tryz.prog 181 #[.slice A o.length q, .func (.func 182) #[] #[.pointer (some ⟨wb, 0, none⟩), .pointer (some ⟨jb, 0, none⟩)]] w (DelP b0 B jb wb (o.filter fun n => !touB a b n) (J ++ bothL o a b) w) := by
 have hJ0 : J.length ≤ 100000 := by
  have h1 := hJ 0 (Nat.zero_le _)
  unfold jonK at h1
  rw [List.length_append] at h1
  omega
 have hix := indexNets_any J a b o vs A q jv nm sz fm wb jb b0 B w hw hj ho hn hJ0 hN hB hBj
 rw [← kepN_all, ← jonK_all]
 rcases first_or (fun i => touB a b (o.getD i [])) o.length with hz | ⟨f, hfl, hz, hft⟩
 ·
  have hid : idxI (touB a b) o = -1 := idxI_none _ [] o hz
  rw [fstJ_none hid, hid] at hix
  rw [kepN_none hz, jonK_none hz, map_rangeD]
  have HIX := hide hix
  have HS := hide hn
  clear hix hw hn hj ho hz hJ
  go_enter Tryz.func181, Tryz.ntmps181
  go_wp2_with (go_at_call 234; refine HIX.out.mono ?_; rintro e w1 ⟨rfl, hj1⟩)
  go_ret
  obtain ⟨jv1, h1, h2, h3, h4⟩ := hj1
  exact ⟨_, vs, jv1, rfl, HS.out.to h3, h1, h2, h3.mono hb0, h4⟩
 ·
  have hid : idxI (touB a b) o = (f : Int) := idxI_at _ [] o f hz hfl hft
  rw [fstJ_at hid, hid] at hix
  have HIX := hide hix
  have HS := hide hn
  have HW := hide hw
  have HZ := hide hz
  have HFT := hide hft
  have HJL := hide hJ
  obtain ⟨g, _, _, _, _, hA, lg, hq, _⟩ := hn.at hfl
  subst hA
  have hgB : g < B := hn.low g rfl
  have hb0g : b0 ≤ g := (hn.own.lt g rfl).1
  have HSM : Hid (∀ i, i < o.length → (o.getD i []).length ≤ 100000) := hn.small
  have HVL : Hid (vs.length = o.length) := hn.len
  have HR : Hid (NetR w b0 B o vs) := hn.row
  have hwl := box_lt hw
  have HK0 : Hid (kepN a b o (f + 1) = List.range f) := by show _ = _; rw [kepN_succ, if_pos hft, kepN_none hz]
  have HJ0 : Hid (jonK J a b o (f + 1) = J ++ o.getD f []) := by show _ = _; rw [jonK_succ, if_pos hft, jonK_none hz]
  have hfm : ((f : Int) == -1) = false := by simp
  clear hix hw hn hj ho hz hft hJ
  go_enter Tryz.func181, Tryz.ntmps181
  go_upto_region 5 with (go_at_call 234; refine HIX.out.mono ?_; rintro e w1 ⟨rfl, hj1⟩; have HJ1 := hide hj1; clear hj1 lg)
  have HB1 : Hid (Below B w w1) := by obtain ⟨_, _, _, h3, _⟩ := HJ1.out; exact h3
  have hB1 : B ≤ w1.heap.size := Nat.le_trans hB HB1.out.size
  obtain ⟨W1, hW1⟩ : ∃ wo : World, wo = w1 := ⟨_, rfl⟩
  subst hW1
  go_wp2_with fail
  go_loopw [5, 6, 7] (fun iv jw _ wr => ∃ (j : Nat) (X : List Value), iv = .int .i64 (kepN a b o j).length ∧ jw = .int .i64 j ∧ f < j ∧ j ≤ o.length ∧ (kepN a b o j).length < j ∧ Hid (wr.ownsRow b0 86 1 (.slice (some ⟨g, 0, none⟩) o.length q) o.length X) ∧ Hid (KepR undef X vs (kepN a b o j) j) ∧ Hid (JonG B g jb wb (jonK J a b o j) w wr)) (fun _ jw _ _ => o.length - (intOf jw).toNat)
  case atStart => exact ⟨f + 1, vs, by rw [HK0.out, List.length_range], by go_num, by omega, by omega, by rw [HK0.out]; simp, (HS.out.to HB1.out).own, by rw [HK0.out]; exact KepR.start undef vs (by rw [HVL.out]; exact hfl), by rw [HJ0.out]; exact JonG.of HJ1.out⟩
  case round =>
   obtain ⟨j, X, rfl, rfl, hfj, hjn, hkj, HOW, HKR, HJG⟩ := hrel
   obtain ⟨K, hK⟩ : ∃ z, kepN a b o j = z := ⟨_, rfl⟩
   rw [hK] at hkj HKR ⊢
   have HK := hide hK
   have HJB : Hid (B ≤ wr.heap.size) := by obtain ⟨_, _, _, h3, _⟩ := HJG.out; exact Nat.le_trans hB h3.size
   obtain ⟨C, hC⟩ := own_box1 HOW.out
   have HC := hide hC
   have hgw := box_lt hC
   have hXl : X.length = o.length := HKR.out.len.trans HVL.out
   clear hK hC
   by_cases hlt : j < o.length
   case neg =>
    have hlt1 : ¬ (j : Int) < (o.length : Int) := by omega
    obtain rfl : j = o.length := by omega
    obtain ⟨Y, hY, hYt, hYg⟩ := own_clear (.slice none 0 0) (o.length - K.length) K.length wr X HOW.out
    have hcl : ∀ ty, (Builtin.clear_ #[82] ty #[.slice (some ⟨g, K.length, none⟩) (o.length - K.length) (q - K.length)]).run Tryz.prog wr = .ok (.tuple #[]) (wr.setCells g K.length (List.replicate (o.length - K.length) (.slice none 0 0))) := fun ty =>
     Lib.run_clear_slice wr 82 86 ty (.slice none 0 0) Tryz.underlying82 (fun w => by go_simp) rfl rfl g K.length _ _ (by omega) (fun j hj => by
      rw [HOW.out.cellAt (K.length + j) (by omega), List.getElem?_eq_getElem (by omega)]
      rfl) (fun j _ => HOW.out.frozenAt _)
    obtain ⟨w9, hw9⟩ : ∃ z, wr.setCells g K.length (List.replicate (o.length - K.length) (.slice none 0 0)) = z := ⟨_, rfl⟩
    rw [hw9] at hY hYg hcl
    have hcut := own_cut hY (r := K.length) (by omega)
    rw [hYt, HKR.out.pre] at hcut
    have HG9 : Hid (JonG B g jb wb (jonK J a b o o.length) w w9) := HJG.out.only HC.out hYg hB hgB hBj hBw hwl
    have HCUT := hide hcut
    have iK0 : (0 : Int) ≤ (K.length : Int) := by omega
    have iK1 : (K.length : Int) ≤ (o.length : Int) := by omega
    have iK2 : (o.length : Int) ≤ (q : Int) := by omega
    have iK3 : (K.length : Int) ≤ (q : Int) := by omega
    clear hY hYt hYg hcut hw9
    go_wp2_with fail
    go_ret
    obtain ⟨jv1, h1, h2, h3, h4⟩ := HG9.out
    rw [HK.out]
    exact ⟨.slice (some ⟨g, 0, none⟩) K.length q, K.map (fun i => vs.getD i undef), jv1, rfl, NetS.kept (HR.out.hol (own_box1 HS.out.own).choose_spec h3) HSM.out HCUT.out (fun j hj => by have hj2 : some g = some j := hj; injection hj2 with hj2; omega) (fun i hi => by rw [← HK.out] at hi; unfold kepN at hi; simpa using (List.mem_filter.1 hi).1), h1, h2, h3.below hb0 hb0g, h4⟩
   case pos =>
    have hlt1 : (j : Int) < (o.length : Int) := by omega
    have ij0 : (0 : Int) ≤ (j : Int) := by omega
    have iK0 : (0 : Int) ≤ (K.length : Int) := by omega
    have iK1 : (K.length : Int) < (o.length : Int) := by omega
    have iq : (o.length : Int) ≤ (q : Int) := by omega
    obtain ⟨jv1, hj1, ho1, hh1, hw1⟩ := HJG.out
    have hRr := HR.out.hol (own_box1 HS.out.own).choose_spec hh1
    obtain ⟨Ai, qi, net, HNT, hvi, hpn⟩ := hRr.at hlt
    have hcj := HOW.out.cellAt j (by omega)
    rw [HKR.out.rest j (Nat.le_refl _), List.getElem?_eq_getElem (by rw [HVL.out]; exact hlt)] at hcj
    have hvj : vs[j]'(by rw [HVL.out]; exact hlt) = .slice Ai net.length qi := by
     rw [← hvi, List.getD_eq_getElem?_getD, List.getElem?_eq_getElem (by rw [HVL.out]; exact hlt)]
     rfl
    rw [hvj] at hcj
    have HPN := hide hpn
    have HVI := hide hvi
    have HW1 : Hid (wr.heap[wb]? = some (.cells #[nm, .int .i64 a.1, .int .i64 a.2, .int .i64 b.1, .int .i64 b.2, sz, fm] 76 (0, 0))) := hw1.trans HW.out
    have HJ1 := hide hj1
    have HO1 := hide ho1
    have hnl : net.length ≤ 100000 := by rw [← HNT.out]; exact HSM.out j hlt
    have hjl := HJL.out j hjn
    obtain ⟨c, hc⟩ : ∃ c, touB a b net = c := ⟨_, rfl⟩
    have hcall : ∀ W, W = wr → Calls Tryz.prog 182 #[.slice Ai net.length qi, .pointer (some ⟨wb, 0, none⟩), .pointer (some ⟨jb, 0, none⟩)] W fun e w' => e = .returned (.bool c) ∧ JonP B jb wb (if c then jonK J a b o j ++ net else jonK J a b o j) W w' := fun W hW => by
     subst hW
     have h1 := nets1_any (jonK J a b o j) net a b Ai qi jv1 nm sz fm wb jb B W HW1.out HJ1.out HO1.out HPN.out hjl hnl HJB.out hBj
     rw [hc] at h1
     exact h1
    have HCALL := hide hcall
    have hks := kepN_succ a b o j
    have hjs := jonK_succ J a b o j
    rw [HNT.out, hc, HK.out] at hks
    rw [HNT.out, hc] at hjs
    clear hcall hj1 ho1 hh1 hw1 hRr hpn hvi hvj hc hnl hjl
    cases c with
    | true =>
     rw [if_pos rfl] at hks hjs
     have HKS := hide hks
     have HJS := hide hjs
     clear hks hjs
     go_wp2_with (go_at_call 182; refine (HCALL.out _ rfl).mono ?_; rintro e w2 ⟨rfl, hj2⟩; have HJ2 : Hid (JonP B jb wb (jonK J a b o j ++ net) wr w2) := hj2; clear hj2 hcj hgw)
     go_roundw
     case rel => exact ⟨j + 1, X, by rw [HKS.out], by go_num, by omega, by omega, by rw [HKS.out]; omega, by obtain ⟨_, _, _, h3, _⟩ := HJ2.out; exact ownsRow_same7 HOW.out (fun p hp => h3.block p (by have hp2 : some g = some p := hp; injection hp2 with hp2; omega)), by rw [HKS.out]; exact HKR.out.drop, by rw [HJS.out]; exact HJG.out.trans HJ2.out⟩
     case measure => simp [intOf]; omega
    | false =>
     rw [if_neg (by simp)] at hks hjs
     have HKS := hide hks
     have HJS := hide hjs
     clear hks hjs
     go_upto_region 9 with (go_at_call 182; refine (HCALL.out _ rfl).mono ?_; rintro e w2 ⟨rfl, hj2⟩; have HJ2 : Hid (JonP B jb wb (jonK J a b o j) wr w2) := hj2; clear hj2 hcj hgw)
     have HOW2 : Hid (w2.ownsRow b0 86 1 (.slice (some ⟨g, 0, none⟩) o.length q) o.length X) := by
      obtain ⟨_, _, _, h3, _⟩ := HJ2.out
      exact ownsRow_same7 HOW.out (fun p hp => h3.block p (by have hp2 : some g = some p := hp; injection hp2 with hp2; omega))
     have HJG2 := hide (HJG.out.trans HJ2.out)
     obtain ⟨C2, hC2⟩ := own_box1 HOW2.out
     have hgw2 := box_lt hC2
     have hst := HOW2.out.stored K.length (.slice Ai net.length qi)
     have hfz := HOW2.out.frozenAt K.length
     obtain ⟨xv, hcell⟩ : ∃ xv, w2.cell? ⟨g, K.length, none⟩ = some xv := ⟨_, (HOW2.out.cellAt K.length (by omega)).trans (List.getElem?_eq_getElem (by omega))⟩
     have HC2 := hide hC2
     have HST := hide hst
     clear hC2 hst
     go_upto_region 10 with (fail)
     generalize hw3 : World.setCell _ _ _ = w3
     have h5 := HST.out
     rw [hw3] at h5
     have HOW3 := hide h5.1
     have HJG3 : Hid (JonG B g jb wb (jonK J a b o j) w w3) := HJG2.out.only HC2.out h5.2 hB hgB hBj hBw hwl
     clear h5 hw3 hgw2 hfz hcell HST
     go_wp2_with fail
     go_roundw
     case rel => exact ⟨j + 1, X.set K.length (.slice Ai net.length qi), by rw [HKS.out, List.length_append]; go_num, by go_num, by omega, by omega, by rw [HKS.out]; simp; omega, HOW3.out, by rw [HKS.out, ← HVI.out]; exact HKR.out.keep (by rw [HVL.out]; exact hlt), by rw [HJS.out]; exact HJG3.out⟩
     case measure => simp [intOf]; omega
end Go.Proofs.YtehadoecnmfeoaaGreat
namespace Go.Proofs.YtehadoecnmfeoaaGreat
open Go.RowKit Go.Maps
open Go.Maps (Keyed)
open Go.ChangeMaps Go.MapKept Go.WideShapes
section
variable {α : Type} {P : Program} {w : World} {k e b n : Nat} {enc : α → Value} {m : α → Option Int}
def MapAll (P : Program) (w : World) (k e b n : Nat) (enc : α → Value) (m : α → Option Int) : Prop :=
 ∃ D : DataW Unit, w.ownsMap P k (plainElem P e) b n D ∧ (∀ a l, keyOf P k (enc a) = some l →
  (m a = none → Maps.has D l = false) ∧ ∀ x, m a = some x → Maps.has D l = true ∧ D.atKey l (.lit (.int .i64 0)) = .lit (.int .i64 x)) ∧ ∀ l, Maps.has D l = true → ∃ a x, keyOf P k (enc a) = some l ∧ m a = some x
end
section
variable {α : Type} {P : Program}
end
def ctE (a : Ct) : List Value := [.int .i64 a.s, .int .i64 a.n, .int .i64 a.c]
def ctF (a : Ct) (j : Nat) : Value := match j with
 | 0 => .int .i64 a.s
 | 1 => .int .i64 a.n
 | _ => .int .i64 a.c
def Cts (w : World) (B : Nat) (v : Value) (L : List Ct) : Prop := Sl w B 3 v L.length (fun i j => ctF (L.getD i Ct.o) j)
def cuE (p : Int × Int) : Value := .agg #[.int .i64 p.1, .int .i64 p.2, .int .i64 0]
end Go.Proofs.YtehadoecnmfeoaaGreat

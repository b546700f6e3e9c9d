/- Group Q of this claim's texts: walks and plain laws. -/
import Derived.Test.YtohofcmikfkilaaRows
import Derived.Test.YtohofcmikfkilaaTCN
import Derived.Test.YtohofcmikfkilaaTCJ
import Derived.Test.YtohofcmikfkilaaTCK
import Derived.Test.YtohofcmikfkilaaTCM
import Derived.OrdersHeld
import Derived.OrdersIn
import Derived.TacticsIn
import Derived.RangeFuncCalls
import Derived.Deep.RegionHeld3
import Derived.RangeFuncNested
import Derived.RangeFuncBound
import Derived.RangeFuncLeaves
import Derived.Shelf.Abstract
import Derived.Shelf.RegionOpen
import Derived.OwnWalkIn
import Derived.TacticsInMore
import Derived.LoopNIn
import Derived.LoopIn
import Derived.Sort.LoopGhostIn
import Derived.Maps.OwnIn
/- Which options all buildable variants have, which combinations none has: plain laws. -/
namespace Go.Proofs.Ytohofcmikfkilaa
set_option linter.unusedVariables false
/-- Whether no buildable variant is so. -/
def noneB (m : Mo) (p : List Bool → Bool) : Bool := ((allM m).filter p).isEmpty
def fixAt (m : Mo) (i : Nat) : Int := if noneB m (fun x => vf x i == true) = true then 0 else if noneB m (fun x => vf x i == false) = true then 1 else -1
def fixE (m : Mo) : Int := if m.err ≠ 0 then m.err else if allM m = [] then 12 else 0
def fixL (m : Mo) : List Int := if fixE m = 0 then (List.range m.opts.length).map (fixAt m) else []
theorem errF_nil (m : Mo) : m.errF [] = m.err := by
  unfold Mo.errF
  by_cases h : m.err = 0
  · rw [if_neg (by simp [h]), if_neg (by simp), h]
  · rw [if_pos h]
/-- A combination of two options, each taken or not. -/
structure Lk where
  a : Nat
  b : Nat
  wa : Bool
  wb : Bool
def Lk.z : Lk := ⟨0, 0, false, false⟩
def lkAt (a b k : Nat) : Lk := ⟨a, b, decide (2 ≤ k), decide (k % 2 = 1)⟩
def quadN (a b : Nat) : Nat → List Lk
  | 0 => []
  | k + 1 => quadN a b k ++ [lkAt a b k]
def rowN (a : Nat) : Nat → List Lk
  | 0 => []
  | d + 1 => rowN a d ++ quadN a (a + 1 + d) 4
def pairsN (N : Nat) : Nat → List Lk
  | 0 => []
  | a + 1 => pairsN N a ++ rowN a (N - (a + 1))
def pairsL (N : Nat) : List Lk := pairsN N N
theorem quadN_len (a b : Nat) : ∀ k, (quadN a b k).length = k
  | 0 => rfl
  | k + 1 => by simp [quadN, quadN_len a b k]
theorem rowN_len (a : Nat) : ∀ d, (rowN a d).length = 4 * d
  | 0 => rfl
  | d + 1 => by simp [rowN, rowN_len a d, quadN_len]; omega
theorem pairsN_le (N : Nat) : ∀ d a, (pairsN N a).length ≤ (pairsN N (a + d)).length
  | 0, a => Nat.le_refl _
  | d + 1, a => by
    have h1 := pairsN_le N d a
    have h2 : (pairsN N (a + (d + 1))).length = (pairsN N (a + d)).length + (rowN (a + d) (N - (a + d + 1))).length := by
      show (pairsN N (a + d) ++ rowN (a + d) (N - (a + d + 1))).length = _
      rw [List.length_append]
    omega
theorem pairs_lt {N a d k : Nat} (ha : a < N) (hd : d < N - (a + 1)) (hk : k < 4) : (pairsN N a ++ rowN a d ++ quadN a (a + 1 + d) k).length < (pairsL N).length := by
  have h1 := pairsN_le N (N - (a + 1)) (a + 1)
  rw [show a + 1 + (N - (a + 1)) = N by omega] at h1
  have h2 : (pairsN N (a + 1)).length = (pairsN N a).length + (rowN a (N - (a + 1))).length := by
    show (pairsN N a ++ rowN a (N - (a + 1))).length = _
    rw [List.length_append]
  rw [rowN_len] at h2
  unfold pairsL
  rw [List.length_append, List.length_append, rowN_len, quadN_len]
  omega
theorem pairsN_len (N : Nat) : ∀ a, (pairsN N a).length ≤ 4 * N * a
  | 0 => by simp [pairsN]
  | a + 1 => by
    have h1 := pairsN_len N a
    show (pairsN N a ++ rowN a (N - (a + 1))).length ≤ _
    rw [List.length_append, rowN_len, Nat.mul_add]
    omega
theorem pairs_len {N : Nat} (h : N ≤ 12) : (pairsL N).length ≤ 576 := by
  have h1 := pairsN_len N N
  have h2 : 4 * N * N ≤ 4 * 12 * 12 := Nat.mul_le_mul (Nat.mul_le_mul (Nat.le_refl 4) h) h
  unfold pairsL
  omega
/-- Whether a variant has a combination. -/
def hasX (x : Lk) (y : List Bool) : Bool := (vf y x.a == x.wa) && (vf y x.b == x.wb)
def lackB (m : Mo) (x : Lk) : Bool := noneB m (hasX x)
def misL (m : Mo) : List Lk := if m.err = 0 then (pairsL m.opts.length).filter (lackB m) else []
theorem mis_err {m : Mo} (h : m.err ≠ 0) : misL m = [] := by unfold misL; rw [if_neg h]
theorem mis_ok {m : Mo} (h : m.err = 0) : misL m = (pairsL m.opts.length).filter (lackB m) := by unfold misL; rw [if_pos h]
/-- What Cover looks for, in order. -/
def selfN : Nat → List Lk
  | 0 => []
  | i + 1 => selfN i ++ [⟨i, i, false, false⟩, ⟨i, i, true, true⟩]
def wantL (N : Nat) : List Lk := selfN N ++ pairsL N
/-- One more combination that is wanted. -/
def covS (m : Mo) (L : List (List Bool)) (x : Lk) : List (List Bool) := if L.any (hasX x) then L else match (allM m).find? (hasX x) with
  | some v => L ++ [v]
  | none => L
def covL (m : Mo) : List (List Bool) := if m.err = 0 then (wantL m.opts.length).foldl (covS m) [] else []
end Go.Proofs.Ytohofcmikfkilaa
/- Options that all buildable variants have, or none: walk; a literal after begin. -/
namespace Go.Proofs.Ytohofcmikfkilaa
open Go.RowKit
set_option linter.unusedVariables false
set_option linter.unusedSimpArgs false
/-- A row of the call's own, none of the forest's. -/
def RStk (e sz B : Nat) (w : World) (F : Fo) (sv : Value) (n : Nat) (xs : List Value) : Prop := w.ownsRow B e sz sv n xs ∧ ∀ b, sv.ownBlock = some b → ¬ SF F b
theorem RStk.step {e sz B n : Nat} {xs : List Value} {w w' : World} {F F' : Fo} {sv : Value} (h : RStk e sz B w F sv n xs) (st : FStep w F w' F') : RStk e sz B w' F' sv n xs := by
  obtain ⟨h1, h2⟩ := h
  have hk : ∀ b, sv.ownBlock = some b → w'.heap[b]? = w.heap[b]? ∧ ¬ SF F' b := fun b hb => st.block (h1.lt b hb).2 (h2 b hb)
  refine ⟨⟨h1.1, ?_⟩, fun b hb => (hk b hb).2⟩
  rcases h1.2 with hn | ⟨g, cap, cur, rfl, q4, q5, q6⟩
  · exact .inl hn
  · exact .inr ⟨g, cap, cur, rfl, q4, ((hk g rfl).1).trans q5, q6⟩
theorem RStk.below {e sz B n : Nat} {xs : List Value} {w w' : World} {F : Fo} {sv : Value} (h : RStk e sz B w F sv n xs) (hb : Below w.heap.size w w') : RStk e sz B w' F sv n xs := ⟨owns_below h.1 hb, h.2⟩
theorem RStk.shape {e sz B n : Nat} {xs : List Value} {w : World} {F : Fo} {sv : Value} (h : RStk e sz B w F sv n xs) : ∃ A cap, sv = .slice A n cap ∧ n ≤ cap ∧ cap ≤ maxLen := by
  rcases h.1.2 with ⟨h1, h2⟩ | ⟨g, cap, cur, h1, _, _, h2, h3, _⟩
  · exact ⟨none, 0, by rw [h1, h2], by omega, by unfold maxLen; omega⟩
  · exact ⟨_, cap, h1, h2, h3⟩
theorem RStk.push {e sz B n n' : Nat} {xs xs' : List Value} {w w1 : World} {F : Fo} {v v1 : Value} {o : Obj} (h : RStk e sz B w F v n xs) (hF : FoAt w F) (hown : w1.ownsRow B e sz v1 n' xs') (hg : (w.alloc o).grownBy w1 v.ownBlock)
    (hat : v1.ownBlock = v.ownBlock ∨ v1.ownBlock = some (w.alloc o).heap.size) : RStk e sz B w1 F v1 n' xs' ∧ Keeps (fun i => v.ownBlock = some i) w w1 := by
  refine ⟨⟨hown, fun b hb hs => ?_⟩, Keeps.trans ((Keeps.refl _ w).alloc _) (Keeps.of_grown hg (fun k hk => hk)) (fun _ _ h => h)⟩
  rcases hat with e | e
  · exact h.2 b (by rw [← hb, e]) hs
  · rw [hb] at e
    injection e with e
    have := hF.slt hs
    simp at e
    omega
theorem Forms.none (w : World) (B : Nat) : Forms w B (.slice none 0 0) [] := ⟨fun _ => undef, Sl.nil _ _ _ _, fun i hi => by simp at hi⟩
theorem sized_nil : Sized [] := ⟨by unfold maxLen; simp, fun g hg => by simp at hg⟩
/-- The node of the rules says whether there is a buildable variant. -/
theorem BegR.empty {m : Mo} {w w' : World} {F : Fo} {n : Nat} (h : BegR m w w' F n) : n = 0 ↔ allM m = [] := by
  have h1 := node_no h.here h.lt
  have h2 : sat F.ks F.N n [] = allM m := by
    unfold sat allM
    rw [h.N]
    exact List.filter_congr fun x _ => h.ev _
  rw [h2] at h1
  constructor
  · intro e
    rw [decide_eq_true e] at h1
    exact List.isEmpty_iff.1 h1.symm
  · intro e
    rw [e] at h1
    exact of_decide_eq_true h1
/-- A node that stands for the buildable variants of a kind: it is no if there is none. -/
theorem none_node {m : Mo} {F : Fo} {w : World} {c : Nat} {p : List Bool → Bool} (h : FoAt w F) (hN : F.N = m.opts.length) (hc : c < F.ks.length) (hev : ∀ y, ev F.ks (vf y) c = (allF (vf y) m.rules && p y)) : decide (c = 0) = noneB m p := by
  rw [node_no h hc]
  unfold noneB allM sat
  rw [hN, List.filter_filter]
  congr 1
  exact List.filter_congr fun x _ => by rw [hev, Bool.and_comm]
/-- A list of numbers and an error. -/
def FixP (l : List Int) (er : Int) (w : World) (e : Ending) (w' : World) : Prop := ∃ v, e = .returned (.tuple #[v, .int .i64 er]) ∧ Ints w' w'.heap.size v l ∧ Below w.heap.size w w'
theorem FixP.none (er : Int) {w w' : World} (h : Below w.heap.size w w') : FixP [] er w (.returned (.tuple #[.slice none 0 0, .int .i64 er])) w' := ⟨_, rfl, Sl.nil _ _ _ _, h⟩
end Go.Proofs.Ytohofcmikfkilaa
/- A region that draws its order, in a round of a range over a function: what is shown of it outside of rounds holds there too. -/
namespace Go.Proofs.Ytohofcmikfkilaa
open Go Go.RowKit
set_option linter.unusedVariables false
/-- The ways out of a region that takes no jump. -/
def Shut (Q : Exit → Act → World → Prop) : Exit → Act → World → Prop
  | .normal, a, w => Q .normal a w
  | .panic c, a, w => Q (.panic c) a w
  | _, _, _ => False
theorem shut_normal {Q : Exit → Act → World → Prop} {a : Act} {w : World} (h : Q .normal a w) : Shut Q .normal a w := h
theorem shut_out {Q : Exit → Act → World → Prop} : ¬ LetsOut (Shut Q) := fun ⟨_, _, h⟩ => h
theorem shut_of {Q : Exit → Act → World → Prop} : ∀ (e : Exit) (a : Act) (w : World), Shut Q e a w → Q e a w
  | .normal, _, _, h => h
  | .panic _, _, _, h => h
  | .exit _, _, _, h => h.elim
  | .goto _, _, _, h => h.elim
  | .ret, _, _, h => h.elim
  | .outgrown, _, _, h => h.elim
theorem oper_in {l n : Nat} {P : Program} {o : Oper} {a : Act} {w : World} {K : Act → World → Prop} {Q : Exit → Act → World → Prop} (hd : ∀ c, o.op ≠ .defer c) (h : o.wp P a w K Q) : o.wpIn (Fence.wide.inRound l) n P a w K Q := by
  refine ⟨fun _ _ => trivial, ?_⟩
  show o.uponIn _ n P a K Q ((o.semAt (some l) a.eval).run P w)
  rw [Oper.semAt_some l _ _ hd]
  unfold Oper.wp at h
  cases hr : (execOp a.eval o).run P w with
  | ok x w' =>
    rw [hr] at h
    cases x with
    | value v => exact h
    | skip => exact h
    | defer d => exact h
    | enter f args =>
      refine ⟨fun h0 => (by cases h0), CallsIn.inRound l (callsIn_wide.2 (Calls.mono h ?_))⟩
      intro e w'' he
      cases e <;> exact he
    | row row args =>
      refine ⟨fun h0 => (by cases h0), fun c cs _ => ?_⟩
      obtain ⟨v, w', h1, h2⟩ := h c cs
      exact ⟨v, w', h1, stepsIn_wide.2 h2⟩
    | _ => exact h.elim
  | halt x w' =>
    rw [hr] at h
    cases x <;> exact h
theorem any_in {l n : Nat} {P : Program} {md : Region.Mode} {ops : Array Oper} {Q : Exit → Act → World → Prop} (hd : ∀ (i : Nat) (o : Oper) c, ops[i]? = some o → o.op ≠ .defer c) (hlo : ¬ LetsOut Q) :
    ∀ (fuel : Nat) (listed : Array Bool) (a : Act) (w : World), wpAny P md ops Q fuel listed a w → wpAnyIn (Fence.wide.inRound l) n P md ops Q fuel listed a w
  | 0, _, _, _, h => h
  | fuel + 1, listed, a, w, h => by
    refine ⟨h.1, fun i hi => ?_⟩
    have h1 := h.2 i hi
    unfold wpOp at h1
    unfold wpOpIn
    cases ho : ops[i]? with
    | none =>
      rw [ho] at h1
      exact any_in hd hlo fuel _ a w h1
    | some o =>
      rw [ho] at h1
      dsimp only at h1 ⊢
      split
      · rename_i hw
        rw [if_pos hw] at h1
        rcases h1 with h1 | h1
        · exact Oper.wpIn_mono (fun a' w' h' => any_in hd hlo fuel _ a' w' h') (oper_in (fun c => hd i o c ho) h1)
        · exact absurd h1.2 hlo
      · rename_i hw
        rw [if_neg hw] at h1
        exact ⟨fun _ _ => trivial, any_in hd hlo fuel _ _ _ h1⟩
/-- No operation is a defer statement. -/
def noDefer (ops : Array Oper) : Bool := ops.toList.all fun o => match o.op with
  | .defer _ => false
  | _ => true
theorem noDefer_at {ops : Array Oper} (h : noDefer ops = true) : ∀ (i : Nat) (o : Oper) c, ops[i]? = some o → o.op ≠ .defer c := by
  intro i o c ho he
  have hm : o ∈ ops.toList := by
    rw [← Array.getElem?_toList] at ho
    exact List.mem_of_getElem? ho
  have := List.all_eq_true.1 h o hm
  rw [he] at this
  cases this
theorem wpIn_region_held_shut {l n id : Nat} {P : Program} {ops : Array Oper} {Q : Exit → Act → World → Prop} {S : World → Prop} {a : Act} {w : World} (hm : P.follows .mixedOrders = true) (hd : noDefer ops = true) (hS : S w.drew)
    (h : S w.drew → wpAnyH P .any ops (Shut Q) S ops.size (Array.replicate ops.size false) a w.drew) : (Code.region id ops true).wpIn (Fence.wide.inRound l) n P Q a w :=
  wpIn_mono (wpIn_region_any hm (any_in (noDefer_at hd) shut_out _ _ _ _ (wpAny_of_held _ _ _ _ (h hS)))) shut_of
end Go.Proofs.Ytohofcmikfkilaa
/- The iterator over all combinations of two options: its contract. -/
namespace Go.Proofs.Ytohofcmikfkilaa
open Go.RowKit Go.Shelf
attribute [local go_sem] Oper.semAt_some
set_option linter.unusedVariables false
set_option linter.unusedSimpArgs false
def lkV (x : Lk) : Value := .agg #[.int .i64 x.a, .int .i64 x.b, .bool x.wa, .bool x.wb]
/-- A cell stays as it is. -/
def KpB (nb : Nat) (W W' : World) : Prop := ∀ u, W.cell? ⟨nb, 0, none⟩ = some u → W'.cell? ⟨nb, 0, none⟩ = some u
theorem KpB.trans {nb : Nat} {A B C : World} (h : KpB nb A B) (k : KpB nb B C) : KpB nb A C := fun u hu => k u (h u hu)
theorem KpB.refl (nb : Nat) (W : World) : KpB nb W W := fun _ h => h
theorem KpB.lt {nb : Nat} {W : World} {u : Value} (hu : W.cell? ⟨nb, 0, none⟩ = some u) : nb < W.heap.size := by
  unfold World.cell? at hu
  cases hh : W.heap[nb]? with
  | none => rw [hh] at hu; cases hu
  | some ob => exact (Array.getElem?_eq_some_iff.1 hh).1
theorem KpB.alloc (nb : Nat) (W : World) (o : Obj) : KpB nb W (W.alloc o) := fun u hu => (World.cell?_of_block (Below.heap_alloc W o nb (KpB.lt hu))).trans hu
theorem KpB.keeps {nb : Nat} {S : Nat → Prop} {W W' : World} (h : Keeps S W W') (hn : ¬ S nb) : KpB nb W W' := fun u hu => (World.cell?_of_block (h.block nb (KpB.lt hu) hn)).trans hu
theorem KpB.putObj {nb : Nat} (W : World) (l : Nat) (o o' : Obj) (h : W.heap[l]? = some o) (ho : o.isCells = false) : KpB nb W (W.putObj l o') := by
  intro u hu
  rcases Nat.decEq nb l with hne | he
  · have hg := grownBy_putObj' W l o'
    have hlt : nb < W.heap.size := by
      unfold World.cell? at hu
      cases hh : W.heap[nb]? with
      | none => rw [hh] at hu; cases hu
      | some ob => exact (Array.getElem?_eq_some_iff.1 hh).1
    exact (World.cell?_of_block (hg.block nb hlt (fun e => hne (by injection e)))).trans hu
  · subst he
    unfold World.cell? at hu
    rw [h] at hu
    cases o <;> first | cases hu | cases ho
set_option maxRecDepth 100000 in
set_option maxHeartbeats 4000000 in
theorem combos1_in (F : Fence) (n : Nat) (hf : F.fn 108) (hro : F.round = none) (hn : 1 ≤ n) (l nb N : Nat) (hN : N ≤ 1000) (J Jx : List Lk → World → Prop) (W : World)
    (hY : ∀ pre x W, x.a < N → x.b < N → J pre W → pre.length < (pairsL N).length → YieldAt F (n - 1) Try.prog l #[lkV x] W fun e W' =>
      (e = .returned (.bool true) ∧ J (pre ++ [x]) W' ∧ KpB nb W W') ∨ (e = .returned (.bool false) ∧ Jx (pre ++ [x]) W'))
    (hc : W.cell? ⟨nb, 0, none⟩ = some (.int .i64 N)) (h0 : J [] W) :
    CallsIn F n Try.prog 108 #[.func (.yield l) #[] #[], .pointer (some ⟨nb, 0, none⟩)] W fun e W' => (∃ v, e = .returned v) ∧ (J (pairsL N) W' ∨ ∃ pre, Jx pre W') := by
  refine callsIn_of_wp Try.func108 rfl hf ?_ hro
  simp only [Try.ntmps108, List.size_toArray, List.length_cons, List.length_nil, Nat.reduceAdd, Nat.reduceSub, Array.replicate_succ, Array.replicate_zero, List.push_toArray, List.append_toArray, List.nil_append, List.cons_append]
  gi_wp2
  gi_loopw [7] (fun i wr => ∃ a : Nat, a ≤ N ∧ i = .int .i64 a ∧ J (pairsN N a) wr ∧ Hid (KpB nb W wr)) (fun i _ => N - (intOf i).toNat)
  case atStart => exact ⟨0, Nat.zero_le _, rfl, h0, KpB.refl _ _⟩
  case round =>
    obtain ⟨a, ha, rfl, hJ, hK⟩ := hrel
    by_cases hlt : a < N
    · gi_wp2
      obtain ⟨wo, rfl⟩ : ∃ wo : World, wo = wr := ⟨_, rfl⟩
      gi_loopw [4] (fun i wr => ∃ d b : Nat, d ≤ N - (a + 1) ∧ Hid (b = a + 1 + d) ∧ i = .int .i64 b ∧ J (pairsN N a ++ rowN a d) wr ∧ Hid (KpB nb W wr)) (fun i _ => N - (intOf i).toNat)
      case atStart => exact ⟨0, a + 1, Nat.zero_le _, (rfl : a + 1 = a + 1 + 0), by go_num, by rw [show rowN a 0 = [] from rfl, List.append_nil]; exact hJ, hK⟩
      case round =>
        obtain ⟨d, b, hd, hb, rfl, hJ1, hK1⟩ := hrel
        have e0 := hK1.out _ hc
        by_cases hlt2 : b < N
        · have hd2 : d < N - (a + 1) := by have := hb.out; omega
          gi_wp2
          obtain ⟨wo1, rfl⟩ : ∃ wo1 : World, wo1 = wr := ⟨_, rfl⟩
          clear e0
          gi_loopw [17] (fun i wr => ∃ k : Nat, k ≤ 4 ∧ i = .int .i64 k ∧ J (pairsN N a ++ rowN a d ++ quadN a b k) wr ∧ Hid (KpB nb W wr)) (fun i _ => 4 - (intOf i).toNat)
          case atStart => exact ⟨0, Nat.zero_le _, rfl, by rw [show quadN a b 0 = [] from rfl, List.append_nil]; exact hJ1, hK1⟩
          case round =>
            obtain ⟨k, hk, rfl, hJ2, hK2⟩ := hrel
            by_cases hlt3 : k < 4
            · have hplt := pairs_lt hlt hd2 hlt3
              rw [← hb.out] at hplt
              have hyy := hY _ (lkAt a b k) _ hlt hlt2 hJ2 hplt
              rw [List.append_assoc, show quadN a b k ++ [lkAt a b k] = quadN a b (k + 1) from rfl] at hyy
              have HYY := hide hyy
              clear hyy hplt
              match k, hlt3 with
              | 0, _ =>
                have hyy := HYY.out
                rw [show lkV (lkAt a b 0) = .agg #[.int .i64 a, .int .i64 b, .bool false, .bool false] from rfl] at hyy
                obtain ⟨fn, tmps, assign, body, hy, hR⟩ := hyy
                gi_wp2
                refine hR.mono ?_
                rintro e W3 (⟨rfl, hJ4, hk4⟩ | ⟨rfl, hJx4⟩)
                · gi_wp2
                  go_roundw
                  case rel => exact ⟨1, by omega, by go_num, hJ4, hK2.out.trans hk4⟩
                  case measure => simp [intOf]
                · gi_wp2
                  refine bodyPost_ret (results_none rfl _ _ _) rfl ?_
                  exact ⟨⟨_, rfl⟩, .inr ⟨_, hJx4⟩⟩
              | 1, _ =>
                have hyy := HYY.out
                rw [show lkV (lkAt a b 1) = .agg #[.int .i64 a, .int .i64 b, .bool false, .bool true] from rfl] at hyy
                obtain ⟨fn, tmps, assign, body, hy, hR⟩ := hyy
                gi_wp2
                refine hR.mono ?_
                rintro e W3 (⟨rfl, hJ4, hk4⟩ | ⟨rfl, hJx4⟩)
                · gi_wp2
                  go_roundw
                  case rel => exact ⟨2, by omega, by go_num, hJ4, hK2.out.trans hk4⟩
                  case measure => simp [intOf]
                · gi_wp2
                  refine bodyPost_ret (results_none rfl _ _ _) rfl ?_
                  exact ⟨⟨_, rfl⟩, .inr ⟨_, hJx4⟩⟩
              | 2, _ =>
                have hyy := HYY.out
                rw [show lkV (lkAt a b 2) = .agg #[.int .i64 a, .int .i64 b, .bool true, .bool false] from rfl] at hyy
                obtain ⟨fn, tmps, assign, body, hy, hR⟩ := hyy
                gi_wp2
                refine hR.mono ?_
                rintro e W3 (⟨rfl, hJ4, hk4⟩ | ⟨rfl, hJx4⟩)
                · gi_wp2
                  go_roundw
                  case rel => exact ⟨3, by omega, by go_num, hJ4, hK2.out.trans hk4⟩
                  case measure => simp [intOf]
                · gi_wp2
                  refine bodyPost_ret (results_none rfl _ _ _) rfl ?_
                  exact ⟨⟨_, rfl⟩, .inr ⟨_, hJx4⟩⟩
              | 3, _ =>
                have hyy := HYY.out
                rw [show lkV (lkAt a b 3) = .agg #[.int .i64 a, .int .i64 b, .bool true, .bool true] from rfl] at hyy
                obtain ⟨fn, tmps, assign, body, hy, hR⟩ := hyy
                gi_wp2
                refine hR.mono ?_
                rintro e W3 (⟨rfl, hJ4, hk4⟩ | ⟨rfl, hJx4⟩)
                · gi_wp2
                  go_roundw
                  case rel => exact ⟨4, by omega, by go_num, hJ4, hK2.out.trans hk4⟩
                  case measure => simp [intOf]
                · gi_wp2
                  refine bodyPost_ret (results_none rfl _ _ _) rfl ?_
                  exact ⟨⟨_, rfl⟩, .inr ⟨_, hJx4⟩⟩
            · gi_wp2
              go_roundw
              case rel =>
                refine ⟨d + 1, b + 1, by omega, (by have := hb.out; show b + 1 = a + 1 + (d + 1); omega), by go_num, ?_, hK2⟩
                obtain rfl : k = 4 := by omega
                show J (pairsN N a ++ (rowN a d ++ quadN a (a + 1 + d) 4)) _
                rw [← List.append_assoc, ← hb.out]
                exact hJ2
              case measure => simp [intOf]; omega
        · gi_wp2
          go_roundw
          case rel =>
            refine ⟨a + 1, by omega, by go_num, ?_, hK1⟩
            obtain rfl : d = N - (a + 1) := by have := hb.out; omega
            exact hJ1
          case measure => simp [intOf]; omega
    · obtain rfl : a = N := by omega
      gi_wp2
      refine bodyPost_end (results_none rfl _ _ _) rfl ?_
      exact ⟨⟨_, rfl⟩, .inl hJ⟩
abbrev LkN (N : Nat) := { x : Lk // x.a < N ∧ x.b < N }
def lks {N : Nat} (l : List (LkN N)) : List Lk := l.map (·.1)
theorem lks_snoc {N : Nat} (l : List (LkN N)) (x : LkN N) : lks (l ++ [x]) = lks l ++ [x.1] := by simp [lks]
theorem lks_len {N : Nat} (l : List (LkN N)) : (lks l).length = l.length := by simp [lks]
theorem combos_stops (n : Nat) (hn : 1 ≤ n) (nb N : Nat) (hN : N ≤ 1000) (w : World) (hnb : nb < w.heap.size) (hc : w.cell? ⟨nb, 0, none⟩ = some (.int .i64 N)) :
    SeqStopsK Fence.wide n Try.prog 108 #[.pointer (some ⟨nb, 0, none⟩)] (fun x : LkN N => #[lkV x.1]) (KpB nb) (fun xs => lks xs = pairsL N) (fun _ => True) (pairsL N).length w := by
  intro l J Jx W hW hJ hJx hY h0
  refine (combos1_in Fence.wide n trivial rfl hn l nb N hN (fun pre W => ∃ p : List (LkN N), lks p = pre ∧ J p W) (fun pre W => ∃ p : List (LkN N), lks p = pre ∧ Jx p W) W ?_ ((hW.cell (p := ⟨nb, 0, none⟩) hnb).trans hc) ⟨[], rfl, h0⟩).mono ?_
  · rintro pre x W1 ha hb ⟨p, rfl, hs⟩ hlen
    obtain ⟨fn, tmps, assign, body, hy, hR⟩ := hY p ⟨x, ha, hb⟩ W1 hs (by rw [← lks_len]; exact hlen)
    refine ⟨fn, tmps, assign, body, hy, hR.mono ?_⟩
    rintro e W' (⟨he, hj, hk⟩ | ⟨he, hj⟩)
    · exact .inl ⟨he, ⟨p ++ [⟨x, ha, hb⟩], lks_snoc _ _, hj⟩, hk⟩
    · exact .inr ⟨he, ⟨p ++ [⟨x, ha, hb⟩], lks_snoc _ _, hj⟩⟩
  · rintro e W' ⟨he, ⟨p, hp, hj⟩ | ⟨pre, p, hp, hj⟩⟩
    · exact ⟨he, .inl ⟨p, hp, hj⟩⟩
    · exact ⟨he, .inr ⟨p, trivial, hj⟩⟩
set_option maxRecDepth 100000 in
theorem combos_any (N : Nat) (w : World) :
    Calls Try.prog 88 #[.int .i64 N] w fun e w' => e = .returned (.func (.func 108) #[] #[.pointer (some ⟨w.heap.size, 0, none⟩)]) ∧ w' = w.alloc (.cells #[.int .i64 N] 3) := by
  go_enter Try.func88, Try.ntmps88
  go_wp2
  go_ret
  exact ⟨rfl, rfl⟩
end Go.Proofs.Ytohofcmikfkilaa
/- Combinations that no variant has: walk. -/
namespace Go.Proofs.Ytohofcmikfkilaa
open Go.RowKit Go.Shelf
attribute [local go_sem] Oper.semAt_some
set_option linter.unusedVariables false
set_option linter.unusedSimpArgs false
/-- The rules' forest, and how large it is. -/
structure FoR (m : Mo) (w W : World) (F : Fo) (n K : Nat) : Prop where
  here : FoAt W F
  N : F.N = m.opts.length
  base : w.heap.size ≤ F.base
  below : Below w.heap.size w W
  base2 : F.base ≤ W.heap.size
  lt : n < F.ks.length
  ev : ∀ v, ev F.ks v n = allF v m.rules
  len : F.ks.length ≤ 2 + K * 2 ^ F.N
  nj : F.nj ≤ K * 2 ^ F.N
theorem BegR.for {m : Mo} {w W : World} {F : Fo} {n : Nat} (h : BegR m w W F n) : FoR m w W F n 6120 := ⟨h.here, h.N, h.base, h.below, h.base2, h.lt, h.ev, h.len, h.nj⟩
theorem FoR.room {m : Mo} {w W : World} {F : Fo} {n K k : Nat} (h : FoR m w W F n K) (hN : m.opts.length ≤ 12) (hk : K + k ≤ 200000) : Room F k := by
  have h1 := h.len
  have h2 := h.nj
  have h3 : 2 ^ F.N ≤ 2 ^ 12 := Nat.pow_le_pow_right (by omega) (by rw [h.N]; exact hN)
  have h4 : (K + k) * 2 ^ F.N ≤ 200000 * 2 ^ 12 := Nat.mul_le_mul hk h3
  rw [Nat.add_mul] at h4
  have h5 : (200000 : Nat) * 2 ^ 12 = 819200000 := rfl
  exact ⟨by omega, by omega⟩
theorem FoR.op {m : Mo} {w W W' : World} {F F' : Fo} {n K k : Nat} (h : FoR m w W F n K) (r : OpR k W F W' F') : FoR m w W' F' n (K + k) := by
  have h1 := r.len
  have h2 := r.nj
  have h3 := h.len
  have h4 := h.nj
  refine ⟨r.st.here, r.st.N.trans h.N, by rw [r.st.ba]; exact h.base, ?_, by rw [r.st.ba]; exact Nat.le_trans h.base2 r.st.keep.size, Nat.lt_of_lt_of_le h.lt r.st.le, fun v => by rw [r.st.ev h.here.wf h.lt, h.ev], ?_, ?_⟩
  · have hb := r.st.keep.below (B := w.heap.size) h.below.size (fun k hk => Nat.le_trans h.base (h.here.sbase hk))
    exact ⟨hb.os.trans h.below.os, hb.tape.trans h.below.tape, hb.output.trans h.below.output, Nat.le_trans h.below.size hb.size, fun k hk => (hb.block k hk).trans (h.below.block k hk)⟩
  · rw [r.st.N, Nat.add_mul]; omega
  · rw [r.st.N, Nat.add_mul]; omega
theorem FoR.kept {m : Mo} {w W W' : World} {F : Fo} {n K : Nat} {T : Nat → Prop} (h : FoR m w W F n K) (hk : Keeps T W W') (hT : ∀ i, T i → w.heap.size ≤ i) (hn : ∀ i, SF F i → ¬ T i) : FoR m w W' F n K := by
  refine ⟨h.here.keeps hk hn, h.N, h.base, ?_, Nat.le_trans h.base2 hk.size, h.lt, h.ev, h.len, h.nj⟩
  have hb := hk.below (B := w.heap.size) h.below.size hT
  exact ⟨hb.os.trans h.below.os, hb.tape.trans h.below.tape, hb.output.trans h.below.output, Nat.le_trans h.below.size hb.size, fun k hk => (hb.block k hk).trans (h.below.block k hk)⟩
theorem FoAt.kbc {w : World} {F : Fo} (h : FoAt w F) : ∃ cs fr, w.heap[F.kb]? = some (.cells cs 135 fr) := by
  obtain ⟨_, ⟨h4, _⟩ | ⟨g, cp, cur, h4, _, h5, _⟩⟩ := h.row
  · cases h4
  · injection h4 with h4 _ _
    injection h4 with h4
    injection h4 with h4 _ _
    subst h4
    exact ⟨_, _, h5⟩
/-- What is neither a forest's box nor its knots is none of its blocks. -/
theorem FoAt.notSF {w : World} {F : Fo} {b t : Nat} {cs : Array Value} {fr : Nat × Nat} (h : FoAt w F) (hb : w.heap[b]? = some (.cells cs t fr)) (h1 : t ≠ 99) (h2 : t ≠ 135) : ¬ SF F b := by
  rintro (e | e | e | e) <;> subst e
  · have h3 := h.box
    rw [hb] at h3
    injection h3 with h3
    injection h3 with _ h3
    exact h1 h3
  · obtain ⟨e1, c1, h3⟩ := h.known.obj
    rw [hb] at h3
    injection h3 with h3
    cases h3
  · obtain ⟨e1, c1, h3⟩ := h.joined.obj
    rw [hb] at h3
    injection h3 with h3
    cases h3
  · obtain ⟨cs', fr', h3⟩ := h.kbc
    rw [hb] at h3
    injection h3 with h3
    injection h3 with _ h3
    exact h2 h3
/-- A turn of what is no cells, beyond the forest's maps, leaves the forest. -/
theorem FoAt.far {w : World} {F : Fo} {B : Nat} {row : Option Nat} (h : FoAt w F) (hb : F.bk < B ∧ F.bj < B) (hr : ∀ r, row = some r → B ≤ r ∧ ∃ o : Obj, w.heap[r]? = some o ∧ o.isCells = false) : ∀ i, SF F i → ¬ row = some i := by
  intro i hi e
  obtain ⟨h1, o, h2, h3⟩ := hr i e
  rcases hi with e2 | e2 | e2 | e2
  · subst e2; rw [h.box] at h2; injection h2 with h2; subst h2; cases h3
  · omega
  · omega
  · subst e2
    obtain ⟨cs', fr', h4⟩ := h.kbc
    rw [h4] at h2; injection h2 with h2; subst h2; cases h3
theorem lit_for {m : Mo} {w W w2 : World} {F F1 : Fo} {n K k o : Nat} {b : Bool} (h : FoR m w W F n K) (hN : m.opts.length ≤ 12) (r : OpR k W F w2 F1) (hk : K + (k + 1) ≤ 200000) (ho : o < m.opts.length) :
    Calls Try.prog 89 #[.pointer (some ⟨F.p, 0, none⟩), .int .i64 o, .bool b] w2
      fun e w' => ∃ g F', e = .returned (.int .i64 (g : Nat)) ∧ OpR (k + 1) W F w' F' ∧ OpR 1 w2 F1 w' F' ∧ g < F'.ks.length ∧ ∀ v, ev F'.ks v g = (v o == b) := by
  have hc := literal_any F1 o b w2 r.st.here (by rw [r.st.N, h.N]; exact ho) (h.room hN hk |>.step r)
  rw [r.st.p] at hc
  refine hc.mono ?_
  rintro e w' ⟨g, F', rfl, r1, r2, r3⟩
  exact ⟨g, F', rfl, r.trans r1, r1, r2, r3⟩
theorem and_for {m : Mo} {w W w2 : World} {F F1 : Fo} {n K k : Nat} {l : List Nat} (h : FoR m w W F n K) (hN : m.opts.length ≤ 12) (r : OpR k W F w2 F1) (hk : K + (k + 4) ≤ 200000) (hl : l.length ≤ 4) (hln : ∀ x ∈ l, x < F1.ks.length) :
    Calls Try.prog 73 #[.pointer (some ⟨F.p, 0, none⟩), .slice (some ⟨w2.heap.size, 0, none⟩) l.length l.length] (w2.alloc (.cells (l.map fun (n : Nat) => Value.int .i64 n).toArray 3))
      fun e w' => ∃ g F', e = .returned (.int .i64 (g : Nat)) ∧ OpR (k + 4) W F w' F' ∧ OpR 4 w2 F1 w' F' ∧ g < F'.ks.length ∧ ∀ v, ev F'.ks v g = l.all (fun x => ev F1.ks v x) := by
  have hB : Below w2.heap.size w2 (w2.alloc (.cells (l.map fun (n : Nat) => Value.int .i64 n).toArray 3)) := (Below.refl _ _).alloc (Nat.le_refl _) _
  have hc := and_any F1 w2.heap.size l _ (r.st.here.below hB) hln (heap_new _ _ _ rfl) (fun e => by have := r.st.here.slt e; omega) (by omega) ((h.room hN hk |>.step r).mono hl)
  rw [r.st.p] at hc
  refine hc.mono ?_
  rintro e w' ⟨g, F', rfl, r1, r2, r3⟩
  have r4 : OpR 4 w2 F1 w' F' := (OpR.after_below r.st.here hB r1).mono hl
  exact ⟨g, F', rfl, r.trans r4, r4, r2, r3⟩
theorem RStk.kept {e sz B n : Nat} {xs : List Value} {w w' : World} {F : Fo} {sv : Value} (h : RStk e sz B w F sv n xs) (hk : ∀ b, sv.ownBlock = some b → w'.heap[b]? = w.heap[b]?) : RStk e sz B w' F sv n xs := by
  refine ⟨⟨h.1.1, ?_⟩, h.2⟩
  rcases h.1.2 with hn | ⟨g, cap, cur, rfl, q4, q5, q6⟩
  · exact .inl hn
  · exact .inr ⟨g, cap, cur, rfl, q4, (hk g rfl).trans q5, q6⟩
theorem RStk.cellsOf {e sz B n : Nat} {xs : List Value} {w : World} {F : Fo} {sv : Value} (h : RStk e sz B w F sv n xs) {b : Nat} (hb : sv.ownBlock = some b) : ∃ cs fr, w.heap[b]? = some (.cells cs e fr) := by
  rcases h.1.2 with ⟨h1, _⟩ | ⟨g, cap, cur, rfl, q4, q5, q6⟩
  · rw [h1] at hb; cases hb
  · injection hb with hb; subst hb; exact ⟨_, _, q5⟩
def lksL (L : List Lk) : List Value := L.flatMap fun x => [.int .i64 x.a, .int .i64 x.b, .bool x.wa, .bool x.wb]
theorem lksL_snoc (L : List Lk) (x : Lk) : lksL (L ++ [x]) = lksL L ++ [.int .i64 x.a, .int .i64 x.b, .bool x.wa, .bool x.wb] := by simp [lksL]
def lkF (x : Lk) (j : Nat) : Value := match j with
  | 0 => .int .i64 x.a
  | 1 => .int .i64 x.b
  | 2 => .bool x.wa
  | _ => .bool x.wb
theorem lksL_get : ∀ (L : List Lk) (i j : Nat), i < L.length → j < 4 → (lksL L)[i * 4 + j]? = some (lkF (L.getD i Lk.z) j)
  | [], i, _, h, _ => by simp at h
  | x :: L, 0, j, _, hj => by
    have h : lksL (x :: L) = [.int .i64 x.a, .int .i64 x.b, .bool x.wa, .bool x.wb] ++ lksL L := rfl
    rw [h, Nat.zero_mul, Nat.zero_add, List.getElem?_append_left (by simpa using hj)]
    match j, hj with
    | 0, _ => rfl
    | 1, _ => rfl
    | 2, _ => rfl
    | 3, _ => rfl
  | x :: L, i + 1, j, hi, hj => by
    have h : lksL (x :: L) = [.int .i64 x.a, .int .i64 x.b, .bool x.wa, .bool x.wb] ++ lksL L := rfl
    rw [h, List.getElem?_append_right (by simp; omega), List.getD_cons_succ, ← lksL_get L i j (by simpa using hi) hj]
    congr 1
    simp
    omega
/-- A list of combinations in memory. -/
def Lks (w : World) (B : Nat) (v : Value) (L : List Lk) : Prop := Sl w B 4 v L.length (fun i j => lkF (L.getD i Lk.z) j)
theorem Lks.of_own {w : World} {base : Nat} {v : Value} {L : List Lk} (h : w.ownsRow base 77 4 v L.length (lksL L)) : Lks w w.heap.size v L := Sl.of_owns h fun i j hi hj => lksL_get L i j hi hj
theorem Lks.up {w w' : World} {v : Value} {L : List Lk} (h : Lks w w.heap.size v L) (hb : Below w.heap.size w w') : Lks w' w'.heap.size v L := Sl.up h hb
/-- Combinations and an error. -/
def MisP (L : List Lk) (er : Int) (w : World) (e : Ending) (w' : World) : Prop := ∃ v, e = .returned (.tuple #[v, .int .i64 er]) ∧ Lks w' w'.heap.size v L ∧ Below w.heap.size w w'
theorem infoLack : (Try.prog.info? 77).map (fun i => (i.zero, i.size, i.bytes)) = some (some (.agg #[.int .i64 0, .int .i64 0, .bool false, .bool false]), 4, 24) := by kernel_rfl
/-- Between two combinations: the forest, the program's own variables, what is missing so far. -/
structure MisI (m : Mo) (w : World) (B s fp n K : Nat) (L : List Lk) (W : World) (F : Fo) (ov : Value) : Prop where
  fo : FoR m w W F n K
  p : F.p = fp
  mp : F.bk < B ∧ F.bj < B
  out : W.heap[w.heap.size + 1]? = some (.cells #[ov] 73 (0, 0))
  c4 : W.heap[s]? = some (.cells #[.pointer (some ⟨fp, 0, none⟩)] 86 (0, 0))
  c5 : W.heap[s + 1]? = some (.cells #[.int .i64 n] 3 (0, 0))
  c6 : W.heap[s + 2]? = some (.cells #[.int .i64 m.opts.length] 3 (0, 0))
  row : RStk 77 4 B W F ov L.length (lksL L)
  sz : B ≤ W.heap.size
theorem MisI.turn {m : Mo} {w X Y : World} {B s fp n K : Nat} {L : List Lk} {F : Fo} {ov : Value} {row : Option Nat} (h : MisI m w B s fp n K L X F ov) (hg : X.grownBy Y row) (hr : ∀ r, row = some r → B ≤ r ∧ ∃ o : Obj, X.heap[r]? = some o ∧ o.isCells = false) (hw : w.heap.size ≤ B) : MisI m w B s fp n K L Y F ov := by
  have hc : ∀ (b : Nat) (cs : Array Value) (t : Nat) (fr : Nat × Nat), X.heap[b]? = some (Obj.cells cs t fr) → Y.heap[b]? = some (Obj.cells cs t fr) := fun b cs t fr hb => (hg.block b (Array.getElem?_eq_some_iff.1 hb).1 (fun e => by
    obtain ⟨_, o, h2, h3⟩ := hr b e.symm
    rw [hb] at h2
    injection h2 with h2
    subst h2
    cases h3)).trans hb
  refine ⟨h.fo.kept (T := fun i => row = some i) (Keeps.of_grown hg fun k e => e) (fun i e => Nat.le_trans hw (hr i e).1) (h.fo.here.far h.mp hr), h.p, h.mp, hc _ _ _ _ h.out, hc _ _ _ _ h.c4, hc _ _ _ _ h.c5, hc _ _ _ _ h.c6, h.row.kept fun b hb => ?_, Nat.le_trans h.sz hg.size⟩
  obtain ⟨cs, fr, h1⟩ := h.row.cellsOf hb
  exact (hc _ _ _ _ h1).trans h1.symm
theorem MisI.op {m : Mo} {w W W' : World} {B s fp n K k : Nat} {L : List Lk} {F F' : Fo} {ov : Value} (h : MisI m w B s fp n K L W F ov) (r : OpR k W F W' F') : MisI m w B s fp n (K + k) L W' F' ov := by
  have hc : ∀ (b : Nat) (cs : Array Value) (t : Nat) (fr : Nat × Nat), W.heap[b]? = some (Obj.cells cs t fr) → t ≠ 99 → t ≠ 135 → W'.heap[b]? = some (Obj.cells cs t fr) := fun b cs t fr hb h1 h2 =>
    (r.st.keep.block b (Array.getElem?_eq_some_iff.1 hb).1 (h.fo.here.notSF hb h1 h2)).trans hb
  exact ⟨h.fo.op r, r.st.p.trans h.p, by rw [r.st.bk, r.st.bj]; exact h.mp, hc _ _ _ _ h.out (by decide) (by decide), hc _ _ _ _ h.c4 (by decide) (by decide), hc _ _ _ _ h.c5 (by decide) (by decide), hc _ _ _ _ h.c6 (by decide) (by decide), h.row.step r.st, Nat.le_trans h.sz r.st.keep.size⟩
theorem KeepsFrom.of_keeps {S : Nat → Prop} {B : Nat} {W W' : World} (h : Keeps S W W') (hS : ∀ (k : Nat) (o : Obj), B ≤ k → S k → W.heap[k]? = some o → o.isCells = false → False) : KeepsFrom B W W' :=
  ⟨h.size, fun k o hB hk ho => (h.block k (Array.getElem?_eq_some_iff.1 hk).1 (fun hs => hS k o hB hs hk ho)).trans hk⟩
theorem SF.cells {W : World} {F : Fo} {B k : Nat} {o : Obj} (h : FoAt W F) (hm : F.bk < B ∧ F.bj < B) (hB : B ≤ k) (hs : SF F k) (hk : W.heap[k]? = some o) (ho : o.isCells = false) : False := by
  rcases hs with e | e | e | e
  · subst e; rw [h.box] at hk; injection hk with hk; subst hk; cases ho
  · omega
  · omega
  · subst e
    obtain ⟨cs', fr', h4⟩ := h.kbc
    rw [h4] at hk; injection hk with hk; subst hk; cases ho
theorem MisI.app {m : Mo} {w W w1 : World} {B s fp n K : Nat} {L : List Lk} {F : Fo} {ov v1 : Value} {o : Obj} {x : Lk} (h : MisI m w B s fp n K L W F ov)
    (hown : w1.ownsRow B 77 4 v1 (L.length + 1) (lksL L ++ [.int .i64 x.a, .int .i64 x.b, .bool x.wa, .bool x.wb])) (hg : (W.alloc o).grownBy w1 ov.ownBlock) (hat : v1.ownBlock = ov.ownBlock ∨ v1.ownBlock = some (W.alloc o).heap.size) (hs : w.heap.size + 1 < s) (hB : s + 2 < B) :
    MisI m w B s fp n K (L ++ [x]) (w1.setCell ⟨w.heap.size + 1, 0, none⟩ v1) F v1 ∧ Keeps (fun i => ov.ownBlock = some i ∨ i = w.heap.size + 1) W (w1.setCell ⟨w.heap.size + 1, 0, none⟩ v1) := by
  obtain ⟨h1, h2⟩ := h.row.push h.fo.here hown hg hat
  have h3 : Keeps (fun i => ov.ownBlock = some i ∨ i = w.heap.size + 1) W (w1.setCell ⟨w.heap.size + 1, 0, none⟩ v1) := (h2.mono fun i _ hi => .inl hi).setCell (.inl (.inr rfl)) v1
  have hlo : ∀ i, ov.ownBlock = some i → B ≤ i := fun i hi => (h.row.1.lt i hi).1
  have hc : ∀ (b : Nat) (cs : Array Value) (t : Nat) (fr : Nat × Nat), b < B → b ≠ w.heap.size + 1 → W.heap[b]? = some (Obj.cells cs t fr) → (w1.setCell ⟨w.heap.size + 1, 0, none⟩ v1).heap[b]? = some (Obj.cells cs t fr) := fun b cs t fr hb hne hx =>
    (h3.block b (Array.getElem?_eq_some_iff.1 hx).1 (fun e => by
      rcases e with e | e
      · have := hlo b e; omega
      · exact hne e)).trans hx
  have ho1 : w1.heap[w.heap.size + 1]? = some (.cells #[ov] 73 (0, 0)) := (h2.block _ (Array.getElem?_eq_some_iff.1 h.out).1 (fun e => by have := hlo _ e; omega)).trans h.out
  refine ⟨⟨h.fo.kept h3 (fun i e => ?_) (fun i hi e => ?_), h.p, h.mp, setCellOf (i := 0) ho1 v1, hc _ _ _ _ (by omega) (by omega) h.c4, hc _ _ _ _ (by omega) (by omega) h.c5, hc _ _ _ _ (by omega) (by omega) h.c6, ?_, Nat.le_trans h.sz h3.size⟩, h3⟩
  · rcases e with e | e
    · have := hlo i e; omega
    · omega
  · rcases e with e | e
    · exact h.row.2 i e hi
    · subst e; exact h.fo.here.notSF h.out (by decide) (by decide) hi
  · rw [List.length_append, lksL_snoc]
    exact h1.kept fun b hb => Below.heap_setCell w1 ⟨w.heap.size + 1, 0, none⟩ v1 b (fun e => by
      have h4 := (h1.1.lt b hb).1
      have h5 : b = w.heap.size + 1 := e
      omega)
end Go.Proofs.Ytohofcmikfkilaa
/- Combinations that no variant has: walk of the whole. -/
namespace Go.Proofs.Ytohofcmikfkilaa
open Go.RowKit Go.Shelf
attribute [local go_sem] Oper.semAt_some
set_option linter.unusedVariables false
set_option linter.unusedSimpArgs false
set_option maxRecDepth 100000 in
set_option maxHeartbeats 8000000 in
theorem Missing_ok (m : Mo) (ov rv : Value) (w : World) (hs : SizedM m) (h : MoAt w w.heap.size ov rv m) (he : m.err = 0) (hN : m.opts.length ≤ 12) :
    Calls Try.prog 51 #[.agg #[ov, rv]] w (MisP (misL m) 0 w) := by
  obtain ⟨i0, hi0, iz0, iz1, iz2⟩ := info_parts infoLack
  obtain ⟨A, cap, hov⟩ := Sl.form h.o
  obtain ⟨Ar, capr, hrv⟩ := h.r.form
  have H := hide h
  have HE := hide he
  have HML := hide (mis_ok he)
  subst hov hrv
  have hB2 : Below w.heap.size w ((w.alloc (.cells #[.slice A m.opts.length cap, .slice Ar m.rules.length capr] 25)).alloc (.cells #[.slice none 0 0] 73)) := (by repeat (first | exact Below.refl _ _ | assumption | refine Below.drew ?_ | refine Below.drewN ?_ _ | refine Below.allocT ?_ (Nat.le_refl _) _ | refine Below.setCell ?_ (by simp <;> omega) _ | refine Below.to ?_ (by assumption) (Nat.le_refl _)))
  have hbe := begin_ok m [] (.slice A m.opts.length cap) (.slice Ar m.rules.length capr) (.slice none 0 0) _ hs sized_nil (h.up hB2) (Forms.none _ _) (by rw [errF_nil]; exact he) hN
  have hbox0 : ((w.alloc (.cells #[.slice A m.opts.length cap, .slice Ar m.rules.length capr] 25)).alloc (.cells #[.slice none 0 0] 73)).heap[w.heap.size]? = some (.cells #[.slice A m.opts.length cap, .slice Ar m.rules.length capr] 25 (0, 0)) := by rw [heap_old _ _ _ (by simp), heap_new _ _ _ rfl]
  have hbox1 : ((w.alloc (.cells #[.slice A m.opts.length cap, .slice Ar m.rules.length capr] 25)).alloc (.cells #[.slice none 0 0] 73)).heap[w.heap.size + 1]? = some (.cells #[.slice none 0 0] 73 (0, 0)) := by rw [heap_new _ _ _ (by simp)]
  have HBX := hide (And.intro hbox0 hbox1)
  have HBE := hide hbe
  clear h he hbe hB2 hbox0 hbox1 hs
  refine (callsIn_wide (n := 5)).1 ?_
  refine callsIn_of_wp_marks Try.func51 rfl trivial ?_ rfl
  simp only [Try.ntmps51, List.size_toArray, List.length_cons, List.length_nil, Nat.reduceAdd, Nat.reduceSub, Array.replicate_succ, Array.replicate_zero, List.push_toArray, List.append_toArray, List.nil_append, List.cons_append]
  gi_wp2_with (first | (refine ⟨trivial, ?_⟩; gi_at_call 60; refine (callsIn_wide.2 HBE.out).mono ?_; rintro e w1 ⟨F, n, rfl, r1⟩; have HX1 : Hid (w1.heap[w.heap.size]? = some (.cells #[.slice A m.opts.length cap, .slice Ar m.rules.length capr] 25 (0, 0))) := (r1.below.block _ (by simp <;> omega)).trans HBX.out.1; have HO1 : Hid (w1.heap[w.heap.size + 1]? = some (.cells #[.slice none 0 0] 73 (0, 0))) := (r1.below.block _ (by simp)).trans HBX.out.2; have HSL1 : Hid (w.heap.size + 2 ≤ F.base) := (by have := r1.base; simp at this; show _ ≤ _; omega); have R1 : Hid (BegR m w w1 F n) := r1.of (by repeat (first | exact Below.refl _ _ | assumption | refine Below.drew ?_ | refine Below.drewN ?_ _ | refine Below.allocT ?_ (Nat.le_refl _) _ | refine Below.setCell ?_ (by simp <;> omega) _ | refine Below.to ?_ (by assumption) (Nat.le_refl _))); have c0 := cellOf HX1.out 0; have hbx1 : w.heap.size < w1.heap.size := box_lt HX1.out; clear r1) | (refine ⟨trivial, ?_⟩; gi_at_call 88; refine (callsIn_wide.2 (combos_any _ _)).mono ?_; rintro e w' ⟨rfl, rfl⟩))
  obtain ⟨W0, hW0⟩ : ∃ W0 : World, ((w1.alloc (.cells #[.pointer (some ⟨F.p, 0, none⟩)] 86)).alloc (.cells #[.int .i64 n] 3)).alloc (.cells #[.int .i64 m.opts.length] 3) = W0 := ⟨_, rfl⟩
  obtain ⟨q4, q5, q6, hB0, hsz0⟩ := alloc3 hW0
  rw [hW0]
  clear hW0
  have hF0 : FoR m w W0 F n 6120 := R1.out.for.kept (T := fun _ => False) (Keeps.of_below hB0) (fun i h => h.elim) (fun i _ h => h)
  have hmp : F.bk < W0.heap.size ∧ F.bj < W0.heap.size := ⟨hF0.here.slt (.inr (.inl rfl)), hF0.here.slt (.inr (.inr (.inl rfl)))⟩
  have hout : W0.heap[w.heap.size + 1]? = some (.cells #[.slice none 0 0] 73 (0, 0)) := (hB0.block _ (box_lt HO1.out)).trans HO1.out
  have hs1 : w.heap.size + 1 < w1.heap.size := box_lt HO1.out
  have hI0 : MisI m w W0.heap.size w1.heap.size F.p n 6120 [] W0 F (.slice none 0 0) := ⟨hF0, rfl, hmp, hout, q4, q5, q6, ⟨World.ownsRow_nil _ _ _ _, fun b hb => (by cases hb)⟩, Nat.le_refl _⟩
  have hn6 : w1.heap.size + 2 < W0.heap.size := by omega
  have hwW : w.heap.size ≤ W0.heap.size := by omega
  have hnb : W0.cell? ⟨w1.heap.size + 2, 0, none⟩ = some (.int .i64 m.opts.length) := cellOf q6 0
  have HI0 := hide hI0
  clear q4 q5 q6 hB0 hF0 hmp hout hI0 c0
  refine wpIn_rangeFunc_ownH rfl (by omega) (gf := 108) (lb := #[.pointer (some ⟨w1.heap.size + 2, 0, none⟩)]) rfl trivial (enters_of Try.func108 (by kernel_rfl) rfl)
    (combos_stops (5 - 1) (by omega) (w1.heap.size + 2) m.opts.length (by omega) W0 hn6 hnb)
    (fun h k => h.trans k) (fun W l o o' _ h1 h2 _ => KpB.putObj W l o o' h1 h2) (Below.refl _ _) (fun _ => rfl)
    (fun pre W => ∃ F1 ov1, MisI m w W0.heap.size w1.heap.size F.p n (6120 + 6 * pre.length) ((lks pre).filter (lackB m)) W F1 ov1)
    (fun _ _ _ => False)
    (fun s X Y row ⟨F1, ov1, hi⟩ hg hr => ⟨F1, ov1, hi.turn hg hr hwW⟩)
    (fun c s X Y row h _ _ => h.elim)
    ⟨F, _, HI0.out⟩
    (fun x a' W => ∃ Bx : Nat, W0.heap.size ≤ Bx ∧ W.heap[Bx]? = some (.cells #[.int .i64 x.1.a, .int .i64 x.1.b, .bool x.1.wa, .bool x.1.wb] 77 (0, 0)) ∧ a' = { tmps := #[.agg #[.slice A m.opts.length cap, .slice Ar m.rules.length capr], .pointer (some ⟨w.heap.size, 0, none⟩), .pointer (some ⟨w.heap.size + 1, 0, none⟩), .int .i64 0, .pointer (some ⟨w1.heap.size, 0, none⟩), .pointer (some ⟨w1.heap.size + 1, 0, none⟩), .pointer (some ⟨Bx, 0, none⟩), .tuple #[.pointer (some ⟨F.p, 0, none⟩), .int .i64 n, .int .i64 0], .agg #[.slice A m.opts.length cap, .slice Ar m.rules.length capr], .tuple #[.pointer (some ⟨F.p, 0, none⟩), .int .i64 n, .int .i64 0], .pointer (some ⟨F.p, 0, none⟩), .int .i64 n, .int .i64 0, .int .i64 0, .bool false, undef, .pointer (some ⟨w.heap.size, 0, none⟩), .slice A m.opts.length cap, .int .i64 m.opts.length, .func (.func 108) #[] #[.pointer (some ⟨w1.heap.size + 1 + 1, 0, none⟩)], .agg #[.int .i64 x.1.a, .int .i64 x.1.b, .bool x.1.wa, .bool x.1.wb], undef, undef, undef, undef, undef, undef, undef, undef, undef, undef, undef, undef, undef, undef, undef, undef, undef, undef, undef, undef, undef, undef], defers := [] })
    (fun x a' _ X Y row ⟨Bx, h1, h2, h3⟩ hg hr => ⟨Bx, h1, (hg.block Bx (Array.getElem?_eq_some_iff.1 h2).1 (fun e => by
      obtain ⟨_, o, h4, h5⟩ := hr Bx e.symm
      rw [h2] at h4
      injection h4 with h4
      subst h4
      cases h5)).trans h2, h3⟩) ?assign ?body ?done ?stop
  case assign =>
    rintro l pre ⟨⟨xa, xb, xwa, xwb⟩, hxa, hxb⟩ W K ⟨F1, ov1, hi⟩ hK
    have HK := hide hK
    have HI := hide hi
    clear hK hi
    simp only [lkV]
    gi_wp2
    refine HK.out _ _ ((KeepsOthers.alloc _ _).from _) (KpB.alloc _ _ _) ⟨F1, ov1, HI.out.turn (World.grownBy_alloc _ _ none) (fun r e => by cases e) hwW⟩ ⟨W.heap.size, HI.out.sz, heap_new _ _ _ rfl, rfl⟩
  case body =>
    rintro l pre ⟨⟨xa, xb, xwa, xwb⟩, hxa, hxb⟩ a' W hl hrec ⟨F1, ov1, hi⟩ ⟨Bx, hBx, hbx, rfl⟩ hlen
    have HI := hide hi
    have hbx : W.heap[Bx]? = some (.cells #[.int .i64 xa, .int .i64 xb, .bool xwa, .bool xwb] 77 (0, 0)) := hbx
    dsimp only
    have c2 := cellOf hi.out 0
    have c4 := cellOf hi.c4 0
    have c5 := cellOf hi.c5 0
    have x0 := cellOf hbx 0
    have x1 := cellOf hbx 1
    have x2 := cellOf hbx 2
    have x3 := cellOf hbx 3
    have l2 : w.heap.size + 1 < W.heap.size := box_lt hi.out
    have l4 : w1.heap.size < W.heap.size := box_lt hi.c4
    have l5 : w1.heap.size + 1 < W.heap.size := box_lt hi.c5
    have lx : Bx < W.heap.size := box_lt hbx
    have n2 : ¬ SF F1 (w.heap.size + 1) := hi.fo.here.notSF hi.out (by decide) (by decide)
    have n4 : ¬ SF F1 w1.heap.size := hi.fo.here.notSF hi.c4 (by decide) (by decide)
    have n5 : ¬ SF F1 (w1.heap.size + 1) := hi.fo.here.notSF hi.c5 (by decide) (by decide)
    have nx : ¬ SF F1 Bx := hi.fo.here.notSF hbx (by decide) (by decide)
    have hxa' : xa < m.opts.length := hxa
    have hxb' : xb < m.opts.length := hxb
    have hlen2 : pre.length ≤ 576 := by have := pairs_len hN; omega
    have r0 : OpR 0 W F1 W.drew F1 := (OpR.refl hi.fo.here 0).then_below (by repeat (first | exact Below.refl _ _ | assumption | refine Below.drew ?_ | refine Below.drewN ?_ _ | refine Below.allocT ?_ (Nat.le_refl _) _ | refine Below.setCell ?_ (by simp <;> omega) _ | refine Below.to ?_ (by assumption) (Nat.le_refl _)))
    have hla := lit_for (o := xa) (b := xwa) hi.fo hN r0 (by omega) hxa'
    rw [hi.p] at hla
    have hlb : ∀ (w2 : World) (F2 : Fo), OpR 1 W F1 w2 F2 → _ := fun w2 F2 r => lit_for (o := xb) (b := xwb) hi.fo hN r (by omega) hxb'
    rw [hi.p] at hlb
    have han : ∀ (w2 : World) (F2 : Fo) (l : List Nat), OpR 2 W F1 w2 F2 → l.length ≤ 4 → (∀ x ∈ l, x < F2.ks.length) → _ := fun w2 F2 l r h1 h2 => and_for (l := l) hi.fo hN r (by omega) h1 h2
    rw [hi.p] at han
    have HLA := hide hla
    have HLB := hide hlb
    have HAN := hide han
    have HBX := hide hbx
    clear hla hlb han r0 hi hbx hrec
    gi_wp2
    refine wpIn_region_held_shut (S := (fun w' => Keeps (SF F1) W w')) (by kernel_rfl) (by kernel_rfl) ?_ (fun hHeld => ?_)
    · try dsimp only
      (repeat (first | (with_reducible exact Keeps.refl _ _) | exact hKeep.out | exact hKeepS.out _ | assumption | (with_reducible refine Keeps.drew ?_) | (with_reducible refine Keeps.drewN ?_ _) | (with_reducible refine Keeps.alloc ?_ _) | (with_reducible refine Keeps.setCell ?_ (.inl (by first | exact .inl rfl | exact .inr rfl)) _)))
    refine wpAnyH_take (i := 0) (v := ?v1_1) rfl (by kernel_rfl) (by kernel_rfl) (by kernel_rfl) (fun _ _ _ h => h) (Or.inl ⟨by rfl, ?y1_1⟩) (by assumption) ?r1_1
    case' y1_1 => (intro w hSw; (try dsimp only at hSw); (try have hlS := HLK.out _ hSw); have hcS := kcell hSw; clear hSw; go_simp; try with_reducible rfl)
    try simp only [Act.put, List.getElem_toArray, List.getElem_cons_succ, List.getElem_cons_zero, List.setIfInBounds_toArray, List.set_cons_zero, List.set_cons_succ]
    refine wpAnyH_take (i := 1) (v := ?v1_2) rfl (by kernel_rfl) (by kernel_rfl) (by kernel_rfl) (fun _ _ _ h => h) (Or.inl ⟨by rfl, ?y1_2⟩) (by assumption) ?r1_2
    case' y1_2 => (intro w hSw; (try dsimp only at hSw); (try have hlS := HLK.out _ hSw); have hcS := kcell hSw; clear hSw; go_simp; try with_reducible rfl)
    try simp only [Act.put, List.getElem_toArray, List.getElem_cons_succ, List.getElem_cons_zero, List.setIfInBounds_toArray, List.set_cons_zero, List.set_cons_succ]
    refine wpAnyH_take (i := 2) (v := ?v1_3) rfl (by kernel_rfl) (by kernel_rfl) (by kernel_rfl) (fun _ _ _ h => h) (Or.inl ⟨by rfl, ?y1_3⟩) (by assumption) ?r1_3
    case' y1_3 => (intro w hSw; (try dsimp only at hSw); (try have hlS := HLK.out _ hSw); have hcS := kcell hSw; clear hSw; go_simp; try with_reducible rfl)
    try simp only [Act.put, List.getElem_toArray, List.getElem_cons_succ, List.getElem_cons_zero, List.setIfInBounds_toArray, List.set_cons_zero, List.set_cons_succ]
    refine wpAnyH_take (i := 3) (v := ?v1_4) rfl (by kernel_rfl) (by kernel_rfl) (by kernel_rfl) (fun _ _ _ h => h) (Or.inl ⟨by rfl, ?y1_4⟩) (by assumption) ?r1_4
    case' y1_4 => (intro w hSw; (try dsimp only at hSw); (try have hlS := HLK.out _ hSw); have hcS := kcell hSw; clear hSw; go_simp; try with_reducible rfl)
    try simp only [Act.put, List.getElem_toArray, List.getElem_cons_succ, List.getElem_cons_zero, List.setIfInBounds_toArray, List.set_cons_zero, List.set_cons_succ]
    refine wpAnyH_take (i := 4) (v := ?v1_5) rfl (by kernel_rfl) (by kernel_rfl) (by kernel_rfl) (fun _ _ _ h => h) (Or.inl ⟨by rfl, ?y1_5⟩) (by assumption) ?r1_5
    case' y1_5 => (intro w hSw; (try dsimp only at hSw); (try have hlS := HLK.out _ hSw); have hcS := kcell hSw; clear hSw; go_simp; try with_reducible rfl)
    try simp only [Act.put, List.getElem_toArray, List.getElem_cons_succ, List.getElem_cons_zero, List.setIfInBounds_toArray, List.set_cons_zero, List.set_cons_succ]
    refine wpAnyH_take (i := 5) (v := ?v1_6) rfl (by kernel_rfl) (by kernel_rfl) (by kernel_rfl) (fun _ _ _ h => h) (Or.inl ⟨by rfl, ?y1_6⟩) (by assumption) ?r1_6
    case' y1_6 => (intro w hSw; (try dsimp only at hSw); (try have hlS := HLK.out _ hSw); have hcS := kcell hSw; clear hSw; go_simp; try with_reducible rfl)
    try simp only [Act.put, List.getElem_toArray, List.getElem_cons_succ, List.getElem_cons_zero, List.setIfInBounds_toArray, List.set_cons_zero, List.set_cons_succ]
    refine wpAnyH_take (i := 6) (v := ?v1_7) rfl (by kernel_rfl) (by kernel_rfl) (by kernel_rfl) (fun _ _ _ h => h) (Or.inl ⟨by rfl, ?y1_7⟩) (by assumption) ?r1_7
    case' y1_7 => (intro w hSw; (try dsimp only at hSw); (try have hlS := HLK.out _ hSw); have hcS := kcell hSw; clear hSw; go_simp; try with_reducible rfl)
    try simp only [Act.put, List.getElem_toArray, List.getElem_cons_succ, List.getElem_cons_zero, List.setIfInBounds_toArray, List.set_cons_zero, List.set_cons_succ]
    refine wpAnyH_take (i := 8) (v := ?v1_8) rfl (by kernel_rfl) (by kernel_rfl) (by kernel_rfl) (fun _ _ _ h => h) (Or.inl ⟨by rfl, ?y1_8⟩) (by assumption) ?r1_8
    case' y1_8 => (intro w hSw; (try dsimp only at hSw); (try have hlS := HLK.out _ hSw); have hcS := kcell hSw; clear hSw; go_simp; try with_reducible rfl)
    try simp only [Act.put, List.getElem_toArray, List.getElem_cons_succ, List.getElem_cons_zero, List.setIfInBounds_toArray, List.set_cons_zero, List.set_cons_succ]
    refine wpAnyH_take (i := 9) (v := ?v1_9) rfl (by kernel_rfl) (by kernel_rfl) (by kernel_rfl) (fun _ _ _ h => h) (Or.inl ⟨by rfl, ?y1_9⟩) (by assumption) ?r1_9
    case' y1_9 => (intro w hSw; (try dsimp only at hSw); (try have hlS := HLK.out _ hSw); have hcS := kcell hSw; clear hSw; go_simp; try with_reducible rfl)
    try simp only [Act.put, List.getElem_toArray, List.getElem_cons_succ, List.getElem_cons_zero, List.setIfInBounds_toArray, List.set_cons_zero, List.set_cons_succ]
    refine wpAnyH_take (i := 10) (v := ?v1_10) rfl (by kernel_rfl) (by kernel_rfl) (by kernel_rfl) (fun _ _ _ h => h) (Or.inl ⟨by rfl, ?y1_10⟩) (by assumption) ?r1_10
    case' y1_10 => (intro w hSw; (try dsimp only at hSw); (try have hlS := HLK.out _ hSw); have hcS := kcell hSw; clear hSw; go_simp; try with_reducible rfl)
    try simp only [Act.put, List.getElem_toArray, List.getElem_cons_succ, List.getElem_cons_zero, List.setIfInBounds_toArray, List.set_cons_zero, List.set_cons_succ]
    refine wpAnyH_take (i := 11) (v := ?v1_11) rfl (by kernel_rfl) (by kernel_rfl) (by kernel_rfl) (fun _ _ _ h => h) (Or.inl ⟨by rfl, ?y1_11⟩) (by assumption) ?r1_11
    case' y1_11 => (intro w hSw; (try dsimp only at hSw); (try have hlS := HLK.out _ hSw); have hcS := kcell hSw; clear hSw; go_simp; try with_reducible rfl)
    try simp only [Act.put, List.getElem_toArray, List.getElem_cons_succ, List.getElem_cons_zero, List.setIfInBounds_toArray, List.set_cons_zero, List.set_cons_succ]
    refine wpAnyH_take (i := 12) (v := ?v1_12) rfl (by kernel_rfl) (by kernel_rfl) (by kernel_rfl) (fun _ _ _ h => h) (Or.inl ⟨by rfl, ?y1_12⟩) (by assumption) ?r1_12
    case' y1_12 => (intro w hSw; (try dsimp only at hSw); (try have hlS := HLK.out _ hSw); have hcS := kcell hSw; clear hSw; go_simp; try with_reducible rfl)
    try simp only [Act.put, List.getElem_toArray, List.getElem_cons_succ, List.getElem_cons_zero, List.setIfInBounds_toArray, List.set_cons_zero, List.set_cons_succ]
    refine wpAnyH_ready (rs := [7]) (by kernel_rfl) (by simp) ?_
    refine (AllReadyH.cons rfl (fun K hK => ?_) AllReadyH.nil)
    go_simp
    (first
      | (go_at_call 89; refine (HLB.out _ _ RA.out).mono ?_; rintro e wB ⟨gB, FB, rfl, rB1, rB2, hgB, rB3⟩; have RB := hide rB1; have RB2 := hide rB2; have RB3 := hide rB3; have hKeep : Hid (Keeps (SF F1) W wB) := rB1.st.keep; clear rB1 rB2 rB3)
      | (go_at_call 89; refine HLA.out.mono ?_; rintro e wA ⟨gA, FA, rfl, rA1, _, hgA, rA3⟩; have RA := hide rA1; have RA3 := hide rA3; have hKeep : Hid (Keeps (SF F1) W wA) := rA1.st.keep; clear rA1 rA3)
      | (go_at_call 73; refine (HAN.out _ _ [n, gA, gB] RB.out (by simp) (by intro x hx; simp at hx; rcases hx with rfl | rfl | rfl; exact Nat.lt_of_lt_of_le HI.out.fo.lt RB.out.st.le; exact Nat.lt_of_lt_of_le hgA RB2.out.st.le; exact hgB)).mono ?_; rintro e wZ ⟨c, FZ, rfl, rZ1, _, hc, rZ3⟩; have RZ := hide rZ1; have RZ3 := hide rZ3; have hKeep : Hid (Keeps (SF F1) W wZ) := rZ1.st.keep; clear rZ1 rZ3))
    (try dsimp only)
    refine hK.out _ _ ?_ (fun hNext => ?_)
    · try dsimp only
      (repeat (first | (with_reducible exact Keeps.refl _ _) | exact hKeep.out | exact hKeepS.out _ | assumption | (with_reducible refine Keeps.drew ?_) | (with_reducible refine Keeps.drewN ?_ _) | (with_reducible refine Keeps.alloc ?_ _) | (with_reducible refine Keeps.setCell ?_ (.inl (by first | exact .inl rfl | exact .inr rfl)) _)))
    clear hK K hHeld
    have hHeld := hNext
    clear hNext
    (try dsimp only at hHeld)
    try simp only [Act.put, List.getElem_toArray, List.getElem_cons_succ, List.getElem_cons_zero, List.setIfInBounds_toArray, List.set_cons_zero, List.set_cons_succ]
    refine wpAnyH_ready (rs := [13]) (by kernel_rfl) (by simp) ?_
    refine (AllReadyH.cons rfl (fun K hK => ?_) AllReadyH.nil)
    go_simp
    (first
      | (go_at_call 89; refine (HLB.out _ _ RA.out).mono ?_; rintro e wB ⟨gB, FB, rfl, rB1, rB2, hgB, rB3⟩; have RB := hide rB1; have RB2 := hide rB2; have RB3 := hide rB3; have hKeep : Hid (Keeps (SF F1) W wB) := rB1.st.keep; clear rB1 rB2 rB3)
      | (go_at_call 89; refine HLA.out.mono ?_; rintro e wA ⟨gA, FA, rfl, rA1, _, hgA, rA3⟩; have RA := hide rA1; have RA3 := hide rA3; have hKeep : Hid (Keeps (SF F1) W wA) := rA1.st.keep; clear rA1 rA3)
      | (go_at_call 73; refine (HAN.out _ _ [n, gA, gB] RB.out (by simp) (by intro x hx; simp at hx; rcases hx with rfl | rfl | rfl; exact Nat.lt_of_lt_of_le HI.out.fo.lt RB.out.st.le; exact Nat.lt_of_lt_of_le hgA RB2.out.st.le; exact hgB)).mono ?_; rintro e wZ ⟨c, FZ, rfl, rZ1, _, hc, rZ3⟩; have RZ := hide rZ1; have RZ3 := hide rZ3; have hKeep : Hid (Keeps (SF F1) W wZ) := rZ1.st.keep; clear rZ1 rZ3))
    (try dsimp only)
    refine hK.out _ _ ?_ (fun hNext => ?_)
    · try dsimp only
      (repeat (first | (with_reducible exact Keeps.refl _ _) | exact hKeep.out | exact hKeepS.out _ | assumption | (with_reducible refine Keeps.drew ?_) | (with_reducible refine Keeps.drewN ?_ _) | (with_reducible refine Keeps.alloc ?_ _) | (with_reducible refine Keeps.setCell ?_ (.inl (by first | exact .inl rfl | exact .inr rfl)) _)))
    clear hK K hHeld
    have hHeld := hNext
    clear hNext
    (try dsimp only at hHeld)
    try simp only [Act.put, List.getElem_toArray, List.getElem_cons_succ, List.getElem_cons_zero, List.setIfInBounds_toArray, List.set_cons_zero, List.set_cons_succ]
    refine wpAnyH_ready (rs := [14]) (by kernel_rfl) (by simp) ?_
    refine (AllReadyH.cons rfl (fun K hK => ?_) AllReadyH.nil)
    go_simp
    refine hK.out _ _ ?_ (fun hNext => ?_)
    · try dsimp only
      (repeat (first | (with_reducible exact Keeps.refl _ _) | exact hKeep.out | exact hKeepS.out _ | assumption | (with_reducible refine Keeps.drew ?_) | (with_reducible refine Keeps.drewN ?_ _) | (with_reducible refine Keeps.alloc ?_ _) | (with_reducible refine Keeps.setCell ?_ (.inl (by first | exact .inl rfl | exact .inr rfl)) _)))
    clear hK K hHeld
    have hHeld := hNext
    clear hNext
    (try dsimp only at hHeld)
    try simp only [Act.put, List.getElem_toArray, List.getElem_cons_succ, List.getElem_cons_zero, List.setIfInBounds_toArray, List.set_cons_zero, List.set_cons_succ]
    refine wpAnyH_ready (rs := [15]) (by kernel_rfl) (by simp) ?_
    refine (AllReadyH.cons rfl (fun K hK => ?_) AllReadyH.nil)
    go_simp
    (first
      | (go_at_call 89; refine (HLB.out _ _ RA.out).mono ?_; rintro e wB ⟨gB, FB, rfl, rB1, rB2, hgB, rB3⟩; have RB := hide rB1; have RB2 := hide rB2; have RB3 := hide rB3; have hKeep : Hid (Keeps (SF F1) W wB) := rB1.st.keep; clear rB1 rB2 rB3)
      | (go_at_call 89; refine HLA.out.mono ?_; rintro e wA ⟨gA, FA, rfl, rA1, _, hgA, rA3⟩; have RA := hide rA1; have RA3 := hide rA3; have hKeep : Hid (Keeps (SF F1) W wA) := rA1.st.keep; clear rA1 rA3)
      | (go_at_call 73; refine (HAN.out _ _ [n, gA, gB] RB.out (by simp) (by intro x hx; simp at hx; rcases hx with rfl | rfl | rfl; exact Nat.lt_of_lt_of_le HI.out.fo.lt RB.out.st.le; exact Nat.lt_of_lt_of_le hgA RB2.out.st.le; exact hgB)).mono ?_; rintro e wZ ⟨c, FZ, rfl, rZ1, _, hc, rZ3⟩; have RZ := hide rZ1; have RZ3 := hide rZ3; have hKeep : Hid (Keeps (SF F1) W wZ) := rZ1.st.keep; clear rZ1 rZ3))
    (try dsimp only)
    refine hK.out _ _ ?_ (fun hNext => ?_)
    · try dsimp only
      (repeat (first | (with_reducible exact Keeps.refl _ _) | exact hKeep.out | exact hKeepS.out _ | assumption | (with_reducible refine Keeps.drew ?_) | (with_reducible refine Keeps.drewN ?_ _) | (with_reducible refine Keeps.alloc ?_ _) | (with_reducible refine Keeps.setCell ?_ (.inl (by first | exact .inl rfl | exact .inr rfl)) _)))
    clear hK K hHeld
    have hHeld := hNext
    clear hNext
    (try dsimp only at hHeld)
    try simp only [Act.put, List.getElem_toArray, List.getElem_cons_succ, List.getElem_cons_zero, List.setIfInBounds_toArray, List.set_cons_zero, List.set_cons_succ]
    refine wpAnyH_take (i := 16) (v := ?v1_17) rfl (by kernel_rfl) (by kernel_rfl) (by kernel_rfl) (fun _ _ _ h => h) (Or.inl ⟨by rfl, ?y1_17⟩) (by assumption) ?r1_17
    case' y1_17 => (intro w hSw; (try dsimp only at hSw); (try have hlS := HLK.out _ hSw); have hcS := kcell hSw; clear hSw; go_simp; try with_reducible rfl)
    try simp only [Act.put, List.getElem_toArray, List.getElem_cons_succ, List.getElem_cons_zero, List.setIfInBounds_toArray, List.set_cons_zero, List.set_cons_succ]
    refine wpAnyH_done (by kernel_rfl) (shut_normal ?_) _
    have hnd := none_node (m := m) (p := hasX ⟨xa, xb, xwa, xwb⟩) RZ.out.st.here (RZ.out.st.N.trans HI.out.fo.N) hc (fun y => by rw [RZ3.out (vf y), List.all_cons, List.all_cons, List.all_cons, List.all_nil, RB.out.st.ev HI.out.fo.here.wf HI.out.fo.lt, HI.out.fo.ev, RB2.out.st.ev RA.out.st.here.wf hgA, RA3.out, RB3.out, Bool.and_true]; rfl)
    have hOP : MisI m w W0.heap.size w1.heap.size F.p n (6120 + 6 * (pre ++ [(⟨⟨xa, xb, xwa, xwb⟩, hxa', hxb'⟩ : LkN m.opts.length)]).length) ((lks pre).filter (lackB m)) wZ FZ ov1 := by
      have h1 := HI.out.op RZ.out
      rw [List.length_append, List.length_singleton, Nat.mul_add]
      exact h1
    have HOP := hide hOP
    have hxz : wZ.heap[Bx]? = some (.cells #[.int .i64 xa, .int .i64 xb, .bool xwa, .bool xwb] 77 (0, 0)) := (hKeep.out.block _ lx nx).trans HBX.out
    have HXZ := hide hxz
    have hfr : KeepsFrom W0.heap.size W wZ := KeepsFrom.of_keeps hKeep.out (fun k o h1 h2 h3 h4 => SF.cells HI.out.fo.here HI.out.mp h1 h2 h3 h4)
    have hnbs : ¬ SF F1 (w1.heap.size + 2) := HI.out.fo.here.notSF HI.out.c6 (by decide) (by decide)
    have hkp : KpB (w1.heap.size + 2) W wZ := KpB.keeps hKeep.out hnbs
    have HFR := hide (And.intro hfr hkp)
    clear hfr hkp hnbs hOP c2 c4 c5 x0 x1 x2 x3 n2 n4 n5 nx l2 l4 l5 lx hHeld hKeep
    have hsnoc : (lks (pre ++ [(⟨⟨xa, xb, xwa, xwb⟩, hxa', hxb'⟩ : LkN m.opts.length)])).filter (lackB m) = (lks pre).filter (lackB m) ++ (if lackB m ⟨xa, xb, xwa, xwb⟩ = true then [⟨xa, xb, xwa, xwb⟩] else []) := by
      rw [lks_snoc, List.filter_append]
      congr 1
      simp only [List.filter_cons, List.filter_nil]
    have HSN := hide hsnoc
    clear hsnoc
    by_cases hc0 : c = 0
    · have hl : lackB m ⟨xa, xb, xwa, xwb⟩ = true := hnd.symm.trans (decide_eq_true hc0)
      have HL := hide hl
      subst hc0
      have c2 := cellOf HOP.out.out 0
      have f2 := unfrozenOf HOP.out.out 0
      have x0 := cellOf hxz 0
      have x1 := cellOf hxz 1
      have x2 := cellOf hxz 2
      have x3 := cellOf hxz 3
      have l2 := box_lt HOP.out.out
      have lx := box_lt hxz
      obtain ⟨L, hL⟩ : ∃ x, (lks pre).filter (lackB m) = x := ⟨_, rfl⟩
      have hLl : L.length ≤ 576 := by rw [← hL]; exact Nat.le_trans (List.length_filter_le _ _) (by rw [lks_len]; exact hlen2)
      have hop := HOP.out
      rw [hL] at hop
      have HOP2 := hide hop
      have HLN := hide hL
      have hszz := hop.sz
      clear hnd hl hxz hop hL
      gi_wp2_with (gi_at_builtin; (refine wpListIn_append_own_at _ rfl (.tmp 38) (.tmp 40) _ rfl W0.heap.size 77 i0 _ 4 24 Try.underlying73 hi0 iz0 iz1 iz2 rfl (by omega) _ _ _ rfl (HOP2.out.row.1.alloc _) ⟨wZ.heap.size, 0, none⟩ 1 1 [.int .i64 xa, .int .i64 xb, .bool xwa, .bool xwb] rfl rfl (World.news_of_block (heap_alloc_new wZ _)) (by simp [Value.oneCell']) (by unfold maxLen; omega) (by omega) (by simp; omega) ?_); intro v1 w3 hown1 hg1 _ hat1; have ho3 : w3.heap[w.heap.size + 1]? = some (.cells #[ov1] 73 (0, 0)) := (hg1.block _ (by simp; omega) (fun e => by have := (HOP2.out.row.1.lt _ e.symm).1; omega)).trans ((Below.heap_alloc wZ _ _ l2).trans HOP2.out.out); have e3 := cellOf ho3 0; have f3 := unfrozenOf ho3 0; obtain ⟨A1, cap1, hv1⟩ := owns_form hown1; subst hv1; have HAP := hide (HOP2.out.app (x := ⟨xa, xb, xwa, xwb⟩) hown1 hg1 hat1 hs1 hn6); clear hown1 hg1 hat1 ho3)
      have hk1 := HAP.out.2
      refine ⟨HFR.out.1.trans (KeepsFrom.of_keeps hk1 (fun k o h1 h2 h3 h4 => ?_)), HFR.out.2.trans (KpB.keeps hk1 (fun e => ?_)), FZ, .slice A1 (L.length + 1) cap1, ?_⟩
      · rcases h2 with h2 | h2
        · obtain ⟨cs, fr, h5⟩ := HOP2.out.row.cellsOf h2
          rw [h3] at h5
          injection h5 with h5
          subst h5
          cases h4
        · omega
      · rcases e with e | e
        · have := (HOP2.out.row.1.lt _ e).1
          omega
        · omega
      · rw [HSN.out, HLN.out, HL.out]
        exact HAP.out.1
    · have hl : lackB m ⟨xa, xb, xwa, xwb⟩ = false := hnd.symm.trans (decide_eq_false hc0)
      have HL := hide hl
      have hc1 : ((c : Int) == 0) = false := by simp; omega
      clear hc0 hnd hl hxz
      gi_wp2
      refine ⟨HFR.out.1, HFR.out.2, FZ, ov1, ?_⟩
      rw [HSN.out, HL.out]
      simpa using HOP.out
  case done =>
    rintro D xs W hD hS ⟨F1, ov1, hi⟩ hK
    have c2 := cellOf hi.out 0
    have f2 := unfrozenOf hi.out 0
    have l2 := box_lt hi.out
    have HI := hide hi
    rw [hS] at hi
    have hrow := hi.row
    rw [← HML.out] at hrow
    have HR := hide hrow
    obtain ⟨A1, cap1, hv1⟩ := owns_form hi.row.1
    subst hv1
    clear hi hrow hS
    gi_wp2
    refine ⟨by simp, .inl ⟨_, _, rfl, run_takeDeferred ((KeepsOthers.setCell _ _ _).same D _ hK rfl), ?_⟩⟩
    obtain ⟨vr, hvr⟩ : ∃ vr : Value, Value.slice A1 ((pairsL m.opts.length).filter (lackB m)).length cap1 = vr := ⟨_, rfl⟩
    rw [hvr] at HR HI ⊢
    have hDw : w.heap.size + 1 ≠ D := by omega
    have ho : ((W.setCell ⟨w.heap.size + 1, 0, none⟩ vr).putObj D (.deferred none)).heap[w.heap.size + 1]? = some (.cells #[vr] 73 (0, 0)) := (World.putObj_heap_other hDw).trans (setCellOf (i := 0) HI.out.out vr)
    have hkp : Keeps (fun i => i = w.heap.size + 1 ∨ i = D) W ((W.setCell ⟨w.heap.size + 1, 0, none⟩ vr).putObj D (.deferred none)) := ((Keeps.refl _ W).setCell (.inl (.inl rfl)) vr).trans (Keeps.of_grown (grownBy_putObj' _ D _) (fun k e => by injection e with e; exact e.symm)) (T := fun i => i = D) (fun i _ e => .inr e)
    have hbl := hkp.below (B := w.heap.size) HI.out.fo.below.size (fun k e => by rcases e with e | e <;> omega)
    have hfin := HR.out.kept (w' := (W.setCell ⟨w.heap.size + 1, 0, none⟩ vr).putObj D (.deferred none)) (fun b hb => hkp.block b (HR.out.1.lt b hb).2 (fun e => by
      rcases e with e | e
      · have := (HR.out.1.lt b hb).1; omega
      · obtain ⟨cs, fr, h5⟩ := HR.out.cellsOf hb
        subst e
        rw [hK] at h5
        cases h5))
    have e1 := cellOf ho 0
    have l1 := box_lt ho
    have HFIN := hide (And.intro hfin hbl)
    clear hkp hbl hfin ho
    refine ⟨.tuple #[vr, .int .i64 0], ?_, ?_⟩
    · rw [results_cell_tmp rfl]
      go_simp
    · refine ⟨_, rfl, Lks.of_own HFIN.out.1.1, ?_⟩
      have hb := HFIN.out.2
      have h0 := HI.out.fo.below
      exact ⟨hb.os.trans h0.os, hb.tape.trans h0.tape, hb.output.trans h0.output, Nat.le_trans h0.size hb.size, fun k hk => (hb.block k hk).trans (h0.block k hk)⟩
  case stop =>
    rintro D c pre W _ _ h
    exact h.elim
theorem MisP.none (er : Int) {w w' : World} (h : Below w.heap.size w w') : MisP [] er w (.returned (.tuple #[.slice none 0 0, .int .i64 er])) w' := ⟨_, rfl, Sl.nil _ _ _ _, h⟩
set_option maxRecDepth 100000 in
set_option maxHeartbeats 4000000 in
theorem Missing_err (m : Mo) (ov rv : Value) (w : World) (hs : SizedM m) (h : MoAt w w.heap.size ov rv m) (he : m.err ≠ 0) :
    Calls Try.prog 51 #[.agg #[ov, rv]] w (MisP (misL m) m.err w) := by
  obtain ⟨A, cap, hov⟩ := Sl.form h.o
  obtain ⟨Ar, capr, hrv⟩ := h.r.form
  subst hov hrv
  have hB2 : Below w.heap.size w ((w.alloc (.cells #[.slice A m.opts.length cap, .slice Ar m.rules.length capr] 25)).alloc (.cells #[.slice none 0 0] 73)) := (by repeat (first | exact Below.refl _ _ | assumption | refine Below.drew ?_ | refine Below.drewN ?_ _ | refine Below.allocT ?_ (Nat.le_refl _) _ | refine Below.setCell ?_ (by simp <;> omega) _ | refine Below.to ?_ (by assumption) (Nat.le_refl _)))
  have hbe := begin_err m [] (.slice A m.opts.length cap) (.slice Ar m.rules.length capr) (.slice none 0 0) _ hs sized_nil (h.up hB2) (Forms.none _ _) (by rw [errF_nil]; exact he)
  have hbox1 : ((w.alloc (.cells #[.slice A m.opts.length cap, .slice Ar m.rules.length capr] 25)).alloc (.cells #[.slice none 0 0] 73)).heap[w.heap.size + 1]? = some (.cells #[.slice none 0 0] 73 (0, 0)) := by rw [heap_new _ _ _ (by simp)]
  have hne : (m.err != 0) = true := by simpa using he
  rw [errF_nil] at hbe
  have HP := hide (mis_err he)
  obtain ⟨z, hz⟩ : ∃ z, m.err = z := ⟨_, rfl⟩
  rw [hz] at hne hbe
  rw [hz]
  have HBX := hide hbox1
  have HBE := hide hbe
  clear h hz he hbe hB2 hbox1
  go_enter Try.func51, Try.ntmps51
  go_upto_region 2 with (go_at_call 60; refine HBE.out.mono ?_; rintro e w1 ⟨rfl, hB1⟩; have hb1 := box_to HBX.out hB1; have HB1 := hide hb1; have HW1 : Hid (Below w.heap.size w w1) := (by repeat (first | exact Below.refl _ _ | assumption | refine Below.drew ?_ | refine Below.drewN ?_ _ | refine Below.allocT ?_ (Nat.le_refl _) _ | refine Below.setCell ?_ (by simp <;> omega) _ | refine Below.to ?_ (by assumption) (Nat.le_refl _))); clear hb1 hB1)
  generalize hw2 : World.alloc _ _ = w2
  obtain ⟨_, _, hB2, _⟩ := alloc2 hw2
  have hb2 := box_to HB1.out hB2
  have HBL : Hid (Below w.heap.size w w2) := Below.to HW1.out hB2 (Nat.le_refl _)
  have e1 := cellOf hb2 0
  have f1 := unfrozenOf hb2 0
  have l1 := box_lt hb2
  have HB2 := hide hb2
  clear hw2 hB2 hb2
  go_wp2_with fail
  have ho := setCellOf (i := 0) HB2.out (.slice none 0 0)
  have e2 := cellOf ho 0
  have hbl : Below w.heap.size w (w2.setCell ⟨w.heap.size + 1, 0, none⟩ (.slice none 0 0)) := HBL.out.setCell (by simp) _
  have HBLL := hide hbl
  clear hbl ho e1 f1
  rw [HP.out]
  refine bodyPost_ret (v := .tuple #[.slice none 0 0, .int .i64 z]) ?_ rfl (MisP.none z HBLL.out)
  rw [results_cell_tmp rfl]
  go_simp
theorem Missing_any (m : Mo) (ov rv : Value) (w : World) (hs : SizedM m) (h : MoAt w w.heap.size ov rv m) (hN : m.err = 0 → m.opts.length ≤ 12) :
    Calls Try.prog 51 #[.agg #[ov, rv]] w (MisP (misL m) m.err w) := by
  by_cases he : m.err = 0
  · rw [he]
    exact Missing_ok m ov rv w hs h he (hN he)
  · exact Missing_err m ov rv w hs h he
end Go.Proofs.Ytohofcmikfkilaa

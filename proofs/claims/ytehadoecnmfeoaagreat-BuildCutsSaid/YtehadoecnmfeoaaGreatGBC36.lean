/- Part 36 of this claim's texts: walks and plain laws. -/
import Derived.Test.YtehadoecnmfeoaaGreatRows
import Derived.Test.YtehadoecnmfeoaaGreatGBC35
import Derived.Deep.RegionHeld3
import Derived.Deep.DrawnRows
import Derived.Test.YtehadoecnmfeoaaGreatGBC12
import Derived.Test.YtehadoecnmfeoaaGreatGBC19
import Derived.Laws.EntriesVeiled
/- Carried, both: walks. -/
namespace Go.Proofs.YtehadoecnmfeoaaGreat
open Go.RowKit
set_option linter.unusedVariables false
set_option linter.unusedSimpArgs false
end Go.Proofs.YtehadoecnmfeoaaGreat
/- The program's search for a way: its lists and what its closure has captured. -/
namespace Go.Proofs.YtehadoecnmfeoaaGreat
open Go.RowKit
set_option linter.unusedVariables false
set_option linter.unusedSimpArgs false
structure WyAt (w0 w : World) (n : Nat) (A0 A1 A2 A3 A4 A5 : Option Addr) (q0 q1 q2 q3 q4 q5 : Nat) (l : Lo) (b : Nat) (sv rv : Value) (S R : List Nat) : Prop where
  below : Below n w0 w
  box : LoBox w n A0 A1 A2 A3 A4 A5 q0 q1 q2 q3 q4 q5 l
  tb : w.heap[n + 1]? = some (.cells #[.int .i64 b] 3 (0, 0))
  s : w.heap[n + 2]? = some (.cells #[sv] 45 (0, 0))
  r : w.heap[n + 3]? = some (.cells #[rv] 45 (0, 0))
  v : w.heap[n + 4]? = some (.cells #[.func (.func 251) #[] #[.pointer (some ⟨n + 2, 0, none⟩), .pointer (some ⟨n + 1, 0, none⟩), .pointer (some ⟨n, 0, none⟩), .pointer (some ⟨n + 3, 0, none⟩), .pointer (some ⟨n + 4, 0, none⟩)]] 161 (0, 0))
  sr : w.ownsRow (n + 5) 3 1 sv S.length (nvL S)
  rr : w.ownsRow (n + 5) 3 1 rv R.length (nvL R)
  ne : ∀ g, sv.ownBlock = some g → rv.ownBlock ≠ some g
  n0 : n = w0.heap.size
section
variable {w0 w w' : World} {n b : Nat} {A0 A1 A2 A3 A4 A5 : Option Addr} {q0 q1 q2 q3 q4 q5 : Nat} {l : Lo} {sv rv v1 : Value} {S R : List Nat} {o : Obj} {a : Nat}
theorem WyAt.size (h : WyAt w0 w n A0 A1 A2 A3 A4 A5 q0 q1 q2 q3 q4 q5 l b sv rv S R) : n + 5 ≤ w.heap.size := by
  have := box_lt h.v
  omega
theorem WyAt.up (h : WyAt w0 w n A0 A1 A2 A3 A4 A5 q0 q1 q2 q3 q4 q5 l b sv rv S R) (hb : Below w.heap.size w w') : WyAt w0 w' n A0 A1 A2 A3 A4 A5 q0 q1 q2 q3 q4 q5 l b sv rv S R :=
  ⟨Below.to h.below hb (by have := h.size; have := h.n0; omega), box_to h.box hb, box_to h.tb hb, box_to h.s hb, box_to h.r hb, box_to h.v hb, owns_below h.sr hb, owns_below h.rr hb, h.ne, h.n0⟩
theorem WyAt.snoS (h : WyAt w0 w n A0 A1 A2 A3 A4 A5 q0 q1 q2 q3 q4 q5 l b sv rv S R) (hown : w'.ownsRow (n + 5) 3 1 v1 (S.length + 1) (nvL S ++ [.int .i64 a])) (hg : (w.alloc o).grownBy w' sv.ownBlock) (hat : v1.ownBlock = sv.ownBlock ∨ v1.ownBlock = some (w.alloc o).heap.size) :
    WyAt w0 (w'.setCell ⟨n + 2, 0, none⟩ v1) n A0 A1 A2 A3 A4 A5 q0 q1 q2 q3 q4 q5 l b v1 rv (S ++ [a]) R := by
  have hz := h.size
  have hk : ∀ k, k < w.heap.size → sv.ownBlock ≠ some k → k ≠ n + 2 → (w'.setCell ⟨n + 2, 0, none⟩ v1).heap[k]? = w.heap[k]? := fun k h1 h2 h3 =>
    (Below.heap_setCell _ _ _ _ h3).trans ((hg.block k (by simp; omega) (fun e => h2 e.symm)).trans (Below.heap_alloc _ _ _ h1))
  have hlow : ∀ k, k < n + 5 → sv.ownBlock ≠ some k := fun k h1 h2 => by have := (h.sr.lt k h2).1; omega
  have hs : w'.heap[n + 2]? = some (.cells #[sv] 45 (0, 0)) := (hg.block (n + 2) (by simp; omega) (fun e => hlow _ (by omega) e.symm)).trans ((Below.heap_alloc _ _ _ (by omega)).trans h.s)
  have hv1 : ∀ k, v1.ownBlock = some k → n + 5 ≤ k := fun k h1 => (hown.lt k h1).1
  refine ⟨?_, (hk n (by omega) (hlow _ (by omega)) (by omega)).trans h.box, (hk (n + 1) (by omega) (hlow _ (by omega)) (by omega)).trans h.tb, setCellOf hs v1, (hk (n + 3) (by omega) (hlow _ (by omega)) (by omega)).trans h.r, (hk (n + 4) (by omega) (hlow _ (by omega)) (by omega)).trans h.v, ?_, ?_, ?_, h.n0⟩
  · exact Below.setCell (Below.grown (h.below.alloc (by omega) o) hg (by simp; omega) (fun k h1 => by have := (h.sr.lt k h1).1; omega)) (by show n ≤ n + 2; omega) v1
  · rw [List.length_append, List.length_singleton, nvL_snoc]
    exact ownsRow_same hown fun k h1 => Below.heap_setCell _ _ _ _ (by have := hv1 k h1; show k ≠ n + 2; omega)
  · exact ownsRow_same h.rr fun k h1 => hk k (h.rr.lt k h1).2 (fun e => h.ne k e h1) (by have := (h.rr.lt k h1).1; omega)
  · intro g h1 h2
    rcases hat with e | e
    · exact h.ne g (by rw [← e]; exact h1) h2
    · rw [e] at h1
      injection h1 with h1
      have := (h.rr.lt g h2).2
      simp at h1
      omega
theorem WyAt.snoR (h : WyAt w0 w n A0 A1 A2 A3 A4 A5 q0 q1 q2 q3 q4 q5 l b sv rv S R) (hown : w'.ownsRow (n + 5) 3 1 v1 (R.length + 1) (nvL R ++ [.int .i64 a])) (hg : (w.alloc o).grownBy w' rv.ownBlock) (hat : v1.ownBlock = rv.ownBlock ∨ v1.ownBlock = some (w.alloc o).heap.size) :
    WyAt w0 (w'.setCell ⟨n + 3, 0, none⟩ v1) n A0 A1 A2 A3 A4 A5 q0 q1 q2 q3 q4 q5 l b sv v1 S (R ++ [a]) := by
  have hz := h.size
  have hk : ∀ k, k < w.heap.size → rv.ownBlock ≠ some k → k ≠ n + 3 → (w'.setCell ⟨n + 3, 0, none⟩ v1).heap[k]? = w.heap[k]? := fun k h1 h2 h3 =>
    (Below.heap_setCell _ _ _ _ h3).trans ((hg.block k (by simp; omega) (fun e => h2 e.symm)).trans (Below.heap_alloc _ _ _ h1))
  have hlow : ∀ k, k < n + 5 → rv.ownBlock ≠ some k := fun k h1 h2 => by have := (h.rr.lt k h2).1; omega
  have hs : w'.heap[n + 3]? = some (.cells #[rv] 45 (0, 0)) := (hg.block (n + 3) (by simp; omega) (fun e => hlow _ (by omega) e.symm)).trans ((Below.heap_alloc _ _ _ (by omega)).trans h.r)
  have hv1 : ∀ k, v1.ownBlock = some k → n + 5 ≤ k := fun k h1 => (hown.lt k h1).1
  refine ⟨?_, (hk n (by omega) (hlow _ (by omega)) (by omega)).trans h.box, (hk (n + 1) (by omega) (hlow _ (by omega)) (by omega)).trans h.tb, (hk (n + 2) (by omega) (hlow _ (by omega)) (by omega)).trans h.s, setCellOf hs v1, (hk (n + 4) (by omega) (hlow _ (by omega)) (by omega)).trans h.v, ?_, ?_, ?_, h.n0⟩
  · exact Below.setCell (Below.grown (h.below.alloc (by omega) o) hg (by simp; omega) (fun k h1 => by have := (h.rr.lt k h1).1; omega)) (by show n ≤ n + 3; omega) v1
  · exact ownsRow_same h.sr fun k h1 => hk k (h.sr.lt k h1).2 (fun e => h.ne k h1 e) (by have := (h.sr.lt k h1).1; omega)
  · rw [List.length_append, List.length_singleton, nvL_snoc]
    exact ownsRow_same hown fun k h1 => Below.heap_setCell _ _ _ _ (by have := hv1 k h1; show k ≠ n + 3; omega)
  · intro g h1 h2
    rcases hat with e | e
    · exact h.ne g h1 (by rw [← e]; exact h2)
    · rw [e] at h2
      injection h2 with h2
      have := (h.sr.lt g h1).2
      simp at h2
      omega
theorem WyAt.popS {A : Option Addr} {cap : Nat} (h : WyAt w0 w n A0 A1 A2 A3 A4 A5 q0 q1 q2 q3 q4 q5 l b (.slice A (S.length + 1) cap) rv (S ++ [a]) R) : WyAt w0 (w.setCell ⟨n + 2, 0, none⟩ (.slice A S.length cap)) n A0 A1 A2 A3 A4 A5 q0 q1 q2 q3 q4 q5 l b (.slice A S.length cap) rv S R := by
  have hz := h.size
  have hk : ∀ k, k ≠ n + 2 → (w.setCell ⟨n + 2, 0, none⟩ (.slice A S.length cap)).heap[k]? = w.heap[k]? := fun k h3 => Below.heap_setCell _ _ _ _ h3
  have hc := h.sr
  rw [List.length_append, List.length_singleton] at hc
  have hc := own_cut hc (r := S.length) (by omega)
  rw [nvL_take] at hc
  refine ⟨Below.setCell h.below (by show n ≤ n + 2; omega) _, (hk n (by omega)).trans h.box, (hk _ (by omega)).trans h.tb, setCellOf h.s _, (hk _ (by omega)).trans h.r, (hk _ (by omega)).trans h.v, ?_, ?_, fun g hg => h.ne g (by rw [own_block A _ S.length _ cap]; exact hg), h.n0⟩
  · exact ownsRow_same hc fun k h1 => hk k (by have := (hc.lt k h1).1; omega)
  · exact ownsRow_same h.rr fun k h1 => hk k (by have := (h.rr.lt k h1).1; omega)
theorem WyAt.popR {A : Option Addr} {cap : Nat} (h : WyAt w0 w n A0 A1 A2 A3 A4 A5 q0 q1 q2 q3 q4 q5 l b sv (.slice A (R.length + 1) cap) S (R ++ [a])) : WyAt w0 (w.setCell ⟨n + 3, 0, none⟩ (.slice A R.length cap)) n A0 A1 A2 A3 A4 A5 q0 q1 q2 q3 q4 q5 l b sv (.slice A R.length cap) S R := by
  have hz := h.size
  have hk : ∀ k, k ≠ n + 3 → (w.setCell ⟨n + 3, 0, none⟩ (.slice A R.length cap)).heap[k]? = w.heap[k]? := fun k h3 => Below.heap_setCell _ _ _ _ h3
  have hc := h.rr
  rw [List.length_append, List.length_singleton] at hc
  have hc := own_cut hc (r := R.length) (by omega)
  rw [nvL_take] at hc
  refine ⟨Below.setCell h.below (by show n ≤ n + 3; omega) _, (hk n (by omega)).trans h.box, (hk _ (by omega)).trans h.tb, (hk _ (by omega)).trans h.s, setCellOf h.r _, (hk _ (by omega)).trans h.v, ?_, ?_, fun g hg => by rw [own_block A _ (R.length + 1) _ cap]; exact h.ne g hg, h.n0⟩
  · exact ownsRow_same h.sr fun k h1 => hk k (by have := (h.sr.lt k h1).1; omega)
  · exact ownsRow_same hc fun k h1 => hk k (by have := (hc.lt k h1).1; omega)
end
end Go.Proofs.YtehadoecnmfeoaaGreat
/- The program's search for a way: walk of its closure. -/
namespace Go.Proofs.YtehadoecnmfeoaaGreat
open Go.RowKit
set_option linter.unusedVariables false
set_option linter.unusedSimpArgs false
def VyYes (w0 : World) (n : Nat) (A0 A1 A2 A3 A4 A5 : Option Addr) (q0 q1 q2 q3 q4 q5 : Nat) (l : Lo) (back : Int) (a b : Nat) (S R : List Nat) (e : Ending) (w' : World) : Prop :=
  ∃ (P : List Nat) (sv rv : Value), WayP l.rs back a P b ∧ e = .returned (.bool true) ∧ WyAt w0 w' n A0 A1 A2 A3 A4 A5 q0 q1 q2 q3 q4 q5 l b sv rv (S ++ spotsW l.rs a P) (R ++ P)
def VyNo (w0 : World) (n : Nat) (A0 A1 A2 A3 A4 A5 : Option Addr) (q0 q1 q2 q3 q4 q5 : Nat) (l : Lo) (b : Nat) (S R : List Nat) (e : Ending) (w' : World) : Prop :=
  ∃ (sv rv : Value), e = .returned (.bool false) ∧ WyAt w0 w' n A0 A1 A2 A3 A4 A5 q0 q1 q2 q3 q4 q5 l b sv rv S R
theorem wy_cap {w : World} {B e n : Nat} {v : Value} {xs : List Value} (h : w.ownsRow B e 1 v n xs) : ∃ A cap, v = .slice A n cap ∧ (n : Int) ≤ (cap : Int) := by
  rcases h.2 with ⟨h1, h2⟩ | ⟨g, cap, cur, h1, _, _, h2, h3, _⟩
  · exact ⟨none, 0, by rw [h1, h2], by omega⟩
  · exact ⟨_, cap, h1, by omega⟩
theorem wy_formR {w0 w : World} {n b k : Nat} {A0 A1 A2 A3 A4 A5 : Option Addr} {q0 q1 q2 q3 q4 q5 : Nat} {l : Lo} {sv rv : Value} {S R : List Nat} (h : WyAt w0 w n A0 A1 A2 A3 A4 A5 q0 q1 q2 q3 q4 q5 l b sv rv S (R ++ [k])) : ∃ A cap, rv = .slice A (R.length + 1) cap ∧ (R.length : Int) + 1 ≤ (cap : Int) := by
  have h1 := h.rr
  rw [List.length_append, List.length_singleton] at h1
  obtain ⟨A, cap, h2, h3⟩ := wy_cap h1
  exact ⟨A, cap, h2, by omega⟩
theorem wy_formS {w0 w : World} {n b k : Nat} {A0 A1 A2 A3 A4 A5 : Option Addr} {q0 q1 q2 q3 q4 q5 : Nat} {l : Lo} {sv rv : Value} {S R : List Nat} (h : WyAt w0 w n A0 A1 A2 A3 A4 A5 q0 q1 q2 q3 q4 q5 l b sv rv (S ++ [k]) R) : ∃ A cap, sv = .slice A (S.length + 1) cap ∧ (S.length : Int) + 1 ≤ (cap : Int) := by
  have h1 := h.sr
  rw [List.length_append, List.length_singleton] at h1
  obtain ⟨A, cap, h2, h3⟩ := wy_cap h1
  exact ⟨A, cap, h2, by omega⟩
theorem wy_form {w : World} {B : Nat} {v : Value} {S : List Nat} (h : w.ownsRow B 3 1 v S.length (nvL S)) : ∃ A cap, v = .slice A S.length cap := owns_form h
set_option maxRecDepth 100000 in
set_option maxHeartbeats 4000000 in
theorem wayV_any (A0 A1 A2 A3 A4 A5 : Option Addr) (q0 q1 q2 q3 q4 q5 : Nat) (l : Lo) (ok : LoOk l) (w0 : World) (n : Nat) (HA : LoA w0 n A0 A1 A2 A3 A4 A5 q0 q1 q2 q3 q4 q5 l) (b : Nat) (hbn : b < l.ss.length) : ∀ (m : Nat) (a : Nat) (back f : Int) (S R : List Nat) (sv rv : Value) (w : World), WyAt w0 w n A0 A1 A2 A3 A4 A5 q0 q1 q2 q3 q4 q5 l b sv rv S R → sideN l.rs l.ss.length back a ≤ m → ((back = -1 ∧ f = -1) ∨ ∃ j p : Nat, j < l.rs.length ∧ back = (j : Nat) ∧ f = (p : Nat) ∧ Inc l.rs j p a) → a < l.ss.length → S.length + m ≤ 200 → R.length + m ≤ 200 →
    Calls Tryz.prog 251 #[.int .i64 a, .int .i64 f, .pointer (some ⟨n + 2, 0, none⟩), .pointer (some ⟨n + 1, 0, none⟩), .pointer (some ⟨n, 0, none⟩), .pointer (some ⟨n + 3, 0, none⟩), .pointer (some ⟨n + 4, 0, none⟩)] w fun e w' => (Rch l.rs back a b ∧ VyYes w0 n A0 A1 A2 A3 A4 A5 q0 q1 q2 q3 q4 q5 l back a b S R e w') ∨ (¬ Rch l.rs back a b ∧ VyNo w0 n A0 A1 A2 A3 A4 A5 q0 q1 q2 q3 q4 q5 l b S R e w') := by
  obtain ⟨i0, hi0, iz0, iz1, iz2⟩ := info_parts infoInt
  have OK := hide ok
  have T := hide ok.tree
  have s40 := ok.s40
  have u40 := ok.u40
  have hin := ok.runsIn
  have HIN := hide hin
  have H := hide HA
  clear hin ok HA
  intro m
  induction m with
  | zero =>
    intro a back f S R sv rv w h hm hb ha hQ hQ2
    exfalso
    have : 0 < sideN l.rs l.ss.length back a := by
      unfold sideN
      rw [List.countP_pos_iff]
      exact ⟨a, by simpa using ha, by simpa using Rch.base⟩
    omega
  | succ m ih =>
    intro a back f S R sv rv w h hm hb ha hQ hQ2
    have W := hide h
    have hz := h.size
    have HB := hide hb
    have HM := hide hm
    have HIH := hide ih
    have hn0 := h.n0
    obtain ⟨As, caps, rfl⟩ := wy_form h.sr
    have t0 := cellOf h.tb 0
    have s0 := cellOf h.s 0
    have s1 := unfrozenOf h.s 0
    have ls : n + 2 < w.heap.size := by omega
    have lt : n + 1 < w.heap.size := by omega
    have hS2 : S.length ≤ 200 := by omega
    clear h hb hm ih hn0
    go_enter Tryz.func251, Tryz.ntmps251
    go_upto_region 1 with (fail)
    go_upto_region 2 with (at_builtin; go_must (refine wpList_append_own_at _ rfl (.tmp 13) (.tmp 15) _ rfl (n + 5) 3 i0 _ 1 8 Tryz.underlying45 hi0 iz0 iz1 iz2 rfl (by omega) _ _ _ rfl (World.ownsRow.alloc W.out.sr _) ⟨w.heap.size, 0, none⟩ 1 1 [.int .i64 a] rfl rfl (World.news_of_block (heap_alloc_new w _)) (by simp [Value.oneCell']) (by unfold maxLen; omega) (by omega) (by simp; omega) ?_); intro v1 w1 hown1 hg1 _ hat1; have hw1 := W.out.snoS hown1 hg1 hat1; obtain ⟨A1', cap1, hv1⟩ := owns_form hown1; subst hv1; have hob := ((hg1.block (n + 2) (by simp; omega) (fun e => by have := (W.out.sr.lt _ e.symm).1; omega)).trans (Below.heap_alloc _ _ _ ls)).trans W.out.s; have u0 := cellOf hob 0; have u1 := unfrozenOf hob 0; have lu := box_lt hob; have HW1 := hide hw1; clear hw1 hob hown1 hg1 hat1 s0 s1 ls t0 lt)
    generalize hw2 : World.setCell _ _ _ = w2 at HW1 ⊢
    clear hw2 u0 u1 lu
    have x0 := cellOf HW1.out.tb 0
    have lx := box_lt HW1.out.tb
    have c0 := cellOf HW1.out.box 0; have c1 := cellOf HW1.out.box 1; have c2 := cellOf HW1.out.box 2; have c3 := cellOf HW1.out.box 3; have c4 := cellOf HW1.out.box 4; have c5 := cellOf HW1.out.box 5
    have hlb := box_lt HW1.out.box
    by_cases hab : a = b
    · have e1 : ((a : Int) == (b : Int)) = true := by simp [hab]
      have HAB := hide hab
      clear hab
      go_wp2_with fail
      go_ret
      have hab := HAB.out
      subst hab
      refine .inl ⟨.base, [], .slice A1' (S.length + 1) cap1, rv, .nil, rfl, ?_⟩
      rw [List.append_nil]
      exact HW1.out
    have e1 : ((a : Int) == (b : Int)) = false := by simp; omega
    have hbb : back = -1 ∨ ∃ j p : Nat, j < l.rs.length ∧ back = (j : Nat) ∧ Inc l.rs j p a := by
      rcases HB.out with ⟨h1, _⟩ | ⟨j, p, hj, h1, _, hi⟩
      · exact .inl h1
      · exact .inr ⟨j, p, hj, h1, hi⟩
    have HBB := hide hbb
    clear hbb
    have HAB := hide hab
    have hz2 := HW1.out.size
    clear hab
    go_wp2_with fail
    clear c0 c1 c2 c3 c4 c5 hlb x0 lx
    go_loopw [10, 11, 12, 23] (fun _ _ _ i wr => ∃ (k : Nat) (sv1 rv1 : Value), k ≤ l.us.length ∧ i = .int .i64 k ∧ Hid (∀ j, j < k → (j : Int) ≠ back → ((l.rs.getD j (0, 0)).1 = a ∨ (l.rs.getD j (0, 0)).2 = a) → ¬ Rch l.rs j (farEnd l.rs j a) b) ∧ Hid (WyAt w0 wr n A0 A1 A2 A3 A4 A5 q0 q1 q2 q3 q4 q5 l b sv1 rv1 (S ++ [a]) R)) (fun _ _ _ i _ => l.us.length - (intOf i).toNat)
    case atStart => exact ⟨0, _, _, Nat.zero_le _, rfl, fun j hj => by omega, HW1.out⟩
    case round =>
      obtain ⟨k, sv1, rv1, hk, rfl, hall, HW⟩ := hrel
      have c0 := cellOf HW.out.box 0; have c1 := cellOf HW.out.box 1; have c2 := cellOf HW.out.box 2; have c3 := cellOf HW.out.box 3; have c4 := cellOf HW.out.box 4; have c5 := cellOf HW.out.box 5
      have hlb := box_lt HW.out.box
      by_cases hkl : k < l.us.length
      · obtain ⟨bu, offu, r, HRU, rfl, hbu, hq3, f0, f1, f2, f3⟩ := (H.out.below HW.out.below).ru hkl
        have hrin := HIN.out r (by rw [← HRU.out]; exact getD_mem3f hkl)
        obtain ⟨ra, rb, rl, rr⟩ := r
        obtain ⟨a1, a2, b1, b2⟩ := hrin
        simp only at a1 a2 b1 b2 f0 f1 f2 f3
        obtain ⟨ka, rfl⟩ := Int.eq_ofNat_of_zero_le a1
        obtain ⟨kb, rfl⟩ := Int.eq_ofNat_of_zero_le b1
        have hrs : l.rs.getD k (0, 0) = (ka, kb) := by rw [rs_getD l hkl, HRU.out]; simp
        have HRS := hide hrs
        have lbu : bu < wr.heap.size := by have := HW.out.size; omega
        have ik0 : (0 : Int) ≤ (k : Int) := by omega
        have ik : (k : Int) < (l.us.length : Int) := by omega
        have iq : (l.us.length : Int) ≤ (q3 : Int) := by omega
        have hkr : k < l.rs.length := by rw [rs_len]; exact hkl
        clear hrs
        go_upto_region 7 with (fail)
        generalize hw1 : World.alloc _ _ = w3
        obtain ⟨hb1, hB1, hs1⟩ := alloc1 hw1
        have z0 := cellOf hb1 0; have z1 := cellOf hb1 1; have z2 := cellOf hb1 2; have z3 := cellOf hb1 3
        have lz := box_lt hb1
        have HW3 := hide (HW.out.up hB1)
        clear hw1 hb1 hB1 hs1 c0 c1 c2 c3 c4 c5 hlb f0 f1 f2 f3 lbu
        by_cases hinc : ka = a ∨ kb = a
        case neg =>
          have g1 : ((a : Int) == (ka : Int)) = false := by simp; omega
          have g2 : ((a : Int) == (kb : Int)) = false := by simp; omega
          have HINC := hide hinc
          clear hinc
          go_wp2_with fail
          go_roundw
          case rel => exact ⟨k + 1, _, _, by omega, by go_num, fun j hj hne hi => by
              rcases Nat.lt_or_ge j k with h | h
              · exact hall.out j h hne hi
              · rw [show j = k from by omega, HRS.out] at hi; exact absurd hi HINC.out, HW3.out⟩
          case measure => simp [intOf]; omega
        have hback : ((farEnd l.rs k a : Nat) : Int) = f ↔ (k : Int) = back := by
          rcases HB.out with ⟨h1, h2⟩ | ⟨j, p, hj, h1, h2, hi⟩
          · rw [h1, h2]; constructor <;> intro h <;> omega
          · rw [h1, h2]
            have := T.out.back_same hj hkr hi (by rw [HRS.out]; exact hinc)
            constructor
            · intro h; have := this.1 (by omega); omega
            · intro h; have := this.2 (by omega); omega
        have hIxy : Inc l.rs k a (farEnd l.rs k a) := far_inc (by rw [HRS.out]; exact hinc)
        have hyl : farEnd l.rs k a < l.ss.length := (T.out.inc_lt hkr hIxy).2
        by_cases hka : ka = a
        · have hy : farEnd l.rs k a = kb := by unfold farEnd; rw [HRS.out]; simp [hka]
          rw [hy] at hback hIxy hyl
          have HY := hide hy
          have HINC := hide hinc
          have g1 : ((a : Int) == (ka : Int)) = true := by simp [hka]
          have gn : decide ((kb : Int) < 0) = false := by simp
          have gn2 : ¬ (kb : Int) < 0 := by omega
          clear hy hinc hka
          by_cases hf : ((kb : Nat) : Int) = f
          · have gf : ((kb : Int) == f) = true := by simpa using hf
            have HKB := hide (hback.1 hf)
            clear hf hback hIxy
            go_wp2_with fail
            go_roundw
            case rel => exact ⟨k + 1, _, _, by omega, by go_num, fun j hj hne hi => by
                rcases Nat.lt_or_ge j k with h | h
                · exact hall.out j h hne hi
                · rw [show j = k from by omega] at hne; exact absurd HKB.out hne, HW3.out⟩
            case measure => simp [intOf]; omega
          have gf : ((kb : Int) == f) = false := by simpa using hf
          have HKB : Hid ((k : Int) ≠ back) := fun h => hf (hback.2 h)
          have HIXY := hide hIxy
          have hless : sideN l.rs l.ss.length k kb ≤ m := by
            have := T.out.side_less hkr HKB.out (by
              rcases HB.out with ⟨h1, _⟩ | ⟨j, p, hj, h1, _, hi⟩
              · exact .inl h1
              · exact .inr ⟨j, p, hj, h1, hi⟩) hIxy
            have := HM.out
            omega
          have HLESS := hide hless
          obtain ⟨Ar, capr, rfl⟩ := wy_form HW3.out.rr
          have s0 := cellOf HW3.out.r 0
          have s1 := unfrozenOf HW3.out.r 0
          have ls := box_lt HW3.out.r
          have hR2 : R.length ≤ 200 := by omega
          have hz3 := HW3.out.size
          clear hf hback hIxy hless
          go_upto_region 15 with (at_builtin; go_must (refine wpList_append_own_at _ rfl (.tmp 48) (.tmp 50) _ rfl (n + 5) 3 i0 _ 1 8 Tryz.underlying45 hi0 iz0 iz1 iz2 rfl (by omega) _ _ _ rfl (World.ownsRow.alloc HW3.out.rr _) ⟨w3.heap.size, 0, none⟩ 1 1 [.int .i64 k] rfl rfl (World.news_of_block (heap_alloc_new w3 _)) (by simp [Value.oneCell']) (by unfold maxLen; omega) (by omega) (by simp; omega) ?_); intro v1 w4 hown1 hg1 _ hat1; have hw4 := HW3.out.snoR hown1 hg1 hat1; obtain ⟨A2', cap2, hv1⟩ := owns_form hown1; subst hv1; have hob := ((hg1.block (n + 3) (by simp; omega) (fun e => by have := (HW3.out.rr.lt _ e.symm).1; omega)).trans (Below.heap_alloc _ _ _ ls)).trans HW3.out.r; have u0 := cellOf hob 0; have u1 := unfrozenOf hob 0; have lu := box_lt hob; have HW4 := hide hw4; clear hw4 hob hown1 hg1 hat1 s0 s1 ls z0 z1 z2 z3 lz)
          generalize hw5 : World.setCell _ _ _ = w5 at HW4 ⊢
          clear hw5 u0 u1 lu
          have v0 := cellOf HW4.out.v 0
          have lv := box_lt HW4.out.v
          have hcall := HIH.out kb k a (S ++ [a]) (R ++ [k]) _ _ w5 HW4.out HLESS.out (.inr ⟨k, a, hkr, rfl, rfl, HIXY.out⟩) hyl (by simp; omega) (by simp; omega)
          by_cases hri : Rch l.rs k kb b
          · have hyes := Calls.mono hcall (show ∀ e w', _ → VyYes w0 n A0 A1 A2 _ A4 A5 q0 q1 q2 q3 q4 q5 l (k : Nat) kb b (S ++ [a]) (R ++ [k]) e w' from by
              rintro e w' (h | h)
              · exact h.2
              · exact absurd hri h.1)
            have HYES := hide hyes
            have HRI := hide hri
            clear hyes hri hcall
            go_wp2_with (go_at_call 251; refine HYES.out.mono ?_; rintro e w6 ⟨P, sv6, rv6, hP6, rfl, hW6⟩; have HP6 := hide hP6; have HW6 := hide hW6; clear hP6 hW6 v0 lv)
            go_ret
            have hway : WayP l.rs back a (k :: P) b := .cons hkr HKB.out HIXY.out HAB.out HRI.out HP6.out
            refine .inl ⟨hway.rch T.out HBB.out, k :: P, sv6, rv6, hway, rfl, ?_⟩
            have e1 : S ++ [a] ++ spotsW l.rs kb P = S ++ spotsW l.rs a (k :: P) := by simp [spotsW, HY.out]
            have e2 : R ++ [k] ++ P = R ++ k :: P := by simp
            rw [← e1, ← e2]
            exact HW6.out
          have hno := Calls.mono hcall (show ∀ e w', _ → VyNo w0 n A0 A1 A2 _ A4 A5 q0 q1 q2 q3 q4 q5 l b (S ++ [a]) (R ++ [k]) e w' from by
            rintro e w' (h | h)
            · exact absurd h.1 hri
            · exact h.2)
          have HNO := hide hno
          have HRI := hide hri
          clear hno hri hcall
          go_upto_region 18 with (go_at_call 251; refine HNO.out.mono ?_; rintro e w6 ⟨sv6, rv6, rfl, hW6⟩; obtain ⟨A6, cap6, hv6, hcap6⟩ := wy_formR hW6; subst hv6; have q0' := cellOf hW6.r 0; have q1' := unfrozenOf hW6.r 0; have lq := box_lt hW6.r; have HW6 := hide hW6; clear hW6 v0 lv)
          have HW7 := hide (HW6.out.popR)
          generalize hw7 : World.setCell _ _ _ = w7 at HW7 ⊢
          clear hw7 q0' q1' lq hcap6
          go_wp2_with fail
          go_roundw
          case rel => exact ⟨k + 1, _, _, by omega, by go_num, fun j hj hne hi => by
              rcases Nat.lt_or_ge j k with h | h
              · exact hall.out j h hne hi
              · rw [show j = k from by omega, HY.out]; exact HRI.out, HW7.out⟩
          case measure => simp [intOf]; omega
        · have hy : farEnd l.rs k a = ka := by unfold farEnd; rw [HRS.out]; simp [hka]
          rw [hy] at hback hIxy hyl
          have HY := hide hy
          have HINC := hide hinc
          have g1 : ((a : Int) == (ka : Int)) = false := by simp; omega
          have g2 : ((a : Int) == (kb : Int)) = true := by simp; omega
          have gn : decide ((ka : Int) < 0) = false := by simp
          have gn2 : ¬ (ka : Int) < 0 := by omega
          clear hy hinc hka
          by_cases hf : ((ka : Nat) : Int) = f
          · have gf : ((ka : Int) == f) = true := by simpa using hf
            have HKB := hide (hback.1 hf)
            clear hf hback hIxy
            go_wp2_with fail
            go_roundw
            case rel => exact ⟨k + 1, _, _, by omega, by go_num, fun j hj hne hi => by
                rcases Nat.lt_or_ge j k with h | h
                · exact hall.out j h hne hi
                · rw [show j = k from by omega] at hne; exact absurd HKB.out hne, HW3.out⟩
            case measure => simp [intOf]; omega
          have gf : ((ka : Int) == f) = false := by simpa using hf
          have HKB : Hid ((k : Int) ≠ back) := fun h => hf (hback.2 h)
          have HIXY := hide hIxy
          have hless : sideN l.rs l.ss.length k ka ≤ m := by
            have := T.out.side_less hkr HKB.out (by
              rcases HB.out with ⟨h1, _⟩ | ⟨j, p, hj, h1, _, hi⟩
              · exact .inl h1
              · exact .inr ⟨j, p, hj, h1, hi⟩) hIxy
            have := HM.out
            omega
          have HLESS := hide hless
          obtain ⟨Ar, capr, rfl⟩ := wy_form HW3.out.rr
          have s0 := cellOf HW3.out.r 0
          have s1 := unfrozenOf HW3.out.r 0
          have ls := box_lt HW3.out.r
          have hR2 : R.length ≤ 200 := by omega
          have hz3 := HW3.out.size
          clear hf hback hIxy hless
          go_upto_region 15 with (at_builtin; go_must (refine wpList_append_own_at _ rfl (.tmp 48) (.tmp 50) _ rfl (n + 5) 3 i0 _ 1 8 Tryz.underlying45 hi0 iz0 iz1 iz2 rfl (by omega) _ _ _ rfl (World.ownsRow.alloc HW3.out.rr _) ⟨w3.heap.size, 0, none⟩ 1 1 [.int .i64 k] rfl rfl (World.news_of_block (heap_alloc_new w3 _)) (by simp [Value.oneCell']) (by unfold maxLen; omega) (by omega) (by simp; omega) ?_); intro v1 w4 hown1 hg1 _ hat1; have hw4 := HW3.out.snoR hown1 hg1 hat1; obtain ⟨A2', cap2, hv1⟩ := owns_form hown1; subst hv1; have hob := ((hg1.block (n + 3) (by simp; omega) (fun e => by have := (HW3.out.rr.lt _ e.symm).1; omega)).trans (Below.heap_alloc _ _ _ ls)).trans HW3.out.r; have u0 := cellOf hob 0; have u1 := unfrozenOf hob 0; have lu := box_lt hob; have HW4 := hide hw4; clear hw4 hob hown1 hg1 hat1 s0 s1 ls z0 z1 z2 z3 lz)
          generalize hw5 : World.setCell _ _ _ = w5 at HW4 ⊢
          clear hw5 u0 u1 lu
          have v0 := cellOf HW4.out.v 0
          have lv := box_lt HW4.out.v
          have hcall := HIH.out ka k a (S ++ [a]) (R ++ [k]) _ _ w5 HW4.out HLESS.out (.inr ⟨k, a, hkr, rfl, rfl, HIXY.out⟩) hyl (by simp; omega) (by simp; omega)
          by_cases hri : Rch l.rs k ka b
          · have hyes := Calls.mono hcall (show ∀ e w', _ → VyYes w0 n A0 A1 A2 _ A4 A5 q0 q1 q2 q3 q4 q5 l (k : Nat) ka b (S ++ [a]) (R ++ [k]) e w' from by
              rintro e w' (h | h)
              · exact h.2
              · exact absurd hri h.1)
            have HYES := hide hyes
            have HRI := hide hri
            clear hyes hri hcall
            go_wp2_with (go_at_call 251; refine HYES.out.mono ?_; rintro e w6 ⟨P, sv6, rv6, hP6, rfl, hW6⟩; have HP6 := hide hP6; have HW6 := hide hW6; clear hP6 hW6 v0 lv)
            go_ret
            have hway : WayP l.rs back a (k :: P) b := .cons hkr HKB.out HIXY.out HAB.out HRI.out HP6.out
            refine .inl ⟨hway.rch T.out HBB.out, k :: P, sv6, rv6, hway, rfl, ?_⟩
            have e1 : S ++ [a] ++ spotsW l.rs ka P = S ++ spotsW l.rs a (k :: P) := by simp [spotsW, HY.out]
            have e2 : R ++ [k] ++ P = R ++ k :: P := by simp
            rw [← e1, ← e2]
            exact HW6.out
          have hno := Calls.mono hcall (show ∀ e w', _ → VyNo w0 n A0 A1 A2 _ A4 A5 q0 q1 q2 q3 q4 q5 l b (S ++ [a]) (R ++ [k]) e w' from by
            rintro e w' (h | h)
            · exact absurd h.1 hri
            · exact h.2)
          have HNO := hide hno
          have HRI := hide hri
          clear hno hri hcall
          go_upto_region 18 with (go_at_call 251; refine HNO.out.mono ?_; rintro e w6 ⟨sv6, rv6, rfl, hW6⟩; obtain ⟨A6, cap6, hv6, hcap6⟩ := wy_formR hW6; subst hv6; have q0' := cellOf hW6.r 0; have q1' := unfrozenOf hW6.r 0; have lq := box_lt hW6.r; have HW6 := hide hW6; clear hW6 v0 lv)
          have HW7 := hide (HW6.out.popR)
          generalize hw7 : World.setCell _ _ _ = w7 at HW7 ⊢
          clear hw7 q0' q1' lq hcap6
          go_wp2_with fail
          go_roundw
          case rel => exact ⟨k + 1, _, _, by omega, by go_num, fun j hj hne hi => by
              rcases Nat.lt_or_ge j k with h | h
              · exact hall.out j h hne hi
              · rw [show j = k from by omega, HY.out]; exact HRI.out, HW7.out⟩
          case measure => simp [intOf]; omega
      · have hke : k = l.us.length := by omega
        subst hke
        have hno : ¬ Rch l.rs back a b := T.out.none_way HAB.out (fun j hj hne hi => hall.out j (by rw [← rs_len]; exact hj) hne hi)
        have HNO := hide hno
        obtain ⟨A6, cap6, rfl, hcap6⟩ := wy_formS HW.out
        have q0' := cellOf HW.out.s 0
        have q1' := unfrozenOf HW.out.s 0
        have lq := box_lt HW.out.s
        clear hno
        go_upto_region 20 with (fail)
        have HW7 := hide (HW.out.popS)
        generalize hw7 : World.setCell _ _ _ = w7 at HW7 ⊢
        clear hw7
        go_wp2_with fail
        go_ret
        exact .inr ⟨HNO.out, _, _, rfl, HW7.out⟩
end Go.Proofs.YtehadoecnmfeoaaGreat

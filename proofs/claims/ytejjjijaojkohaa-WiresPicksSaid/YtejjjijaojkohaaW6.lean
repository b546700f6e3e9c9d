/- The iterator over the seconds of a cycle, over and over again: its contract. -/
import Derived.Test.YtejjjijaojkohaaRows
import Derived.Test.YtejjjijaojkohaaW5
import Derived.Test.YtejjjijaojkohaaK3
import Derived.RangeFuncNested
import Derived.RangeFuncBound
import Derived.RangeFuncCalls
import Derived.RangeFuncLeaves
import Derived.Shelf.Abstract
import Derived.Shelf.RegionOpen
import Derived.OwnWalkIn
import Derived.TacticsInMore
import Derived.LoopNIn
import Derived.LoopIn
import Derived.Sort.LoopGhostIn
namespace Go.Proofs.Ytejjjijaojkohaa
open Go.RowKit Go.Shelf
attribute [local go_sem] Oper.semAt_some
set_option linter.unusedVariables false

/-- Blocks of cells outside S lie as they lay. -/
structure Kpt (S : Nat → Prop) (W W' : World) : Prop where
  size : W.heap.size ≤ W'.heap.size
  same : ∀ k, ¬ S k → ∀ cs t fr, W.heap[k]? = some (.cells cs t fr) → W'.heap[k]? = some (.cells cs t fr)
theorem Kpt.refl (S : Nat → Prop) (W : World) : Kpt S W W := ⟨Nat.le_refl _, fun _ _ _ _ _ h => h⟩
theorem Kpt.trans {S : Nat → Prop} {A B C : World} (h : Kpt S A B) (k : Kpt S B C) : Kpt S A C := ⟨Nat.le_trans h.size k.size, fun i hi cs t fr hc => k.same i hi cs t fr (h.same i hi cs t fr hc)⟩
theorem Kpt.cell {S : Nat → Prop} {A B : World} (h : Kpt S A B) {b o : Nat} (hb : ¬ S b) {u : Value} (hc : A.cell? ⟨b, o, none⟩ = some u) : B.cell? ⟨b, o, none⟩ = some u := by
  unfold World.cell? at hc ⊢
  cases hh : A.heap[b]? with
  | none => rw [hh] at hc; cases hc
  | some ob =>
    rw [hh] at hc
    cases ob with
    | cells cs t fr => rw [h.same b hb cs t fr hh]; exact hc
    | _ => cases hc
theorem Kpt.putObj {S : Nat → Prop} (W : World) (l : Nat) (o o' : Obj) (h : W.heap[l]? = some o) (ho : o.isCells = false) : Kpt S W (W.putObj l o') := by
  have hg := grownBy_putObj' W l o'
  refine ⟨hg.size, fun k _ cs t fr hk => ?_⟩
  rcases Nat.decEq k l with hne | he
  · exact (hg.block k (Array.getElem?_eq_some_iff.1 hk).1 (fun e => hne (by injection e))).trans hk
  · subst he
    rw [h] at hk
    injection hk with hk
    subst hk
    cases ho
theorem Kpt.alloc (S : Nat → Prop) (W : World) (o : Obj) : Kpt S W (W.alloc o) :=
  ⟨by simp, fun k _ cs t fr hk => (Below.heap_alloc W o k (Array.getElem?_eq_some_iff.1 hk).1).trans hk⟩
theorem Kpt.drewN (S : Nat → Prop) (W : World) (n : Nat) : Kpt S W (W.drewN n) := ⟨Nat.le_refl _, fun _ _ _ _ _ h => h⟩
theorem Kpt.drew (S : Nat → Prop) (W : World) : Kpt S W W.drew := ⟨Nat.le_refl _, fun _ _ _ _ _ h => h⟩
theorem Kpt.grown {S : Nat → Prop} {A B : World} {g : Nat} (h : A.grownBy B (some g)) (hg : S g) : Kpt S A B :=
  ⟨h.size, fun k hk cs t fr hc => (h.block k (Array.getElem?_eq_some_iff.1 hc).1 (fun e => by injection e with e; subst e; exact hk hg)).trans hc⟩
theorem Kpt.below {S : Nat → Prop} {A B : World} (h : Below A.heap.size A B) : Kpt S A B :=
  ⟨h.size, fun k _ cs t fr hc => (h.block k (Array.getElem?_eq_some_iff.1 hc).1).trans hc⟩
theorem Kpt.setCell {S : Nat → Prop} (W : World) {p : Addr} (hp : S p.block) (u : Value) : Kpt S W (W.setCell p u) :=
  ⟨by simp [World.setCell], fun k hk cs t fr hc => (Below.heap_setCell W p u k (fun e => hk (by rw [e]; exact hp))).trans hc⟩

/-- The current in second j of a cycle that goes on and on. -/
def ampAt (cs : List Cu) (j : Nat) : Int := (secsL cs).getD (j % secsN cs) 0
def ups (cs : List Cu) (s : Nat) : List Int := (List.range s).map (ampAt cs)
theorem ups_succ (cs : List Cu) (s : Nat) : ups cs (s + 1) = ups cs s ++ [ampAt cs s] := by simp [ups, List.range_succ]
theorem ups_length (cs : List Cu) (s : Nat) : (ups cs s).length = s := by simp [ups]
theorem ups_zero (cs : List Cu) : ups cs 0 = [] := rfl
theorem secsL_at {cs : List Cu} {k t : Nat} (hk : k < cs.length) (ht : t < (cs.getD k Cu.z).secs.toNat) : (secsL cs).getD (secsN (cs.take k) + t) 0 = (cs.getD k Cu.z).amps ∧ secsN (cs.take k) + t < secsN cs := by
  have h1 : secsL cs = secsL (cs.take (k + 1)) ++ secsL (cs.drop (k + 1)) := by
    unfold secsL; rw [← List.flatMap_append, List.take_append_drop]
  have h2 : secsN cs = secsN (cs.take (k + 1)) + secsN (cs.drop (k + 1)) := by
    unfold secsN; rw [← List.sum_append, ← List.map_append, List.take_append_drop]
  rw [secsN_take hk] at h2
  refine ⟨?_, by omega⟩
  rw [h1, secsL_take hk, List.append_assoc, List.getD_eq_getElem?_getD, List.getElem?_append_right (by rw [secsL_length]; omega), secsL_length, Nat.add_sub_cancel_left, List.getElem?_append_left (by simpa using ht), List.getElem?_replicate, if_pos ht]
  rfl
theorem ampAt_at {cs : List Cu} {q k t : Nat} (hk : k < cs.length) (ht : t < (cs.getD k Cu.z).secs.toNat) : ampAt cs (q * secsN cs + (secsN (cs.take k) + t)) = (cs.getD k Cu.z).amps := by
  obtain ⟨h1, h2⟩ := secsL_at hk ht
  unfold ampAt
  rw [Nat.mul_comm, Nat.mul_add_mod, Nat.mod_eq_of_lt h2, h1]

set_option maxRecDepth 100000 in
set_option maxHeartbeats 2000000 in
theorem seconds1_in (F : Fence) (n : Nat) (hf : F.fn 109) (hro : F.round = none) (hn : 1 ≤ n) (l Bc b off cap N : Nat) (cs : List Cu) (hok : cycOk cs = true) (S : Nat → Prop) (J Jx : List Int → World → Prop)
    (W : World) (hS : ∀ k, S k → k < W.heap.size) (hSc : ¬ S Bc) (hSb : ¬ S b) (hJa : AbidesFrom W.heap.size J)
    (hN : ∀ pre W, J pre W → pre.length < N)
    (hY : ∀ pre x W, (0 ≤ x ∧ x ≤ 500) → J pre W → pre.length < N → YieldAt F (n - 1) Try.prog l #[.int .i64 x] W fun e W' =>
      (e = .returned (.bool true) ∧ J (pre ++ [x]) W' ∧ Kpt S W W') ∨ (e = .returned (.bool false) ∧ Jx (pre ++ [x]) W'))
    (hBc : W.cell? ⟨Bc, 0, none⟩ = some (.slice (some ⟨b, off, none⟩) cs.length cap)) (hc : ∀ i j, i < cs.length → j < 2 → W.cell? ⟨b, off + (i * 2 + j), none⟩ = some (cyF cs i j)) (h0 : J [] W) :
    CallsIn F n Try.prog 109 #[.func (.yield l) #[] #[], .pointer (some ⟨Bc, 0, none⟩)] W fun e W' => (∃ v, e = .returned v) ∧ ∃ pre, (∃ s, pre = ups cs s) ∧ Jx pre W' := by
  have HC := hide hc; clear hc
  have HOK := hide hok
  have hlen := (cycOk_len hok).2
  have hlen1 := (cycOk_len hok).1
  clear hok
  refine callsIn_of_wp Try.func109 rfl hf ?_ hro
  simp only [Try.ntmps109, List.size_toArray, List.length_cons, List.length_nil, Nat.reduceAdd, Nat.reduceSub, Array.replicate_succ, Array.replicate_zero, List.push_toArray, List.append_toArray, List.nil_append, List.cons_append]
  gi_wp2
  gi_loopg [] N (fun m wr => ∃ q : Nat, Hid (m = N - q * secsN cs) ∧ J (ups cs (q * secsN cs)) wr ∧ Kpt S W wr)
  case atStart => exact ⟨0, (by show _ = _; omega), (by rw [Nat.zero_mul]; exact h0), Kpt.refl _ _⟩
  case round =>
    obtain ⟨q, hm, hJ, hK⟩ := hrel
    have hcell := hK.cell hSc hBc
    have hq : q * secsN cs < N := by have := hN _ _ hJ; rwa [ups_length] at this
    gi_wp2
    obtain ⟨wo, rfl⟩ : ∃ wo : World, wo = wr := ⟨_, rfl⟩
    clear hcell
    gi_loopw [7] (fun i wr => ∃ k : Nat, k ≤ cs.length ∧ i = .int .i64 k ∧ J (ups cs (q * secsN cs + secsN (cs.take k))) wr ∧ Kpt S W wr) (fun i _ => cs.length - (intOf i).toNat)
    case atStart => exact ⟨0, Nat.zero_le _, rfl, by simpa [secsN] using hJ, hK⟩
    case round =>
      obtain ⟨k, hk, rfl, hJ1, hK1⟩ := hrel
      by_cases hlt : k < cs.length
      · obtain ⟨c, HZ⟩ : ∃ c, Hid (cs.getD k Cu.z = c) := ⟨_, rfl⟩
        have h0 : wr.cell? ⟨b, off + k * 2, none⟩ = some (.int .i64 c.amps) := hK1.cell hSb (by have := HC.out k 0 hlt (by omega); simp only [cyF, if_pos, HZ.out] at this; exact this)
        have h1 : wr.cell? ⟨b, off + k * 2 + 1, none⟩ = some (.int .i64 c.secs) := hK1.cell hSb (by have := HC.out k 1 hlt (by omega); simp only [cyF, HZ.out] at this; exact this)
        have hc2 := cycOk_cu HOK.out (cu_mem hlt)
        rw [HZ.out] at hc2
        obtain ⟨hc1, hc2, hc3, hc4⟩ := hc2
        gi_wp2
        obtain ⟨W1, hW1⟩ : ∃ W1 : World, wr.alloc (.cells #[.int .i64 c.amps, .int .i64 c.secs] 54) = W1 := ⟨_, rfl⟩
        have hJ2 : J (ups cs (q * secsN cs + secsN (cs.take k))) W1 := by
          rw [← hW1]; exact hJa _ _ _ none hJ1 (World.grownBy_alloc _ _ _) (fun r e => by cases e)
        have hK2 : Kpt S W W1 := by rw [← hW1]; exact hK1.trans (Kpt.alloc _ _ _)
        have hcc : W1.cell? ⟨wr.heap.size, 0, none⟩ = some (.int .i64 c.amps) := by
          rw [← hW1]; simp
        have hnS : ¬ S wr.heap.size := fun h => by have := hS _ h; have := hK1.size; omega
        rw [hW1]
        clear hW1
        obtain ⟨wb, hwb⟩ : ∃ wb : Nat, wr.heap.size = wb := ⟨_, rfl⟩
        rw [hwb] at hcc hnS ⊢
        clear hwb h0 h1
        gi_loopw [13] (fun i wr' => ∃ t : Nat, (t : Int) ≤ c.secs ∧ i = .int .i64 t ∧ J (ups cs (q * secsN cs + (secsN (cs.take k) + t))) wr' ∧ Kpt S W1 wr') (fun i _ => c.secs.toNat - (intOf i).toNat)
        case atStart => exact ⟨0, by omega, rfl, hJ2, Kpt.refl _ _⟩
        case round =>
          obtain ⟨t, ht, rfl, hJ3, hK3⟩ := hrel
          have hcc3 := hK3.cell hnS hcc
          by_cases hts : (t : Int) < c.secs
          · have hat : ampAt cs (q * secsN cs + (secsN (cs.take k) + t)) = c.amps := by
              have := ampAt_at (q := q) (k := k) (t := t) hlt (by rw [HZ.out]; omega)
              rw [HZ.out] at this; exact this
            obtain ⟨fn, tmps, assign, body, hy, hR⟩ := hY _ c.amps _ ⟨hc1, hc2⟩ hJ3 (hN _ _ hJ3)
            have hup : ups cs (q * secsN cs + (secsN (cs.take k) + t)) ++ [c.amps] = ups cs (q * secsN cs + (secsN (cs.take k) + (t + 1))) := by
              rw [← Nat.add_assoc, ← Nat.add_assoc, ← Nat.add_assoc, ups_succ, Nat.add_assoc, hat]
            rw [hup] at hR
            have HUP := hide hup
            clear hup hat
            gi_wp2
            refine hR.mono ?_
            rintro e W3 (⟨rfl, hJ4, hk4⟩ | ⟨rfl, hJx4⟩)
            · gi_wp2
              go_roundw
              case rel => exact ⟨t + 1, by omega, by go_num, hJ4, hK3.trans hk4⟩
              case measure => simp [intOf]; omega
            · gi_wp2
              refine bodyPost_ret (results_none rfl _ _ _) rfl ?_
              exact ⟨⟨_, rfl⟩, _, ⟨_, rfl⟩, hJx4⟩
          · gi_wp2
            go_roundw
            case rel =>
              refine ⟨k + 1, by omega, by go_num, ?_, hK2.trans hK3⟩
              rw [secsN_take hlt, HZ.out, ← (show t = c.secs.toNat from by omega)]
              exact hJ3
            case measure => simp [intOf]; omega
      · gi_wp2
        gi_roundg (N - (q + 1) * secsN cs)
        case rel =>
          refine ⟨q + 1, rfl, ?_, hK1⟩
          rw [List.take_of_length_le (by omega)] at hJ1
          rw [Nat.succ_mul]; exact hJ1
        case measure =>
          have h1 := secsN_pos HOK.out
          rw [hm.out, Nat.succ_mul]
          omega

abbrev Amp := { x : Int // 0 ≤ x ∧ x ≤ 500 }
def amps (l : List Amp) : List Int := l.map (·.1)

theorem seconds_brk (n : Nat) (hn : 1 ≤ n) (Bc b off cap N : Nat) (cs : List Cu) (hok : cycOk cs = true) (S : Nat → Prop) (w : World) (hBl : Bc < w.heap.size) (hbl : b < w.heap.size)
    (hS : ∀ k, S k → k < w.heap.size) (hSc : ¬ S Bc) (hSb : ¬ S b)
    (hBc : w.cell? ⟨Bc, 0, none⟩ = some (.slice (some ⟨b, off, none⟩) cs.length cap)) (hc : ∀ i j, i < cs.length → j < 2 → w.cell? ⟨b, off + (i * 2 + j), none⟩ = some (cyF cs i j)) :
    SeqBrk Fence.wide n Try.prog 109 #[.pointer (some ⟨Bc, 0, none⟩)] (fun x : Amp => #[.int .i64 x.1]) (Kpt S) (fun pre => ∃ s, amps pre = ups cs s) N w := by
  intro l J Jx W hW hJ hJx hN hY h0
  refine (seconds1_in Fence.wide n trivial rfl hn l Bc b off cap N cs hok S (fun pre W => ∃ p : List Amp, amps p = pre ∧ J p W) (fun pre W => ∃ p : List Amp, amps p = pre ∧ Jx p W) W
    (fun k hk => Nat.lt_of_lt_of_le (hS k hk) hW.size) hSc hSb ?_ ?_ ?_ ((hW.cell (p := ⟨Bc, 0, none⟩) hBl).trans hBc) (fun i j hi hj => (hW.cell (p := ⟨b, off + (i * 2 + j), none⟩) hbl).trans (hc i j hi hj)) ⟨[], rfl, h0⟩).mono ?_
  · rintro s A B row ⟨p, hp, hs⟩ hg hr
    exact ⟨p, hp, hJ p A B row hs hg hr⟩
  · rintro pre W1 ⟨p, rfl, hs⟩
    have := hN p W1 hs
    simpa [amps] using this
  · rintro pre x W1 hx ⟨p, rfl, hs⟩ hlen
    obtain ⟨fn, tmps, assign, body, hy, hR⟩ := hY p ⟨x, hx⟩ W1 hs (hN p W1 hs)
    refine ⟨fn, tmps, assign, body, hy, hR.mono ?_⟩
    rintro e W' (⟨he, hj, hk⟩ | ⟨he, hj⟩)
    · exact .inl ⟨he, ⟨p ++ [⟨x, hx⟩], by simp [amps], hj⟩, hk⟩
    · exact .inr ⟨he, ⟨p ++ [⟨x, hx⟩], by simp [amps], hj⟩⟩
  · rintro e W' ⟨he, pre, ⟨s, hs⟩, p, hp, hj⟩
    exact ⟨he, p, ⟨s, hp.trans hs⟩, hj⟩
end Go.Proofs.Ytejjjijaojkohaa

/- Part 16 of this claim's texts: walks and plain laws. -/
import Derived.Test.YtmgfijadjclmpaaRows
import Derived.Test.YtmgfijadjclmpaaGTC12
import Derived.Laws.Bits64b
import Derived.Laws.CopyOwn
import Derived.Deep.DeepMust
import Derived.Deep.RegionHeld3
import Derived.Deep.DrawnRows
import Derived.Test.YtmgfijadjclmpaaGTC2
import Derived.Test.YtmgfijadjclmpaaGTC15
import Derived.Sort.LoopGhostIn
/- Repeat of one number: walk. -/
namespace Go.Proofs.Ytmgfijadjclmpaa
open Go.RowKit
set_option linter.unusedVariables false
set_option linter.unusedSimpArgs false
theorem infoIntT : (Try.prog.info? 3).map (fun i => (i.zero, i.size, i.bytes)) = some (some (.int .i64 0), 1, 8) := by kernel_rfl
set_option maxRecDepth 100000 in
set_option maxHeartbeats 2000000 in
theorem mul64_oneT (n : Nat) (hn : n < 4294967296) (w : World) : Calls Try.prog 59 #[.int .u64 1, .int .u64 n] w fun e w' => e = .returned (.tuple #[.int .u64 0, .int .u64 n]) ∧ w = w' := by
  have e1 : bits .and .u64 (1 : Int) 4294967295 = 1 := by
    have h := bits_and_u64_nat 1 4294967295 (by omega) (by omega)
    exact h
  have e2 : bits .and .u64 (n : Int) 4294967295 = (n : Int) := by
    have h := bits_and_u64_nat n 4294967295 (by omega) (by omega)
    rw [show n &&& 4294967295 = n % 4294967296 from Nat.and_two_pow_sub_one_eq_mod n 32, Nat.mod_eq_of_lt hn] at h
    exact h
  have e3 : (n : Int) / 4294967296 = 0 := by omega
  have e4 : IntKind.u64.wrap (n : Int) = (n : Int) := by rw [IntKind.wrap_u64]; omega
  have e5 : bits .and .u64 (0 : Int) 4294967295 = 0 := by
    have h := bits_and_u64_nat 0 4294967295 (by omega) (by omega)
    exact h
  go_enter Try.func59, Try.ntmps59
  go_wp2
  go_ret2
  exact ⟨rfl, rfl⟩
set_option maxRecDepth 100000 in
set_option maxHeartbeats 2000000 in
theorem mul_oneT (n : Nat) (hn : n < 4294967296) (w : World) : Calls Try.prog 38 #[.int .u64 1, .int .u64 n] w fun e w' => e = .returned (.tuple #[.int .u64 0, .int .u64 n]) ∧ w = w' := by
  go_enter Try.func38, Try.ntmps38
  go_wp2_with (go_at_call 59; refine (mul64_oneT n hn _).mono ?_; rintro e w1 ⟨rfl, rfl⟩)
  go_ret2
  exact ⟨rfl, rfl⟩
/-- c copies of a number, then noughts. -/
def rpT (X : Int) (n c : Nat) : List Value := List.replicate c (.int .i64 X) ++ List.replicate (n - c) (.int .i64 0)
theorem rpT_len (X : Int) {n c : Nat} (h : c ≤ n) : (rpT X n c).length = n := by simp [rpT]; omega
theorem rpT_at (X : Int) {n c j : Nat} (h : j < c) : (rpT X n c)[j]? = some (.int .i64 X) := by
  unfold rpT
  rw [List.getElem?_append_left (by simpa using h), List.getElem?_replicate, if_pos h]
theorem rpT_splice (X : Int) {n c k : Nat} (hc : c ≤ n) (hk : c + k ≤ n) : splice (rpT X n c) c (List.replicate k (.int .i64 X)) = rpT X n (c + k) := by
  unfold splice rpT
  rw [List.take_append_of_le_length (by simp), List.take_of_length_le (by simp), List.length_replicate, List.drop_append, List.drop_eq_nil_of_le (by simp), List.nil_append, List.drop_replicate, ← List.append_assoc, List.replicate_append_replicate]
  congr 2
  simp
  omega
set_option maxRecDepth 100000 in
set_option maxHeartbeats 4000000 in
theorem RepeatT_one (X : Int) (n : Nat) (hn1 : 1 ≤ n) (hn2 : n ≤ 1000) (b : Nat) (w : World) (hb : w.heap[b]? = some (.cells #[.int .i64 X] 3 (0, 0))) :
    Calls Try.prog 20 #[.slice (some ⟨b, 0, none⟩) 1 1, .int .i64 n] w fun e w' => e = .returned (.slice (some ⟨w.heap.size, 0, none⟩) n n) ∧ NumB w' w.heap.size (List.replicate n X) ∧ Below w.heap.size w w' := by
  obtain ⟨i0, hi0, iz0, iz1, iz2⟩ := info_parts infoIntT
  have hsz : (Try.prog.info? 3).map (·.size) = some 1 := by rw [hi0]; simp [iz1]
  have hmk : ∀ W : World, (Instr.makeSlice 24 (.int .i64 n) (.int .i64 n)).run Try.prog W = .ok (.slice (some ⟨W.heap.size, 0, none⟩) n n) (W.alloc (.cells (madeCells #[.int .i64 0] (n * 1)) 3)) := fun W => by
    have h1 := run_make (P := Try.prog) W 24 3 i0 (.int .i64 0) Try.underlying24 hi0 iz0 .i64 .i64 n n (by omega) (Int.le_refl _) (by rw [iz2]; omega) (by omega)
    rw [iz1] at h1
    simpa [Value.cells] using h1
  have HB := hide hb
  have u1 : IntKind.u64.wrap (n : Int) = (n : Int) := by rw [IntKind.wrap_u64]; omega
  have g1 : ¬ (n : Int) < 0 := by omega
  have g2 : ¬ (9223372036854775807 : Int) < (n : Int) := by omega
  have hmn : n < 4294967296 := by omega
  clear hb
  go_enter Try.func20, Try.ntmps20
  go_upto_region 7 with (go_at_call 38; refine (mul_oneT n hmn _).mono ?_; rintro e w1 ⟨rfl, rfl⟩)
  generalize hw1 : World.alloc _ _ = w1
  obtain ⟨hb1, hB1, hs1⟩ := alloc1 hw1
  have hg0 : w1.heap[w.heap.size]? = some (.cells (rpT X n 0).toArray 3 (0, 0)) := by
    rw [hb1]
    unfold rpT
    rw [show (madeCells #[Value.int .i64 0] n) = ((List.replicate n (0 : Int)).map (Value.int .i64)).toArray from made_intsT n, List.map_replicate]
    rfl
  have HG0 := hide hg0
  have HB1 := hide hB1
  have HX1 := hide (heap_below HB.out hB1)
  clear hw1 hb1 hB1 hs1 hg0 hmk
  have hcp := run_copy_row (P := Try.prog) w1 24 24 3 3 w.heap.size 0 n n ⟨b, 0, none⟩ 1 1 (rpT X n 0).toArray 3 [.int .i64 X] Try.underlying24 hsz HG0.out (show 1 = min 1 n by omega) (World.news_of_block HX1.out) (by simp [rpT_len X (Nat.zero_le n)]; omega) (by simp [Value.oneCell'])
  rw [show (rpT X n 0).toArray.toList.take 0 ++ [Value.int .i64 X] ++ (rpT X n 0).toArray.toList.drop (0 + [Value.int .i64 X].length) = rpT X n (0 + 1) from by
    rw [← rpT_splice X (Nat.zero_le n) (by omega)]
    simp [splice]] at hcp
  go_upto_region 8 with (fail)
  generalize hw2 : World.setRow _ _ _ = w2
  have hg2 : w2.heap[w.heap.size]? = some (.cells (rpT X n (0 + 1)).toArray 3 (0, 0)) := by rw [← hw2]; exact setRow_heap w1 _ _ _ _ _ HG0.out
  have hB2 : Below w.heap.size w w2 := by rw [← hw2]; exact below_setRow HB1.out (Nat.le_refl _) _
  have HG2 := hide hg2
  have HB2 := hide hB2
  clear hw2 hg2 hB2 hcp
  go_loopw [8] (fun i wr => ∃ c : Nat, i = .int .i64 c ∧ 1 ≤ c ∧ c ≤ n ∧ Hid (wr.heap[w.heap.size]? = some (.cells (rpT X n c).toArray 3 (0, 0))) ∧ Hid (Below w.heap.size w wr)) (fun i _ => n - (intOf i).toNat)
  case atStart => exact ⟨1, rfl, Nat.le_refl _, hn1, HG2.out, HB2.out⟩
  case round =>
    obtain ⟨c, rfl, hc1, hcn, HG, HBr⟩ := hrel
    by_cases hlt : c < n
    · have i1 : (c : Int) < (n : Int) := by omega
      have i2 : (0 : Int) ≤ (c : Int) := by omega
      have i3 : (c : Int) ≤ (n : Int) := by omega
      have lg := box_lt HG.out
      have hnc : ¬ n = c := by omega
      obtain ⟨m, hm⟩ : ∃ m, Nat.min c (n - c) = m := ⟨_, rfl⟩
      have hm1 : 1 ≤ m := by rw [← hm]; show 1 ≤ min c (n - c); omega
      have hm2 : c + m ≤ n := by rw [← hm]; show c + min c (n - c) ≤ n; omega
      have hm3 : m ≤ c := by rw [← hm]; show min c (n - c) ≤ c; omega
      have HM := hide hm
      have wr1 : IntKind.i64.wrap ((c : Int) + (m : Int)) = (c : Int) + (m : Int) := IntWalk.i64_in _ (by omega)
      clear hm
      have hsrc : ∀ j v, (List.replicate (m) (Value.int .i64 X))[j]? = some v → wr.cell? ((⟨w.heap.size, 0, none⟩ : Addr).add j) = some v := fun j v hj => by
        rw [List.getElem?_replicate] at hj
        split at hj
        · injection hj with hj
          subst hj
          exact World.news_of_block HG.out j _ (rpT_at X (by omega))
        · cases hj
      have HSRC := hide hsrc
      clear hsrc
      go_upto_region 9 with (fail)
      have hBrr := HBr.out
      refine wp_region_held_drew (S := (fun w' => Below w.heap.size w w')) (by kernel_rfl) ?_ (fun hHeld => ?_)
      · try dsimp only
        exact (by repeat (first | exact Below.refl _ _ | assumption | refine Below.drew ?_ | refine Below.drewN ?_ _ | refine Below.allocT ?_ (Nat.le_refl _) _ | refine Below.setCell ?_ (by simp <;> omega) _ | refine Below.to ?_ (by assumption) (Nat.le_refl _)))
      refine zT 0 rfl ?_
      refine zT 1 rfl ?_
      refine zT 2 rfl ?_
      refine zT 3 rfl ?_
      refine zT 4 rfl ?_
      refine zT 5 rfl ?_
      refine zT 6 rfl ?_
      refine wpAnyH_ready (rs := [7]) (by kernel_rfl) (by simp) ?_
      refine AllReadyH.cons rfl (fun K hK => ?_) AllReadyH.nil
      (refine step_copy_splice (by rfl) (.tmp 41) (.tmp 44) 24 24 (by rfl) 3 Try.underlying24 hsz (some ⟨w.heap.size, c, none⟩) (some ⟨w.heap.size, 0, none⟩) (n - c) (n - c) c n (by rfl) (by rfl) w.heap.size c (rpT X n c) 3 HG.out (List.replicate (m) (.int .i64 X)) (by rw [List.length_replicate]; exact HM.out.symm) (fun _ => ⟨rfl, _, rfl, HSRC.out⟩) (by rw [rpT_len X hcn, List.length_replicate]; omega) (by intro v hv; rw [List.mem_replicate] at hv; rw [hv.2]; rfl) w.heap.size w (Below.drew hBrr) (Nat.le_refl _) ?_; intro w4 hg4 hB4; have HG4 := hide (show w4.heap[w.heap.size]? = some (.cells (rpT X n (c + m)).toArray 3 (0, 0)) from by rw [← rpT_splice X hcn (by omega)]; exact hg4.out); clear hg4)
      (try dsimp only)
      refine hK.out _ _ ?_ (fun hNext => ?_)
      · try dsimp only
        exact (by repeat (first | exact Below.refl _ _ | assumption | refine Below.drew ?_ | refine Below.drewN ?_ _ | refine Below.allocT ?_ (Nat.le_refl _) _ | refine Below.setCell ?_ (by simp <;> omega) _ | refine Below.to ?_ (by assumption) (Nat.le_refl _)))
      clear hK K hHeld
      have hHeld := hNext
      clear hNext
      (try dsimp only at hHeld)
      try simp only [zX]
      refine zT 8 rfl ?_
      refine zT 9 rfl ?_
      refine wpAnyH_done (by kernel_rfl) ?_ _
      clear hHeld hBrr
      have HB4 := hide hB4
      clear hB4 lg
      go_wp2_with fail
      go_roundw
      case rel => exact ⟨c + m, by go_num, by omega, by omega, HG4.out, HB4.out⟩
      case measure => simp [intOf]; omega
    · have hce : c = n := by omega
      have i1 : ¬ (c : Int) < (n : Int) := by omega
      go_wp2_with fail
      go_ret
      refine ⟨rfl, ?_, HBr.out⟩
      have h1 := HG.out
      rw [hce] at h1
      unfold NumB
      rw [h1]
      simp [rpT]
set_option maxRecDepth 100000 in
set_option maxHeartbeats 4000000 in
theorem RepeatT_zero (X : Int) (b : Nat) (w : World) (hb : w.heap[b]? = some (.cells #[.int .i64 X] 3 (0, 0))) :
    Calls Try.prog 20 #[.slice (some ⟨b, 0, none⟩) 1 1, .int .i64 0] w fun e w' => e = .returned (.slice (some ⟨w.heap.size, 0, none⟩) 0 0) ∧ NumB w' w.heap.size [] ∧ Below w.heap.size w w' := by
  obtain ⟨i0, hi0, iz0, iz1, iz2⟩ := info_parts infoIntT
  have hsz : (Try.prog.info? 3).map (·.size) = some 1 := by rw [hi0]; simp [iz1]
  have hmk : ∀ W : World, (Instr.makeSlice 24 (.int .i64 0) (.int .i64 0)).run Try.prog W = .ok (.slice (some ⟨W.heap.size, 0, none⟩) 0 0) (W.alloc (.cells (madeCells #[.int .i64 0] (0 * 1)) 3)) := fun W => by
    have h1 := run_make (P := Try.prog) W 24 3 i0 (.int .i64 0) Try.underlying24 hi0 iz0 .i64 .i64 0 0 (by omega) (Int.le_refl _) (by rw [iz2]; omega) (by omega)
    rw [iz1] at h1
    simpa [Value.cells] using h1
  have HB := hide hb
  have hml := fun W => mul_oneT 0 (by omega) W
  have HML := hide hml
  clear hb hml
  go_enter Try.func20, Try.ntmps20
  go_upto_region 7 with (go_at_call 38; refine (HML.out _).mono ?_; rintro e w1 ⟨rfl, rfl⟩)
  generalize hw1 : World.alloc _ _ = w1
  obtain ⟨hb1, hB1, hs1⟩ := alloc1 hw1
  have hg0 : w1.heap[w.heap.size]? = some (.cells #[] 3 (0, 0)) := by
    rw [hb1, made_intsT]
    rfl
  have HG0 := hide hg0
  have HB1 := hide hB1
  have HX1 := hide (heap_below HB.out hB1)
  clear hw1 hb1 hB1 hs1 hg0 hmk
  have hcp := run_copy_row (P := Try.prog) w1 24 24 3 3 w.heap.size 0 0 0 ⟨b, 0, none⟩ 1 1 #[] 3 [] Try.underlying24 hsz HG0.out (by rfl) (fun j v hj => by cases hj) (by simp) (by simp)
  go_upto_region 8 with (fail)
  generalize hw2 : World.setRow _ _ _ = w2
  have hg2 : w2.heap[w.heap.size]? = some (.cells #[] 3 (0, 0)) := by rw [← hw2]; exact setRow_heap w1 _ _ _ _ _ HG0.out
  have hB2 : Below w.heap.size w w2 := by rw [← hw2]; exact below_setRow HB1.out (Nat.le_refl _) _
  have HG2 := hide hg2
  have HB2 := hide hB2
  clear hw2 hg2 hB2 hcp
  go_loopw [8] (fun i wr => i = .int .i64 0 ∧ Hid (wr = w2)) (fun i _ => 0)
  case atStart => exact ⟨rfl, rfl⟩
  case round =>
    obtain ⟨rfl, HW⟩ := hrel
    have hw := HW.out
    subst hw
    go_wp2
    go_ret
    exact ⟨rfl, HG2.out, HB2.out⟩
theorem RepeatT_any (X : Int) (n : Nat) (hn2 : n ≤ 1000) (b : Nat) (w : World) (hb : w.heap[b]? = some (.cells #[.int .i64 X] 3 (0, 0))) :
    Calls Try.prog 20 #[.slice (some ⟨b, 0, none⟩) 1 1, .int .i64 n] w fun e w' => e = .returned (.slice (some ⟨w.heap.size, 0, none⟩) n n) ∧ NumB w' w.heap.size (List.replicate n X) ∧ Below w.heap.size w w' := by
  rcases Nat.eq_zero_or_pos n with h | h
  · subst h
    exact RepeatT_zero X b w hb
  · exact RepeatT_one X n h hn2 b w hb
end Go.Proofs.Ytmgfijadjclmpaa
/- Play of the bus: walk. -/
namespace Go.Proofs.Ytmgfijadjclmpaa
open Go.RowKit
set_option linter.unusedVariables false
set_option linter.unusedSimpArgs false
def enL (es : List Int) : Nat → Int := fun i => es.getD i 0
/-- What Play answers. -/
def PlP (l : List Fr) (rs : List Rl) (w : World) (e : Ending) (w' : World) : Prop :=
  ∃ (v : Value) (z : Int), e = .returned (.tuple #[v, .int .i64 z]) ∧ Below w.heap.size w w' ∧ (z ≠ 0 ∨
    z = 0 ∧ chkR l rs = 0 ∧ ∃ es : List Int, es.length = rs.length ∧ Ints w' w'.heap.size v es ∧ (∀ i, i < rs.length → 0 ≤ enL es i ∧ enL es i ≤ 10000000) ∧ Sched (sysOf l rs) (enL es))
/-- Play between two rounds. -/
structure PlM (l : List Fr) (rs : List Rl) (w wr : World) (g : Nat) (es : List Int) (now : Int) : Prop where
  len : es.length = rs.length
  hi : now ≤ 1000000 + 1000 * ((rs.length : Int) - unK (enL es) rs.length)
  num : NumB wr g es
  ps : PSched (sysOf l rs) (enL es) now
  lo : ∀ j, j < rs.length → -1 ≤ enL es j
  below : Below w.heap.size w wr
theorem RepeatT_g (X : Int) (n : Nat) (hn2 : n ≤ 1000) (b : Nat) (w : World) (hb : w.heap[b]? = some (.cells #[.int .i64 X] 3 (0, 0))) :
    Calls Try.prog 20 #[.slice (some ⟨b, 0, none⟩) 1 1, .int .i64 n] w fun e w' => ∃ g, e = .returned (.slice (some ⟨g, 0, none⟩) n n) ∧ w.heap.size ≤ g ∧ NumB w' g (List.replicate n X) ∧ Below w.heap.size w w' :=
  (RepeatT_any X n hn2 b w hb).mono fun e w' => fun ⟨h1, h2, h3⟩ => ⟨_, h1, Nat.le_refl _, h2, h3⟩
theorem PlM.begin {l : List Fr} {rs : List Rl} {w wr : World} {g : Nat} (hc : chkR l rs = 0) (hn : NumB wr g (List.replicate rs.length (-1))) (hb : Below w.heap.size w wr) : PlM l rs w wr g (List.replicate rs.length (-1)) 0 := by
  have h1 : ∀ i, i < rs.length → enL (List.replicate rs.length (-1)) i = -1 := fun i hi => by
    unfold enL
    simp [hi]
  have h2 := unK_le (enL (List.replicate rs.length (-1))) rs.length
  exact ⟨by simp, by omega, hn, PSched.begin (sys_ok hc) h1, fun j hj => by rw [h1 j hj]; exact Int.le_refl _, hb⟩
theorem PlM.send {l : List Fr} {rs : List Rl} {w wr w' : World} {g : Nat} {es : List Int} {now so s : Int} {x : Nat} (hc : chkR l rs = 0) (h : PlM l rs w wr g es now) (h0 : 0 ≤ now) (hi : InnP (sysOf l rs) (enL es) now rs.length x so) (hs : (sysOf l rs).S ((sysOf l rs).fr x) = s)
    (hn : NumB w' g (es.set x (now + s))) (hb : Below w.heap.size w w') : x < rs.length ∧ PlM l rs w w' g (es.set x (now + s)) (now + s) ∧ muN (sysOf l rs) (enL (es.set x (now + s))) (now + s) < muN (sysOf l rs) (enL es) now := by
  have ok := sys_ok hc
  rcases hi.nx with ⟨h1, _⟩ | ⟨x', h1, h2, h3, h4, h5⟩
  · omega
  have e : x' = x := by omega
  subst e
  have hok := (chkR_ok hc)
  have hfr := hok.2.2 x' h2
  have hsl := hok.1.s ((sysOf l rs).fr x') (ok.fr x' h2)
  have hs' : (l.getD ((sysOf l rs).fr x') Fr.o).s = s := hs
  rw [hs'] at hsl
  have e1 : enL (es.set x' (now + s)) x' = now + s := set_getD (by rw [h.len]; exact h2)
  have e2 : ∀ j, j ≠ x' → enL (es.set x' (now + s)) j = enL es j := fun j hj => set_getD_ne hj
  have hu := unK_send (en := enL es) (en' := enL (es.set x' (now + s))) h3 (by rw [e1]; omega) e2 h2
  have hps := PSched.send ok h.ps h0 h2 h3 h4 (fun j hj hne hu ht => h5 j hj hne hu ht) (en' := enL (es.set x' (now + s))) (by rw [e1, hs]) e2
  rw [hs] at hps
  refine ⟨h2, ⟨by simp [h.len], ?_, hn, hps, fun j hj => ?_, hb⟩, ?_⟩
  · have := h.hi
    omega
  · by_cases e : j = x'
    · subst e
      rw [e1]
      omega
    · rw [e2 j e]
      exact h.lo j hj
  · unfold muN
    show 2 * unK _ rs.length + _ < 2 * unK _ rs.length + _
    split <;> split <;> omega
theorem PlM.jump {l : List Fr} {rs : List Rl} {w wr : World} {g : Nat} {es : List Int} {now so : Int} (hc : chkR l rs = 0) (h : PlM l rs w wr g es now) (hi : InnP (sysOf l rs) (enL es) now rs.length (-1) so) (hso : so ≠ -1) : now < so ∧ so ≤ 1000000 ∧ PlM l rs w wr g es so ∧ muN (sysOf l rs) (enL es) so < muN (sysOf l rs) (enL es) now := by
  have ok := sys_ok hc
  rcases hi.so with ⟨h1, _⟩ | ⟨⟨h1, i, h2, h3, h4⟩, h5⟩
  · exact absurd h1 hso
  have hall : ∀ j, j < rs.length → enL es j < 0 → now < (sysOf l rs).tm j := by
    rcases hi.nx with ⟨_, h6⟩ | ⟨x, h6, _⟩
    · exact h6
    · omega
  have hsm : so ≤ 1000000 := by
    have := ((chkR_ok hc).2.2 i h2).2.2
    have e : (rs.getD i Rl.o).t = so := h4
    omega
  have hu := unK_le (enL es) rs.length
  refine ⟨h1, hsm, ⟨h.len, by omega, h.num, PSched.jump ok h.ps h1 fun j hj hu => h5 j hj hu (hall j hj hu), h.lo, h.below⟩, ?_⟩
  have r1 : rdB (sysOf l rs) (enL es) now = false := rdB_no fun j hj hu => hall j hj hu
  have r2 : rdB (sysOf l rs) (enL es) so = true := rdB_yes (i := i) h2 h3 (by omega)
  unfold muN
  rw [r1, r2, if_pos rfl, if_neg (by decide)]
  omega
theorem PlM.done {l : List Fr} {rs : List Rl} {w wr : World} {g : Nat} {es : List Int} {now : Int} (hc : chkR l rs = 0) (h : PlM l rs w wr g es now) (hi : InnP (sysOf l rs) (enL es) now rs.length (-1) (-1)) : (∀ i, i < rs.length → 0 ≤ enL es i ∧ enL es i ≤ 10000000) ∧ Sched (sysOf l rs) (enL es) := by
  have ok := sys_ok hc
  have hall : ∀ i, i < rs.length → 0 ≤ enL es i := fun i hi2 => by
    rcases Int.lt_or_le (enL es i) 0 with h1 | h1
    · exfalso
      rcases hi.nx with ⟨_, h6⟩ | ⟨x, h6, _⟩
      · rcases hi.so with ⟨_, h7⟩ | ⟨⟨h7, j, _, h8, h9⟩, _⟩
        · have := h6 i hi2 h1
          have := h7 i hi2 h1
          omega
        · have := ok.tm j (by assumption)
          omega
      · omega
    · exact h1
  have hl := (chkR_ok hc).2.1
  refine ⟨fun i hi => ⟨hall i hi, ?_⟩, PSched.done ok h.ps hall⟩
  have h1 := (h.ps.rel i hi (hall i hi)).2
  have h2 := h.hi
  omega
end Go.Proofs.Ytmgfijadjclmpaa
/- Play of the bus: walk. -/
namespace Go.Proofs.Ytmgfijadjclmpaa
open Go.RowKit
set_option linter.unusedVariables false
set_option linter.unusedSimpArgs false
set_option maxRecDepth 100000 in
set_option maxHeartbeats 8000000 in
theorem Play_any (v u : Value) (l : List Fr) (rs : List Rl) (w : World) (hm : l.length ≤ 1000) (hn : rs.length ≤ 1000) (h : Frs w w.heap.size v l) (hr : Rls w w.heap.size u rs) :
    Calls Try.prog 8 #[v, u] w (PlP l rs w) := by
  have hck := checkReleases_any v u l rs w (by unfold maxLen; omega) (by unfold maxLen; omega) h hr
  obtain ⟨A, q, rfl⟩ := h.form
  obtain ⟨A2, q2, rfl⟩ := hr.form
  obtain ⟨z, hz⟩ : ∃ z, chkR l rs = z := ⟨_, rfl⟩
  rw [hz] at hck
  have HZ := hide hz
  have HCK := hide hck
  have H := hide h
  have HR := hide hr
  have iql : (l.length : Int) ≤ (q : Int) := by have := h.cap; omega
  have iqr : (rs.length : Int) ≤ (q2 : Int) := by have := hr.cap; omega
  clear h hr hck hz
  by_cases hz0 : z = 0
  case neg =>
    have hz1 : (z != 0) = true := by simpa using hz0
    have HZ0 := hide hz0
    clear hz0
    go_enter Try.func8, Try.ntmps8
    go_wp2_with (go_at_call 19; refine HCK.out.mono ?_; rintro e w1 ⟨rfl, hB1⟩)
    go_ret2
    exact ⟨_, z, rfl, hB1, .inl HZ0.out⟩
  subst hz0
  go_enter Try.func8, Try.ntmps8
  go_upto_region 5 with (first
    | (go_at_call 19; refine HCK.out.mono ?_; rintro e w1 ⟨rfl, hB1⟩; have HB1 := hide hB1; clear hB1)
    | (go_at_call 20; refine (RepeatT_g (-1) rs.length (by omega) w1.heap.size _ (heap_new _ _ _ rfl)).mono ?_; rintro e w2 ⟨g, rfl, hgs, hg, hB2⟩; have HG := hide hg; have HB2 := hide (Below.to (Below.allocT HB1.out (Nat.le_refl _) _) hB2 (Nat.le_refl _)); have HGW : Hid (w.heap.size ≤ g) := by { have h1 := HB1.out.size; simp at hgs; show _ ≤ _; omega }; clear hg hB2 hgs))
  have hpm := PlM.begin HZ.out HG.out HB2.out
  have hmu : muN (sysOf l rs) (enL (List.replicate rs.length (-1))) 0 ≤ 2 * rs.length + 1 := by
    have := unK_le (enL (List.replicate rs.length (-1))) rs.length
    unfold muN
    show 2 * unK _ rs.length + _ ≤ _
    split <;> omega
  have HPM := hide hpm
  have HMU := hide hmu
  clear hpm hmu HB2 HG
  go_wp2_with fail
  go_loopg [8, 9, 10, 11, 12] (2 * rs.length + 1) (fun m nowv _ _ _ _ wr => ∃ (now : Int) (es : List Int), nowv = .int .i64 now ∧ 0 ≤ now ∧ Hid (muN (sysOf l rs) (enL es) now ≤ m) ∧ Hid (PlM l rs w wr g es now))
  case atStart => exact ⟨0, _, rfl, Int.le_refl _, HMU.out, HPM.out⟩
  case round =>
    obtain ⟨now, es, rfl, hnow, HM, HP⟩ := hrel
    obtain ⟨Wo, hWo⟩ : ∃ wo : World, wo = wr := ⟨_, rfl⟩
    subst hWo
    have hnow1 : now ≤ 10000000 := by have := HP.out.hi; have := unK_le (enL es) rs.length; omega
    go_wp2_with fail
    go_loopw [9, 10, 11, 12, 25] (fun nv sv _ _ iv wr => ∃ (k : Nat) (nx so : Int), iv = .int .i64 k ∧ nv = .int .i64 nx ∧ sv = .int .i64 so ∧ k ≤ rs.length ∧ Hid (InnP (sysOf l rs) (enL es) now k nx so) ∧ Hid (Below Wo.heap.size Wo wr)) (fun _ _ _ _ iv _ => rs.length - (intOf iv).toNat)
    case atStart => exact ⟨0, -1, -1, rfl, rfl, rfl, Nat.zero_le _, InnP.start, Below.refl _ _⟩
    case round =>
      obtain ⟨k, nx, so, rfl, rfl, rfl, hk, HI, HB⟩ := hrel
      have HPr : Hid (PlM l rs w wr g es now) := ⟨HP.out.len, HP.out.hi, HP.out.num.to HB.out, HP.out.ps, HP.out.lo, Below.to HP.out.below HB.out (Nat.le_refl _)⟩
      by_cases hlt : k < rs.length
      case pos =>
        have hlt1 : (k : Int) < (rs.length : Int) := by omega
        have ik0 : (0 : Int) ≤ (k : Int) := by omega
        obtain ⟨b, off, fi, t, rfl, hbb, hq, HFI, HT, hfi, ht0, ht1, e0, e1⟩ := rl_at HZ.out (HR.out.up HPr.out.below) hlt
        obtain ⟨e, he⟩ : ∃ e, enL es k = e := ⟨_, rfl⟩
        have HE := hide he
        go_upto_region 10 with (fail)
        generalize hw0 : World.alloc _ _ = w0
        obtain ⟨hb0, hB0, hs0⟩ := alloc1 hw0
        have c0 := cellOf hb0 0; have c1 := cellOf hb0 1
        have hlc := box_lt hb0
        have HB0 := hide (Below.to HB.out hB0 (Nat.le_refl _))
        have HN0 := hide (HPr.out.num.to hB0)
        have g0 : w0.cell? ⟨g, k, none⟩ = some (.int .i64 e) := by rw [← he]; exact HN0.out.cell (by rw [HP.out.len]; exact hlt)
        have lg : g < w0.heap.size := box_lt HN0.out
        clear hw0 hb0 hB0 hs0 hq e0 e1 he
        by_cases hes : 0 ≤ e
        · have d1 : decide (0 ≤ e) = true := by simpa using hes
          have HI2 : Hid (InnP (sysOf l rs) (enL es) now (k + 1) nx so) := InnP.sent HI.out (by rw [HE.out]; exact hes)
          go_wp2
          go_roundw
          case rel => exact ⟨k + 1, nx, so, by go_num, rfl, rfl, by omega, HI2, HB0⟩
          case measure => simp [intOf]; omega
        have d1 : decide (0 ≤ e) = false := by simpa using hes
        have hneg : Hid (enL es k < 0) := by show _ < _; rw [HE.out]; omega
        by_cases htn : now < t
        · have d2 : decide (now < t) = true := by simpa using htn
          have hl : Hid (∀ so', so' = (if so < 0 ∨ t < so then t else so) → InnP (sysOf l rs) (enL es) now (k + 1) nx so') := fun so' hs => InnP.later HI.out hneg.out (by rw [HT.out]; exact htn) (by rw [HT.out]; exact hs) hnow
          by_cases hs1 : so < 0
          · have d3 : decide (so < 0) = true := by simpa using hs1
            have HI2 : Hid (InnP (sysOf l rs) (enL es) now (k + 1) nx t) := hl.out _ (by rw [if_pos (.inl hs1)])
            go_wp2
            go_roundw
            case rel => exact ⟨k + 1, nx, t, by go_num, rfl, rfl, by omega, HI2, HB0⟩
            case measure => simp [intOf]; omega
          have d3 : decide (so < 0) = false := by simpa using hs1
          by_cases hs2 : t < so
          · have d4 : decide (t < so) = true := by simpa using hs2
            have HI2 : Hid (InnP (sysOf l rs) (enL es) now (k + 1) nx t) := hl.out _ (by rw [if_pos (.inr hs2)])
            go_wp2
            go_roundw
            case rel => exact ⟨k + 1, nx, t, by go_num, rfl, rfl, by omega, HI2, HB0⟩
            case measure => simp [intOf]; omega
          · have d4 : decide (t < so) = false := by simpa using hs2
            have HI2 : Hid (InnP (sysOf l rs) (enL es) now (k + 1) nx so) := hl.out _ (by rw [if_neg (by omega)])
            go_wp2
            go_roundw
            case rel => exact ⟨k + 1, nx, so, by go_num, rfl, rfl, by omega, HI2, HB0⟩
            case measure => simp [intOf]; omega
        have d2 : decide (now < t) = false := by simpa using htn
        have htn' : Hid ((sysOf l rs).tm k ≤ now) := by show _ ≤ _; rw [HT.out]; omega
        rcases HI.out.nx with ⟨hnx, _⟩ | ⟨x, hnx, hxk, _⟩
        · subst hnx
          have HI2 : Hid (InnP (sysOf l rs) (enL es) now (k + 1) k so) := InnP.first HI.out hneg.out htn'.out
          go_upto_region 14 with (fail)
          refine wp_region_held_drew (S := (fun w' => Below w0.heap.size w0 w')) (by kernel_rfl) ?_ (fun hHeld => ?_)
          · try dsimp only
            exact (by repeat (first | exact Below.refl _ _ | assumption | refine Below.drew ?_ | refine Below.drewN ?_ _ | refine Below.allocT ?_ (Nat.le_refl _) _ | refine Below.setCell ?_ (by simp <;> omega) _ | refine Below.to ?_ (by assumption) (Nat.le_refl _)))
          refine zT 0 rfl ?_
          refine zT 1 rfl ?_
          refine zT 2 rfl ?_
          refine zS 3 rfl ?_
          refine zS 4 rfl ?_
          refine zS 5 rfl ?_
          refine zS 6 rfl ?_
          refine zS 7 rfl ?_
          refine zS 8 rfl ?_
          refine zS 9 rfl ?_
          refine zT 10 rfl ?_
          refine zT 11 rfl ?_
          refine wpAnyH_done (by kernel_rfl) ?_ _
          have HB2 := hide (Below.to HB0.out hHeld (Nat.le_refl _))
          clear hHeld c0 c1 hlc g0 lg
          go_wp2
          go_roundw
          case rel => exact ⟨k + 1, k, so, by go_num, rfl, rfl, by omega, HI2, HB2⟩
          case measure => simp [intOf]; omega
        · subst hnx
          have hxn : x < rs.length := by omega
          have d3 : decide ((x : Int) < 0) = false := by simp
          have ix0 : (0 : Int) ≤ (x : Int) := by omega
          have ix1 : (x : Int) < (rs.length : Int) := by omega
          obtain ⟨b', off', fx, tx, hA', hbb', hq', HFX, HTX, hfx, _, _, f0, f1⟩ := rl_at HZ.out (HR.out.up (Below.to HP.out.below HB0.out (Nat.le_refl _))) hxn
          injection hA' with hA'
          injection hA' with hA1 hA2 _
          subst hA1 hA2
          have HF0 := hide (H.out.up (Below.to HP.out.below HB0.out (Nat.le_refl _)))
          obtain ⟨bf, hbf⟩ : ∃ z, befB l fi fx t tx = z := ⟨_, rfl⟩
          have hbe := bef_befB (l := l) (rs := rs) hxk (sys_ok HZ.out) hlt
          rw [HFI.out, HFX.out, HT.out, HTX.out, hbf] at hbe
          have HBE := hide hbe
          have HBF := hide hbf
          clear hq' hbe hbf
          go_upto_region 14 with (fail)
          refine wp_region_held_drew (S := (fun w' => Below w0.heap.size w0 w')) (by kernel_rfl) ?_ (fun hHeld => ?_)
          · try dsimp only
            exact (by repeat (first | exact Below.refl _ _ | assumption | refine Below.drew ?_ | refine Below.drewN ?_ _ | refine Below.allocT ?_ (Nat.le_refl _) _ | refine Below.setCell ?_ (by simp <;> omega) _ | refine Below.to ?_ (by assumption) (Nat.le_refl _)))
          refine zT 0 rfl ?_
          refine zT 1 rfl ?_
          refine zT 2 rfl ?_
          refine zT 3 rfl ?_
          refine zT 4 rfl ?_
          refine zT 5 rfl ?_
          refine zT 6 rfl ?_
          refine zT 7 rfl ?_
          refine zT 8 rfl ?_
          refine wpAnyH_ready (rs := [9]) (by kernel_rfl) (by simp) ?_
          refine AllReadyH.cons rfl (fun K hK => ?_) AllReadyH.nil
          go_simp
          ((go_at_call 21; refine (before_any _ l fi fx t tx _ (by unfold maxLen; omega) (HF0.out.up (by repeat (first | exact Below.refl _ _ | assumption | refine Below.drew ?_ | refine Below.drewN ?_ _ | refine Below.allocT ?_ (Nat.le_refl _) _ | refine Below.setCell ?_ (by simp <;> omega) _ | refine Below.to ?_ (by assumption) (Nat.le_refl _)))) hfi hfx).mono ?_; rw [HBF.out]; rintro e w5 ⟨rfl, hB5⟩))
          (try dsimp only)
          refine hK.out _ _ ?_ (fun hNext => ?_)
          · try dsimp only
            exact (by repeat (first | exact Below.refl _ _ | assumption | refine Below.drew ?_ | refine Below.drewN ?_ _ | refine Below.allocT ?_ (Nat.le_refl _) _ | refine Below.setCell ?_ (by simp <;> omega) _ | refine Below.to ?_ (by assumption) (Nat.le_refl _)))
          clear hK K hHeld
          have hHeld := hNext
          clear hNext
          (try dsimp only at hHeld)
          try simp only [zX]
          refine zT 10 rfl ?_
          refine zT 11 rfl ?_
          refine wpAnyH_done (by kernel_rfl) ?_ _
          have HB2 := hide (Below.to HB0.out hHeld (Nat.le_refl _))
          clear hHeld c0 c1 hlc g0 lg f0 f1 hbb'
          cases bf with
          | true =>
            have HI2 : Hid (InnP (sysOf l rs) (enL es) now (k + 1) k so) := InnP.take (sys_ok HZ.out) HI.out hneg.out htn'.out (HBE.out.1 rfl)
            go_wp2
            go_roundw
            case rel => exact ⟨k + 1, k, so, by go_num, rfl, rfl, by omega, HI2, HB2⟩
            case measure => simp [intOf]; omega
          | false =>
            have HI2 : Hid (InnP (sysOf l rs) (enL es) now (k + 1) x so) := InnP.keep (sys_ok HZ.out) hlt HI.out hneg.out htn'.out (fun hb => by have := HBE.out.2 hb; cases this)
            go_wp2
            go_roundw
            case rel => exact ⟨k + 1, x, so, by go_num, rfl, rfl, by omega, HI2, HB2⟩
            case measure => simp [intOf]; omega
      case neg =>
        have hlt1 : ¬ (k : Int) < (rs.length : Int) := by omega
        have HIE : Hid (InnP (sysOf l rs) (enL es) now rs.length nx so) := by
          rw [show rs.length = k by omega]
          exact HI
        clear hlt
        rcases HIE.out.nx with ⟨hnx, _⟩ | ⟨x, hnx, hxn, _⟩
        · subst hnx
          by_cases hso : so = -1
          · subst hso
            have hdn := PlM.done HZ.out HPr.out HIE.out
            have HDN := hide hdn
            have hint := HPr.out.num.ints
            rw [HP.out.len] at hint
            have HINT := hide hint
            clear hdn hint
            go_wp2
            go_ret2
            exact ⟨_, 0, rfl, HPr.out.below, .inr ⟨rfl, HZ.out, es, HP.out.len, HINT.out, HDN.out.1, HDN.out.2⟩⟩
          · obtain ⟨hj1, hj2, hj3, hj4⟩ := PlM.jump HZ.out HPr.out HIE.out hso
            have HJ3 := hide hj3
            have HJ4 := hide hj4
            have d3 : decide (0 ≤ so) = true := by simp; omega
            have hso0 : 0 ≤ so := by omega
            clear hj3 hj4 hso
            go_wp2
            go_roundg (muN (sysOf l rs) (enL es) so)
            case rel => exact ⟨so, es, rfl, hso0, Nat.le_refl _, HJ3.out⟩
            case measure =>
              have := HM.out
              have := HJ4.out
              omega
        · subst hnx
          have d3 : decide ((0 : Int) ≤ (x : Int)) = true := by simp
          have ix0 : (0 : Int) ≤ (x : Int) := by omega
          have ix1 : (x : Int) < (rs.length : Int) := by omega
          obtain ⟨b', off', fx, tx, rfl, hbb', hq', HFX, HTX, hfx, _, _, f0, f1⟩ := rl_at HZ.out (HR.out.up HPr.out.below) hxn
          obtain ⟨b, off, y, HX, rfl, hbb, hq, e0, e1, e2, e3, e4⟩ := (H.out.up HPr.out.below).at hfx
          have ifx0 : (0 : Int) ≤ (fx : Int) := by omega
          have ifx1 : (fx : Int) < (l.length : Int) := by omega
          have hys := (chkR_ok HZ.out).1.s fx hfx
          rw [HX.out] at hys
          have hy1 := hys.1
          have hy2 := hys.2
          have w1 : IntKind.i64.wrap (now + y.s) = now + y.s := IntWalk.i64_in _ (by omega)
          have HS : Hid ((sysOf l rs).S ((sysOf l rs).fr x) = y.s) := by
            show (sysOf l rs).S _ = _
            rw [HFX.out]
            show (l.getD fx Fr.o).s = y.s
            rw [HX.out]
          have v1 := unfrozenOf HPr.out.num x
          have lg : g < wr.heap.size := box_lt HPr.out.num
          have g1 := HPr.out.num.cell (k := x) (by rw [HP.out.len]; exact hxn)
          have hst := PlM.send HZ.out HPr.out hnow HIE.out HS.out (w' := wr.setCell ⟨g, x, none⟩ (.int .i64 (now + y.s))) HPr.out.num.set (Below.setCell HPr.out.below HGW.out _)
          have HST := hide hst
          clear hys hst hq hq'
          go_wp2
          generalize hwv : World.setCell _ _ _ = wv at HST ⊢
          clear hwv g1 v1 lg
          go_roundg (muN (sysOf l rs) (enL (es.set x (now + y.s))) (now + y.s))
          case rel => exact ⟨now + y.s, _, rfl, by omega, Nat.le_refl _, HST.out.2.1⟩
          case measure =>
            have := HM.out
            have := HST.out.2.2
            omega
end Go.Proofs.Ytmgfijadjclmpaa

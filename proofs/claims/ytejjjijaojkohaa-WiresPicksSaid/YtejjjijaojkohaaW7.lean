/- run: a body becomes warm for some seconds of a cycle: walks. -/
import Derived.Test.YtejjjijaojkohaaRows
import Derived.Test.YtejjjijaojkohaaW6
namespace Go.Proofs.Ytejjjijaojkohaa
open Go.RowKit Go.Shelf
attribute [local go_sem] Oper.semAt_some
set_option linter.unusedVariables false

theorem mk_seconds_in (F : Fence) (n : Nat) (h5 : F.fn 97) (hro : F.round = none) (A : Option Addr) (len cap : Nat) (w : World) :
    CallsIn F n Try.prog 97 #[.slice A len cap] w fun e w' => e = .returned (.func (.func 109) #[] #[.pointer (some ⟨w.heap.size, 0, none⟩)]) ∧ w' = w.alloc (.cells #[.slice A len cap] 31) := by
  refine callsIn_of_wp Try.func97 rfl h5 ?_ hro
  simp only [Try.ntmps97, List.size_toArray, List.length_cons, List.length_nil, Nat.reduceAdd, Nat.reduceSub, Array.replicate_succ, Array.replicate_zero, List.push_toArray, List.append_toArray, List.nil_append, List.cons_append]
  gi_wp2
  go_ret
  exact ⟨rfl, rfl⟩

/-- A body's state behind a list of currents, and the greatest on the way. -/
def runSt (f : Int → Int → Int) (r : Int) (l : List Int) : Int := l.foldl f r
def runMx (f : Int → Int → Int) (r : Int) (l : List Int) : Int := (l.foldl (fun (p : Int × Int) x => (f p.1 x, max p.2 (f p.1 x))) (r, r)).2
theorem runSt_snoc (f : Int → Int → Int) (r : Int) (l : List Int) (x : Int) : runSt f r (l ++ [x]) = f (runSt f r l) x := by simp [runSt]
theorem runMx_fst (f : Int → Int → Int) : ∀ (l : List Int) (p : Int × Int), (l.foldl (fun (p : Int × Int) x => (f p.1 x, max p.2 (f p.1 x))) p).1 = l.foldl f p.1
  | [], _ => rfl
  | x :: l, p => by simp only [List.foldl_cons]; rw [runMx_fst f l]
theorem runMx_snoc (f : Int → Int → Int) (r : Int) (l : List Int) (x : Int) : runMx f r (l ++ [x]) = max (runMx f r l) (f (runSt f r l) x) := by
  simp only [runMx, List.foldl_append, List.foldl_cons, List.foldl_nil, runMx_fst, runSt]

theorem warmI_range (g : Ga) (r i : Int) (hh0 : 0 ≤ g.heat) (hh1 : g.heat ≤ 1000) (hc0 : 0 ≤ g.cool) (hc1 : g.cool ≤ 1024) (hr0 : 0 ≤ r) (hi0 : 0 ≤ i) (hi1 : i ≤ 500) : 0 ≤ warmI g r i ∧ warmI g r i ≤ r + 61036 := by
  obtain ⟨p1, p2⟩ := mul_range hi0 hi1 hi0 hi1
  obtain ⟨p3, p4⟩ := mul_range p1 p2 hh0 hh1
  obtain ⟨p5, p6⟩ := mul_range hr0 (Int.le_refl r) hc0 hc1
  unfold warmI
  omega
theorem heatI_range (g : Fu) (r i : Int) (hh0 : 0 ≤ g.rating) (hh1 : g.rating ≤ 500) (hr0 : 0 ≤ r) (hi0 : 0 ≤ i) (hi1 : i ≤ 500) : 0 ≤ heatI g r i ∧ heatI g r i ≤ r + 250000 := by
  obtain ⟨p1, p2⟩ := mul_range hi0 hi1 hi0 hi1
  obtain ⟨p3, p4⟩ := mul_range hh0 hh1 hh0 hh1
  unfold heatI
  omega


theorem warmWire (a : Addr) (w : World) : (method 273 92 (.pointer (some a)) (invName Try.f65 0)).run Try.prog w = .ok (144, .pointer (some a)) w := by kernel_rfl
theorem secondWire (a : Addr) (w : World) : (method 273 92 (.pointer (some a)) (invName Try.f65 1)).run Try.prog w = .ok (110, .pointer (some a)) w := by kernel_rfl

/-- Between two rounds of run: what its own blocks and the body hold. -/
structure RunWire (w : World) (bw : Nat) (g : Ga) (r m : Int) (l : List Int) (W : World) : Prop where
  body : WireAt W bw g (runSt (warmI g) r l)
  iface : W.heap[w.heap.size]? = some (.cells #[.iface 92 (.pointer (some ⟨bw, 0, none⟩))] 123 (0, 0))
  left : W.heap[w.heap.size + 1]? = some (.cells #[.int .i64 (m - l.length)] 3 (0, 0))
  most : W.heap[w.heap.size + 2]? = some (.cells #[.int .i64 (runMx (warmI g) r l)] 3 (0, 0))
  only : w.grownBy W (some bw)
  size : w.heap.size + 3 ≤ W.heap.size
  lo : 0 ≤ runSt (warmI g) r l
  hi : runSt (warmI g) r l ≤ r + 61036 * l.length

theorem RunWire.turn {w : World} {bw : Nat} {g : Ga} {r m : Int} {l : List Int} {A B : World} {row : Option Nat} (h : RunWire w bw g r m l A) (hg : A.grownBy B row) (hr : ∀ k, row = some k → w.heap.size + 3 ≤ k) (hbw : bw < w.heap.size) : RunWire w bw g r m l B := by
  have hb : ∀ k, k < w.heap.size + 3 → B.heap[k]? = A.heap[k]? := fun k hk => hg.block k (Nat.lt_of_lt_of_le hk h.size) (fun e => by have := hr k e.symm; omega)
  refine ⟨(hb bw (by omega)).trans h.body, (hb _ (by omega)).trans h.iface, (hb _ (by omega)).trans h.left, (hb _ (by omega)).trans h.most, ?_, Nat.le_trans h.size hg.size, h.lo, h.hi⟩
  exact ⟨hg.os.trans h.only.os, hg.tape.trans h.only.tape, hg.output.trans h.only.output, Nat.le_trans h.only.size hg.size, fun k hk hne => (hb k (by omega)).trans (h.only.block k hk hne)⟩

theorem RunWire.step {w : World} {bw : Nat} {g : Ga} {r m : Int} {l : List Int} {W W1 : World} {x st y d : Int} (h : RunWire w bw g r m l W) (hst : runSt (warmI g) r l = st) (hW1 : WireAt W1 bw g (warmI g st x)) (hg : W.grownBy W1 (some bw)) (hbw : bw < w.heap.size)
    (hy : y = max (runMx (warmI g) r l) (warmI g st x)) (hd : d = m - l.length - 1) (hlo : 0 ≤ warmI g st x) (hhi : warmI g st x ≤ st + 61036) :
    KeepsOthers W ((W1.setCell ⟨w.heap.size + 1 + 1, 0, none⟩ (.int .i64 y)).setCell ⟨w.heap.size + 1, 0, none⟩ (.int .i64 d)).drew ∧
    Kpt (fun k => k = bw ∨ k = w.heap.size + 1 ∨ k = w.heap.size + 2) W ((W1.setCell ⟨w.heap.size + 1 + 1, 0, none⟩ (.int .i64 y)).setCell ⟨w.heap.size + 1, 0, none⟩ (.int .i64 d)).drew ∧
    RunWire w bw g r m (l ++ [x]) ((W1.setCell ⟨w.heap.size + 1 + 1, 0, none⟩ (.int .i64 y)).setCell ⟨w.heap.size + 1, 0, none⟩ (.int .i64 d)).drew := by
  have hs := h.size
  have d0 : W1.heap[w.heap.size]? = _ := (hg.block _ (by omega) (by intro e; injection e; omega)).trans h.iface
  have d1 : W1.heap[w.heap.size + 1]? = _ := (hg.block _ (by omega) (by intro e; injection e; omega)).trans h.left
  have d2 : W1.heap[w.heap.size + 1 + 1]? = _ := (hg.block _ (by omega) (by intro e; injection e; omega)).trans h.most
  refine ⟨?_, ?_, ?_⟩
  · refine ((KeepsOthers.of_grownBy hg ?_).trans ((KeepsOthers.setCell _ _ _).trans (KeepsOthers.setCell _ _ _))).trans (KeepsOthers.drew _)
    intro j o e hj
    injection e with e
    subst e
    rw [h.body] at hj
    injection hj with hj
    subst hj
    rfl
  · exact (((Kpt.grown hg (.inl rfl)).trans (Kpt.setCell _ (.inr (.inr rfl)) _)).trans (Kpt.setCell _ (.inr (.inl rfl)) _)).trans (Kpt.drew _ _)
  · subst hst
    refine ⟨?_, ?_, ?_, ?_, ?_, ?_, by rw [runSt_snoc]; exact hlo, ?_⟩
    · rw [runSt_snoc]
      exact (Below.heap_setCell _ _ _ bw (by simp; omega)).trans ((Below.heap_setCell _ _ _ bw (by simp; omega)).trans hW1)
    · exact (Below.heap_setCell _ _ _ _ (by simp <;> omega)).trans ((Below.heap_setCell _ _ _ _ (by simp <;> omega)).trans d0)
    · have := setCellOf (i := 0) ((Below.heap_setCell W1 ⟨w.heap.size + 1 + 1, 0, none⟩ (.int .i64 y) (w.heap.size + 1) (by simp)).trans d1) (.int .i64 d)
      rw [show (m - ((l ++ [x]).length : Nat) : Int) = d by rw [hd, List.length_append, List.length_singleton]; omega]
      exact this
    · rw [runMx_snoc, ← hy]
      exact (Below.heap_setCell _ _ _ _ (by simp)).trans (setCellOf (i := 0) d2 (.int .i64 y))
    · refine only_drew (only_setCell' (only_setCell' (only_trans h.only ?_) ?_ _) ?_ _)
      · exact ⟨hg.os, hg.tape, hg.output, hg.size, hg.block⟩
      · simp; omega
      · simp
    · have := hg.size
      show w.heap.size + 3 ≤ ((W1.setCell _ _).setCell _ _).heap.size
      simp [World.setCell]
      omega
    · rw [runSt_snoc, List.length_append, List.length_singleton]
      have := h.hi
      omega

set_option maxRecDepth 100000 in
set_option maxHeartbeats 2000000 in
theorem runWire_any (bw : Nat) (g : Ga) (r n : Int) (v : Value) (cs : List Cu) (w : World) (hw : WireAt w bw g r) (hbw : bw < w.heap.size) (hok : cycOk cs = true) (h : Cyc w bw v cs) (hn0 : 0 ≤ n) (hn1 : n ≤ 10000) (hh0 : 0 ≤ g.heat) (hh1 : g.heat ≤ 1000) (hc0 : 0 ≤ g.cool) (hc1 : g.cool ≤ 1024) (hr0 : 0 ≤ r) (hr1 : r + 61036 * n ≤ 1000000000) :
    Calls Try.prog 65 #[.iface 92 (.pointer (some ⟨bw, 0, none⟩)), v, .int .i64 n] w
      fun e w' => e = .returned (.int .i64 (runMx (warmI g) r (ups cs n.toNat))) ∧ WireAt w' bw g (runSt (warmI g) r (ups cs n.toNat)) ∧ w.grownBy w' (some bw) := by
  obtain ⟨A, b, off, cap, rfl, hnc, hA, hc⟩ := h
  have hlen := (cycOk_len hok).1
  obtain ⟨rfl, hb⟩ : A = some ⟨b, off, none⟩ ∧ b < bw := by
    rcases hA with h | h
    · exact h
    · omega
  clear hA
  have HC := hide hc; clear hc
  have HOK := hide hok; clear hok
  have m1 := warmWire
  have m2 := secondWire
  conv at m1 =>
    enter [a, w, 1, 2, 4]
    whnf
  conv at m2 =>
    enter [a, w, 1, 2, 4]
    whnf
  have HW := hide hw; clear hw
  by_cases hz : n = 0
  · have hz' : (n == 0) = true := by simp [hz]
    have HZ := hide hz; clear hz
    refine (callsIn_wide (n := 5)).1 ?_
    refine callsIn_of_wp_marks Try.func65 rfl trivial ?_ rfl
    simp only [Try.ntmps65, List.size_toArray, List.length_cons, List.length_nil, Nat.reduceAdd, Nat.reduceSub, Array.replicate_succ, Array.replicate_zero, List.push_toArray, List.append_toArray, List.nil_append, List.cons_append]
    gi_wp2_with (refine ⟨trivial, ?_⟩; gi_at_call 144; refine (callsIn_wide.2 (wireWarm_any bw g r _ (by unfold WireAt; rw [Below.heap_alloc _ _ _ (by simp; omega), Below.heap_alloc _ _ _ (by omega)]; exact HW.out))).mono ?_; rintro e w' ⟨rfl, rfl⟩)
    refine ⟨_, results_tmp rfl _ _ _, ?_⟩
    refine ⟨ret_int ?_, ?_, only_alloc (only_alloc (only_alloc (only_refl w _) _) _) _⟩
    · rw [HZ.out]; rfl
    · rw [HZ.out]
      unfold WireAt
      rw [Below.heap_alloc _ _ _ (by simp; omega), Below.heap_alloc _ _ _ (by simp; omega), Below.heap_alloc _ _ _ (by omega)]
      exact HW.out
  · obtain ⟨m, rfl⟩ := Int.eq_ofNat_of_zero_le hn0
    have hz' : ((m : Int) == 0) = false := by simpa using hz
    have hn2 : 1 ≤ m := by omega
    rw [Int.toNat_natCast]
    clear hz
    refine (callsIn_wide (n := 5)).1 ?_
    refine callsIn_of_wp_marks Try.func65 rfl trivial ?_ rfl
    simp only [Try.ntmps65, List.size_toArray, List.length_cons, List.length_nil, Nat.reduceAdd, Nat.reduceSub, Array.replicate_succ, Array.replicate_zero, List.push_toArray, List.append_toArray, List.nil_append, List.cons_append]
    gi_wp2_with (first | (refine ⟨trivial, ?_⟩; gi_at_call 144; refine (callsIn_wide.2 (wireWarm_any bw g r _ (by unfold WireAt; rw [Below.heap_alloc _ _ _ (by simp; omega), Below.heap_alloc _ _ _ (by omega)]; exact HW.out))).mono ?_; rintro e w' ⟨rfl, rfl⟩) | (refine ⟨trivial, ?_⟩; gi_at_call 97; refine (mk_seconds_in _ _ trivial rfl _ _ _ _).mono ?_; rintro e w' ⟨rfl, rfl⟩))
    obtain ⟨W0, hW0⟩ : ∃ W0 : World, (((w.alloc (.cells #[.iface 92 (.pointer (some ⟨bw, 0, none⟩))] 123)).alloc (.cells #[.int .i64 (m : Int)] 3)).alloc (.cells #[.int .i64 r] 3)).alloc (.cells #[.slice (some ⟨b, off, none⟩) cs.length cap] 31) = W0 := ⟨_, rfl⟩
    have hs0 : W0.heap.size = w.heap.size + 4 := by rw [← hW0]; simp
    have hB0 : Below w.heap.size w W0 := by
      rw [← hW0]; exact Below.allocT (Below.allocT (Below.allocT (Below.allocT (Below.refl _ _) (Nat.le_refl _) _) (Nat.le_refl _) _) (Nat.le_refl _) _) (Nat.le_refl _) _
    have hb0 : W0.heap[w.heap.size]? = some (.cells #[.iface 92 (.pointer (some ⟨bw, 0, none⟩))] 123 (0, 0)) := by
      rw [← hW0, heap_old _ _ _ (by simp <;> omega), heap_old _ _ _ (by simp <;> omega), heap_old _ _ _ (by simp <;> omega), heap_new _ _ _ rfl]
    have hb1 : W0.heap[w.heap.size + 1]? = some (.cells #[.int .i64 (m : Int)] 3 (0, 0)) := by
      rw [← hW0, heap_old _ _ _ (by simp <;> omega), heap_old _ _ _ (by simp <;> omega), heap_new _ _ _ (by simp)]
    have hb2 : W0.heap[w.heap.size + 2]? = some (.cells #[.int .i64 r] 3 (0, 0)) := by
      rw [← hW0, heap_old _ _ _ (by simp <;> omega), heap_new _ _ _ (by simp)]
    have hb3 : W0.cell? ⟨w.heap.size + 3, 0, none⟩ = some (.slice (some ⟨b, off, none⟩) cs.length cap) := by
      refine cellOf (t := 31) (fr := (0, 0)) (cs := #[.slice (some ⟨b, off, none⟩) cs.length cap]) ?_ 0
      rw [← hW0, heap_new _ _ _ (by simp)]
    have hbw0 : W0.heap[bw]? = w.heap[bw]? := hB0.block bw hbw
    rw [hW0]
    clear hW0
    refine wpIn_rangeFunc_brk rfl (by omega) (gf := 109) (lb := #[.pointer (some ⟨w.heap.size + 3, 0, none⟩)]) rfl trivial (enters_of Try.func109 (by kernel_rfl) rfl)
      (seconds_brk (5 - 1) (by omega) (w.heap.size + 3) b off cap m cs HOK.out (fun k => k = bw ∨ k = w.heap.size + 1 ∨ k = w.heap.size + 2) W0 (by omega) (by omega) (by omega) (by omega) (by omega) hb3
        (fun i j hi hj => (hB0.cell (p := ⟨b, off + (i * 2 + j), none⟩) (Nat.lt_trans hb hbw)).trans (HC.out i j hi hj)))
      (fun h k => h.trans k) (fun W l o o' _ h1 h2 _ => Kpt.putObj W l o o' h1 h2) (Below.refl _ _) (fun _ => rfl)
      (fun pre W => pre.length < m ∧ RunWire w bw g r m (amps pre) W)
      (fun c pre W => c = .exit 0 ∧ pre.length = m ∧ RunWire w bw g r m (amps pre) W)
      (fun s A B row hs hg hr => ⟨hs.1, hs.2.turn hg (fun k e => by have := (hr k e).1; omega) hbw⟩)
      (fun c s A B row hs hg hr => ⟨hs.1, hs.2.1, hs.2.2.turn hg (fun k e => by have := (hr k e).1; omega) hbw⟩)
      (fun pre W hs => hs.1)
      ⟨by simp; omega, ⟨hbw0.trans HW.out, hb0, by simpa [amps] using hb1, hb2, ⟨hB0.os, hB0.tape, hB0.output, hB0.size, fun k hk _ => hB0.block k hk⟩, by omega, hr0, by simp [amps, runSt]⟩⟩
      (fun x => { tmps := #[.iface 92 (.pointer (some ⟨bw, 0, none⟩)), .slice (some ⟨b, off, none⟩) cs.length cap, .int .i64 (m : Int), .pointer (some ⟨w.heap.size, 0, none⟩), undef, .pointer (some ⟨w.heap.size + 1, 0, none⟩), .int .i64 0, .pointer (some ⟨w.heap.size + 1 + 1, 0, none⟩), .int .i64 x.1, .iface 92 (.pointer (some ⟨bw, 0, none⟩)), .int .i64 r, .int .i64 (m : Int), .bool false, undef, .slice (some ⟨b, off, none⟩) cs.length cap, .func (.func 109) #[] #[.pointer (some ⟨w.heap.size + 1 + 1 + 1, 0, none⟩)], .int .i64 x.1, undef, undef, undef, undef, undef, undef, undef, undef, undef, undef, undef, undef], defers := [] }) ?assign ?body ?stop
    case assign =>
      intro l x W K hK
      gi_wp2
      exact hK
    case body =>
      rintro l pre ⟨x, hx0, hx1⟩ W ⟨hlen, hR⟩ _
      obtain ⟨st, hst⟩ : ∃ st, runSt (warmI g) r (amps pre) = st := ⟨_, rfl⟩
      obtain ⟨mx, hmx⟩ : ∃ mx, runMx (warmI g) r (amps pre) = mx := ⟨_, rfl⟩
      obtain ⟨d, hd⟩ : ∃ d : Int, (m : Int) - (amps pre).length = d := ⟨_, rfl⟩
      have hal : (amps pre).length = pre.length := by simp [amps]
      have hd1 : 1 ≤ d := by omega
      have hd2 : d ≤ 10000 := by omega
      have HR := hide hR
      obtain ⟨b0, b1, b2, b3, b4, b5, b6, b7⟩ := hR
      rw [hst] at b0 b6 b7
      rw [hmx] at b3
      rw [hd] at b2
      have hi2 : st ≤ 1000000000 := by rw [hal] at b7; omega
      have hrange := warmI_range g st x hh0 hh1 hc0 hc1 b6 hx0 hx1
      have c3 : W.cell? ⟨w.heap.size, 0, none⟩ = some (.iface 92 (.pointer (some ⟨bw, 0, none⟩))) := cellOf b1 0
      have HST := hide hst
      have HMX := hide hmx
      have HD := hide hd
      have HB := hide (And.intro b1 (And.intro b2 b3))
      have HB4 := hide b4
      have HB7 := hide b7
      have HB0 := hide b0
      clear hst hmx hd b1 b2 b3 b4 b7 b0 hal
      have hmix : Try.prog.follows .mixedOrders = true := by kernel_rfl
      gi_wp2_with (refine ⟨trivial, ?_⟩; gi_at_call 110; refine (CallsIn.inRound l (callsIn_wide.2 (wireSecond_any bw g st x _ HB0.out hh0 hh1 hc0 hc1 b6 hi2 hx0 hx1))).mono ?_; rintro e W1 ⟨rfl, hW1, hg1⟩)
      have d1 : W1.heap[w.heap.size]? = _ := (hg1.block _ (by omega) (by intro e; injection e; omega)).trans HB.out.1
      have d2 : W1.heap[w.heap.size + 1]? = _ := (hg1.block _ (by omega) (by intro e; injection e; omega)).trans HB.out.2.1
      have d3 : W1.heap[w.heap.size + 1 + 1]? = _ := (hg1.block _ (by omega) (by intro e; injection e; omega)).trans HB.out.2.2
      have e3 : W1.cell? ⟨w.heap.size, 0, none⟩ = some (.iface 92 (.pointer (some ⟨bw, 0, none⟩))) := cellOf d1 0
      have e5 : W1.cell? ⟨w.heap.size + 1, 0, none⟩ = some (.int .i64 d) := cellOf d2 0
      have e7 : W1.cell? ⟨w.heap.size + 1 + 1, 0, none⟩ = some (.int .i64 mx) := cellOf d3 0
      have f5 : W1.frozen? ⟨w.heap.size + 1, 0, none⟩ = false := unfrozenOf d2 0
      have f7 : W1.frozen? ⟨w.heap.size + 1 + 1, 0, none⟩ = false := unfrozenOf d3 0
      have HW1 := hide hW1
      have HG1 := hide hg1
      clear hW1 hg1 d1 d2 d3 c3
      gi_region_with_o (refine ⟨trivial, ?_⟩; gi_at_call 144; refine (CallsIn.inRound l (callsIn_wide.2 (wireWarm_any bw g (warmI g st x) _ (by exact HW1.out)))).mono ?_; rintro e w' ⟨rfl, rfl⟩)
      all_goals gi_wp2
      all_goals
        have hd2 : d - 1 = (m : Int) - (amps pre).length - 1 := by rw [HD.out]
        have hal : (amps pre).length = pre.length := by simp [amps]
        have hal2 : amps (pre ++ [⟨x, hx0, hx1⟩]) = amps pre ++ [x] := by simp [amps]
        first
        | (have hy : warmI g st x = max (runMx (warmI g) r (amps pre)) (warmI g st x) := by rw [HMX.out]; exact (Int.max_eq_right (by omega)).symm
           obtain ⟨k1, k2, k3⟩ := RunWire.step HR.out HST.out HW1.out HG1.out hbw hy hd2 hrange.1 hrange.2
           first
           | exact ⟨k1, k2, by have : ¬ d - 1 = 0 := by simpa using (by assumption : (d - 1 == 0) = false)
                               simp; omega, by rw [hal2]; exact k3⟩
           | exact ⟨k1, rfl, by have : d - 1 = 0 := by simpa using (by assumption : (d - 1 == 0) = true)
                                simp; omega, by rw [hal2]; exact k3⟩)
        | (have hy : mx = max (runMx (warmI g) r (amps pre)) (warmI g st x) := by rw [HMX.out]; exact (Int.max_eq_left (by omega)).symm
           obtain ⟨k1, k2, k3⟩ := RunWire.step HR.out HST.out HW1.out HG1.out hbw hy hd2 hrange.1 hrange.2
           first
           | exact ⟨k1, k2, by have : ¬ d - 1 = 0 := by simpa using (by assumption : (d - 1 == 0) = false)
                               simp; omega, by rw [hal2]; exact k3⟩
           | exact ⟨k1, rfl, by have : d - 1 = 0 := by simpa using (by assumption : (d - 1 == 0) = true)
                                simp; omega, by rw [hal2]; exact k3⟩)
    case stop =>
      clear hb0 hb1 hb2 hb3 m1 m2
      rintro D c pre W hD ⟨s, hs⟩ ⟨rfl, hlen2, hR⟩ hK
      have c7 : W.cell? ⟨w.heap.size + 1 + 1, 0, none⟩ = some (.int .i64 (runMx (warmI g) r (amps pre))) := cellOf hR.most 0
      have hsm : s = m := by
        have h1 : (amps pre).length = (ups cs s).length := by rw [hs]
        rw [ups_length] at h1
        simp [amps] at h1
        omega
      rw [hs, hsm] at c7 hR
      have HRR := hide hR
      clear hR hs hsm
      gi_wp2
      refine ⟨by simp, .inl ⟨_, _, rfl, run_takeDeferred hK, ?_⟩⟩
      refine ⟨_, results_tmp rfl _ _ _, rfl, ?_, ?_⟩
      · exact (World.putObj_heap_other (by omega)).trans HRR.out.body
      · have hg := grownBy_putObj' W D (.deferred none)
        have ho := HRR.out.only
        exact ⟨hg.os.trans ho.os, hg.tape.trans ho.tape, hg.output.trans ho.output, Nat.le_trans ho.size hg.size, fun k hk hne => (hg.block k (Nat.lt_of_lt_of_le hk ho.size) (fun e => by injection e with e; omega)).trans (ho.block k hk hne)⟩

end Go.Proofs.Ytejjjijaojkohaa

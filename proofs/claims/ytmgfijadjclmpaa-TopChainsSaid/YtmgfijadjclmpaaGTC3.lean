/- Part 3 of this claim's texts: walks and plain laws. -/
import Derived.Test.YtmgfijadjclmpaaRows
import Derived.Test.YtmgfijadjclmpaaGTC2
import Derived.StillTailTactics
/- A node made, or found: walk. -/
namespace Go.Proofs.Ytmgfijadjclmpaa
open Go.RowKit
open Go.Maps (Keyed)
set_option linter.unusedVariables false
set_option linter.unusedSimpArgs false
theorem kcell1 {g : Nat} {a b : World} (h : Keeps (fun k => k = g) a b) : ∀ k o, k < a.heap.size → ¬ k = g → b.cell? ⟨k, o, none⟩ = a.cell? ⟨k, o, none⟩ :=
  fun k o hk h1 => kcell h k o hk h1
theorem kcell2 {g l : Nat} {a b : World} (h : Keeps (fun k => k = g ∨ k = l) a b) : ∀ k o, k < a.heap.size → ¬ k = g → ¬ k = l → b.cell? ⟨k, o, none⟩ = a.cell? ⟨k, o, none⟩ :=
  fun k o hk h1 h2 => kcell h k o hk fun e => e.elim h1 h2
/-- What node gives back. -/
structure NodeR (w : World) (F : Fo) (o low high : Nat) (n : Nat) (w' : World) (F' : Fo) : Prop where
  st : FStep w F w' F'
  lt : n < F'.ks.length
  len : F'.ks.length ≤ F.ks.length + 1
  nj : F'.nj = F.nj
  J : F'.J = F.J
  ev : ∀ v, ev F'.ks v n = if v o then ev F.ks v high else ev F.ks v low
  top : o ≤ topK F'.ks n

set_option maxRecDepth 100000 in
set_option maxHeartbeats 1000000 in
theorem node_any (F : Fo) (o low high : Nat) (w : World) (h : FoAt w F) (ho : o < F.N) (hl : low < F.ks.length) (hh : high < F.ks.length) (tl : o < topK F.ks low) (th : o < topK F.ks high) (hsz : F.ks.length + 1 ≤ 1073741824) :
    Calls Try.prog 64 #[.pointer (some ⟨F.p, 0, none⟩), .int .i64 o, .int .i64 low, .int .i64 high] w
      fun e w' => ∃ n F', e = .returned (.int .i64 (n : Nat)) ∧ NodeR w F o low high n w' F' := by
  have hsm := h.small
  by_cases heq : low = high
  · subst heq
    go_enter Try.func64, Try.ntmps64
    go_wp2
    go_ret
    exact ⟨low, F, rfl, FStep.refl h, hl, by omega, rfl, rfl, fun v => by simp, by omega⟩
  have heq1 : ((low : Int) == (high : Int)) = false := by simp; omega
  obtain ⟨l0, l1, l2, l3⟩ := h.lts
  obtain ⟨n1, n2, n3, n4⟩ := h.nes
  have hk63 : I63 ((⟨o, low, high⟩ : Kn).opt : Nat) ∧ I63 ((⟨o, low, high⟩ : Kn).low : Nat) ∧ I63 ((⟨o, low, high⟩ : Kn).high : Nat) := by
    simp only [I63]; omega
  obtain ⟨kl, hkl⟩ := knKey hk63.1 hk63.2.1 hk63.2.2
  have H := hide h
  have HNE := hide heq
  have HK := hide hkl
  have c2 : w.cell? ⟨F.p, 2, none⟩ = some (.map (some F.bk)) := h.cellK
  clear h heq hk63 hkl
  cases hx : F.K ⟨o, low, high⟩ with
  | some x =>
    obtain ⟨i, rfl, i2, il, ie⟩ := H.out.k1 _ _ hx
    have HLK0 : Hid (∀ w', Below w.heap.size w w' → (Instr.lookup 91 (.map (some F.bk)) (.agg #[.int .i64 o, .int .i64 low, .int .i64 high]) true).run Try.prog w' = .ok (.tuple #[.int .i64 i, .bool true]) w') := fun w' hb => by
      have := (H.out.below hb).known.look knLaw Try.underlying91 Try.underlying3 (zInt w') HK.out
      rw [hx] at this
      exact this
    clear hx
    have HIE := hide ie
    clear ie
    go_enter Try.func64, Try.ntmps64
    go_upto_region 4 with (fail)
    generalize hw0 : World.alloc _ _ = w0
    obtain ⟨hb0, hB0, hs0⟩ := alloc1 hw0
    clear hw0
    have d2 : w0.cell? ⟨F.p, 2, none⟩ = some (.map (some F.bk)) := (H.out.below hB0).cellK
    have e0 := cellOf hb0 0
    have e1 := cellOf hb0 1
    have e2 := cellOf hb0 2
    have HLK : Hid (∀ w', Below w0.heap.size w0 w' → (Instr.lookup 91 (.map (some F.bk)) (.agg #[.int .i64 o, .int .i64 low, .int .i64 high]) true).run Try.prog w' = .ok (.tuple #[.int .i64 i, .bool true]) w') := fun w' hb => HLK0.out w' (Below.to hB0 hb (Nat.le_refl _))
    have l4 : F.p < w0.heap.size := by omega
    have l5 : w.heap.size < w0.heap.size := by omega
    have HB0 := hide hB0
    clear hB0 hs0 HLK0 hb0
    refine wp_region_held_drew (S := (fun w' => Below w0.heap.size w0 w')) (by kernel_rfl) ?_ (fun hHeld => ?_)
    · try dsimp only
      exact (by repeat (first | exact Below.refl _ _ | assumption | refine Below.drew ?_ | refine Below.drewN ?_ _ | refine Below.allocT ?_ (Nat.le_refl _) _ | refine Below.setCell ?_ (by simp <;> omega) _ | refine Below.to ?_ (by assumption) (Nat.le_refl _)))
    refine zT 0 rfl ?_
    refine zT 1 rfl ?_
    refine zT 2 rfl ?_
    refine zT 3 rfl ?_
    refine zT 4 rfl ?_
    refine zT 5 rfl ?_
    refine zT 6 rfl ?_
    refine zT 7 rfl ?_
    refine zT 8 rfl ?_
    refine zT 9 rfl ?_
    refine zT 10 rfl ?_
    refine wpAnyH_done (by kernel_rfl) ?_ _
    go_wp2
    go_ret
    refine ⟨i, F, rfl, FStep.of_below H.out (Below.to HB0.out (by repeat (first | exact Below.refl _ _ | assumption | refine Below.drew ?_ | refine Below.drewN ?_ _ | refine Below.allocT ?_ (Nat.le_refl _) _ | refine Below.setCell ?_ (by simp <;> omega) _ | refine Below.to ?_ (by assumption) (Nat.le_refl _))) (Nat.le_refl _)), il, by omega, rfl, rfl, fun v => ?_, ?_⟩
    · rw [ev_step H.out.wf v i2 il]
      unfold topK lowK highK
      rw [HIE.out]
    · unfold topK
      rw [HIE.out]
      exact Nat.le_refl _
  | none =>
    obtain ⟨i0, hi0, hz0, hz1, hz2⟩ := info_parts infoKn
    have hnew : ∀ i, 2 ≤ i → i < F.ks.length → F.ks.getD i Kn.z ≠ ⟨o, low, high⟩ := fun i h2 hi e => by
      have := H.out.k2 i h2 hi
      rw [e, hx] at this
      cases this
    have hwf := H.out.wf.snoc (k := ⟨o, low, high⟩) ho hl hh HNE.out tl th hnew
    have HWF := hide hwf
    have HNEW := hide hx
    have hne2 := H.out.ne2
    have HLK0 : Hid (∀ w', Below w.heap.size w w' → (Instr.lookup 91 (.map (some F.bk)) (.agg #[.int .i64 o, .int .i64 low, .int .i64 high]) true).run Try.prog w' = .ok (.tuple #[.int .i64 0, .bool false]) w') := fun w' hb => by
      have := (H.out.below hb).known.look knLaw Try.underlying91 Try.underlying3 (zInt w') HK.out
      rw [hx] at this
      exact this
    clear hx hwf hnew
    go_enter Try.func64, Try.ntmps64
    go_upto_region 4 with (fail)
    generalize hw0 : World.alloc _ _ = w0
    obtain ⟨hb0, hB0, hs0⟩ := alloc1 hw0
    clear hw0
    have d2 : w0.cell? ⟨F.p, 2, none⟩ = some (.map (some F.bk)) := (H.out.below hB0).cellK
    have d1 : w0.cell? ⟨F.p, 1, none⟩ = some (.slice (some ⟨F.kb, 0, none⟩) F.ks.length F.cap) := (H.out.below hB0).cellS
    have e0 := cellOf hb0 0
    have e1 := cellOf hb0 1
    have e2 := cellOf hb0 2
    have HLK : Hid (∀ w', Below w0.heap.size w0 w' → (Instr.lookup 91 (.map (some F.bk)) (.agg #[.int .i64 o, .int .i64 low, .int .i64 high]) true).run Try.prog w' = .ok (.tuple #[.int .i64 0, .bool false]) w') := fun w' hb => HLK0.out w' (Below.to hB0 hb (Nat.le_refl _))
    have l4 : F.p < w0.heap.size := by omega
    have l5 : w.heap.size < w0.heap.size := by omega
    have HB0 := hide hB0
    have HS0 : Hid (w0.heap.size = w.heap.size + 1) := hs0
    have HH0 := hide hb0
    clear hB0 hs0 HLK0 hb0
    refine wp_region_held_drew (S := (fun w' => Below w0.heap.size w0 w')) (by kernel_rfl) ?_ (fun hHeld => ?_)
    · try dsimp only
      exact (by repeat (first | exact Below.refl _ _ | assumption | refine Below.drew ?_ | refine Below.drewN ?_ _ | refine Below.allocT ?_ (Nat.le_refl _) _ | refine Below.setCell ?_ (by simp <;> omega) _ | refine Below.to ?_ (by assumption) (Nat.le_refl _)))
    refine zT 0 rfl ?_
    refine zT 1 rfl ?_
    refine zT 2 rfl ?_
    refine zT 3 rfl ?_
    refine zT 4 rfl ?_
    refine zT 5 rfl ?_
    refine zT 6 rfl ?_
    refine zT 7 rfl ?_
    refine zT 8 rfl ?_
    refine zT 9 rfl ?_
    refine zT 10 rfl ?_
    refine wpAnyH_done (by kernel_rfl) ?_ _
    clear HLK
    have m1 : ¬ w.heap.size = F.p := by omega
    have m2 : ¬ w.heap.size = F.kb := by omega
    go_upto_region 7 with (fail)
    have hrow0 : w0.ownsRow F.base 89 3 (.slice (some ⟨F.kb, 0, none⟩) F.ks.length F.cap) F.ks.length (flat F.ks.length 3 (knF F.ks)) := (H.out.below HB0.out).row
    have hbx0 : w0.heap[F.p]? = some (.cells #[.int .i64 F.N, .slice (some ⟨F.kb, 0, none⟩) F.ks.length F.cap, .map (some F.bk), .map (some F.bj)] 94 (0, 0)) := (H.out.below HB0.out).box
    have HROW := hide hrow0
    have HBX := hide hbx0
    have hkb0 := (H.out.below HB0.out).bb.2.2
    have HKB := hide hkb0
    clear hrow0 hbx0 hkb0
    refine wp_region_held_drew (S := (fun w' => Keeps (fun k => k = F.p ∨ k = F.kb) w0 w')) (by kernel_rfl) ?_ (fun hHeld => ?_)
    · try dsimp only
      (repeat (first | (with_reducible exact Keeps.refl _ _) | exact hKeep.out | exact hKeepS.out _ | assumption | (with_reducible refine Keeps.drew ?_) | (with_reducible refine Keeps.drewN ?_ _) | (with_reducible refine Keeps.alloc ?_ _) | (with_reducible refine Keeps.setCell ?_ (.inl (by first | exact .inl rfl | exact .inr rfl)) _)))
    refine zJ 0 rfl ?_
    refine zJ 1 rfl ?_
    refine zJ 2 rfl ?_
    refine zJ 3 rfl ?_
    refine zJ 5 rfl ?_
    refine wpAnyH_ready (rs := [4, 6]) (by kernel_rfl) (by simp) ?_
    refine (AllReadyH.cons rfl (fun K hK => ?o1_6_4) (AllReadyH.cons rfl (fun K hK => ?o1_6_6) AllReadyH.nil))
    case' o1_6_4 =>
      go_simp
      refine hK.out _ _ ?_ (fun hNext => ?_)
      · try dsimp only
        (repeat (first | (with_reducible exact Keeps.refl _ _) | exact hKeep.out | exact hKeepS.out _ | assumption | (with_reducible refine Keeps.drew ?_) | (with_reducible refine Keeps.drewN ?_ _) | (with_reducible refine Keeps.alloc ?_ _) | (with_reducible refine Keeps.setCell ?_ (.inl (by first | exact .inl rfl | exact .inr rfl)) _)))
      clear hK K hHeld
      have hHeld := hNext
      clear hNext
      (try dsimp only at hHeld)
      try simp only [zX]
      refine wpAnyH_ready (rs := [6]) (by kernel_rfl) (by simp) ?_
      refine (AllReadyH.cons rfl (fun K hK => ?_) AllReadyH.nil)
      go_simp
      refine hK.out _ _ ?_ (fun hNext => ?_)
      · try dsimp only
        (repeat (first | (with_reducible exact Keeps.refl _ _) | exact hKeep.out | exact hKeepS.out _ | assumption | (with_reducible refine Keeps.drew ?_) | (with_reducible refine Keeps.drewN ?_ _) | (with_reducible refine Keeps.alloc ?_ _) | (with_reducible refine Keeps.setCell ?_ (.inl (by first | exact .inl rfl | exact .inr rfl)) _)))
      clear hK K hHeld
      have hHeld := hNext
      clear hNext
      (try dsimp only at hHeld)
      try simp only [zX]
      refine wpAnyH_ready (rs := [7]) (by kernel_rfl) (by simp) ?_
      refine (AllReadyH.cons rfl (fun K hK => ?_) AllReadyH.nil)
      (refine step_append_any _ (by rfl) (.tmp 35) (.tmp 37) _ (by rfl) F.base 89 i0 _ 3 24 Try.underlying90 hi0 hz0 hz1 hz2 (by rfl) (by omega) (.slice (some ⟨F.kb, 0, none⟩) F.ks.length F.cap) F.ks.length (flat F.ks.length 3 (knF F.ks)) (by rfl) (World.ownsRow.alloc (w := w0.drew.drew) HROW.out _) (w0.heap.size + 1) (some ⟨w0.heap.size, 0, none⟩) 1 1 [.int .i64 o, .int .i64 low, .int .i64 high] (by rfl) ⟨rfl, fun _ => ⟨_, rfl, by simp, World.news_of_block (heap_alloc_new w0.drew.drew _)⟩⟩ (by simp [Value.oneCell']) (by unfold maxLen; omega) (by omega) (by have := HKB.out; have := HS0.out; simp; omega) ?_; intro v1 w1 hown1 hg1 hat1; obtain ⟨g, cap1, hv1, hgb, hgl⟩ := hown1.form (by omega); subst hv1; have hKeep : Hid (Keeps (fun k => k = F.p ∨ k = F.kb) w0 w1) := Keeps.trans (((Keeps.refl _ w0).drew.drew).alloc _) (Keeps.of_grown hg1 (fun k hk => .inr (by injection hk with hk; exact hk.symm))) (fun _ _ h => h); have hbx1 := ((hg1.block F.p (by simp; omega) (fun e => by injection e with e; exact hne2 e.symm)).trans (Below.heap_alloc _ _ _ (by simpa using l4))).trans HBX.out; have j0 := cellOf hbx1 1; have j1 := unfrozenOf hbx1 1; have HBX1 := hide hbx1; have HOWN1 := hide hown1; have HAT1 := hide hat1; have HG1 := hide hg1; have HGB := hide hgb; clear hbx1 hown1 hat1 hg1 hgb)
      (try dsimp only)
      refine hK.out _ _ ?_ (fun hNext => ?_)
      · try dsimp only
        (repeat (first | (with_reducible exact Keeps.refl _ _) | exact hKeep.out | exact hKeepS.out _ | assumption | (with_reducible refine Keeps.drew ?_) | (with_reducible refine Keeps.drewN ?_ _) | (with_reducible refine Keeps.alloc ?_ _) | (with_reducible refine Keeps.setCell ?_ (.inl (by first | exact .inl rfl | exact .inr rfl)) _)))
      clear hK K hHeld
      have hHeld := hNext
      clear hNext
      (try dsimp only at hHeld)
      try simp only [zX]
      refine zJ 8 rfl ?_
      refine zJ 9 rfl ?_
      refine wpAnyH_ready (rs := [10]) (by kernel_rfl) (by simp) ?_
      refine (AllReadyH.cons rfl (fun K hK => ?_) AllReadyH.nil)
      go_simp
      refine hK.out _ _ ?_ (fun hNext => ?_)
      · try dsimp only
        (repeat (first | (with_reducible exact Keeps.refl _ _) | exact hKeep.out | exact hKeepS.out _ | assumption | (with_reducible refine Keeps.drew ?_) | (with_reducible refine Keeps.drewN ?_ _) | (with_reducible refine Keeps.alloc ?_ _) | (with_reducible refine Keeps.setCell ?_ (.inl (by first | exact .inl rfl | exact .inr rfl)) _)))
      clear hK K hHeld
      have hHeld := hNext
      clear hNext
      (try dsimp only at hHeld)
      try simp only [zX]
      refine wpAnyH_done (by kernel_rfl) ?_ _
    case' o1_6_6 =>
      go_simp
      refine hK.out _ _ ?_ (fun hNext => ?_)
      · try dsimp only
        (repeat (first | (with_reducible exact Keeps.refl _ _) | exact hKeep.out | exact hKeepS.out _ | assumption | (with_reducible refine Keeps.drew ?_) | (with_reducible refine Keeps.drewN ?_ _) | (with_reducible refine Keeps.alloc ?_ _) | (with_reducible refine Keeps.setCell ?_ (.inl (by first | exact .inl rfl | exact .inr rfl)) _)))
      clear hK K hHeld
      have hHeld := hNext
      clear hNext
      (try dsimp only at hHeld)
      try simp only [zX]
      refine wpAnyH_ready (rs := [4]) (by kernel_rfl) (by simp) ?_
      refine (AllReadyH.cons rfl (fun K hK => ?_) AllReadyH.nil)
      go_simp
      refine hK.out _ _ ?_ (fun hNext => ?_)
      · try dsimp only
        (repeat (first | (with_reducible exact Keeps.refl _ _) | exact hKeep.out | exact hKeepS.out _ | assumption | (with_reducible refine Keeps.drew ?_) | (with_reducible refine Keeps.drewN ?_ _) | (with_reducible refine Keeps.alloc ?_ _) | (with_reducible refine Keeps.setCell ?_ (.inl (by first | exact .inl rfl | exact .inr rfl)) _)))
      clear hK K hHeld
      have hHeld := hNext
      clear hNext
      (try dsimp only at hHeld)
      try simp only [zX]
      refine wpAnyH_ready (rs := [7]) (by kernel_rfl) (by simp) ?_
      refine (AllReadyH.cons rfl (fun K hK => ?_) AllReadyH.nil)
      (refine step_append_any _ (by rfl) (.tmp 35) (.tmp 37) _ (by rfl) F.base 89 i0 _ 3 24 Try.underlying90 hi0 hz0 hz1 hz2 (by rfl) (by omega) (.slice (some ⟨F.kb, 0, none⟩) F.ks.length F.cap) F.ks.length (flat F.ks.length 3 (knF F.ks)) (by rfl) (World.ownsRow.alloc (w := w0.drew.drew) HROW.out _) (w0.heap.size + 1) (some ⟨w0.heap.size, 0, none⟩) 1 1 [.int .i64 o, .int .i64 low, .int .i64 high] (by rfl) ⟨rfl, fun _ => ⟨_, rfl, by simp, World.news_of_block (heap_alloc_new w0.drew.drew _)⟩⟩ (by simp [Value.oneCell']) (by unfold maxLen; omega) (by omega) (by have := HKB.out; have := HS0.out; simp; omega) ?_; intro v1 w1 hown1 hg1 hat1; obtain ⟨g, cap1, hv1, hgb, hgl⟩ := hown1.form (by omega); subst hv1; have hKeep : Hid (Keeps (fun k => k = F.p ∨ k = F.kb) w0 w1) := Keeps.trans (((Keeps.refl _ w0).drew.drew).alloc _) (Keeps.of_grown hg1 (fun k hk => .inr (by injection hk with hk; exact hk.symm))) (fun _ _ h => h); have hbx1 := ((hg1.block F.p (by simp; omega) (fun e => by injection e with e; exact hne2 e.symm)).trans (Below.heap_alloc _ _ _ (by simpa using l4))).trans HBX.out; have j0 := cellOf hbx1 1; have j1 := unfrozenOf hbx1 1; have HBX1 := hide hbx1; have HOWN1 := hide hown1; have HAT1 := hide hat1; have HG1 := hide hg1; have HGB := hide hgb; clear hbx1 hown1 hat1 hg1 hgb)
      (try dsimp only)
      refine hK.out _ _ ?_ (fun hNext => ?_)
      · try dsimp only
        (repeat (first | (with_reducible exact Keeps.refl _ _) | exact hKeep.out | exact hKeepS.out _ | assumption | (with_reducible refine Keeps.drew ?_) | (with_reducible refine Keeps.drewN ?_ _) | (with_reducible refine Keeps.alloc ?_ _) | (with_reducible refine Keeps.setCell ?_ (.inl (by first | exact .inl rfl | exact .inr rfl)) _)))
      clear hK K hHeld
      have hHeld := hNext
      clear hNext
      (try dsimp only at hHeld)
      try simp only [zX]
      refine zJ 8 rfl ?_
      refine zJ 9 rfl ?_
      refine wpAnyH_ready (rs := [10]) (by kernel_rfl) (by simp) ?_
      refine (AllReadyH.cons rfl (fun K hK => ?_) AllReadyH.nil)
      go_simp
      refine hK.out _ _ ?_ (fun hNext => ?_)
      · try dsimp only
        (repeat (first | (with_reducible exact Keeps.refl _ _) | exact hKeep.out | exact hKeepS.out _ | assumption | (with_reducible refine Keeps.drew ?_) | (with_reducible refine Keeps.drewN ?_ _) | (with_reducible refine Keeps.alloc ?_ _) | (with_reducible refine Keeps.setCell ?_ (.inl (by first | exact .inl rfl | exact .inr rfl)) _)))
      clear hK K hHeld
      have hHeld := hNext
      clear hNext
      (try dsimp only at hHeld)
      try simp only [zX]
      refine wpAnyH_done (by kernel_rfl) ?_ _
    all_goals
      generalize hw2 : World.setCell _ _ _ = w2
      clear hHeld d1 j0 j1
      have hsz1 : w0.heap.size + 1 ≤ w1.heap.size := by have := HG1.out.size; simpa using this
      have hpl1 : F.p < w1.heap.size := box_lt HBX1.out
      have hbx2 : w2.heap[F.p]? = some (.cells #[.int .i64 F.N, .slice (some ⟨g, 0, none⟩) (F.ks.length + 1) cap1, .map (some F.bk), .map (some F.bj)] 94 (0, 0)) := by
        rw [← hw2]; exact setCellOf HBX1.out _
      have hoth2 : ∀ k, k ≠ F.p → w2.heap[k]? = w1.heap[k]? := fun k hk => by rw [← hw2]; exact Below.heap_setCell _ _ _ _ hk
      have hoth1 : ∀ k, k < w0.heap.size → k ≠ F.kb → w1.heap[k]? = w0.heap[k]? := fun k hk hne => (HG1.out.block k (by simp; omega) (fun e => by injection e with e; exact hne e)).trans (Below.heap_alloc _ _ _ (by simpa using hk))
      have hs2 : w2.heap.size = w1.heap.size := by rw [← hw2]; simp [World.setCell]
      have hk2 : Keeps (fun k => k = F.p ∨ k = F.kb) w w2 := by
        rw [← hw2]
        exact ((Keeps.of_below HB0.out).trans hKeep.out (fun _ _ h => h)).setCell (.inl (.inl rfl)) _
      have hat : g = F.kb ∨ g = w0.heap.size + 1 := by
        rcases HAT1.out with e | e
        · simp [Value.ownBlock] at e; exact .inl e
        · simp [Value.ownBlock] at e; exact .inr e
      have hgne : g ≠ F.p := by omega
      have hgw : g = F.kb ∨ w.heap.size ≤ g := by omega
      have hrow2 : w2.ownsRow F.base 89 3 (.slice (some ⟨g, 0, none⟩) (F.ks.length + 1) cap1) (F.ks.length + 1) (flat F.ks.length 3 (knF F.ks) ++ [.int .i64 o, .int .i64 low, .int .i64 high]) := by
        obtain ⟨q1, ⟨q2, q3⟩ | ⟨g', cp, cur, q3, q4, q5, q6⟩⟩ := HOWN1.out
        · cases q2
        · refine ⟨q1, .inr ⟨g', cp, cur, q3, q4, ?_, q6⟩⟩
          injection q3 with q3 _ _
          injection q3 with q3
          injection q3 with q3 _ _
          subst q3
          exact (hoth2 _ hgne).trans q5
      have hbk2 : w2.heap[F.bk]? = w.heap[F.bk]? := hk2.block _ l1 (by rintro (e | e); exact n1 e.symm; exact n3 e.symm)
      have hbj2 : w2.heap[F.bj]? = w.heap[F.bj]? := hk2.block _ l2 (by rintro (e | e); exact n2 e.symm; exact n4 e.symm)
      have hkn2 := H.out.known.same hbk2
      have hbt2 : w2.heap[w.heap.size]? = some (.cells #[.int .i64 o, .int .i64 low, .int .i64 high] 89 (0, 0)) := (hoth2 _ (by omega)).trans ((hoth1 _ (by omega) (by omega)).trans HH0.out)
      have d1 := cellOf hbx2 1
      have d2 := cellOf hbx2 2
      have e0 := cellOf hbt2 0
      have e1 := cellOf hbt2 1
      have e2 := cellOf hbt2 2
      have HBX2 := hide hbx2
      have HK2 := hide hk2
      have HROW2 := hide hrow2
      have HKN2 := hide hkn2
      have HBJ2 := hide hbj2
      have HGW := hide hgw
      have hnk := H.out.nkk
      clear hw2 hbx2 hoth2 hoth1 hs2 hk2 hrow2 hbk2 hbj2 hkn2 hbt2 hgne hgw hsz1 hpl1 hat
      have hwr : IntKind.i64.wrap (F.ks.length : Int) = F.ks.length := IntWalk.i64_in _ (by omega)
      have hle1 : (0 : Int) ≤ (F.ks.length : Int) := by omega
      go_wp2_with fail
      go_still_tail 11, (by kernel_rfl)
      change wpList _ _ _ _ _ w2.drew
      refine (wpList_put _ rfl _ _ _ 91 rfl (show MapIs _ w2.drew _ _ _ _ _ _ from HKN2.out) knLaw Try.underlying91 Try.underlying3 knV_inj (by unfold maxLen; omega) ⟨o, low, high⟩ ⟨_, HK.out⟩ _ ?hwf rfl rfl rfl ?_)
      case hwf => exact wf63 (by unfold I63; omega)
      intro w4 hkn4 hg4
      have hgb4 : ∀ k, k < w2.heap.size → k ≠ F.bk → w4.heap[k]? = w2.heap[k]? := fun k hk hne => hg4.block k hk (fun e => by injection e with e; exact hne e)
      have hbx4 := (hgb4 F.p (box_lt HBX2.out) n1).trans HBX2.out
      have j1 := cellOf hbx4 1
      have HBX4 := hide hbx4
      have HKN4 := hide hkn4
      have HG4 := hide hg4
      have HGB4 := hide hgb4
      clear hbx4 hkn4 hg4 hgb4 d1 d2 e0 e1 e2
      go_wp2_with fail
      go_ret
      have hk4 : Keeps (SF F) w w4 := by
        have h1 : Keeps (SF F) w w2 := HK2.out.mono (fun i hi h => h.elim (fun e => .inl e) (fun e => .inr (.inr (.inr e))))
        have h2 : Keeps (fun k => k = F.bk) w2 w4 := ⟨HG4.out.os, HG4.out.tape, HG4.out.output, HG4.out.size, fun k hk hne => HGB4.out k hk hne⟩
        exact h1.trans h2 (fun i hi e => .inr (.inl e))
      have hsz2 : w.heap.size ≤ w2.heap.size := HK2.out.size
      have hrow4 : w4.ownsRow F.base 89 3 (.slice (some ⟨g, 0, none⟩) (F.ks.length + 1) cap1) (F.ks.length + 1) (flat F.ks.length 3 (knF F.ks) ++ [.int .i64 o, .int .i64 low, .int .i64 high]) := by
        refine World.ownsRow.kept (w := w2.drew) HROW2.out HG4.out (.inr (fun e => ?_))
        replace e : g = F.bk := by simpa [Value.ownBlock] using e
        rcases HGW.out with e1 | e1
        · exact n3 (e1.symm.trans e)
        · omega
      obtain ⟨F', hst, e1, e2, e3⟩ := H.out.grow HWF.out HGW.out HBX4.out hrow4 HKN4.out ((HGB4.out F.bj (by omega) H.out.ne1.symm).trans HBJ2.out) HNEW.out hk4 hsz
      have hget : (F.ks ++ [(⟨o, low, high⟩ : Kn)]).getD F.ks.length Kn.z = ⟨o, low, high⟩ := by simp [List.getD_eq_getElem?_getD]
      refine ⟨F.ks.length, F', rfl, hst, by rw [e1]; simp, by rw [e1]; simp, e2, e3, fun v => ?_, ?_⟩
      · rw [e1, ev_step HWF.out v H.out.wf.two (by simp)]
        unfold topK lowK highK
        rw [hget, ev_old H.out.wf _ v hl, ev_old H.out.wf _ v hh]
      · rw [e1]; unfold topK; rw [hget]; exact Nat.le_refl _
end Go.Proofs.Ytmgfijadjclmpaa

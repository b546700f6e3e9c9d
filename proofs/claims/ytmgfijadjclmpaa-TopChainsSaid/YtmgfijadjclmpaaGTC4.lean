/- Part 4 of this claim's texts: walks and plain laws. -/
import Derived.Test.YtmgfijadjclmpaaRows
import Derived.Test.YtmgfijadjclmpaaGTC3
import Derived.Test.YtmgfijadjclmpaaGTC2
/- Two nodes joined: walk. -/
namespace Go.Proofs.Ytmgfijadjclmpaa
open Go.RowKit
open Go.Maps (Keyed)
set_option linter.unusedVariables false
set_option linter.unusedSimpArgs false
theorem FoAt.putJ {w w' : World} {F : Fo} (h : FoAt w F) {o : Int} {a b n : Nat} (hm : MapIs Try.prog w' 112 3 F.bj (F.nj + 1) paV (putM F.J (o, a, b) n)) (hg : w.grownBy w' (some F.bj)) (hsz : F.nj + 1 ≤ 1073741824)
    (hn : n < F.ks.length) (ha : a < F.ks.length) (hb : b < F.ks.length) (hev : ∀ v, ev F.ks v n = opB o (ev F.ks v a) (ev F.ks v b)) (ht : min (topK F.ks a) (topK F.ks b) ≤ topK F.ks n) :
    FStep w F w' { F with J := putM F.J (o, a, b) n, nj := F.nj + 1 } := by
  obtain ⟨n1, n2, n3, n4⟩ := h.nes
  have hlts := h.lts
  have hsame : ∀ k, SF F k → k ≠ F.bj → w'.heap[k]? = w.heap[k]? := fun k hk hne => hg.block k (h.slt hk) (fun e => hne (by injection e))
  refine ⟨⟨?_, ?_, ?_, hm, h.wf, h.k1, h.k2, ?_, h.nkk, h.pb, h.bb, h.ne1, h.ne2, ?_⟩, rfl, rfl, rfl, rfl, rfl, ⟨[], by simp⟩, .inl rfl, ?_⟩
  · exact (hsame _ (.inl rfl) n2).trans h.box
  · obtain ⟨q1, ⟨q2, q3⟩ | ⟨g', cp, cur, q3, q4, q5, q6⟩⟩ := h.row
    · cases q2
    · refine ⟨q1, .inr ⟨g', cp, cur, q3, q4, ?_, q6⟩⟩
      injection q3 with q3 _ _
      injection q3 with q3
      injection q3 with q3 _ _
      subst q3
      exact (hsame _ (.inr (.inr (.inr rfl))) n4).trans q5
  · exact h.known.same (hsame _ (.inr (.inl rfl)) h.ne1)
  · intro o' a' b' x hx
    replace hx : putM F.J (o, a, b) n (o', a', b') = some x := hx
    unfold putM at hx
    split at hx
    · rename_i e
      injection hx with hx
      injection e with e1 e2
      injection e2 with e2 e3
      subst e1 e2 e3
      exact ⟨n, hx.symm, hn, ha, hb, hev, ht⟩
    · exact h.j1 o' a' b' x hx
  · have := h.small
    exact ⟨this.1, hsz, this.2.2⟩
  · exact ⟨hg.os, hg.tape, hg.output, hg.size, fun k hk hne => hg.block k hk (fun e => hne (.inr (.inr (.inl (by injection e)))))⟩

theorem brK_old {ks e : List Kn} {n o : Nat} {b : Bool} (hn : n < ks.length) : brK (ks ++ e) n o b = brK ks n o b := by
  unfold brK; rw [topK_old e hn, lowK_old e hn, highK_old e hn]
theorem branch_st {F0 F : Fo} {wa w : World} (st : FStep wa F0 w F) (n o : Nat) (b : Bool) (hn : n < F0.ks.length) :
    Calls Try.prog 63 #[.pointer (some ⟨F0.p, 0, none⟩), .int .i64 n, .int .i64 o, .bool b] w fun e w' => e = .returned (.int .i64 (brK F0.ks n o b : Nat)) ∧ Below w.heap.size w w' := by
  have h := branch_any F n o b w st.here (Nat.lt_of_lt_of_le hn st.le)
  rw [st.p] at h
  obtain ⟨e, he⟩ := st.ks
  rw [he, brK_old hn] at h
  exact h
/-- What join gives back. -/
structure JoinR (d : Nat) (w : World) (F : Fo) (o : Int) (a b n : Nat) (w' : World) (F' : Fo) : Prop where
  st : FStep w F w' F'
  lt : n < F'.ks.length
  len : F'.ks.length + 1 ≤ F.ks.length + 2 ^ d
  nj : F'.nj + 1 ≤ F.nj + 2 ^ d
  ev : ∀ v, ev F'.ks v n = opB o (ev F.ks v a) (ev F.ks v b)
  top : min (topK F.ks a) (topK F.ks b) ≤ topK F'.ks n
theorem pow_pos2 (d : Nat) : 1 ≤ 2 ^ d := Nat.one_le_two_pow
set_option maxRecDepth 100000 in
theorem joinEnd_any (F : Fo) (o : Int) (ho : o = -4 ∨ o = -5 ∨ o = -6) (a b : Nat) (w : World) (h : FoAt w F) (ha : a < 2) (hb : b < 2) (d : Nat) :
    Calls Try.prog 46 #[.pointer (some ⟨F.p, 0, none⟩), .int .i64 o, .int .i64 a, .int .i64 b] w fun e w' => ∃ n F', e = .returned (.int .i64 (n : Nat)) ∧ JoinR d w F o a b n w' F' := by
  have h2 := h.wf.two
  have ht : ∀ i, i < 2 → topK F.ks i = F.N := fun i hi => by
    rcases (by omega : i = 0 ∨ i = 1) with rfl | rfl
    · exact h.wf.top0
    · exact h.wf.top1
  have hd := pow_pos2 d
  have fin : ∀ n, n < 2 → (∀ v, ev F.ks v n = opB o (ev F.ks v a) (ev F.ks v b)) → JoinR d w F o a b n w F := fun n hn he =>
    ⟨FStep.refl h, by omega, by omega, by omega, he, by rw [ht a ha, ht b hb, ht n hn]; omega⟩
  have FIN := hide fin
  clear fin ht h h2 hd
  rcases (by omega : a = 0 ∨ a = 1) with rfl | rfl <;> rcases (by omega : b = 0 ∨ b = 1) with rfl | rfl <;> rcases ho with rfl | rfl | rfl
  all_goals
    go_enter Try.func46, Try.ntmps46
    go_wp2_with fail
    go_ret
    first
      | exact ⟨0, F, rfl, FIN.out 0 (by omega) fun v => rfl⟩
      | exact ⟨1, F, rfl, FIN.out 1 (by omega) fun v => rfl⟩

set_option maxRecDepth 100000 in
set_option maxHeartbeats 4000000 in
theorem join_any : ∀ (d : Nat) (F : Fo) (o : Int) (a b : Nat) (w : World), (o = -4 ∨ o = -5 ∨ o = -6) → FoAt w F → a < F.ks.length → b < F.ks.length → F.N - min (topK F.ks a) (topK F.ks b) ≤ d → F.ks.length + 2 ^ d ≤ 1073741824 → F.nj + 2 ^ d ≤ 1073741824 →
    Calls Try.prog 46 #[.pointer (some ⟨F.p, 0, none⟩), .int .i64 o, .int .i64 a, .int .i64 b] w fun e w' => ∃ n F', e = .returned (.int .i64 (n : Nat)) ∧ JoinR d w F o a b n w' F' := by
  intro d
  induction d with
  | zero =>
    intro F o a b w ho h ha hb hd _ _
    have hlt : ∀ i, i < F.ks.length → F.N ≤ topK F.ks i → i < 2 := fun i hi ht => by
      rcases Nat.lt_or_ge i 2 with h2 | h2
      · exact h2
      · have := h.wf.opt i h2 hi; omega
    exact joinEnd_any F o ho a b w h (hlt a ha (by omega)) (hlt b hb (by omega)) 0
  | succ d ih =>
    intro F o a b w ho h ha hb hd hk hj
    by_cases hab : a < 2 ∧ b < 2
    · exact joinEnd_any F o ho a b w h hab.1 hab.2 _
    obtain ⟨lo, hi, hlo, hhi, hsw⟩ : ∃ lo hi : Nat, lo < F.ks.length ∧ hi < F.ks.length ∧ ((a ≤ b ∧ lo = a ∧ hi = b) ∨ (b < a ∧ lo = b ∧ hi = a)) := by
      rcases Nat.lt_or_ge b a with h1 | h1
      · exact ⟨b, a, hb, ha, .inr ⟨h1, rfl, rfl⟩⟩
      · exact ⟨a, b, ha, hb, .inl ⟨h1, rfl, rfl⟩⟩
    have hevs : ∀ v, opB o (ev F.ks v lo) (ev F.ks v hi) = opB o (ev F.ks v a) (ev F.ks v b) := fun v => by
      rcases hsw with ⟨_, rfl, rfl⟩ | ⟨_, rfl, rfl⟩
      · rfl
      · exact opB_comm _ _ _
    have htop : min (topK F.ks a) (topK F.ks b) = min (topK F.ks lo) (topK F.ks hi) := by
      rcases hsw with ⟨_, rfl, rfl⟩ | ⟨_, rfl, rfl⟩
      · rfl
      · exact Nat.min_comm _ _
    have hhi2 : 2 ≤ hi := by omega
    have hthi : topK F.ks hi < F.N := h.wf.opt hi hhi2 hhi
    have htle : topK F.ks lo ≤ F.N := h.wf.top_le lo hlo
    have hsm := h.small
    rw [htop] at hd
    have HFIN : Hid (∀ n w' F', JoinR (d + 1) w F o lo hi n w' F' → JoinR (d + 1) w F o a b n w' F') := fun n w' F' r => ⟨r.st, r.lt, r.len, r.nj, fun v => (r.ev v).trans (hevs v), by rw [htop]; exact r.top⟩
    have HSW := hide hsw
    have H := hide h
    have HO := hide ho
    have ho63 : I63 o := by unfold I63; omega
    obtain ⟨kl, hkl⟩ := paKey (o := o) (a := lo) (b := hi) ho63 (by unfold I63; omega) (by unfold I63; omega)
    have HKEY := hide hkl
    have HIS : Hid (∀ (F1 : Fo) (w1 : World) (x y : Nat), FStep w F w1 F1 → x < F.ks.length → y < F.ks.length → F.N - min (topK F.ks x) (topK F.ks y) ≤ d → F1.ks.length + 2 ^ d ≤ 1073741824 → F1.nj + 2 ^ d ≤ 1073741824 →
        Calls Try.prog 46 #[.pointer (some ⟨F.p, 0, none⟩), .int .i64 o, .int .i64 x, .int .i64 y] w1 fun e w' => ∃ n F', e = .returned (.int .i64 (n : Nat)) ∧ JoinR d w1 F1 o x y n w' F') := by
      intro F1 w1 x y st hx hy hd' hk' hj'
      have hle := st.le
      have h1 := ih F1 o x y w1 ho st.here (by omega) (by omega) (by rw [st.N, st.top hx, st.top hy]; exact hd') hk' hj'
      rw [st.p] at h1
      exact h1
    obtain ⟨l0, l1, l2, l3⟩ := h.lts
    clear hevs htop hsw h ho hkl ih ho63
    go_enter Try.func46, Try.ntmps46
    go_upto_region 1 with (fail)
    go_cut [24] from 19 to 23 (fun c wx => c = .bool false ∧ w = wx)
    case first =>
      by_cases ha2 : a < 2
      · have hb2 : ¬ (b : Int) < 2 := by omega
        have ha3 : (a : Int) < 2 := by omega
        clear hab
        go_wp2_with fail
        go_meet
        exact ⟨rfl, rfl⟩
      · have ha3 : ¬ (a : Int) < 2 := by omega
        clear hab
        go_wp2_with fail
        go_meet
        exact ⟨rfl, rfl⟩
    case rest =>
    obtain ⟨rfl, rfl⟩ := hcut
    clear hab
    go_upto_if 48 with (fail)
    go_cut [2, 3] from 46 to 50 (fun x y wy => x = .int .i64 lo ∧ y = .int .i64 hi ∧ w = wy)
    case first =>
      rcases HSW.out with ⟨h1, e1, e2⟩ | ⟨h1, e1, e2⟩
      · have h1' : ¬ (b : Int) < (a : Int) := by omega
        go_wp2_with fail
        go_meet
        exact ⟨by rw [e1], by rw [e2], rfl⟩
      · have h1' : (b : Int) < (a : Int) := by omega
        go_wp2_with fail
        go_meet
        exact ⟨by rw [e1], by rw [e2], rfl⟩
    case rest =>
    obtain ⟨rfl, rfl, rfl⟩ := hcut
    cases hx : F.J (o, lo, hi) with
    | some x =>
      obtain ⟨i, rfl, il, _, _, iev, itop⟩ := H.out.j1 _ _ _ _ hx
      have HLK0 : Hid (∀ w', Below w.heap.size w w' → (Instr.lookup 92 (.map (some F.bj)) (.agg #[.int .i64 o, .int .i64 lo, .int .i64 hi]) true).run Try.prog w' = .ok (.tuple #[.int .i64 i, .bool true]) w') := fun w' hb => by
        have := (H.out.below hb).joined.look paLaw Try.underlying92 Try.underlying3 (zInt w') HKEY.out
        rw [hx] at this
        exact this
      have HEV := hide iev
      have HTOP := hide itop
      clear hx iev itop
      go_upto_region 15 with (fail)
      generalize hw0 : World.alloc _ _ = w0
      obtain ⟨hb0, hB0, hs0⟩ := alloc1 hw0
      clear hw0
      have d2 : w0.cell? ⟨F.p, 3, none⟩ = some (.map (some F.bj)) := (H.out.below hB0).cellJ
      have e0 := cellOf hb0 0
      have e1 := cellOf hb0 1
      have e2 := cellOf hb0 2
      have HLK : Hid (∀ w', Below w0.heap.size w0 w' → (Instr.lookup 92 (.map (some F.bj)) (.agg #[.int .i64 o, .int .i64 lo, .int .i64 hi]) true).run Try.prog w' = .ok (.tuple #[.int .i64 i, .bool true]) w') := fun w' hb => HLK0.out w' (Below.to hB0 hb (Nat.le_refl _))
      have l4 : F.p < w0.heap.size := by omega
      have l5 : w.heap.size < w0.heap.size := by omega
      have HB0 := hide hB0
      clear hB0 hs0 HLK0 hb0
      refine wp_region_held_drew (S := (fun w' => Below w0.heap.size w0 w')) (by kernel_rfl) ?_ (fun hHeld => ?_)
      · try dsimp only
        exact (by repeat (first | exact Below.refl _ _ | assumption | refine Below.drew ?_ | refine Below.drewN ?_ _ | refine Below.allocT ?_ (Nat.le_refl _) _ | refine Below.setCell ?_ (by simp <;> omega) _ | refine Below.to ?_ (by assumption) (Nat.le_refl _)))
      refine zT 0 rfl ?_
      refine zT 1 rfl ?_
      refine zT 2 rfl ?_
      refine zT 3 rfl ?_
      refine zT 4 rfl ?_
      refine zT 5 rfl ?_
      refine zT 6 rfl ?_
      refine zT 7 rfl ?_
      refine zT 8 rfl ?_
      refine zT 9 rfl ?_
      refine zT 10 rfl ?_
      refine wpAnyH_done (by kernel_rfl) ?_ _
      go_wp2_with fail
      go_ret
      have hp2 := pow_pos2 (d + 1)
      exact ⟨i, F, rfl, HFIN.out _ _ _ ⟨FStep.of_below H.out (Below.to HB0.out (by repeat (first | exact Below.refl _ _ | assumption | refine Below.drew ?_ | refine Below.drewN ?_ _ | refine Below.allocT ?_ (Nat.le_refl _) _ | refine Below.setCell ?_ (by simp <;> omega) _ | refine Below.to ?_ (by assumption) (Nat.le_refl _))) (Nat.le_refl _)), il, by omega, by omega, HEV.out, HTOP.out⟩⟩
    | none =>
      have HLK0 : Hid (∀ w', Below w.heap.size w w' → (Instr.lookup 92 (.map (some F.bj)) (.agg #[.int .i64 o, .int .i64 lo, .int .i64 hi]) true).run Try.prog w' = .ok (.tuple #[.int .i64 0, .bool false]) w') := fun w' hb => by
        have := (H.out.below hb).joined.look paLaw Try.underlying92 Try.underlying3 (zInt w') HKEY.out
        rw [hx] at this
        exact this
      clear hx
      go_upto_region 15 with (fail)
      generalize hw0 : World.alloc _ _ = w0
      obtain ⟨hb0, hB0, hs0⟩ := alloc1 hw0
      clear hw0
      have d2 : w0.cell? ⟨F.p, 3, none⟩ = some (.map (some F.bj)) := (H.out.below hB0).cellJ
      have e0 := cellOf hb0 0
      have e1 := cellOf hb0 1
      have e2 := cellOf hb0 2
      have HLK : Hid (∀ w', Below w0.heap.size w0 w' → (Instr.lookup 92 (.map (some F.bj)) (.agg #[.int .i64 o, .int .i64 lo, .int .i64 hi]) true).run Try.prog w' = .ok (.tuple #[.int .i64 0, .bool false]) w') := fun w' hb => HLK0.out w' (Below.to hB0 hb (Nat.le_refl _))
      have l4 : F.p < w0.heap.size := by omega
      have l5 : w.heap.size < w0.heap.size := by omega
      have l6 : F.kb < w0.heap.size := by omega
      have HB0 := hide hB0
      have HH0 := hide hb0
      have HS0 : Hid (w0.heap.size = w.heap.size + 1) := hs0
      clear hB0 hs0 HLK0 hb0
      refine wp_region_held_drew (S := (fun w' => Below w0.heap.size w0 w')) (by kernel_rfl) ?_ (fun hHeld => ?_)
      · try dsimp only
        exact (by repeat (first | exact Below.refl _ _ | assumption | refine Below.drew ?_ | refine Below.drewN ?_ _ | refine Below.allocT ?_ (Nat.le_refl _) _ | refine Below.setCell ?_ (by simp <;> omega) _ | refine Below.to ?_ (by assumption) (Nat.le_refl _)))
      refine zT 0 rfl ?_
      refine zT 1 rfl ?_
      refine zT 2 rfl ?_
      refine zT 3 rfl ?_
      refine zT 4 rfl ?_
      refine zT 5 rfl ?_
      refine zT 6 rfl ?_
      refine zT 7 rfl ?_
      refine zT 8 rfl ?_
      refine zT 9 rfl ?_
      refine zT 10 rfl ?_
      refine wpAnyH_done (by kernel_rfl) ?_ _
      clear HLK hHeld d2 e0 e1 e2
      obtain ⟨t, ht⟩ : ∃ t, min (topK F.ks lo) (topK F.ks hi) = t := ⟨_, rfl⟩
      have htN : t < F.N := by omega
      have htl : t ≤ topK F.ks lo := by omega
      have hth : t ≤ topK F.ks hi := by omega
      have hdt : F.N - t ≤ d + 1 := by omega
      go_upto_region 18 with (fail)
      go_cut [15] from 66 to 82 (fun x wx => x = .int .i64 t ∧ Below w0.heap.size w0 wx)
      case first =>
        have H0 := H.out.below HB0.out
        have d1 := H0.cellS
        obtain ⟨x0, _, _⟩ := H0.knot hlo
        obtain ⟨y0, _, _⟩ := H0.knot hhi
        clear H0
        have i0 : (0 : Int) ≤ (lo : Int) := by omega
        have i1 : (lo : Int) < (F.ks.length : Int) := by omega
        have i2 : (0 : Int) ≤ (hi : Int) := by omega
        have i3 : (hi : Int) < (F.ks.length : Int) := by omega
        by_cases htt : topK F.ks hi < topK F.ks lo
        · have ht1 : (topK F.ks hi : Int) < (topK F.ks lo : Int) := by omega
          have HT : Hid (topK F.ks hi = t) := by show topK F.ks hi = t; omega
          clear ht htt
          refine wp_region_held_drew (S := (fun w' => Below w0.heap.size w0 w')) (by kernel_rfl) ?_ (fun hHeld => ?_)
          · try dsimp only
            exact (by repeat (first | exact Below.refl _ _ | assumption | refine Below.drew ?_ | refine Below.drewN ?_ _ | refine Below.allocT ?_ (Nat.le_refl _) _ | refine Below.setCell ?_ (by simp <;> omega) _ | refine Below.to ?_ (by assumption) (Nat.le_refl _)))
          refine zT 0 rfl ?_
          refine zT 1 rfl ?_
          refine zT 2 rfl ?_
          refine zT 3 rfl ?_
          refine zT 4 rfl ?_
          refine zT 5 rfl ?_
          refine zT 6 rfl ?_
          refine zT 7 rfl ?_
          refine zT 8 rfl ?_
          refine zT 9 rfl ?_
          refine zT 10 rfl ?_
          refine zT 11 rfl ?_
          refine zT 12 rfl ?_
          refine zT 13 rfl ?_
          refine zT 14 rfl ?_
          refine zT 15 rfl ?_
          refine zT 16 rfl ?_
          refine zT 17 rfl ?_
          refine wpAnyH_done (by kernel_rfl) ?_ _
          go_wp2_with fail
          go_meet
          exact ⟨by rw [HT.out], (by repeat (first | exact Below.refl _ _ | assumption | refine Below.drew ?_ | refine Below.drewN ?_ _ | refine Below.allocT ?_ (Nat.le_refl _) _ | refine Below.setCell ?_ (by simp <;> omega) _ | refine Below.to ?_ (by assumption) (Nat.le_refl _)))⟩
        · have ht1 : ¬ (topK F.ks hi : Int) < (topK F.ks lo : Int) := by omega
          have HT : Hid (topK F.ks lo = t) := by show topK F.ks lo = t; omega
          clear ht htt
          refine wp_region_held_drew (S := (fun w' => Below w0.heap.size w0 w')) (by kernel_rfl) ?_ (fun hHeld => ?_)
          · try dsimp only
            exact (by repeat (first | exact Below.refl _ _ | assumption | refine Below.drew ?_ | refine Below.drewN ?_ _ | refine Below.allocT ?_ (Nat.le_refl _) _ | refine Below.setCell ?_ (by simp <;> omega) _ | refine Below.to ?_ (by assumption) (Nat.le_refl _)))
          refine zT 0 rfl ?_
          refine zT 1 rfl ?_
          refine zT 2 rfl ?_
          refine zT 3 rfl ?_
          refine zT 4 rfl ?_
          refine zT 5 rfl ?_
          refine zT 6 rfl ?_
          refine zT 7 rfl ?_
          refine zT 8 rfl ?_
          refine zT 9 rfl ?_
          refine zT 10 rfl ?_
          refine zT 11 rfl ?_
          refine zT 12 rfl ?_
          refine zT 13 rfl ?_
          refine zT 14 rfl ?_
          refine zT 15 rfl ?_
          refine zT 16 rfl ?_
          refine zT 17 rfl ?_
          refine wpAnyH_done (by kernel_rfl) ?_ _
          go_wp2_with fail
          go_meet
          exact ⟨by rw [HT.out], (by repeat (first | exact Below.refl _ _ | assumption | refine Below.drew ?_ | refine Below.drewN ?_ _ | refine Below.allocT ?_ (Nat.le_refl _) _ | refine Below.setCell ?_ (by simp <;> omega) _ | refine Below.to ?_ (by assumption) (Nat.le_refl _)))⟩
      case rest =>
      obtain ⟨rfl, hB1⟩ := hcut
      have HT := hide ht
      have st1 : FStep w F wc F := FStep.of_below H.out (Below.to HB0.out hB1 (Nat.le_refl _))
      have hbx1 : wc.heap[w.heap.size]? = some (.cells #[.int .i64 o, .int .i64 lo, .int .i64 hi] 112 (0, 0)) := (hB1.block _ l5).trans HH0.out
      have hs1 : w.heap.size < wc.heap.size := box_lt hbx1
      have hnS : ¬ SF F w.heap.size := fun e => by have := H.out.slt e; omega
      have ST1 := hide st1
      have HBX1 := hide hbx1
      have HNS := hide hnS
      clear ht hB1 st1 hbx1 hnS
      have hwf := H.out.wf
      have a0l := brK_lt hwf (b := false) hlo htN
      have b0l := brK_lt hwf (b := false) hhi htN
      have a1l := brK_lt hwf (b := true) hlo htN
      have b1l := brK_lt hwf (b := true) hhi htN
      have a0t := brK_top hwf (b := false) hlo htN htl
      have b0t := brK_top hwf (b := false) hhi htN hth
      have a1t := brK_top hwf (b := true) hlo htN htl
      have b1t := brK_top hwf (b := true) hhi htN hth
      have hp2 : 2 ^ (d + 1) = 2 ^ d + 2 ^ d := by rw [Nat.pow_succ]; omega
      have hp1 := pow_pos2 d
      clear hwf
      go_wp2_with fail
      refine (branch_st ST1.out lo t false hlo).mono ?_
      rintro e w2 ⟨rfl, hB2⟩
      have ST2 : Hid (FStep w F w2 F) := ST1.out.then_below hB2
      have HB2 := hide hB2
      clear hB2
      go_wp2_with fail
      refine (branch_st ST2.out hi t false hhi).mono ?_
      rintro e w3 ⟨rfl, hB3⟩
      have ST3 : Hid (FStep w F w3 F) := ST2.out.then_below hB3
      have HB3 : Hid (Below wc.heap.size wc w3) := Below.to HB2.out hB3 (Nat.le_refl _)
      clear hB3
      go_wp2_with fail
      refine (HIS.out F w3 _ _ ST3.out a0l b0l (by omega) (by omega) (by omega)).mono ?_
      rintro e w4 ⟨n1, F1, rfl, hr⟩
      have ST4 : Hid (FStep w F w4 F1) := ST3.out.trans hr.st
      have SW4 : Hid (FStep wc F w4 F1) := (FStep.of_below ST1.out.here HB3.out).trans hr.st
      have q1 := hr.len
      have q2 := hr.nj
      have q3 := hr.lt
      have R1 := hide hr
      clear hr
      go_wp2_with fail
      refine (branch_st ST4.out lo t true hlo).mono ?_
      rintro e w5 ⟨rfl, hB5⟩
      have ST5 : Hid (FStep w F w5 F1) := ST4.out.then_below hB5
      have SW5 : Hid (FStep wc F w5 F1) := SW4.out.then_below hB5
      clear hB5
      go_wp2_with fail
      refine (branch_st ST5.out hi t true hhi).mono ?_
      rintro e w6 ⟨rfl, hB6⟩
      have ST6 : Hid (FStep w F w6 F1) := ST5.out.then_below hB6
      have SW6 : Hid (FStep wc F w6 F1) := SW5.out.then_below hB6
      clear hB6
      go_wp2_with fail
      refine (HIS.out F1 w6 _ _ ST6.out a1l b1l (by omega) (by omega) (by omega)).mono ?_
      rintro e w7 ⟨n2, F2, rfl, hr⟩
      have ST7 : Hid (FStep w F w7 F2) := ST6.out.trans hr.st
      have SW7 : Hid (FStep wc F w7 F2) := SW6.out.trans hr.st
      have q4 := hr.len
      have q5 := hr.nj
      have q6 := hr.lt
      have R2 := hide hr
      clear hr
      have hl12 := R2.out.st.le
      have hN2 : F2.N = F.N := ST7.out.N
      have t1 : t < topK F2.ks n1 := by
        have h1 := R1.out.top
        rw [R2.out.st.top q3]
        omega
      have t2 : t < topK F2.ks n2 := by
        have h1 := R2.out.top
        rw [ST6.out.top a1l, ST6.out.top b1l] at h1
        omega
      have hnode := node_any F2 t n1 n2 w7 ST7.out.here (by omega) (by omega) q6 t1 t2 (by omega)
      rw [ST7.out.p] at hnode
      have HND := hide hnode
      clear hnode
      go_wp2_with fail
      refine HND.out.mono ?_
      rintro e w8 ⟨n3, F3, rfl, hr⟩
      have ST8 : Hid (FStep w F w8 F3) := ST7.out.trans hr.st
      have SW8 : Hid (FStep wc F w8 F3) := SW7.out.trans hr.st
      have q7 := hr.len
      have R3 := hide hr
      clear hr
      have hbx8 := (SW8.out.block hs1 HNS.out).1.trans HBX1.out
      have e0 := cellOf hbx8 0
      have e1 := cellOf hbx8 1
      have e2 := cellOf hbx8 2
      have d3 := ST8.out.here.cellJ
      rw [ST8.out.p, ST8.out.bj] at d3
      clear hbx8
      have hjo := ST8.out.here.joined
      rw [ST8.out.bj] at hjo
      have HJO := hide hjo
      clear hjo
      have hle12 := ST7.out.le
      have hle13 := ST8.out.le
      go_wp2_with fail
      go_still_tail 6, (by kernel_rfl)
      change wpList _ _ _ _ _ w8.drew
      refine wpList_put _ rfl _ _ _ 92 rfl (show MapIs _ w8.drew _ _ _ _ _ _ from HJO.out) paLaw Try.underlying92 Try.underlying3 paV_inj (by have h2 := ST8.out.here.small.2.1; unfold maxLen; omega) (o, lo, hi) ⟨_, HKEY.out⟩ (n3 : Int) (wf63 (by have h1 := R3.out.lt; have h2 := ST8.out.here.small.1; unfold I63; omega)) rfl rfl rfl ?_
      intro w9 hm9 hg9
      have HM9 := hide hm9
      have HG9 : Hid (w8.grownBy w9 (some F.bj)) := ⟨hg9.os, hg9.tape, hg9.output, hg9.size, hg9.block⟩
      clear hm9 hg9 e0 e1 e2 d3
      go_wp2_with fail
      go_ret
      have q8 := R3.out.nj
      have q9 := R3.out.lt
      have hm := HM9.out
      have hg := HG9.out
      rw [← ST8.out.bj] at hm hg
      have hevf : ∀ v, ev F3.ks v n3 = opB o (ev F3.ks v lo) (ev F3.ks v hi) := fun v => by
        have hwf := H.out.wf
        rw [ST8.out.ev hwf hlo, ST8.out.ev hwf hhi, R3.out.ev]
        cases hv : v t with
        | false =>
          rw [if_neg (by simp), R2.out.st.ev ST6.out.here.wf q3, R1.out.ev, brK_ev hwf hlo htN v hv, brK_ev hwf hhi htN v hv]
        | true =>
          rw [if_pos rfl, R2.out.ev, ST6.out.ev hwf a1l, ST6.out.ev hwf b1l, brK_ev hwf hlo htN v hv, brK_ev hwf hhi htN v hv]
      have st9 := ST8.out.here.putJ hm hg (by omega) q9 (by omega) (by omega) hevf (by rw [ST8.out.top hlo, ST8.out.top hhi, HT.out]; exact R3.out.top)
      exact ⟨n3, _, rfl, HFIN.out _ _ _ ⟨ST8.out.trans st9, q9, by show F3.ks.length + 1 ≤ _; omega, by show F3.nj + 1 + 1 ≤ _; omega, fun v => by
        have hwf := H.out.wf
        show ev F3.ks v n3 = _
        rw [hevf v, ST8.out.ev hwf hlo, ST8.out.ev hwf hhi], by rw [HT.out]; exact R3.out.top⟩⟩
end Go.Proofs.Ytmgfijadjclmpaa
/- Opposite, option, all of some nodes: walks. -/
namespace Go.Proofs.Ytmgfijadjclmpaa
open Go.RowKit
open Go.Maps (Keyed)
set_option linter.unusedVariables false
set_option linter.unusedSimpArgs false
/-- A later forest, larger by at most k times 2 to the number of options. -/
structure OpR (k : Nat) (w : World) (F : Fo) (w' : World) (F' : Fo) : Prop where
  st : FStep w F w' F'
  len : F'.ks.length ≤ F.ks.length + k * 2 ^ F.N
  nj : F'.nj ≤ F.nj + k * 2 ^ F.N
theorem OpR.refl {w : World} {F : Fo} (h : FoAt w F) (k : Nat) : OpR k w F w F := ⟨FStep.refl h, by omega, by omega⟩
theorem OpR.trans {k l : Nat} {a b c : World} {F G H : Fo} (h : OpR k a F b G) (g : OpR l b G c H) : OpR (k + l) a F c H := by
  have h1 := h.len
  have h2 := h.nj
  have h3 := g.len
  have h4 := g.nj
  rw [h.st.N] at h3 h4
  refine ⟨h.st.trans g.st, ?_, ?_⟩
  · rw [Nat.add_mul]; omega
  · rw [Nat.add_mul]; omega
theorem OpR.then_below {k : Nat} {a b c : World} {F G : Fo} (h : OpR k a F b G) (hb : Below b.heap.size b c) : OpR k a F c G := ⟨h.st.then_below hb, h.len, h.nj⟩
theorem OpR.after_below {k : Nat} {a b c : World} {F G : Fo} (hF : FoAt a F) (hb : Below a.heap.size a b) (h : OpR k b F c G) : OpR k a F c G := ⟨(FStep.of_below hF hb).trans h.st, h.len, h.nj⟩
theorem OpR.mono {k l : Nat} {a b : World} {F G : Fo} (h : OpR k a F b G) (hk : k ≤ l) : OpR l a F b G := by
  have h1 := h.len
  have h2 := h.nj
  have h3 := Nat.mul_le_mul_right (2 ^ F.N) hk
  exact ⟨h.st, by omega, by omega⟩
theorem OpR.of_join {d : Nat} {w w' : World} {F F' : Fo} {o : Int} {a b n : Nat} (h : JoinR d w F o a b n w' F') (hd : d ≤ F.N) : OpR 1 w F w' F' := by
  have h1 := h.len
  have h2 := h.nj
  have h3 : 2 ^ d ≤ 2 ^ F.N := Nat.pow_le_pow_right (by omega) hd
  exact ⟨h.st, by omega, by omega⟩
/-- There is room for k more steps. -/
def Room (F : Fo) (k : Nat) : Prop := F.ks.length + k * 2 ^ F.N ≤ 1073741824 ∧ F.nj + k * 2 ^ F.N ≤ 1073741824
theorem Room.step {k l : Nat} {w w' : World} {F F' : Fo} (hr : Room F (k + l)) (h : OpR k w F w' F') : Room F' l := by
  have h1 := h.len
  have h2 := h.nj
  obtain ⟨h3, h4⟩ := hr
  rw [Nat.add_mul] at h3 h4
  unfold Room
  rw [h.st.N]
  omega
theorem Room.mono {k l : Nat} {F : Fo} (hr : Room F k) (h : l ≤ k) : Room F l := by
  have h3 := Nat.mul_le_mul_right (2 ^ F.N) h
  obtain ⟨h4, h5⟩ := hr
  exact ⟨by omega, by omega⟩
/-- Two nodes joined, from a later forest. -/
theorem join_op {F : Fo} (o : Int) (a b : Nat) (w : World) (ho : o = -4 ∨ o = -5 ∨ o = -6) (h : FoAt w F) (ha : a < F.ks.length) (hb : b < F.ks.length) (hr : Room F 1) :
    Calls Try.prog 46 #[.pointer (some ⟨F.p, 0, none⟩), .int .i64 o, .int .i64 a, .int .i64 b] w
      fun e w' => ∃ n F', e = .returned (.int .i64 (n : Nat)) ∧ OpR 1 w F w' F' ∧ n < F'.ks.length ∧ ∀ v, ev F'.ks v n = opB o (ev F.ks v a) (ev F.ks v b) := by
  unfold Room at hr
  refine (join_any F.N F o a b w ho h ha hb (by omega) (by omega) (by omega)).mono ?_
  rintro e w' ⟨n, F', rfl, hj⟩
  exact ⟨n, F', rfl, OpR.of_join hj (Nat.le_refl _), hj.lt, hj.ev⟩
set_option maxRecDepth 100000 in
theorem not_any (F : Fo) (n : Nat) (w : World) (h : FoAt w F) (hn : n < F.ks.length) (hr : Room F 1) :
    Calls Try.prog 47 #[.pointer (some ⟨F.p, 0, none⟩), .int .i64 n] w
      fun e w' => ∃ m F', e = .returned (.int .i64 (m : Nat)) ∧ OpR 1 w F w' F' ∧ m < F'.ks.length ∧ ∀ v, ev F'.ks v m = !ev F.ks v n := by
  have h2 := h.wf.two
  have H := hide h
  have HR := hide hr
  clear h hr
  go_enter Try.func47, Try.ntmps47
  go_wp2_with (go_at_call 46; refine (join_op (-6) n 0 _ (by omega) H.out hn (by omega) HR.out).mono ?_; rintro e w1 ⟨m, F1, rfl, h1, h2, h3⟩; have H1 := hide h1; have H3 := hide h3; clear h1 h3)
  go_ret
  exact ⟨m, F1, rfl, H1.out, h2, fun v => by rw [H3.out v, ev_zero]; cases ev F.ks v n <;> rfl⟩
set_option maxRecDepth 100000 in
theorem literal_any (F : Fo) (o : Nat) (b : Bool) (w : World) (h : FoAt w F) (ho : o < F.N) (hr : Room F 1) :
    Calls Try.prog 48 #[.pointer (some ⟨F.p, 0, none⟩), .int .i64 o, .bool b] w
      fun e w' => ∃ m F', e = .returned (.int .i64 (m : Nat)) ∧ OpR 1 w F w' F' ∧ m < F'.ks.length ∧ ∀ v, ev F'.ks v m = (v o == b) := by
  have h2 := h.wf.two
  have h3 := h.wf.top0
  have h4 := h.wf.top1
  have hp := pow_pos2 F.N
  have h01 := node_any F o 0 1 w h ho (by omega) (by omega) (by omega) (by omega) (by unfold Room at hr; omega)
  have h10 := node_any F o 1 0 w h ho (by omega) (by omega) (by omega) (by omega) (by unfold Room at hr; omega)
  have H01 := hide h01
  have H10 := hide h10
  have HP := hide hp
  clear h hr h3 h4 h01 h10 hp
  cases b with
  | true =>
    go_enter Try.func48, Try.ntmps48
    go_wp2_with (go_at_call 64; refine H01.out.mono ?_; rintro e w1 ⟨m, F1, rfl, h1⟩; have H1 := hide h1; clear h1)
    go_ret
    have h1 := H1.out.len
    have h2 := H1.out.nj
    have hp := HP.out
    exact ⟨m, F1, rfl, ⟨H1.out.st, by omega, by omega⟩, H1.out.lt, fun v => by rw [H1.out.ev v, ev_zero, ev_one]; cases v o <;> rfl⟩
  | false =>
    go_enter Try.func48, Try.ntmps48
    go_wp2_with (go_at_call 64; refine H10.out.mono ?_; rintro e w1 ⟨m, F1, rfl, h1⟩; have H1 := hide h1; clear h1)
    go_ret
    have h1 := H1.out.len
    have h2 := H1.out.nj
    have hp := HP.out
    exact ⟨m, F1, rfl, ⟨H1.out.st, by omega, by omega⟩, H1.out.lt, fun v => by rw [H1.out.ev v, ev_zero, ev_one]; cases v o <;> rfl⟩
/-- Nodes in a block of their own. -/
def NodesAt (w : World) (b : Nat) (l : List Nat) : Prop := w.heap[b]? = some (.cells (l.map fun (n : Nat) => Value.int .i64 n).toArray 3 (0, 0))
theorem NodesAt.cell {w : World} {b : Nat} {l : List Nat} (h : NodesAt w b l) {i : Nat} (hi : i < l.length) : w.cell? ⟨b, i, none⟩ = some (.int .i64 (l.getD i 0 : Nat)) := by
  rw [cellOf h i]
  simp [hi]
set_option maxRecDepth 100000 in
theorem and_any (F : Fo) (b : Nat) (l : List Nat) (w : World) (h : FoAt w F) (hl : ∀ n ∈ l, n < F.ks.length) (hb : NodesAt w b l) (hnb : ¬ SF F b) (hlen : l.length ≤ 100) (hr : Room F l.length) :
    Calls Try.prog 31 #[.pointer (some ⟨F.p, 0, none⟩), .slice (some ⟨b, 0, none⟩) l.length l.length] w
      fun e w' => ∃ m F', e = .returned (.int .i64 (m : Nat)) ∧ OpR l.length w F w' F' ∧ m < F'.ks.length ∧ ∀ v, ev F'.ks v m = l.all (fun n => ev F.ks v n) := by
  have h2 := h.wf.two
  have H := hide h
  have HR := hide hr
  have HL := hide hl
  have HB := hide hb
  have HNB := hide hnb
  have hbl : b < w.heap.size := box_lt hb
  clear h hr hl hb hnb
  go_enter Try.func31, Try.ntmps31
  go_wp2
  go_loopw [5, 10] (fun n i wr => ∃ (k m : Nat) (F1 : Fo), k ≤ l.length ∧ i = .int .i64 k ∧ n = .int .i64 m ∧ Hid (OpR k w F wr F1) ∧ m < F1.ks.length ∧ Hid (∀ v, ev F1.ks v m = (l.take k).all (fun n => ev F.ks v n))) (fun _ i _ => l.length - (intOf i).toNat)
  case atStart => exact ⟨0, 1, F, Nat.zero_le _, rfl, rfl, OpR.refl H.out 0, by omega, fun v => rfl⟩
  case round =>
    obtain ⟨k, m, F1, hk, rfl, rfl, hop, hm, hev⟩ := hrel
    by_cases hlt : k < l.length
    · obtain ⟨x, hx⟩ : ∃ x, l.getD k 0 = x := ⟨_, rfl⟩
      have hxm : x ∈ l := by
        rw [← hx, List.getD_eq_getElem?_getD, List.getElem?_eq_getElem hlt]
        exact List.getElem_mem _
      have hxl := HL.out x hxm
      have hle := hop.out.st.le
      have c0 : wr.cell? ⟨b, k, none⟩ = some (.int .i64 (x : Nat)) := by
        have := NodesAt.cell (((hop.out.st.block hbl HNB.out).1).trans HB.out) hlt
        rwa [hx] at this
      have hjo := join_op (-4) m x wr (by omega) hop.out.st.here hm (by omega) ((HR.out.mono (show k + 1 ≤ l.length by omega)).step hop.out)
      rw [hop.out.st.p] at hjo
      have HJO := hide hjo
      have HX := hide hx
      clear hjo hx hxm
      go_wp2_with (go_at_call 46; refine HJO.out.mono ?_; rintro e w1 ⟨m2, F2, rfl, h1, h2, h3⟩; have H1 := hide h1; have H3 := hide h3; clear h1 h3)
      go_roundw
      case rel =>
        refine ⟨k + 1, m2, F2, by omega, by go_num, rfl, hop.out.trans H1.out, h2, fun v => ?_⟩
        rw [H3.out v, hev.out v, List.take_succ_eq_append_getElem hlt, List.all_append, hop.out.st.ev H.out.wf hxl]
        have : l[k] = x := by
          have := HX.out
          rw [List.getD_eq_getElem?_getD, List.getElem?_eq_getElem hlt] at this
          simpa using this
        simp [opB, this]
      case measure => simp [intOf]; omega
    · go_wp2
      go_ret
      obtain rfl : k = l.length := by omega
      exact ⟨m, F1, rfl, hop.out, hm, fun v => by rw [hev.out v, List.take_length]⟩
end Go.Proofs.Ytmgfijadjclmpaa

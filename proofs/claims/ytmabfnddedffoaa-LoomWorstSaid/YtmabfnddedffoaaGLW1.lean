/- Part 1 of this claim's texts: walks and plain laws. -/
import Derived.Test.YtmabfnddedffoaaRows
import Derived.Test.YtmabfnddedffoaaGLW0
import Derived.Deep.CutBlock
import Derived.Deep.DeepMust
import Derived.WalkLawsBesides
import Derived.WalkSpells
import Derived.Deep.QuietTactic
/- Two nodes joined: walk. -/
namespace Go.Proofs.Ytmabfnddedffoaa
open Go.RowKit
open Go.Maps (Keyed)
set_option linter.unusedVariables false
set_option linter.unusedSimpArgs false
theorem FoAt.putJ {w w' : World} {F : Fo} (h : FoAt w F) {o : Int} {a b n : Nat} (hm : MapIs Try.prog w' 199 3 F.bj (F.nj + 1) paV (putM F.J (o, a, b) n)) (hg : w.grownBy w' (some F.bj)) (hsz : F.nj + 1 ≤ 1073741824)
    (hn : n < F.ks.length) (ha : a < F.ks.length) (hb : b < F.ks.length) (hev : ∀ v, ev F.ks v n = opB o (ev F.ks v a) (ev F.ks v b)) (ht : min (topK F.ks a) (topK F.ks b) ≤ topK F.ks n) :
    FStep w F w' { F with J := putM F.J (o, a, b) n, nj := F.nj + 1 } := by
  obtain ⟨n1, n2, n3, n4⟩ := h.nes
  have hlts := h.lts
  have hsame : ∀ k, SF F k → k ≠ F.bj → w'.heap[k]? = w.heap[k]? := fun k hk hne => hg.block k (h.slt hk) (fun e => hne (by injection e))
  refine ⟨⟨?_, ?_, ?_, hm, h.wf, h.k1, h.k2, ?_, h.nkk, h.pb, h.bb, h.ne1, h.ne2, ?_⟩, rfl, rfl, rfl, rfl, rfl, ⟨[], by simp⟩, .inl rfl, ?_⟩
  · exact (hsame _ (.inl rfl) n2).trans h.box
  · obtain ⟨q1, ⟨q2, q3⟩ | ⟨g', cp, cur, q3, q4, q5, q6⟩⟩ := h.row
    · cases q2
    · refine ⟨q1, .inr ⟨g', cp, cur, q3, q4, ?_, q6⟩⟩
      injection q3 with q3 _ _
      injection q3 with q3
      injection q3 with q3 _ _
      subst q3
      exact (hsame _ (.inr (.inr (.inr rfl))) n4).trans q5
  · exact h.known.same (hsame _ (.inr (.inl rfl)) h.ne1)
  · intro o' a' b' x hx
    replace hx : putM F.J (o, a, b) n (o', a', b') = some x := hx
    unfold putM at hx
    split at hx
    · rename_i e
      injection hx with hx
      injection e with e1 e2
      injection e2 with e2 e3
      subst e1 e2 e3
      exact ⟨n, hx.symm, hn, ha, hb, hev, ht⟩
    · exact h.j1 o' a' b' x hx
  · have := h.small
    exact ⟨this.1, hsz, this.2.2⟩
  · exact ⟨hg.os, hg.tape, hg.output, hg.size, fun k hk hne => hg.block k hk (fun e => hne (.inr (.inr (.inl (by injection e)))))⟩

theorem brK_old {ks e : List Kn} {n o : Nat} {b : Bool} (hn : n < ks.length) : brK (ks ++ e) n o b = brK ks n o b := by
  unfold brK; rw [topK_old e hn, lowK_old e hn, highK_old e hn]
theorem branch_st {F0 F : Fo} {wa w : World} (st : FStep wa F0 w F) (n o : Nat) (b : Bool) (hn : n < F0.ks.length) :
    Calls Try.prog 168 #[.pointer (some ⟨F0.p, 0, none⟩), .int .i64 n, .int .i64 o, .bool b] w fun e w' => e = .returned (.int .i64 (brK F0.ks n o b : Nat)) ∧ Below w.heap.size w w' := by
  have h := branch_any F n o b w st.here (Nat.lt_of_lt_of_le hn st.le)
  rw [st.p] at h
  obtain ⟨e, he⟩ := st.ks
  rw [he, brK_old hn] at h
  exact h
/-- What join gives back. -/
structure JoinR (d : Nat) (w : World) (F : Fo) (o : Int) (a b n : Nat) (w' : World) (F' : Fo) : Prop where
  st : FStep w F w' F'
  lt : n < F'.ks.length
  len : F'.ks.length + 1 ≤ F.ks.length + 2 ^ d
  nj : F'.nj + 1 ≤ F.nj + 2 ^ d
  ev : ∀ v, ev F'.ks v n = opB o (ev F.ks v a) (ev F.ks v b)
  top : min (topK F.ks a) (topK F.ks b) ≤ topK F'.ks n
theorem pow_pos2 (d : Nat) : 1 ≤ 2 ^ d := Nat.one_le_two_pow
set_option maxRecDepth 100000 in
theorem joinEnd_any (F : Fo) (o : Int) (ho : o = -4 ∨ o = -5 ∨ o = -6) (a b : Nat) (w : World) (h : FoAt w F) (ha : a < 2) (hb : b < 2) (d : Nat) :
    Calls Try.prog 167 #[.pointer (some ⟨F.p, 0, none⟩), .int .i64 o, .int .i64 a, .int .i64 b] w fun e w' => ∃ n F', e = .returned (.int .i64 (n : Nat)) ∧ JoinR d w F o a b n w' F' := by
  have h2 := h.wf.two
  have ht : ∀ i, i < 2 → topK F.ks i = F.N := fun i hi => by
    rcases (by omega : i = 0 ∨ i = 1) with rfl | rfl
    · exact h.wf.top0
    · exact h.wf.top1
  have hd := pow_pos2 d
  have fin : ∀ n, n < 2 → (∀ v, ev F.ks v n = opB o (ev F.ks v a) (ev F.ks v b)) → JoinR d w F o a b n w F := fun n hn he =>
    ⟨FStep.refl h, by omega, by omega, by omega, he, by rw [ht a ha, ht b hb, ht n hn]; omega⟩
  have FIN := hide fin
  clear fin ht h h2 hd
  rcases (by omega : a = 0 ∨ a = 1) with rfl | rfl <;> rcases (by omega : b = 0 ∨ b = 1) with rfl | rfl <;> rcases ho with rfl | rfl | rfl
  all_goals
    go_enter Try.func167, Try.ntmps167
    go_wp2_with fail
    go_ret
    first
      | exact ⟨0, F, rfl, FIN.out 0 (by omega) fun v => rfl⟩
      | exact ⟨1, F, rfl, FIN.out 1 (by omega) fun v => rfl⟩

set_option maxRecDepth 100000 in
set_option maxHeartbeats 4000000 in
theorem join_any : ∀ (d : Nat) (F : Fo) (o : Int) (a b : Nat) (w : World), (o = -4 ∨ o = -5 ∨ o = -6) → FoAt w F → a < F.ks.length → b < F.ks.length → F.N - min (topK F.ks a) (topK F.ks b) ≤ d → F.ks.length + 2 ^ d ≤ 1073741824 → F.nj + 2 ^ d ≤ 1073741824 →
    Calls Try.prog 167 #[.pointer (some ⟨F.p, 0, none⟩), .int .i64 o, .int .i64 a, .int .i64 b] w fun e w' => ∃ n F', e = .returned (.int .i64 (n : Nat)) ∧ JoinR d w F o a b n w' F' := by
  intro d
  induction d with
  | zero =>
    intro F o a b w ho h ha hb hd _ _
    have hlt : ∀ i, i < F.ks.length → F.N ≤ topK F.ks i → i < 2 := fun i hi ht => by
      rcases Nat.lt_or_ge i 2 with h2 | h2
      · exact h2
      · have := h.wf.opt i h2 hi; omega
    exact joinEnd_any F o ho a b w h (hlt a ha (by omega)) (hlt b hb (by omega)) 0
  | succ d ih =>
    intro F o a b w ho h ha hb hd hk hj
    by_cases hab : a < 2 ∧ b < 2
    · exact joinEnd_any F o ho a b w h hab.1 hab.2 _
    obtain ⟨lo, hi, hlo, hhi, hsw⟩ : ∃ lo hi : Nat, lo < F.ks.length ∧ hi < F.ks.length ∧ ((a ≤ b ∧ lo = a ∧ hi = b) ∨ (b < a ∧ lo = b ∧ hi = a)) := by
      rcases Nat.lt_or_ge b a with h1 | h1
      · exact ⟨b, a, hb, ha, .inr ⟨h1, rfl, rfl⟩⟩
      · exact ⟨a, b, ha, hb, .inl ⟨h1, rfl, rfl⟩⟩
    have hevs : ∀ v, opB o (ev F.ks v lo) (ev F.ks v hi) = opB o (ev F.ks v a) (ev F.ks v b) := fun v => by
      rcases hsw with ⟨_, rfl, rfl⟩ | ⟨_, rfl, rfl⟩
      · rfl
      · exact opB_comm _ _ _
    have htop : min (topK F.ks a) (topK F.ks b) = min (topK F.ks lo) (topK F.ks hi) := by
      rcases hsw with ⟨_, rfl, rfl⟩ | ⟨_, rfl, rfl⟩
      · rfl
      · exact Nat.min_comm _ _
    have hhi2 : 2 ≤ hi := by omega
    have hthi : topK F.ks hi < F.N := h.wf.opt hi hhi2 hhi
    have htle : topK F.ks lo ≤ F.N := h.wf.top_le lo hlo
    have hsm := h.small
    rw [htop] at hd
    have HFIN : Hid (∀ n w' F', JoinR (d + 1) w F o lo hi n w' F' → JoinR (d + 1) w F o a b n w' F') := fun n w' F' r => ⟨r.st, r.lt, r.len, r.nj, fun v => (r.ev v).trans (hevs v), by rw [htop]; exact r.top⟩
    have HSW := hide hsw
    have H := hide h
    have HO := hide ho
    have ho63 : I63 o := by unfold I63; omega
    obtain ⟨kl, hkl⟩ := paKey (o := o) (a := lo) (b := hi) ho63 (by unfold I63; omega) (by unfold I63; omega)
    have HKEY := hide hkl
    have HIS : Hid (∀ (F1 : Fo) (w1 : World) (x y : Nat), FStep w F w1 F1 → x < F.ks.length → y < F.ks.length → F.N - min (topK F.ks x) (topK F.ks y) ≤ d → F1.ks.length + 2 ^ d ≤ 1073741824 → F1.nj + 2 ^ d ≤ 1073741824 →
        Calls Try.prog 167 #[.pointer (some ⟨F.p, 0, none⟩), .int .i64 o, .int .i64 x, .int .i64 y] w1 fun e w' => ∃ n F', e = .returned (.int .i64 (n : Nat)) ∧ JoinR d w1 F1 o x y n w' F') := by
      intro F1 w1 x y st hx hy hd' hk' hj'
      have hle := st.le
      have h1 := ih F1 o x y w1 ho st.here (by omega) (by omega) (by rw [st.N, st.top hx, st.top hy]; exact hd') hk' hj'
      rw [st.p] at h1
      exact h1
    obtain ⟨l0, l1, l2, l3⟩ := h.lts
    clear hevs htop hsw h ho hkl ih ho63
    go_enter Try.func167, Try.ntmps167
    go_upto_region 1 with (fail)
    go_cut [24] from 19 to 23 (fun c wx => c = .bool false ∧ w = wx)
    case first =>
      by_cases ha2 : a < 2
      · have hb2 : ¬ (b : Int) < 2 := by omega
        have ha3 : (a : Int) < 2 := by omega
        clear hab
        go_wp2_with fail
        go_meet
        exact ⟨rfl, rfl⟩
      · have ha3 : ¬ (a : Int) < 2 := by omega
        clear hab
        go_wp2_with fail
        go_meet
        exact ⟨rfl, rfl⟩
    case rest =>
    obtain ⟨rfl, rfl⟩ := hcut
    clear hab
    go_upto_if 48 with (fail)
    go_cut [2, 3] from 46 to 50 (fun x y wy => x = .int .i64 lo ∧ y = .int .i64 hi ∧ w = wy)
    case first =>
      rcases HSW.out with ⟨h1, e1, e2⟩ | ⟨h1, e1, e2⟩
      · have h1' : ¬ (b : Int) < (a : Int) := by omega
        go_wp2_with fail
        go_meet
        exact ⟨by rw [e1], by rw [e2], rfl⟩
      · have h1' : (b : Int) < (a : Int) := by omega
        go_wp2_with fail
        go_meet
        exact ⟨by rw [e1], by rw [e2], rfl⟩
    case rest =>
    obtain ⟨rfl, rfl, rfl⟩ := hcut
    cases hx : F.J (o, lo, hi) with
    | some x =>
      obtain ⟨i, rfl, il, _, _, iev, itop⟩ := H.out.j1 _ _ _ _ hx
      have HLK0 : Hid (∀ w', Below w.heap.size w w' → (Instr.lookup 182 (.map (some F.bj)) (.agg #[.int .i64 o, .int .i64 lo, .int .i64 hi]) true).run Try.prog w' = .ok (.tuple #[.int .i64 i, .bool true]) w') := fun w' hb => by
        have := (H.out.below hb).joined.look paLaw Try.underlying182 Try.underlying3 (zInt w') HKEY.out
        rw [hx] at this
        exact this
      have HEV := hide iev
      have HTOP := hide itop
      clear hx iev itop
      go_upto_region 15 with (fail)
      generalize hw0 : World.alloc _ _ = w0
      obtain ⟨hb0, hB0, hs0⟩ := alloc1 hw0
      clear hw0
      have d2 : w0.cell? ⟨F.p, 3, none⟩ = some (.map (some F.bj)) := (H.out.below hB0).cellJ
      have e0 := cellOf hb0 0
      have e1 := cellOf hb0 1
      have e2 := cellOf hb0 2
      have HLK : Hid (∀ w', Below w0.heap.size w0 w' → (Instr.lookup 182 (.map (some F.bj)) (.agg #[.int .i64 o, .int .i64 lo, .int .i64 hi]) true).run Try.prog w' = .ok (.tuple #[.int .i64 i, .bool true]) w') := fun w' hb => HLK0.out w' (Below.to hB0 hb (Nat.le_refl _))
      have l4 : F.p < w0.heap.size := by omega
      have l5 : w.heap.size < w0.heap.size := by omega
      have HB0 := hide hB0
      clear hB0 hs0 HLK0 hb0
      refine wp_region_held_drew (S := (fun w' => Below w0.heap.size w0 w')) (by kernel_rfl) ?_ (fun hHeld => ?_)
      · try dsimp only
        exact (by repeat (first | exact Below.refl _ _ | assumption | refine Below.drew ?_ | refine Below.drewN ?_ _ | refine Below.allocT ?_ (Nat.le_refl _) _ | refine Below.setCell ?_ (by simp <;> omega) _ | refine Below.to ?_ (by assumption) (Nat.le_refl _)))
      refine wpAnyH_take (i := 0) (v := ?v1_0) rfl (by kernel_rfl) (by kernel_rfl) (by kernel_rfl) (fun _ _ _ h => h) (Or.inl ⟨by rfl, ?y1_0⟩) (by assumption) ?r1_0
      case' y1_0 => (intro w hSw; (try dsimp only at hSw); (try have hlS := HLK.out _ hSw); obtain ⟨hcS, hfS⟩ := bcell hSw; clear hSw; go_simp; try with_reducible rfl)
      try simp only [Act.put, zA, zB, zC, zD, zE, zF]
      refine wpAnyH_take (i := 1) (v := ?v1_1) rfl (by kernel_rfl) (by kernel_rfl) (by kernel_rfl) (fun _ _ _ h => h) (Or.inl ⟨by rfl, ?y1_1⟩) (by assumption) ?r1_1
      case' y1_1 => (intro w hSw; (try dsimp only at hSw); (try have hlS := HLK.out _ hSw); obtain ⟨hcS, hfS⟩ := bcell hSw; clear hSw; go_simp; try with_reducible rfl)
      try simp only [Act.put, zA, zB, zC, zD, zE, zF]
      refine wpAnyH_take (i := 2) (v := ?v1_2) rfl (by kernel_rfl) (by kernel_rfl) (by kernel_rfl) (fun _ _ _ h => h) (Or.inl ⟨by rfl, ?y1_2⟩) (by assumption) ?r1_2
      case' y1_2 => (intro w hSw; (try dsimp only at hSw); (try have hlS := HLK.out _ hSw); obtain ⟨hcS, hfS⟩ := bcell hSw; clear hSw; go_simp; try with_reducible rfl)
      try simp only [Act.put, zA, zB, zC, zD, zE, zF]
      refine wpAnyH_take (i := 3) (v := ?v1_3) rfl (by kernel_rfl) (by kernel_rfl) (by kernel_rfl) (fun _ _ _ h => h) (Or.inl ⟨by rfl, ?y1_3⟩) (by assumption) ?r1_3
      case' y1_3 => (intro w hSw; (try dsimp only at hSw); (try have hlS := HLK.out _ hSw); obtain ⟨hcS, hfS⟩ := bcell hSw; clear hSw; go_simp; try with_reducible rfl)
      try simp only [Act.put, zA, zB, zC, zD, zE, zF]
      refine wpAnyH_take (i := 4) (v := ?v1_4) rfl (by kernel_rfl) (by kernel_rfl) (by kernel_rfl) (fun _ _ _ h => h) (Or.inl ⟨by rfl, ?y1_4⟩) (by assumption) ?r1_4
      case' y1_4 => (intro w hSw; (try dsimp only at hSw); (try have hlS := HLK.out _ hSw); obtain ⟨hcS, hfS⟩ := bcell hSw; clear hSw; go_simp; try with_reducible rfl)
      try simp only [Act.put, zA, zB, zC, zD, zE, zF]
      refine wpAnyH_take (i := 5) (v := ?v1_5) rfl (by kernel_rfl) (by kernel_rfl) (by kernel_rfl) (fun _ _ _ h => h) (Or.inl ⟨by rfl, ?y1_5⟩) (by assumption) ?r1_5
      case' y1_5 => (intro w hSw; (try dsimp only at hSw); (try have hlS := HLK.out _ hSw); obtain ⟨hcS, hfS⟩ := bcell hSw; clear hSw; go_simp; try with_reducible rfl)
      try simp only [Act.put, zA, zB, zC, zD, zE, zF]
      refine wpAnyH_take (i := 6) (v := ?v1_6) rfl (by kernel_rfl) (by kernel_rfl) (by kernel_rfl) (fun _ _ _ h => h) (Or.inl ⟨by rfl, ?y1_6⟩) (by assumption) ?r1_6
      case' y1_6 => (intro w hSw; (try dsimp only at hSw); (try have hlS := HLK.out _ hSw); obtain ⟨hcS, hfS⟩ := bcell hSw; clear hSw; go_simp; try with_reducible rfl)
      try simp only [Act.put, zA, zB, zC, zD, zE, zF]
      refine wpAnyH_take (i := 7) (v := ?v1_7) rfl (by kernel_rfl) (by kernel_rfl) (by kernel_rfl) (fun _ _ _ h => h) (Or.inl ⟨by rfl, ?y1_7⟩) (by assumption) ?r1_7
      case' y1_7 => (intro w hSw; (try dsimp only at hSw); (try have hlS := HLK.out _ hSw); obtain ⟨hcS, hfS⟩ := bcell hSw; clear hSw; go_simp; try with_reducible rfl)
      try simp only [Act.put, zA, zB, zC, zD, zE, zF]
      refine wpAnyH_take (i := 8) (v := ?v1_8) rfl (by kernel_rfl) (by kernel_rfl) (by kernel_rfl) (fun _ _ _ h => h) (Or.inl ⟨by rfl, ?y1_8⟩) (by assumption) ?r1_8
      case' y1_8 => (intro w hSw; (try dsimp only at hSw); (try have hlS := HLK.out _ hSw); obtain ⟨hcS, hfS⟩ := bcell hSw; clear hSw; go_simp; try with_reducible rfl)
      try simp only [Act.put, zA, zB, zC, zD, zE, zF]
      refine wpAnyH_take (i := 9) (v := ?v1_9) rfl (by kernel_rfl) (by kernel_rfl) (by kernel_rfl) (fun _ _ _ h => h) (Or.inl ⟨by rfl, ?y1_9⟩) (by assumption) ?r1_9
      case' y1_9 => (intro w hSw; (try dsimp only at hSw); (try have hlS := HLK.out _ hSw); obtain ⟨hcS, hfS⟩ := bcell hSw; clear hSw; go_simp; try with_reducible rfl)
      try simp only [Act.put, zA, zB, zC, zD, zE, zF]
      refine wpAnyH_take (i := 10) (v := ?v1_10) rfl (by kernel_rfl) (by kernel_rfl) (by kernel_rfl) (fun _ _ _ h => h) (Or.inl ⟨by rfl, ?y1_10⟩) (by assumption) ?r1_10
      case' y1_10 => (intro w hSw; (try dsimp only at hSw); (try have hlS := HLK.out _ hSw); obtain ⟨hcS, hfS⟩ := bcell hSw; clear hSw; go_simp; try with_reducible rfl)
      try simp only [Act.put, zA, zB, zC, zD, zE, zF]
      refine wpAnyH_done (by kernel_rfl) ?_ _
      go_wp2_with fail
      go_ret
      have hp2 := pow_pos2 (d + 1)
      exact ⟨i, F, rfl, HFIN.out _ _ _ ⟨FStep.of_below H.out (Below.to HB0.out (by repeat (first | exact Below.refl _ _ | assumption | refine Below.drew ?_ | refine Below.drewN ?_ _ | refine Below.allocT ?_ (Nat.le_refl _) _ | refine Below.setCell ?_ (by simp <;> omega) _ | refine Below.to ?_ (by assumption) (Nat.le_refl _))) (Nat.le_refl _)), il, by omega, by omega, HEV.out, HTOP.out⟩⟩
    | none =>
      have HLK0 : Hid (∀ w', Below w.heap.size w w' → (Instr.lookup 182 (.map (some F.bj)) (.agg #[.int .i64 o, .int .i64 lo, .int .i64 hi]) true).run Try.prog w' = .ok (.tuple #[.int .i64 0, .bool false]) w') := fun w' hb => by
        have := (H.out.below hb).joined.look paLaw Try.underlying182 Try.underlying3 (zInt w') HKEY.out
        rw [hx] at this
        exact this
      clear hx
      go_upto_region 15 with (fail)
      generalize hw0 : World.alloc _ _ = w0
      obtain ⟨hb0, hB0, hs0⟩ := alloc1 hw0
      clear hw0
      have d2 : w0.cell? ⟨F.p, 3, none⟩ = some (.map (some F.bj)) := (H.out.below hB0).cellJ
      have e0 := cellOf hb0 0
      have e1 := cellOf hb0 1
      have e2 := cellOf hb0 2
      have HLK : Hid (∀ w', Below w0.heap.size w0 w' → (Instr.lookup 182 (.map (some F.bj)) (.agg #[.int .i64 o, .int .i64 lo, .int .i64 hi]) true).run Try.prog w' = .ok (.tuple #[.int .i64 0, .bool false]) w') := fun w' hb => HLK0.out w' (Below.to hB0 hb (Nat.le_refl _))
      have l4 : F.p < w0.heap.size := by omega
      have l5 : w.heap.size < w0.heap.size := by omega
      have l6 : F.kb < w0.heap.size := by omega
      have HB0 := hide hB0
      have HH0 := hide hb0
      have HS0 : Hid (w0.heap.size = w.heap.size + 1) := hs0
      clear hB0 hs0 HLK0 hb0
      refine wp_region_held_drew (S := (fun w' => Below w0.heap.size w0 w')) (by kernel_rfl) ?_ (fun hHeld => ?_)
      · try dsimp only
        exact (by repeat (first | exact Below.refl _ _ | assumption | refine Below.drew ?_ | refine Below.drewN ?_ _ | refine Below.allocT ?_ (Nat.le_refl _) _ | refine Below.setCell ?_ (by simp <;> omega) _ | refine Below.to ?_ (by assumption) (Nat.le_refl _)))
      refine wpAnyH_take (i := 0) (v := ?v2_0) rfl (by kernel_rfl) (by kernel_rfl) (by kernel_rfl) (fun _ _ _ h => h) (Or.inl ⟨by rfl, ?y2_0⟩) (by assumption) ?r2_0
      case' y2_0 => (intro w hSw; (try dsimp only at hSw); (try have hlS := HLK.out _ hSw); obtain ⟨hcS, hfS⟩ := bcell hSw; clear hSw; go_simp; try with_reducible rfl)
      try simp only [Act.put, zA, zB, zC, zD, zE, zF]
      refine wpAnyH_take (i := 1) (v := ?v2_1) rfl (by kernel_rfl) (by kernel_rfl) (by kernel_rfl) (fun _ _ _ h => h) (Or.inl ⟨by rfl, ?y2_1⟩) (by assumption) ?r2_1
      case' y2_1 => (intro w hSw; (try dsimp only at hSw); (try have hlS := HLK.out _ hSw); obtain ⟨hcS, hfS⟩ := bcell hSw; clear hSw; go_simp; try with_reducible rfl)
      try simp only [Act.put, zA, zB, zC, zD, zE, zF]
      refine wpAnyH_take (i := 2) (v := ?v2_2) rfl (by kernel_rfl) (by kernel_rfl) (by kernel_rfl) (fun _ _ _ h => h) (Or.inl ⟨by rfl, ?y2_2⟩) (by assumption) ?r2_2
      case' y2_2 => (intro w hSw; (try dsimp only at hSw); (try have hlS := HLK.out _ hSw); obtain ⟨hcS, hfS⟩ := bcell hSw; clear hSw; go_simp; try with_reducible rfl)
      try simp only [Act.put, zA, zB, zC, zD, zE, zF]
      refine wpAnyH_take (i := 3) (v := ?v2_3) rfl (by kernel_rfl) (by kernel_rfl) (by kernel_rfl) (fun _ _ _ h => h) (Or.inl ⟨by rfl, ?y2_3⟩) (by assumption) ?r2_3
      case' y2_3 => (intro w hSw; (try dsimp only at hSw); (try have hlS := HLK.out _ hSw); obtain ⟨hcS, hfS⟩ := bcell hSw; clear hSw; go_simp; try with_reducible rfl)
      try simp only [Act.put, zA, zB, zC, zD, zE, zF]
      refine wpAnyH_take (i := 4) (v := ?v2_4) rfl (by kernel_rfl) (by kernel_rfl) (by kernel_rfl) (fun _ _ _ h => h) (Or.inl ⟨by rfl, ?y2_4⟩) (by assumption) ?r2_4
      case' y2_4 => (intro w hSw; (try dsimp only at hSw); (try have hlS := HLK.out _ hSw); obtain ⟨hcS, hfS⟩ := bcell hSw; clear hSw; go_simp; try with_reducible rfl)
      try simp only [Act.put, zA, zB, zC, zD, zE, zF]
      refine wpAnyH_take (i := 5) (v := ?v2_5) rfl (by kernel_rfl) (by kernel_rfl) (by kernel_rfl) (fun _ _ _ h => h) (Or.inl ⟨by rfl, ?y2_5⟩) (by assumption) ?r2_5
      case' y2_5 => (intro w hSw; (try dsimp only at hSw); (try have hlS := HLK.out _ hSw); obtain ⟨hcS, hfS⟩ := bcell hSw; clear hSw; go_simp; try with_reducible rfl)
      try simp only [Act.put, zA, zB, zC, zD, zE, zF]
      refine wpAnyH_take (i := 6) (v := ?v2_6) rfl (by kernel_rfl) (by kernel_rfl) (by kernel_rfl) (fun _ _ _ h => h) (Or.inl ⟨by rfl, ?y2_6⟩) (by assumption) ?r2_6
      case' y2_6 => (intro w hSw; (try dsimp only at hSw); (try have hlS := HLK.out _ hSw); obtain ⟨hcS, hfS⟩ := bcell hSw; clear hSw; go_simp; try with_reducible rfl)
      try simp only [Act.put, zA, zB, zC, zD, zE, zF]
      refine wpAnyH_take (i := 7) (v := ?v2_7) rfl (by kernel_rfl) (by kernel_rfl) (by kernel_rfl) (fun _ _ _ h => h) (Or.inl ⟨by rfl, ?y2_7⟩) (by assumption) ?r2_7
      case' y2_7 => (intro w hSw; (try dsimp only at hSw); (try have hlS := HLK.out _ hSw); obtain ⟨hcS, hfS⟩ := bcell hSw; clear hSw; go_simp; try with_reducible rfl)
      try simp only [Act.put, zA, zB, zC, zD, zE, zF]
      refine wpAnyH_take (i := 8) (v := ?v2_8) rfl (by kernel_rfl) (by kernel_rfl) (by kernel_rfl) (fun _ _ _ h => h) (Or.inl ⟨by rfl, ?y2_8⟩) (by assumption) ?r2_8
      case' y2_8 => (intro w hSw; (try dsimp only at hSw); (try have hlS := HLK.out _ hSw); obtain ⟨hcS, hfS⟩ := bcell hSw; clear hSw; go_simp; try with_reducible rfl)
      try simp only [Act.put, zA, zB, zC, zD, zE, zF]
      refine wpAnyH_take (i := 9) (v := ?v2_9) rfl (by kernel_rfl) (by kernel_rfl) (by kernel_rfl) (fun _ _ _ h => h) (Or.inl ⟨by rfl, ?y2_9⟩) (by assumption) ?r2_9
      case' y2_9 => (intro w hSw; (try dsimp only at hSw); (try have hlS := HLK.out _ hSw); obtain ⟨hcS, hfS⟩ := bcell hSw; clear hSw; go_simp; try with_reducible rfl)
      try simp only [Act.put, zA, zB, zC, zD, zE, zF]
      refine wpAnyH_take (i := 10) (v := ?v2_10) rfl (by kernel_rfl) (by kernel_rfl) (by kernel_rfl) (fun _ _ _ h => h) (Or.inl ⟨by rfl, ?y2_10⟩) (by assumption) ?r2_10
      case' y2_10 => (intro w hSw; (try dsimp only at hSw); (try have hlS := HLK.out _ hSw); obtain ⟨hcS, hfS⟩ := bcell hSw; clear hSw; go_simp; try with_reducible rfl)
      try simp only [Act.put, zA, zB, zC, zD, zE, zF]
      refine wpAnyH_done (by kernel_rfl) ?_ _
      clear HLK hHeld d2 e0 e1 e2
      obtain ⟨t, ht⟩ : ∃ t, min (topK F.ks lo) (topK F.ks hi) = t := ⟨_, rfl⟩
      have htN : t < F.N := by omega
      have htl : t ≤ topK F.ks lo := by omega
      have hth : t ≤ topK F.ks hi := by omega
      have hdt : F.N - t ≤ d + 1 := by omega
      go_upto_region 18 with (fail)
      go_cut [15] from 66 to 82 (fun x wx => x = .int .i64 t ∧ Below w0.heap.size w0 wx)
      case first =>
        have H0 := H.out.below HB0.out
        have d1 := H0.cellS
        obtain ⟨x0, _, _⟩ := H0.knot hlo
        obtain ⟨y0, _, _⟩ := H0.knot hhi
        clear H0
        have i0 : (0 : Int) ≤ (lo : Int) := by omega
        have i1 : (lo : Int) < (F.ks.length : Int) := by omega
        have i2 : (0 : Int) ≤ (hi : Int) := by omega
        have i3 : (hi : Int) < (F.ks.length : Int) := by omega
        by_cases htt : topK F.ks hi < topK F.ks lo
        · have ht1 : (topK F.ks hi : Int) < (topK F.ks lo : Int) := by omega
          have HT : Hid (topK F.ks hi = t) := by show topK F.ks hi = t; omega
          clear ht htt
          refine wp_region_held_drew (S := (fun w' => Below w0.heap.size w0 w')) (by kernel_rfl) ?_ (fun hHeld => ?_)
          · try dsimp only
            exact (by repeat (first | exact Below.refl _ _ | assumption | refine Below.drew ?_ | refine Below.drewN ?_ _ | refine Below.allocT ?_ (Nat.le_refl _) _ | refine Below.setCell ?_ (by simp <;> omega) _ | refine Below.to ?_ (by assumption) (Nat.le_refl _)))
          refine wpAnyH_take (i := 0) (v := ?v3_0) rfl (by kernel_rfl) (by kernel_rfl) (by kernel_rfl) (fun _ _ _ h => h) (Or.inl ⟨by rfl, ?y3_0⟩) (by assumption) ?r3_0
          case' y3_0 => (intro w hSw; (try dsimp only at hSw); (try have hlS := HLK.out _ hSw); obtain ⟨hcS, hfS⟩ := bcell hSw; clear hSw; go_simp; try with_reducible rfl)
          try simp only [Act.put, zA, zB, zC, zD, zE, zF]
          refine wpAnyH_take (i := 1) (v := ?v3_1) rfl (by kernel_rfl) (by kernel_rfl) (by kernel_rfl) (fun _ _ _ h => h) (Or.inl ⟨by rfl, ?y3_1⟩) (by assumption) ?r3_1
          case' y3_1 => (intro w hSw; (try dsimp only at hSw); (try have hlS := HLK.out _ hSw); obtain ⟨hcS, hfS⟩ := bcell hSw; clear hSw; go_simp; try with_reducible rfl)
          try simp only [Act.put, zA, zB, zC, zD, zE, zF]
          refine wpAnyH_take (i := 2) (v := ?v3_2) rfl (by kernel_rfl) (by kernel_rfl) (by kernel_rfl) (fun _ _ _ h => h) (Or.inl ⟨by rfl, ?y3_2⟩) (by assumption) ?r3_2
          case' y3_2 => (intro w hSw; (try dsimp only at hSw); (try have hlS := HLK.out _ hSw); obtain ⟨hcS, hfS⟩ := bcell hSw; clear hSw; go_simp; try with_reducible rfl)
          try simp only [Act.put, zA, zB, zC, zD, zE, zF]
          refine wpAnyH_take (i := 3) (v := ?v3_3) rfl (by kernel_rfl) (by kernel_rfl) (by kernel_rfl) (fun _ _ _ h => h) (Or.inl ⟨by rfl, ?y3_3⟩) (by assumption) ?r3_3
          case' y3_3 => (intro w hSw; (try dsimp only at hSw); (try have hlS := HLK.out _ hSw); obtain ⟨hcS, hfS⟩ := bcell hSw; clear hSw; go_simp; try with_reducible rfl)
          try simp only [Act.put, zA, zB, zC, zD, zE, zF]
          refine wpAnyH_take (i := 4) (v := ?v3_4) rfl (by kernel_rfl) (by kernel_rfl) (by kernel_rfl) (fun _ _ _ h => h) (Or.inl ⟨by rfl, ?y3_4⟩) (by assumption) ?r3_4
          case' y3_4 => (intro w hSw; (try dsimp only at hSw); (try have hlS := HLK.out _ hSw); obtain ⟨hcS, hfS⟩ := bcell hSw; clear hSw; go_simp; try with_reducible rfl)
          try simp only [Act.put, zA, zB, zC, zD, zE, zF]
          refine wpAnyH_take (i := 5) (v := ?v3_5) rfl (by kernel_rfl) (by kernel_rfl) (by kernel_rfl) (fun _ _ _ h => h) (Or.inl ⟨by rfl, ?y3_5⟩) (by assumption) ?r3_5
          case' y3_5 => (intro w hSw; (try dsimp only at hSw); (try have hlS := HLK.out _ hSw); obtain ⟨hcS, hfS⟩ := bcell hSw; clear hSw; go_simp; try with_reducible rfl)
          try simp only [Act.put, zA, zB, zC, zD, zE, zF]
          refine wpAnyH_take (i := 6) (v := ?v3_6) rfl (by kernel_rfl) (by kernel_rfl) (by kernel_rfl) (fun _ _ _ h => h) (Or.inl ⟨by rfl, ?y3_6⟩) (by assumption) ?r3_6
          case' y3_6 => (intro w hSw; (try dsimp only at hSw); (try have hlS := HLK.out _ hSw); obtain ⟨hcS, hfS⟩ := bcell hSw; clear hSw; go_simp; try with_reducible rfl)
          try simp only [Act.put, zA, zB, zC, zD, zE, zF]
          refine wpAnyH_take (i := 7) (v := ?v3_7) rfl (by kernel_rfl) (by kernel_rfl) (by kernel_rfl) (fun _ _ _ h => h) (Or.inl ⟨by rfl, ?y3_7⟩) (by assumption) ?r3_7
          case' y3_7 => (intro w hSw; (try dsimp only at hSw); (try have hlS := HLK.out _ hSw); obtain ⟨hcS, hfS⟩ := bcell hSw; clear hSw; go_simp; try with_reducible rfl)
          try simp only [Act.put, zA, zB, zC, zD, zE, zF]
          refine wpAnyH_take (i := 8) (v := ?v3_8) rfl (by kernel_rfl) (by kernel_rfl) (by kernel_rfl) (fun _ _ _ h => h) (Or.inl ⟨by rfl, ?y3_8⟩) (by assumption) ?r3_8
          case' y3_8 => (intro w hSw; (try dsimp only at hSw); (try have hlS := HLK.out _ hSw); obtain ⟨hcS, hfS⟩ := bcell hSw; clear hSw; go_simp; try with_reducible rfl)
          try simp only [Act.put, zA, zB, zC, zD, zE, zF]
          refine wpAnyH_take (i := 9) (v := ?v3_9) rfl (by kernel_rfl) (by kernel_rfl) (by kernel_rfl) (fun _ _ _ h => h) (Or.inl ⟨by rfl, ?y3_9⟩) (by assumption) ?r3_9
          case' y3_9 => (intro w hSw; (try dsimp only at hSw); (try have hlS := HLK.out _ hSw); obtain ⟨hcS, hfS⟩ := bcell hSw; clear hSw; go_simp; try with_reducible rfl)
          try simp only [Act.put, zA, zB, zC, zD, zE, zF]
          refine wpAnyH_take (i := 10) (v := ?v3_10) rfl (by kernel_rfl) (by kernel_rfl) (by kernel_rfl) (fun _ _ _ h => h) (Or.inl ⟨by rfl, ?y3_10⟩) (by assumption) ?r3_10
          case' y3_10 => (intro w hSw; (try dsimp only at hSw); (try have hlS := HLK.out _ hSw); obtain ⟨hcS, hfS⟩ := bcell hSw; clear hSw; go_simp; try with_reducible rfl)
          try simp only [Act.put, zA, zB, zC, zD, zE, zF]
          refine wpAnyH_take (i := 11) (v := ?v3_11) rfl (by kernel_rfl) (by kernel_rfl) (by kernel_rfl) (fun _ _ _ h => h) (Or.inl ⟨by rfl, ?y3_11⟩) (by assumption) ?r3_11
          case' y3_11 => (intro w hSw; (try dsimp only at hSw); (try have hlS := HLK.out _ hSw); obtain ⟨hcS, hfS⟩ := bcell hSw; clear hSw; go_simp; try with_reducible rfl)
          try simp only [Act.put, zA, zB, zC, zD, zE, zF]
          refine wpAnyH_take (i := 12) (v := ?v3_12) rfl (by kernel_rfl) (by kernel_rfl) (by kernel_rfl) (fun _ _ _ h => h) (Or.inl ⟨by rfl, ?y3_12⟩) (by assumption) ?r3_12
          case' y3_12 => (intro w hSw; (try dsimp only at hSw); (try have hlS := HLK.out _ hSw); obtain ⟨hcS, hfS⟩ := bcell hSw; clear hSw; go_simp; try with_reducible rfl)
          try simp only [Act.put, zA, zB, zC, zD, zE, zF]
          refine wpAnyH_take (i := 13) (v := ?v3_13) rfl (by kernel_rfl) (by kernel_rfl) (by kernel_rfl) (fun _ _ _ h => h) (Or.inl ⟨by rfl, ?y3_13⟩) (by assumption) ?r3_13
          case' y3_13 => (intro w hSw; (try dsimp only at hSw); (try have hlS := HLK.out _ hSw); obtain ⟨hcS, hfS⟩ := bcell hSw; clear hSw; go_simp; try with_reducible rfl)
          try simp only [Act.put, zA, zB, zC, zD, zE, zF]
          refine wpAnyH_take (i := 14) (v := ?v3_14) rfl (by kernel_rfl) (by kernel_rfl) (by kernel_rfl) (fun _ _ _ h => h) (Or.inl ⟨by rfl, ?y3_14⟩) (by assumption) ?r3_14
          case' y3_14 => (intro w hSw; (try dsimp only at hSw); (try have hlS := HLK.out _ hSw); obtain ⟨hcS, hfS⟩ := bcell hSw; clear hSw; go_simp; try with_reducible rfl)
          try simp only [Act.put, zA, zB, zC, zD, zE, zF]
          refine wpAnyH_take (i := 15) (v := ?v3_15) rfl (by kernel_rfl) (by kernel_rfl) (by kernel_rfl) (fun _ _ _ h => h) (Or.inl ⟨by rfl, ?y3_15⟩) (by assumption) ?r3_15
          case' y3_15 => (intro w hSw; (try dsimp only at hSw); (try have hlS := HLK.out _ hSw); obtain ⟨hcS, hfS⟩ := bcell hSw; clear hSw; go_simp; try with_reducible rfl)
          try simp only [Act.put, zA, zB, zC, zD, zE, zF]
          refine wpAnyH_take (i := 16) (v := ?v3_16) rfl (by kernel_rfl) (by kernel_rfl) (by kernel_rfl) (fun _ _ _ h => h) (Or.inl ⟨by rfl, ?y3_16⟩) (by assumption) ?r3_16
          case' y3_16 => (intro w hSw; (try dsimp only at hSw); (try have hlS := HLK.out _ hSw); obtain ⟨hcS, hfS⟩ := bcell hSw; clear hSw; go_simp; try with_reducible rfl)
          try simp only [Act.put, zA, zB, zC, zD, zE, zF]
          refine wpAnyH_take (i := 17) (v := ?v3_17) rfl (by kernel_rfl) (by kernel_rfl) (by kernel_rfl) (fun _ _ _ h => h) (Or.inl ⟨by rfl, ?y3_17⟩) (by assumption) ?r3_17
          case' y3_17 => (intro w hSw; (try dsimp only at hSw); (try have hlS := HLK.out _ hSw); obtain ⟨hcS, hfS⟩ := bcell hSw; clear hSw; go_simp; try with_reducible rfl)
          try simp only [Act.put, zA, zB, zC, zD, zE, zF]
          refine wpAnyH_done (by kernel_rfl) ?_ _
          go_wp2_with fail
          go_meet
          exact ⟨by rw [HT.out], (by repeat (first | exact Below.refl _ _ | assumption | refine Below.drew ?_ | refine Below.drewN ?_ _ | refine Below.allocT ?_ (Nat.le_refl _) _ | refine Below.setCell ?_ (by simp <;> omega) _ | refine Below.to ?_ (by assumption) (Nat.le_refl _)))⟩
        · have ht1 : ¬ (topK F.ks hi : Int) < (topK F.ks lo : Int) := by omega
          have HT : Hid (topK F.ks lo = t) := by show topK F.ks lo = t; omega
          clear ht htt
          refine wp_region_held_drew (S := (fun w' => Below w0.heap.size w0 w')) (by kernel_rfl) ?_ (fun hHeld => ?_)
          · try dsimp only
            exact (by repeat (first | exact Below.refl _ _ | assumption | refine Below.drew ?_ | refine Below.drewN ?_ _ | refine Below.allocT ?_ (Nat.le_refl _) _ | refine Below.setCell ?_ (by simp <;> omega) _ | refine Below.to ?_ (by assumption) (Nat.le_refl _)))
          refine wpAnyH_take (i := 0) (v := ?v4_0) rfl (by kernel_rfl) (by kernel_rfl) (by kernel_rfl) (fun _ _ _ h => h) (Or.inl ⟨by rfl, ?y4_0⟩) (by assumption) ?r4_0
          case' y4_0 => (intro w hSw; (try dsimp only at hSw); (try have hlS := HLK.out _ hSw); obtain ⟨hcS, hfS⟩ := bcell hSw; clear hSw; go_simp; try with_reducible rfl)
          try simp only [Act.put, zA, zB, zC, zD, zE, zF]
          refine wpAnyH_take (i := 1) (v := ?v4_1) rfl (by kernel_rfl) (by kernel_rfl) (by kernel_rfl) (fun _ _ _ h => h) (Or.inl ⟨by rfl, ?y4_1⟩) (by assumption) ?r4_1
          case' y4_1 => (intro w hSw; (try dsimp only at hSw); (try have hlS := HLK.out _ hSw); obtain ⟨hcS, hfS⟩ := bcell hSw; clear hSw; go_simp; try with_reducible rfl)
          try simp only [Act.put, zA, zB, zC, zD, zE, zF]
          refine wpAnyH_take (i := 2) (v := ?v4_2) rfl (by kernel_rfl) (by kernel_rfl) (by kernel_rfl) (fun _ _ _ h => h) (Or.inl ⟨by rfl, ?y4_2⟩) (by assumption) ?r4_2
          case' y4_2 => (intro w hSw; (try dsimp only at hSw); (try have hlS := HLK.out _ hSw); obtain ⟨hcS, hfS⟩ := bcell hSw; clear hSw; go_simp; try with_reducible rfl)
          try simp only [Act.put, zA, zB, zC, zD, zE, zF]
          refine wpAnyH_take (i := 3) (v := ?v4_3) rfl (by kernel_rfl) (by kernel_rfl) (by kernel_rfl) (fun _ _ _ h => h) (Or.inl ⟨by rfl, ?y4_3⟩) (by assumption) ?r4_3
          case' y4_3 => (intro w hSw; (try dsimp only at hSw); (try have hlS := HLK.out _ hSw); obtain ⟨hcS, hfS⟩ := bcell hSw; clear hSw; go_simp; try with_reducible rfl)
          try simp only [Act.put, zA, zB, zC, zD, zE, zF]
          refine wpAnyH_take (i := 4) (v := ?v4_4) rfl (by kernel_rfl) (by kernel_rfl) (by kernel_rfl) (fun _ _ _ h => h) (Or.inl ⟨by rfl, ?y4_4⟩) (by assumption) ?r4_4
          case' y4_4 => (intro w hSw; (try dsimp only at hSw); (try have hlS := HLK.out _ hSw); obtain ⟨hcS, hfS⟩ := bcell hSw; clear hSw; go_simp; try with_reducible rfl)
          try simp only [Act.put, zA, zB, zC, zD, zE, zF]
          refine wpAnyH_take (i := 5) (v := ?v4_5) rfl (by kernel_rfl) (by kernel_rfl) (by kernel_rfl) (fun _ _ _ h => h) (Or.inl ⟨by rfl, ?y4_5⟩) (by assumption) ?r4_5
          case' y4_5 => (intro w hSw; (try dsimp only at hSw); (try have hlS := HLK.out _ hSw); obtain ⟨hcS, hfS⟩ := bcell hSw; clear hSw; go_simp; try with_reducible rfl)
          try simp only [Act.put, zA, zB, zC, zD, zE, zF]
          refine wpAnyH_take (i := 6) (v := ?v4_6) rfl (by kernel_rfl) (by kernel_rfl) (by kernel_rfl) (fun _ _ _ h => h) (Or.inl ⟨by rfl, ?y4_6⟩) (by assumption) ?r4_6
          case' y4_6 => (intro w hSw; (try dsimp only at hSw); (try have hlS := HLK.out _ hSw); obtain ⟨hcS, hfS⟩ := bcell hSw; clear hSw; go_simp; try with_reducible rfl)
          try simp only [Act.put, zA, zB, zC, zD, zE, zF]
          refine wpAnyH_take (i := 7) (v := ?v4_7) rfl (by kernel_rfl) (by kernel_rfl) (by kernel_rfl) (fun _ _ _ h => h) (Or.inl ⟨by rfl, ?y4_7⟩) (by assumption) ?r4_7
          case' y4_7 => (intro w hSw; (try dsimp only at hSw); (try have hlS := HLK.out _ hSw); obtain ⟨hcS, hfS⟩ := bcell hSw; clear hSw; go_simp; try with_reducible rfl)
          try simp only [Act.put, zA, zB, zC, zD, zE, zF]
          refine wpAnyH_take (i := 8) (v := ?v4_8) rfl (by kernel_rfl) (by kernel_rfl) (by kernel_rfl) (fun _ _ _ h => h) (Or.inl ⟨by rfl, ?y4_8⟩) (by assumption) ?r4_8
          case' y4_8 => (intro w hSw; (try dsimp only at hSw); (try have hlS := HLK.out _ hSw); obtain ⟨hcS, hfS⟩ := bcell hSw; clear hSw; go_simp; try with_reducible rfl)
          try simp only [Act.put, zA, zB, zC, zD, zE, zF]
          refine wpAnyH_take (i := 9) (v := ?v4_9) rfl (by kernel_rfl) (by kernel_rfl) (by kernel_rfl) (fun _ _ _ h => h) (Or.inl ⟨by rfl, ?y4_9⟩) (by assumption) ?r4_9
          case' y4_9 => (intro w hSw; (try dsimp only at hSw); (try have hlS := HLK.out _ hSw); obtain ⟨hcS, hfS⟩ := bcell hSw; clear hSw; go_simp; try with_reducible rfl)
          try simp only [Act.put, zA, zB, zC, zD, zE, zF]
          refine wpAnyH_take (i := 10) (v := ?v4_10) rfl (by kernel_rfl) (by kernel_rfl) (by kernel_rfl) (fun _ _ _ h => h) (Or.inl ⟨by rfl, ?y4_10⟩) (by assumption) ?r4_10
          case' y4_10 => (intro w hSw; (try dsimp only at hSw); (try have hlS := HLK.out _ hSw); obtain ⟨hcS, hfS⟩ := bcell hSw; clear hSw; go_simp; try with_reducible rfl)
          try simp only [Act.put, zA, zB, zC, zD, zE, zF]
          refine wpAnyH_take (i := 11) (v := ?v4_11) rfl (by kernel_rfl) (by kernel_rfl) (by kernel_rfl) (fun _ _ _ h => h) (Or.inl ⟨by rfl, ?y4_11⟩) (by assumption) ?r4_11
          case' y4_11 => (intro w hSw; (try dsimp only at hSw); (try have hlS := HLK.out _ hSw); obtain ⟨hcS, hfS⟩ := bcell hSw; clear hSw; go_simp; try with_reducible rfl)
          try simp only [Act.put, zA, zB, zC, zD, zE, zF]
          refine wpAnyH_take (i := 12) (v := ?v4_12) rfl (by kernel_rfl) (by kernel_rfl) (by kernel_rfl) (fun _ _ _ h => h) (Or.inl ⟨by rfl, ?y4_12⟩) (by assumption) ?r4_12
          case' y4_12 => (intro w hSw; (try dsimp only at hSw); (try have hlS := HLK.out _ hSw); obtain ⟨hcS, hfS⟩ := bcell hSw; clear hSw; go_simp; try with_reducible rfl)
          try simp only [Act.put, zA, zB, zC, zD, zE, zF]
          refine wpAnyH_take (i := 13) (v := ?v4_13) rfl (by kernel_rfl) (by kernel_rfl) (by kernel_rfl) (fun _ _ _ h => h) (Or.inl ⟨by rfl, ?y4_13⟩) (by assumption) ?r4_13
          case' y4_13 => (intro w hSw; (try dsimp only at hSw); (try have hlS := HLK.out _ hSw); obtain ⟨hcS, hfS⟩ := bcell hSw; clear hSw; go_simp; try with_reducible rfl)
          try simp only [Act.put, zA, zB, zC, zD, zE, zF]
          refine wpAnyH_take (i := 14) (v := ?v4_14) rfl (by kernel_rfl) (by kernel_rfl) (by kernel_rfl) (fun _ _ _ h => h) (Or.inl ⟨by rfl, ?y4_14⟩) (by assumption) ?r4_14
          case' y4_14 => (intro w hSw; (try dsimp only at hSw); (try have hlS := HLK.out _ hSw); obtain ⟨hcS, hfS⟩ := bcell hSw; clear hSw; go_simp; try with_reducible rfl)
          try simp only [Act.put, zA, zB, zC, zD, zE, zF]
          refine wpAnyH_take (i := 15) (v := ?v4_15) rfl (by kernel_rfl) (by kernel_rfl) (by kernel_rfl) (fun _ _ _ h => h) (Or.inl ⟨by rfl, ?y4_15⟩) (by assumption) ?r4_15
          case' y4_15 => (intro w hSw; (try dsimp only at hSw); (try have hlS := HLK.out _ hSw); obtain ⟨hcS, hfS⟩ := bcell hSw; clear hSw; go_simp; try with_reducible rfl)
          try simp only [Act.put, zA, zB, zC, zD, zE, zF]
          refine wpAnyH_take (i := 16) (v := ?v4_16) rfl (by kernel_rfl) (by kernel_rfl) (by kernel_rfl) (fun _ _ _ h => h) (Or.inl ⟨by rfl, ?y4_16⟩) (by assumption) ?r4_16
          case' y4_16 => (intro w hSw; (try dsimp only at hSw); (try have hlS := HLK.out _ hSw); obtain ⟨hcS, hfS⟩ := bcell hSw; clear hSw; go_simp; try with_reducible rfl)
          try simp only [Act.put, zA, zB, zC, zD, zE, zF]
          refine wpAnyH_take (i := 17) (v := ?v4_17) rfl (by kernel_rfl) (by kernel_rfl) (by kernel_rfl) (fun _ _ _ h => h) (Or.inl ⟨by rfl, ?y4_17⟩) (by assumption) ?r4_17
          case' y4_17 => (intro w hSw; (try dsimp only at hSw); (try have hlS := HLK.out _ hSw); obtain ⟨hcS, hfS⟩ := bcell hSw; clear hSw; go_simp; try with_reducible rfl)
          try simp only [Act.put, zA, zB, zC, zD, zE, zF]
          refine wpAnyH_done (by kernel_rfl) ?_ _
          go_wp2_with fail
          go_meet
          exact ⟨by rw [HT.out], (by repeat (first | exact Below.refl _ _ | assumption | refine Below.drew ?_ | refine Below.drewN ?_ _ | refine Below.allocT ?_ (Nat.le_refl _) _ | refine Below.setCell ?_ (by simp <;> omega) _ | refine Below.to ?_ (by assumption) (Nat.le_refl _)))⟩
      case rest =>
      obtain ⟨rfl, hB1⟩ := hcut
      have HT := hide ht
      have st1 : FStep w F wc F := FStep.of_below H.out (Below.to HB0.out hB1 (Nat.le_refl _))
      have hbx1 : wc.heap[w.heap.size]? = some (.cells #[.int .i64 o, .int .i64 lo, .int .i64 hi] 199 (0, 0)) := (hB1.block _ l5).trans HH0.out
      have hs1 : w.heap.size < wc.heap.size := box_lt hbx1
      have hnS : ¬ SF F w.heap.size := fun e => by have := H.out.slt e; omega
      have ST1 := hide st1
      have HBX1 := hide hbx1
      have HNS := hide hnS
      clear ht hB1 st1 hbx1 hnS
      have hwf := H.out.wf
      have a0l := brK_lt hwf (b := false) hlo htN
      have b0l := brK_lt hwf (b := false) hhi htN
      have a1l := brK_lt hwf (b := true) hlo htN
      have b1l := brK_lt hwf (b := true) hhi htN
      have a0t := brK_top hwf (b := false) hlo htN htl
      have b0t := brK_top hwf (b := false) hhi htN hth
      have a1t := brK_top hwf (b := true) hlo htN htl
      have b1t := brK_top hwf (b := true) hhi htN hth
      have hp2 : 2 ^ (d + 1) = 2 ^ d + 2 ^ d := by rw [Nat.pow_succ]; omega
      have hp1 := pow_pos2 d
      clear hwf
      go_wp2_with fail
      refine (branch_st ST1.out lo t false hlo).mono ?_
      rintro e w2 ⟨rfl, hB2⟩
      have ST2 : Hid (FStep w F w2 F) := ST1.out.then_below hB2
      have HB2 := hide hB2
      clear hB2
      go_wp2_with fail
      refine (branch_st ST2.out hi t false hhi).mono ?_
      rintro e w3 ⟨rfl, hB3⟩
      have ST3 : Hid (FStep w F w3 F) := ST2.out.then_below hB3
      have HB3 : Hid (Below wc.heap.size wc w3) := Below.to HB2.out hB3 (Nat.le_refl _)
      clear hB3
      go_wp2_with fail
      refine (HIS.out F w3 _ _ ST3.out a0l b0l (by omega) (by omega) (by omega)).mono ?_
      rintro e w4 ⟨n1, F1, rfl, hr⟩
      have ST4 : Hid (FStep w F w4 F1) := ST3.out.trans hr.st
      have SW4 : Hid (FStep wc F w4 F1) := (FStep.of_below ST1.out.here HB3.out).trans hr.st
      have q1 := hr.len
      have q2 := hr.nj
      have q3 := hr.lt
      have R1 := hide hr
      clear hr
      go_wp2_with fail
      refine (branch_st ST4.out lo t true hlo).mono ?_
      rintro e w5 ⟨rfl, hB5⟩
      have ST5 : Hid (FStep w F w5 F1) := ST4.out.then_below hB5
      have SW5 : Hid (FStep wc F w5 F1) := SW4.out.then_below hB5
      clear hB5
      go_wp2_with fail
      refine (branch_st ST5.out hi t true hhi).mono ?_
      rintro e w6 ⟨rfl, hB6⟩
      have ST6 : Hid (FStep w F w6 F1) := ST5.out.then_below hB6
      have SW6 : Hid (FStep wc F w6 F1) := SW5.out.then_below hB6
      clear hB6
      go_wp2_with fail
      refine (HIS.out F1 w6 _ _ ST6.out a1l b1l (by omega) (by omega) (by omega)).mono ?_
      rintro e w7 ⟨n2, F2, rfl, hr⟩
      have ST7 : Hid (FStep w F w7 F2) := ST6.out.trans hr.st
      have SW7 : Hid (FStep wc F w7 F2) := SW6.out.trans hr.st
      have q4 := hr.len
      have q5 := hr.nj
      have q6 := hr.lt
      have R2 := hide hr
      clear hr
      have hl12 := R2.out.st.le
      have hN2 : F2.N = F.N := ST7.out.N
      have t1 : t < topK F2.ks n1 := by
        have h1 := R1.out.top
        rw [R2.out.st.top q3]
        omega
      have t2 : t < topK F2.ks n2 := by
        have h1 := R2.out.top
        rw [ST6.out.top a1l, ST6.out.top b1l] at h1
        omega
      have hnode := node_any F2 t n1 n2 w7 ST7.out.here (by omega) (by omega) q6 t1 t2 (by omega)
      rw [ST7.out.p] at hnode
      have HND := hide hnode
      clear hnode
      go_wp2_with fail
      refine HND.out.mono ?_
      rintro e w8 ⟨n3, F3, rfl, hr⟩
      have ST8 : Hid (FStep w F w8 F3) := ST7.out.trans hr.st
      have SW8 : Hid (FStep wc F w8 F3) := SW7.out.trans hr.st
      have q7 := hr.len
      have R3 := hide hr
      clear hr
      have hbx8 := (SW8.out.block hs1 HNS.out).1.trans HBX1.out
      have e0 := cellOf hbx8 0
      have e1 := cellOf hbx8 1
      have e2 := cellOf hbx8 2
      have d3 := ST8.out.here.cellJ
      rw [ST8.out.p, ST8.out.bj] at d3
      clear hbx8
      have hjo := ST8.out.here.joined
      rw [ST8.out.bj] at hjo
      have HJO := hide hjo
      clear hjo
      have hle12 := ST7.out.le
      have hle13 := ST8.out.le
      go_wp2_with fail
      go_still_tail 6, (by kernel_rfl)
      change wpList _ _ _ _ _ w8.drew
      refine wpList_put _ rfl _ _ _ 182 rfl (show MapIs _ w8.drew _ _ _ _ _ _ from HJO.out) paLaw Try.underlying182 Try.underlying3 paV_inj (by have h2 := ST8.out.here.small.2.1; unfold maxLen; omega) (o, lo, hi) ⟨_, HKEY.out⟩ (n3 : Int) (wf63 (by have h1 := R3.out.lt; have h2 := ST8.out.here.small.1; unfold I63; omega)) rfl rfl rfl ?_
      intro w9 hm9 hg9
      have HM9 := hide hm9
      have HG9 : Hid (w8.grownBy w9 (some F.bj)) := ⟨hg9.os, hg9.tape, hg9.output, hg9.size, hg9.block⟩
      clear hm9 hg9 e0 e1 e2 d3
      go_wp2_with fail
      go_ret
      have q8 := R3.out.nj
      have q9 := R3.out.lt
      have hm := HM9.out
      have hg := HG9.out
      rw [← ST8.out.bj] at hm hg
      have hevf : ∀ v, ev F3.ks v n3 = opB o (ev F3.ks v lo) (ev F3.ks v hi) := fun v => by
        have hwf := H.out.wf
        rw [ST8.out.ev hwf hlo, ST8.out.ev hwf hhi, R3.out.ev]
        cases hv : v t with
        | false =>
          rw [if_neg (by simp), R2.out.st.ev ST6.out.here.wf q3, R1.out.ev, brK_ev hwf hlo htN v hv, brK_ev hwf hhi htN v hv]
        | true =>
          rw [if_pos rfl, R2.out.ev, ST6.out.ev hwf a1l, ST6.out.ev hwf b1l, brK_ev hwf hlo htN v hv, brK_ev hwf hhi htN v hv]
      have st9 := ST8.out.here.putJ hm hg (by omega) q9 (by omega) (by omega) hevf (by rw [ST8.out.top hlo, ST8.out.top hhi, HT.out]; exact R3.out.top)
      exact ⟨n3, _, rfl, HFIN.out _ _ _ ⟨ST8.out.trans st9, q9, by show F3.ks.length + 1 ≤ _; omega, by show F3.nj + 1 + 1 ≤ _; omega, fun v => by
        have hwf := H.out.wf
        show ev F3.ks v n3 = _
        rw [hevf v, ST8.out.ev hwf hlo, ST8.out.ev hwf hhi], by rw [HT.out]; exact R3.out.top⟩⟩
end Go.Proofs.Ytmabfnddedffoaa
/- Opposite, option, all of some nodes: walks. -/
namespace Go.Proofs.Ytmabfnddedffoaa
open Go.RowKit
open Go.Maps (Keyed)
set_option linter.unusedVariables false
set_option linter.unusedSimpArgs false
/-- A later forest, larger by at most k times 2 to the number of options. -/
structure OpR (k : Nat) (w : World) (F : Fo) (w' : World) (F' : Fo) : Prop where
  st : FStep w F w' F'
  len : F'.ks.length ≤ F.ks.length + k * 2 ^ F.N
  nj : F'.nj ≤ F.nj + k * 2 ^ F.N
theorem OpR.refl {w : World} {F : Fo} (h : FoAt w F) (k : Nat) : OpR k w F w F := ⟨FStep.refl h, by omega, by omega⟩
theorem OpR.trans {k l : Nat} {a b c : World} {F G H : Fo} (h : OpR k a F b G) (g : OpR l b G c H) : OpR (k + l) a F c H := by
  have h1 := h.len
  have h2 := h.nj
  have h3 := g.len
  have h4 := g.nj
  rw [h.st.N] at h3 h4
  refine ⟨h.st.trans g.st, ?_, ?_⟩
  · rw [Nat.add_mul]; omega
  · rw [Nat.add_mul]; omega
theorem OpR.then_below {k : Nat} {a b c : World} {F G : Fo} (h : OpR k a F b G) (hb : Below b.heap.size b c) : OpR k a F c G := ⟨h.st.then_below hb, h.len, h.nj⟩
theorem OpR.after_below {k : Nat} {a b c : World} {F G : Fo} (hF : FoAt a F) (hb : Below a.heap.size a b) (h : OpR k b F c G) : OpR k a F c G := ⟨(FStep.of_below hF hb).trans h.st, h.len, h.nj⟩
theorem OpR.mono {k l : Nat} {a b : World} {F G : Fo} (h : OpR k a F b G) (hk : k ≤ l) : OpR l a F b G := by
  have h1 := h.len
  have h2 := h.nj
  have h3 := Nat.mul_le_mul_right (2 ^ F.N) hk
  exact ⟨h.st, by omega, by omega⟩
theorem OpR.of_join {d : Nat} {w w' : World} {F F' : Fo} {o : Int} {a b n : Nat} (h : JoinR d w F o a b n w' F') (hd : d ≤ F.N) : OpR 1 w F w' F' := by
  have h1 := h.len
  have h2 := h.nj
  have h3 : 2 ^ d ≤ 2 ^ F.N := Nat.pow_le_pow_right (by omega) hd
  exact ⟨h.st, by omega, by omega⟩
/-- There is room for k more steps. -/
def Room (F : Fo) (k : Nat) : Prop := F.ks.length + k * 2 ^ F.N ≤ 1073741824 ∧ F.nj + k * 2 ^ F.N ≤ 1073741824
theorem Room.step {k l : Nat} {w w' : World} {F F' : Fo} (hr : Room F (k + l)) (h : OpR k w F w' F') : Room F' l := by
  have h1 := h.len
  have h2 := h.nj
  obtain ⟨h3, h4⟩ := hr
  rw [Nat.add_mul] at h3 h4
  unfold Room
  rw [h.st.N]
  omega
theorem Room.mono {k l : Nat} {F : Fo} (hr : Room F k) (h : l ≤ k) : Room F l := by
  have h3 := Nat.mul_le_mul_right (2 ^ F.N) h
  obtain ⟨h4, h5⟩ := hr
  exact ⟨by omega, by omega⟩
/-- Two nodes joined, from a later forest. -/
theorem join_op {F : Fo} (o : Int) (a b : Nat) (w : World) (ho : o = -4 ∨ o = -5 ∨ o = -6) (h : FoAt w F) (ha : a < F.ks.length) (hb : b < F.ks.length) (hr : Room F 1) :
    Calls Try.prog 167 #[.pointer (some ⟨F.p, 0, none⟩), .int .i64 o, .int .i64 a, .int .i64 b] w
      fun e w' => ∃ n F', e = .returned (.int .i64 (n : Nat)) ∧ OpR 1 w F w' F' ∧ n < F'.ks.length ∧ ∀ v, ev F'.ks v n = opB o (ev F.ks v a) (ev F.ks v b) := by
  unfold Room at hr
  refine (join_any F.N F o a b w ho h ha hb (by omega) (by omega) (by omega)).mono ?_
  rintro e w' ⟨n, F', rfl, hj⟩
  exact ⟨n, F', rfl, OpR.of_join hj (Nat.le_refl _), hj.lt, hj.ev⟩
set_option maxRecDepth 100000 in
theorem not_any (F : Fo) (n : Nat) (w : World) (h : FoAt w F) (hn : n < F.ks.length) (hr : Room F 1) :
    Calls Try.prog 172 #[.pointer (some ⟨F.p, 0, none⟩), .int .i64 n] w
      fun e w' => ∃ m F', e = .returned (.int .i64 (m : Nat)) ∧ OpR 1 w F w' F' ∧ m < F'.ks.length ∧ ∀ v, ev F'.ks v m = !ev F.ks v n := by
  have h2 := h.wf.two
  have H := hide h
  have HR := hide hr
  clear h hr
  go_enter Try.func172, Try.ntmps172
  go_wp2_with (go_at_call 167; refine (join_op (-6) n 0 _ (by omega) H.out hn (by omega) HR.out).mono ?_; rintro e w1 ⟨m, F1, rfl, h1, h2, h3⟩; have H1 := hide h1; have H3 := hide h3; clear h1 h3)
  go_ret
  exact ⟨m, F1, rfl, H1.out, h2, fun v => by rw [H3.out v, ev_zero]; cases ev F.ks v n <;> rfl⟩
set_option maxRecDepth 100000 in
theorem literal_any (F : Fo) (o : Nat) (b : Bool) (w : World) (h : FoAt w F) (ho : o < F.N) (hr : Room F 1) :
    Calls Try.prog 173 #[.pointer (some ⟨F.p, 0, none⟩), .int .i64 o, .bool b] w
      fun e w' => ∃ m F', e = .returned (.int .i64 (m : Nat)) ∧ OpR 1 w F w' F' ∧ m < F'.ks.length ∧ ∀ v, ev F'.ks v m = (v o == b) := by
  have h2 := h.wf.two
  have h3 := h.wf.top0
  have h4 := h.wf.top1
  have hp := pow_pos2 F.N
  have h01 := node_any F o 0 1 w h ho (by omega) (by omega) (by omega) (by omega) (by unfold Room at hr; omega)
  have h10 := node_any F o 1 0 w h ho (by omega) (by omega) (by omega) (by omega) (by unfold Room at hr; omega)
  have H01 := hide h01
  have H10 := hide h10
  have HP := hide hp
  clear h hr h3 h4 h01 h10 hp
  cases b with
  | true =>
    go_enter Try.func173, Try.ntmps173
    go_wp2_with (go_at_call 175; refine H01.out.mono ?_; rintro e w1 ⟨m, F1, rfl, h1⟩; have H1 := hide h1; clear h1)
    go_ret
    have h1 := H1.out.len
    have h2 := H1.out.nj
    have hp := HP.out
    exact ⟨m, F1, rfl, ⟨H1.out.st, by omega, by omega⟩, H1.out.lt, fun v => by rw [H1.out.ev v, ev_zero, ev_one]; cases v o <;> rfl⟩
  | false =>
    go_enter Try.func173, Try.ntmps173
    go_wp2_with (go_at_call 175; refine H10.out.mono ?_; rintro e w1 ⟨m, F1, rfl, h1⟩; have H1 := hide h1; clear h1)
    go_ret
    have h1 := H1.out.len
    have h2 := H1.out.nj
    have hp := HP.out
    exact ⟨m, F1, rfl, ⟨H1.out.st, by omega, by omega⟩, H1.out.lt, fun v => by rw [H1.out.ev v, ev_zero, ev_one]; cases v o <;> rfl⟩
/-- Nodes in a block of their own. -/
def NodesAt (w : World) (b : Nat) (l : List Nat) : Prop := w.heap[b]? = some (.cells (l.map fun (n : Nat) => Value.int .i64 n).toArray 3 (0, 0))
theorem NodesAt.cell {w : World} {b : Nat} {l : List Nat} (h : NodesAt w b l) {i : Nat} (hi : i < l.length) : w.cell? ⟨b, i, none⟩ = some (.int .i64 (l.getD i 0 : Nat)) := by
  rw [cellOf h i]
  simp [hi]
set_option maxRecDepth 100000 in
theorem and_any (F : Fo) (b : Nat) (l : List Nat) (w : World) (h : FoAt w F) (hl : ∀ n ∈ l, n < F.ks.length) (hb : NodesAt w b l) (hnb : ¬ SF F b) (hlen : l.length ≤ 100) (hr : Room F l.length) :
    Calls Try.prog 148 #[.pointer (some ⟨F.p, 0, none⟩), .slice (some ⟨b, 0, none⟩) l.length l.length] w
      fun e w' => ∃ m F', e = .returned (.int .i64 (m : Nat)) ∧ OpR l.length w F w' F' ∧ m < F'.ks.length ∧ ∀ v, ev F'.ks v m = l.all (fun n => ev F.ks v n) := by
  have h2 := h.wf.two
  have H := hide h
  have HR := hide hr
  have HL := hide hl
  have HB := hide hb
  have HNB := hide hnb
  have hbl : b < w.heap.size := box_lt hb
  clear h hr hl hb hnb
  go_enter Try.func148, Try.ntmps148
  go_wp2
  go_loopw [5, 10] (fun n i wr => ∃ (k m : Nat) (F1 : Fo), k ≤ l.length ∧ i = .int .i64 k ∧ n = .int .i64 m ∧ Hid (OpR k w F wr F1) ∧ m < F1.ks.length ∧ Hid (∀ v, ev F1.ks v m = (l.take k).all (fun n => ev F.ks v n))) (fun _ i _ => l.length - (intOf i).toNat)
  case atStart => exact ⟨0, 1, F, Nat.zero_le _, rfl, rfl, OpR.refl H.out 0, by omega, fun v => rfl⟩
  case round =>
    obtain ⟨k, m, F1, hk, rfl, rfl, hop, hm, hev⟩ := hrel
    by_cases hlt : k < l.length
    · obtain ⟨x, hx⟩ : ∃ x, l.getD k 0 = x := ⟨_, rfl⟩
      have hxm : x ∈ l := by
        rw [← hx, List.getD_eq_getElem?_getD, List.getElem?_eq_getElem hlt]
        exact List.getElem_mem _
      have hxl := HL.out x hxm
      have hle := hop.out.st.le
      have c0 : wr.cell? ⟨b, k, none⟩ = some (.int .i64 (x : Nat)) := by
        have := NodesAt.cell (((hop.out.st.block hbl HNB.out).1).trans HB.out) hlt
        rwa [hx] at this
      have hjo := join_op (-4) m x wr (by omega) hop.out.st.here hm (by omega) ((HR.out.mono (show k + 1 ≤ l.length by omega)).step hop.out)
      rw [hop.out.st.p] at hjo
      have HJO := hide hjo
      have HX := hide hx
      clear hjo hx hxm
      go_wp2_with (go_at_call 167; refine HJO.out.mono ?_; rintro e w1 ⟨m2, F2, rfl, h1, h2, h3⟩; have H1 := hide h1; have H3 := hide h3; clear h1 h3)
      go_roundw
      case rel =>
        refine ⟨k + 1, m2, F2, by omega, by go_num, rfl, hop.out.trans H1.out, h2, fun v => ?_⟩
        rw [H3.out v, hev.out v, List.take_succ_eq_append_getElem hlt, List.all_append, hop.out.st.ev H.out.wf hxl]
        have : l[k] = x := by
          have := HX.out
          rw [List.getD_eq_getElem?_getD, List.getElem?_eq_getElem hlt] at this
          simpa using this
        simp [opB, this]
      case measure => simp [intOf]; omega
    · go_wp2
      go_ret
      obtain rfl : k = l.length := by omega
      exact ⟨m, F1, rfl, hop.out, hm, fun v => by rw [hev.out v, List.take_length]⟩
end Go.Proofs.Ytmabfnddedffoaa
/- The node of a formula: walk. -/
namespace Go.Proofs.Ytmabfnddedffoaa
open Go.RowKit
open Go.Maps (Keyed)
set_option linter.unusedVariables false
set_option linter.unusedSimpArgs false
theorem infoInt : (Try.prog.info? 3).map (fun i => (i.zero, i.size, i.bytes)) = some (some (.int .i64 0), 1, 8) := by kernel_rfl
/-- The slice v holds the numbers f, below block B. -/
def Ints (w : World) (B : Nat) (v : Value) (f : List Int) : Prop := Sl w B 1 v f.length (fun i _ => .int .i64 (f.getD i 0))
theorem operands_any (o : Int) (w : World) :
    Calls Try.prog 171 #[.int .i64 o] w fun e w' => e = .returned (.int .i64 (arO o : Nat)) ∧ w = w' := by
  by_cases h3 : o = -3
  · subst h3
    go_enter Try.func171, Try.ntmps171
    go_wp2
    go_ret
    exact ⟨rfl, rfl⟩
  by_cases h4 : o = -4
  · subst h4
    go_enter Try.func171, Try.ntmps171
    go_wp2
    go_ret
    exact ⟨rfl, rfl⟩
  by_cases h5 : o = -5
  · subst h5
    go_enter Try.func171, Try.ntmps171
    go_wp2
    go_ret
    exact ⟨rfl, rfl⟩
  by_cases h6 : o = -6
  · subst h6
    go_enter Try.func171, Try.ntmps171
    go_wp2
    go_ret
    exact ⟨rfl, rfl⟩
  have e : arO o = 0 := by unfold arO; rw [if_neg h3, if_neg (by omega)]
  have k3 : (o == -3) = false := by simpa using h3
  have k4 : (o == -4) = false := by simpa using h4
  have k5 : (o == -5) = false := by simpa using h5
  have k6 : (o == -6) = false := by simpa using h6
  have HE := hide e
  clear h3 h4 h5 h6 e
  go_enter Try.func171, Try.ntmps171
  go_wp2
  go_ret
  exact ⟨by rw [HE.out]; rfl, rfl⟩
/-- The stack of nodes. -/
def Stk (B : Nat) (w : World) (F : Fo) (sv : Value) (S : List Nat) : Prop := w.ownsRow B 3 1 sv S.length (S.map fun (n : Nat) => Value.int .i64 n) ∧ ∀ b, sv.ownBlock = some b → ¬ SF F b
theorem Stk.step {B : Nat} {w w' : World} {F F' : Fo} {sv : Value} {S : List Nat} (h : Stk B w F sv S) (st : FStep w F w' F') : Stk B w' F' sv S := by
  obtain ⟨h1, h2⟩ := h
  have hk : ∀ b, sv.ownBlock = some b → w'.heap[b]? = w.heap[b]? ∧ ¬ SF F' b := fun b hb => st.block (h1.lt b hb).2 (h2 b hb)
  refine ⟨⟨h1.1, ?_⟩, fun b hb => (hk b hb).2⟩
  rcases h1.2 with hn | ⟨g, cap, cur, rfl, q4, q5, q6⟩
  · exact .inl hn
  · exact .inr ⟨g, cap, cur, rfl, q4, ((hk g rfl).1).trans q5, q6⟩
theorem Stk.below {B : Nat} {w w' : World} {F : Fo} {sv : Value} {S : List Nat} (h : Stk B w F sv S) (hb : Below w.heap.size w w') : Stk B w' F sv S := ⟨owns_below h.1 hb, h.2⟩

theorem Stk.shape {B : Nat} {w : World} {F : Fo} {sv : Value} {S : List Nat} (h : Stk B w F sv S) : ∃ A cap, sv = .slice A S.length cap ∧ S.length ≤ cap ∧ cap ≤ maxLen := by
  rcases h.1.2 with ⟨h1, h2⟩ | ⟨g, cap, cur, h1, _, _, h2, h3, _⟩
  · exact ⟨none, 0, by rw [h1, h2], by omega, by unfold maxLen; omega⟩
  · exact ⟨_, cap, h1, h2, h3⟩
theorem Stk.cells {B : Nat} {w : World} {F : Fo} {A : Option Addr} {n cap : Nat} {S : List Nat} (h : Stk B w F (.slice A n cap) S) (hn : 0 < S.length) : ∃ g, A = some ⟨g, 0, none⟩ ∧ g < w.heap.size ∧ ¬ SF F g ∧ ∀ i, i < S.length → w.cell? ⟨g, i, none⟩ = some (.int .i64 (S.getD i 0 : Nat)) := by
  obtain ⟨g, cap', hv, _, hl⟩ := h.1.form hn
  injection hv with h1 h2 h3
  subst h1
  refine ⟨g, rfl, hl, h.2 g rfl, fun i hi => ?_⟩
  have := h.1.cells (g := g) rfl i (.int .i64 (S.getD i 0 : Nat)) (by simp [hi])
  have he : (⟨g, 0, none⟩ : Addr).add i = ⟨g, i, none⟩ := by
    unfold Addr.add
    split
    · rename_i h0; rw [h0]
    · rw [Nat.zero_add]
  rwa [he] at this
theorem Stk.cut {B : Nat} {w : World} {F : Fo} {A : Option Addr} {n cap : Nat} {S : List Nat} (h : Stk B w F (.slice A n cap) S) {r : Nat} (hr : r ≤ S.length) : w.ownsRow B 3 1 (.slice A r cap) r ((S.take r).map fun (n : Nat) => Value.int .i64 n) := by
  obtain ⟨⟨h1, ⟨h2, h3⟩ | ⟨g, cap', cur, h2, h3, h4, h5, h6, h7, h8⟩⟩, _⟩ := h
  · injection h2 with e1 e2 e3
    subst e1 e3
    obtain rfl : r = 0 := by omega
    exact ⟨by simp, .inl ⟨rfl, rfl⟩⟩
  · injection h2 with e1 e2 e3
    subst e1 e3
    refine ⟨by simp; omega, .inr ⟨g, cap, cur, rfl, h3, h4, by omega, h6, h7, ?_⟩⟩
    rw [List.map_take, ← h8, List.take_take, Nat.mul_one, Nat.mul_one, Nat.min_eq_left hr]
theorem OpR.own {k : Nat} {w wc w1 : World} {F F2 : Fo} {T : Nat → Prop} (h : OpR k w F wc F2) (hg : Keeps T wc w1) (hT : ∀ i, T i → w.heap.size ≤ i) (hn : ∀ i, SF F2 i → ¬ T i) : OpR k w F w1 F2 :=
  ⟨⟨h.st.here.keeps hg hn, h.st.ba, h.st.p, h.st.N, h.st.bk, h.st.bj, h.st.ks, h.st.kb, h.st.keep.trans hg (fun i hi ht => by have := hT i ht; omega)⟩, h.len, h.nj⟩
theorem rev_top {α : Type} {S : List Nat} {p : Nat} (e : Nat → α) (h : S.length = p + 1) : (S.map e).reverse = e (S.getD p 0) :: ((S.take p).map e).reverse := by
  have : S = S.take p ++ [S.getD p 0] := by
    have h1 := List.take_succ_eq_append_getElem (l := S) (i := p) (by omega)
    rw [List.take_of_length_le (by omega)] at h1
    rw [List.getD_eq_getElem?_getD, List.getElem?_eq_getElem (by omega)]
    exact h1
  conv => lhs; rw [this]
  simp
theorem rev_top2 {α : Type} {S : List Nat} {p : Nat} (e : Nat → α) (h : S.length = p + 2) : (S.map e).reverse = e (S.getD (p + 1) 0) :: e (S.getD p 0) :: ((S.take p).map e).reverse := by
  rw [rev_top e h, rev_top (S := S.take (p + 1)) (p := p) e (by simp; omega), List.take_take, Nat.min_eq_left (by omega)]
  congr 2
  simp [List.getD_eq_getElem?_getD]
set_option maxRecDepth 100000 in
set_option maxHeartbeats 4000000 in
theorem grow_any (F : Fo) (f : List Int) (fv : Value) (w : World) (h : FoAt w F) (hB : F.base ≤ w.heap.size) (hv : validF F.N f = true) (hf : Ints w F.base fv f) (hr : Room F f.length) :
    Calls Try.prog 161 #[.pointer (some ⟨F.p, 0, none⟩), fv] w
      fun e w' => ∃ m F', e = .returned (.int .i64 (m : Nat)) ∧ OpR f.length w F w' F' ∧ m < F'.ks.length ∧ ∀ v, ev F'.ks v m = evF1 v f := by
  obtain ⟨i0, hi0, hz0, hz1, hz2⟩ := info_parts infoInt
  have hsm := h.small
  obtain ⟨p1, p2⟩ := validF_pos hv
  obtain ⟨A, b, off, cap, rfl, hnc, hA, hc⟩ := hf
  obtain ⟨rfl, hbb⟩ : A = some ⟨b, off, none⟩ ∧ b < F.base := by
    rcases hA with h | h
    · exact h
    · omega
  have hnb : ¬ SF F b := fun e => by have := h.sbase e; omega
  have HC := hide hc
  have H := hide h
  have HV := hide hv
  have HR := hide hr
  have HNB := hide hnb
  clear h hv hr hc hnb hA
  have hlen : (f.length : Int) ≤ 100 := by omega
  have hnil : Hid (∀ n ∈ ([] : List Nat), n < F.ks.length) := by intro n hn; cases hn
  have hnil2 : Hid (∀ v, (([] : List Nat).map (ev F.ks v)).reverse = evS v (f.drop f.length)) := by intro v; simp [evS]
  go_enter Try.func161, Try.ntmps161
  go_wp2
  go_loopw [5, 6] (fun sv i wr => ∃ (j : Nat) (S : List Nat) (F1 : Fo), j ≤ f.length ∧ i = .int .i64 ((j : Int) - 1) ∧ Hid (Stk w.heap.size wr F1 sv S) ∧ Hid (OpR (f.length - j) w F wr F1) ∧ Hid (∀ n ∈ S, n < F1.ks.length) ∧ Hid (∀ v, (S.map (ev F1.ks v)).reverse = evS v (f.drop j))) (fun _ i _ => (intOf i + 1).toNat)
  case atStart => exact ⟨f.length, [], F, Nat.le_refl _, by go_num, ⟨World.ownsRow_nil w w.heap.size 3 1, fun b hb => by simp [Value.ownBlock] at hb⟩, OpR.refl H.out _, hnil, hnil2⟩
  case round =>
    obtain ⟨j, S, F1, hj, rfl, hS, hop, hSl, hev⟩ := hrel
    match j, hj, hop, hev with
    | 0, _, hop, hev =>
      have hS1 : S.length = 1 := by
        have h1 := hev.out (fun _ => false)
        rw [List.drop_zero, validF_one HV.out] at h1
        have := congrArg List.length h1
        simpa using this
      obtain ⟨A1, cap1, rfl, hcap1, hcap2⟩ := hS.out.shape
      obtain ⟨g, rfl, hg1, hg2, hg3⟩ := hS.out.cells (by omega)
      have x0 := hg3 0 (by omega)
      have hk0 : (0 : Int) < (S.length : Int) := by omega
      have hk1 : 0 < S.length := by omega
      have HS1 := hide hS1
      obtain ⟨x, hx⟩ : ∃ x, S.getD 0 0 = x := ⟨_, rfl⟩
      rw [hx] at x0
      have HX := hide hx
      clear hg3 hS1 hx
      go_wp2_with fail
      go_ret
      refine ⟨x, F1, rfl, by have := hop.out; rwa [Nat.sub_zero] at this, hSl.out _ ?_, fun v => ?_⟩
      · rw [← HX.out, List.getD_eq_getElem?_getD, List.getElem?_eq_getElem hk1]; exact List.getElem_mem _
      · have h1 := hev.out v
        rw [List.drop_zero, validF_one HV.out, rev_top (p := 0) _ HS1.out, HX.out] at h1
        injection h1
    | q + 1, hj, hop, hev =>
      have hq : ((q + 1 : Nat) : Int) - 1 = (q : Int) := by omega
      rw [hq]
      clear hq
      obtain ⟨o, ho⟩ : ∃ o, f.getD q 0 = o := ⟨_, rfl⟩
      obtain ⟨w1, _, hv2, hlo, hhi⟩ := vld_at (by have := HV.out; simp only [validF, Bool.and_eq_true] at this; exact this.1) (show q < f.length by omega)
      rw [ho] at hv2 hlo hhi
      have hSn : S.length = w1 + arO o := by
        have h1 := evS_len (fun _ => false) _ _ hv2
        rw [← hev.out, List.length_reverse, List.length_map] at h1
        exact h1
      have hbl := hop.out.st.below H.out hB
      have c0 : wr.cell? ⟨b, off + q, none⟩ = some (.int .i64 o) := by
        have h1 := HC.out q 0 (by omega) (by omega)
        rw [Nat.mul_one, Nat.add_zero, ho] at h1
        exact (hbl.cell (p := ⟨b, off + q, none⟩) hbb).trans h1
      have hbw : b < wr.heap.size := by have := hop.out.st.keep.size; omega
      have hnb1 : ¬ SF F1 b := (hop.out.st.block (by omega) HNB.out).2
      obtain ⟨A1, cap1, rfl, hcap1, hcap2⟩ := hS.out.shape
      have hN1 : F1.N = F.N := hop.out.st.N
      have hS100 : S.length ≤ 100 := by
        have h1 := vld_le _ _ hv2
        rw [List.length_drop] at h1
        omega
      have hroom : Room F1 1 := Room.step (k := f.length - (q + 1)) (HR.out.mono (by omega)) hop.out
      have HRM := hide hroom
      have HOQ := hide ho
      have HSN := hide hSn
      have HN1 := hide hN1
      have HBL := hide hbl
      have HV2 := hide hv2
      have gi0 : (0 : Int) ≤ (q : Int) := by omega
      have gi1 : (q : Int) < (f.length : Int) := by omega
      have gi2 : (0 : Int) ≤ (S.length : Int) := by omega
      have gi3 : (S.length : Int) ≤ 100 := by omega
      clear hroom ho hSn hbl hN1 hv2
      go_upto_block 2 with (fail)
      go_cut [7] from 12 to 72 (fun x wx => ∃ (m : Nat) (F2 : Fo), x = .int .i64 m ∧ Hid (OpR 1 wr F1 wx F2) ∧ m < F2.ks.length ∧ Hid (∀ v, stp v o ((S.map (ev F1.ks v)).reverse) = ev F2.ks v m :: ((S.map (ev F1.ks v)).reverse).drop (arO o)))
      case first =>
        have h2 := hop.out.st.here.wf.two
        by_cases o1 : o = -1
        · subst o1
          go_wp2_with fail
          go_meet
          exact ⟨1, F1, rfl, OpR.refl hop.out.st.here _, by omega, fun v => rfl⟩
        by_cases o2 : o = -2
        · subst o2
          go_wp2_with fail
          go_meet
          exact ⟨0, F1, rfl, OpR.refl hop.out.st.here _, by omega, fun v => rfl⟩
        by_cases o3 : o = -3
        · subst o3
          obtain ⟨p, hp⟩ : ∃ p, S.length = p + 1 := ⟨w1, HSN.out⟩
          obtain ⟨g, rfl, hg1, hg2, hg3⟩ := hS.out.cells (by omega)
          have x0 := hg3 p (by omega)
          obtain ⟨x, hx⟩ : ∃ x, S.getD p 0 = x := ⟨_, rfl⟩
          rw [hx] at x0
          have hxl : x < F1.ks.length := hSl.out x (by rw [← hx, List.getD_eq_getElem?_getD, List.getElem?_eq_getElem (by omega)]; exact List.getElem_mem _)
          have hno := not_any F1 x wr hop.out.st.here hxl HRM.out
          rw [hop.out.st.p] at hno
          have HNO := hide hno
          have HX := hide hx
          have HP := hide hp
          clear hno hx hg3
          have k0 : (1 : Int) ≤ (S.length : Int) := by omega
          have k1 : ((S.length : Int) - 1).toNat = p := by omega
          clear hp
          go_wp2_with (go_at_call 172; refine HNO.out.mono ?_; rintro e w2 ⟨m, F2, rfl, r1, r2, r3⟩; have R1 := hide r1; have R3 := hide r3; clear r1 r3)
          go_meet
          exact ⟨m, F2, rfl, R1.out, r2, fun v => by rw [R3.out v, rev_top _ HP.out, HX.out]; rfl⟩
        by_cases o456 : o = -4 ∨ o = -5 ∨ o = -6
        · obtain ⟨p, hp⟩ : ∃ p, S.length = p + 2 := ⟨w1, by
            have := HSN.out
            unfold arO at this
            rw [if_neg o3, if_pos o456] at this
            exact this⟩
          obtain ⟨g, rfl, hg1, hg2, hg3⟩ := hS.out.cells (by omega)
          have x0 := hg3 (p + 1) (by omega)
          have y0 := hg3 p (by omega)
          obtain ⟨x, hx⟩ : ∃ x, S.getD (p + 1) 0 = x := ⟨_, rfl⟩
          obtain ⟨y, hy⟩ : ∃ y, S.getD p 0 = y := ⟨_, rfl⟩
          rw [hx] at x0
          rw [hy] at y0
          have hxl : x < F1.ks.length := hSl.out x (by rw [← hx, List.getD_eq_getElem?_getD, List.getElem?_eq_getElem (by omega)]; exact List.getElem_mem _)
          have hyl : y < F1.ks.length := hSl.out y (by rw [← hy, List.getD_eq_getElem?_getD, List.getElem?_eq_getElem (by omega)]; exact List.getElem_mem _)
          have hjo := join_op o x y wr.drew o456 (hop.out.st.here.same fun _ _ => rfl) hxl hyl HRM.out
          rw [hop.out.st.p] at hjo
          have HJO := hide hjo
          have HXY := hide (And.intro hx hy)
          have HP := hide hp
          have HO := hide o456
          have k0 : (1 : Int) ≤ (S.length : Int) := by omega
          have k1 : ((S.length : Int) - 1).toNat = p + 1 := by omega
          have k2 : (2 : Int) ≤ (S.length : Int) := by omega
          have k3 : ((S.length : Int) - 2).toNat = p := by omega
          have k4 : IntKind.i64.wrap ((S.length : Int) - 1) = (S.length : Int) - 1 := IntWalk.i64_in _ (by omega)
          have k5 : IntKind.i64.wrap ((S.length : Int) - 2) = (S.length : Int) - 2 := IntWalk.i64_in _ (by omega)
          have k6 : (S.length : Int) - 1 < (S.length : Int) := by omega
          have k7 : (S.length : Int) - 2 < (S.length : Int) := by omega
          clear hjo hx hy hg3 hp
          rcases o456 with rfl | rfl | rfl
          · go_wp2_with fail
            refine wp_region_held_drew (S := (fun w' => Keeps (SF F1) wr w')) (by kernel_rfl) ?_ (fun hHeld => ?_)
            · try dsimp only
              (repeat (first | (with_reducible exact Keeps.refl _ _) | exact hKeep.out | exact hKeepS.out _ | assumption | (with_reducible refine Keeps.drew ?_) | (with_reducible refine Keeps.drewN ?_ _) | (with_reducible refine Keeps.alloc ?_ _) | (with_reducible refine Keeps.setCell ?_ (.inl (by first | exact .inl rfl | exact .inr rfl)) _)))
            refine wpAnyH_take (i := 0) (v := ?v1_1) rfl (by kernel_rfl) (by kernel_rfl) (by kernel_rfl) (fun _ _ _ h => h) (Or.inl ⟨by rfl, ?y1_1⟩) (by assumption) ?r1_1
            case' y1_1 => (intro w hSw; (try dsimp only at hSw); (try have hlS := HLK.out _ hSw); have hcS := kcell hSw; clear hSw; go_simp; try with_reducible rfl)
            try simp only [Act.put, zA, zB, zC, zD, zE, zF]
            refine wpAnyH_take (i := 1) (v := ?v1_2) rfl (by kernel_rfl) (by kernel_rfl) (by kernel_rfl) (fun _ _ _ h => h) (Or.inl ⟨by rfl, ?y1_2⟩) (by assumption) ?r1_2
            case' y1_2 => (intro w hSw; (try dsimp only at hSw); (try have hlS := HLK.out _ hSw); have hcS := kcell hSw; clear hSw; go_simp; try with_reducible rfl)
            try simp only [Act.put, zA, zB, zC, zD, zE, zF]
            refine wpAnyH_take (i := 2) (v := ?v1_3) rfl (by kernel_rfl) (by kernel_rfl) (by kernel_rfl) (fun _ _ _ h => h) (Or.inl ⟨by rfl, ?y1_3⟩) (by assumption) ?r1_3
            case' y1_3 => (intro w hSw; (try dsimp only at hSw); (try have hlS := HLK.out _ hSw); have hcS := kcell hSw; clear hSw; go_simp; try with_reducible rfl)
            try simp only [Act.put, zA, zB, zC, zD, zE, zF]
            refine wpAnyH_take (i := 3) (v := ?v1_4) rfl (by kernel_rfl) (by kernel_rfl) (by kernel_rfl) (fun _ _ _ h => h) (Or.inl ⟨by rfl, ?y1_4⟩) (by assumption) ?r1_4
            case' y1_4 => (intro w hSw; (try dsimp only at hSw); (try have hlS := HLK.out _ hSw); have hcS := kcell hSw; clear hSw; go_simp; try with_reducible rfl)
            try simp only [Act.put, zA, zB, zC, zD, zE, zF]
            refine wpAnyH_take (i := 4) (v := ?v1_5) rfl (by kernel_rfl) (by kernel_rfl) (by kernel_rfl) (fun _ _ _ h => h) (Or.inl ⟨by rfl, ?y1_5⟩) (by assumption) ?r1_5
            case' y1_5 => (intro w hSw; (try dsimp only at hSw); (try have hlS := HLK.out _ hSw); have hcS := kcell hSw; clear hSw; go_simp; try with_reducible rfl)
            try simp only [Act.put, zA, zB, zC, zD, zE, zF]
            refine wpAnyH_take (i := 5) (v := ?v1_6) rfl (by kernel_rfl) (by kernel_rfl) (by kernel_rfl) (fun _ _ _ h => h) (Or.inl ⟨by rfl, ?y1_6⟩) (by assumption) ?r1_6
            case' y1_6 => (intro w hSw; (try dsimp only at hSw); (try have hlS := HLK.out _ hSw); have hcS := kcell hSw; clear hSw; go_simp; try with_reducible rfl)
            try simp only [Act.put, zA, zB, zC, zD, zE, zF]
            refine wpAnyH_take (i := 6) (v := ?v1_7) rfl (by kernel_rfl) (by kernel_rfl) (by kernel_rfl) (fun _ _ _ h => h) (Or.inl ⟨by rfl, ?y1_7⟩) (by assumption) ?r1_7
            case' y1_7 => (intro w hSw; (try dsimp only at hSw); (try have hlS := HLK.out _ hSw); have hcS := kcell hSw; clear hSw; go_simp; try with_reducible rfl)
            try simp only [Act.put, zA, zB, zC, zD, zE, zF]
            refine wpAnyH_take (i := 7) (v := ?v1_8) rfl (by kernel_rfl) (by kernel_rfl) (by kernel_rfl) (fun _ _ _ h => h) (Or.inl ⟨by rfl, ?y1_8⟩) (by assumption) ?r1_8
            case' y1_8 => (intro w hSw; (try dsimp only at hSw); (try have hlS := HLK.out _ hSw); have hcS := kcell hSw; clear hSw; go_simp; try with_reducible rfl)
            try simp only [Act.put, zA, zB, zC, zD, zE, zF]
            refine wpAnyH_take (i := 8) (v := ?v1_9) rfl (by kernel_rfl) (by kernel_rfl) (by kernel_rfl) (fun _ _ _ h => h) (Or.inl ⟨by rfl, ?y1_9⟩) (by assumption) ?r1_9
            case' y1_9 => (intro w hSw; (try dsimp only at hSw); (try have hlS := HLK.out _ hSw); have hcS := kcell hSw; clear hSw; go_simp; try with_reducible rfl)
            try simp only [Act.put, zA, zB, zC, zD, zE, zF]
            refine wpAnyH_take (i := 9) (v := ?v1_10) rfl (by kernel_rfl) (by kernel_rfl) (by kernel_rfl) (fun _ _ _ h => h) (Or.inl ⟨by rfl, ?y1_10⟩) (by assumption) ?r1_10
            case' y1_10 => (intro w hSw; (try dsimp only at hSw); (try have hlS := HLK.out _ hSw); have hcS := kcell hSw; clear hSw; go_simp; try with_reducible rfl)
            try simp only [Act.put, zA, zB, zC, zD, zE, zF]
            refine wpAnyH_take (i := 10) (v := ?v1_11) rfl (by kernel_rfl) (by kernel_rfl) (by kernel_rfl) (fun _ _ _ h => h) (Or.inl ⟨by rfl, ?y1_11⟩) (by assumption) ?r1_11
            case' y1_11 => (intro w hSw; (try dsimp only at hSw); (try have hlS := HLK.out _ hSw); have hcS := kcell hSw; clear hSw; go_simp; try with_reducible rfl)
            try simp only [Act.put, zA, zB, zC, zD, zE, zF]
            refine wpAnyH_take (i := 11) (v := ?v1_12) rfl (by kernel_rfl) (by kernel_rfl) (by kernel_rfl) (fun _ _ _ h => h) (Or.inl ⟨by rfl, ?y1_12⟩) (by assumption) ?r1_12
            case' y1_12 => (intro w hSw; (try dsimp only at hSw); (try have hlS := HLK.out _ hSw); have hcS := kcell hSw; clear hSw; go_simp; try with_reducible rfl)
            try simp only [Act.put, zA, zB, zC, zD, zE, zF]
            refine wpAnyH_take (i := 12) (v := ?v1_13) rfl (by kernel_rfl) (by kernel_rfl) (by kernel_rfl) (fun _ _ _ h => h) (Or.inl ⟨by rfl, ?y1_13⟩) (by assumption) ?r1_13
            case' y1_13 => (intro w hSw; (try dsimp only at hSw); (try have hlS := HLK.out _ hSw); have hcS := kcell hSw; clear hSw; go_simp; try with_reducible rfl)
            try simp only [Act.put, zA, zB, zC, zD, zE, zF]
            refine wpAnyH_take (i := 13) (v := ?v1_14) rfl (by kernel_rfl) (by kernel_rfl) (by kernel_rfl) (fun _ _ _ h => h) (Or.inl ⟨by rfl, ?y1_14⟩) (by assumption) ?r1_14
            case' y1_14 => (intro w hSw; (try dsimp only at hSw); (try have hlS := HLK.out _ hSw); have hcS := kcell hSw; clear hSw; go_simp; try with_reducible rfl)
            try simp only [Act.put, zA, zB, zC, zD, zE, zF]
            refine wpAnyH_take (i := 14) (v := ?v1_15) rfl (by kernel_rfl) (by kernel_rfl) (by kernel_rfl) (fun _ _ _ h => h) (Or.inl ⟨by rfl, ?y1_15⟩) (by assumption) ?r1_15
            case' y1_15 => (intro w hSw; (try dsimp only at hSw); (try have hlS := HLK.out _ hSw); have hcS := kcell hSw; clear hSw; go_simp; try with_reducible rfl)
            try simp only [Act.put, zA, zB, zC, zD, zE, zF]
            refine wpAnyH_ready (rs := [15]) (by kernel_rfl) (by simp) ?_
            refine (AllReadyH.cons rfl (fun K hK => ?_) AllReadyH.nil)
            go_simp
            ((go_at_call 167; refine HJO.out.mono ?_; rintro e w2 ⟨m, F2, rfl, r1, r2, r3⟩; have R1 : Hid (OpR 1 wr F1 w2 F2) := OpR.after_below hop.out.st.here (by repeat (first | exact Below.refl _ _ | assumption | refine Below.drew ?_ | refine Below.drewN ?_ _ | refine Below.allocT ?_ (Nat.le_refl _) _ | refine Below.setCell ?_ (by simp <;> omega) _ | refine Below.to ?_ (by assumption) (Nat.le_refl _))) r1; have R3 := hide r3; have hKeep : Hid (Keeps (SF F1) wr w2) := R1.out.st.keep; clear r1 r3))
            (try dsimp only)
            refine hK.out _ _ ?_ (fun hNext => ?_)
            · try dsimp only
              (repeat (first | (with_reducible exact Keeps.refl _ _) | exact hKeep.out | exact hKeepS.out _ | assumption | (with_reducible refine Keeps.drew ?_) | (with_reducible refine Keeps.drewN ?_ _) | (with_reducible refine Keeps.alloc ?_ _) | (with_reducible refine Keeps.setCell ?_ (.inl (by first | exact .inl rfl | exact .inr rfl)) _)))
            clear hK K hHeld
            have hHeld := hNext
            clear hNext
            (try dsimp only at hHeld)
            try simp only [Act.put, zA, zB, zC, zD, zE, zF]
            refine wpAnyH_take (i := 16) (v := ?v1_17) rfl (by kernel_rfl) (by kernel_rfl) (by kernel_rfl) (fun _ _ _ h => h) (Or.inl ⟨by rfl, ?y1_17⟩) (by assumption) ?r1_17
            case' y1_17 => (intro w hSw; (try dsimp only at hSw); (try have hlS := HLK.out _ hSw); have hcS := kcell hSw; clear hSw; go_simp; try with_reducible rfl)
            try simp only [Act.put, zA, zB, zC, zD, zE, zF]
            refine wpAnyH_done (by kernel_rfl) ?_ _
            go_wp2_with fail
            go_meet
            exact ⟨m, F2, rfl, R1.out, r2, fun v => by rw [R3.out v, rev_top2 _ HP.out, HXY.out.1, HXY.out.2]; rfl⟩
          · go_wp2_with fail
            refine wp_region_held_drew (S := (fun w' => Keeps (SF F1) wr w')) (by kernel_rfl) ?_ (fun hHeld => ?_)
            · try dsimp only
              (repeat (first | (with_reducible exact Keeps.refl _ _) | exact hKeep.out | exact hKeepS.out _ | assumption | (with_reducible refine Keeps.drew ?_) | (with_reducible refine Keeps.drewN ?_ _) | (with_reducible refine Keeps.alloc ?_ _) | (with_reducible refine Keeps.setCell ?_ (.inl (by first | exact .inl rfl | exact .inr rfl)) _)))
            refine wpAnyH_take (i := 0) (v := ?v2_1) rfl (by kernel_rfl) (by kernel_rfl) (by kernel_rfl) (fun _ _ _ h => h) (Or.inl ⟨by rfl, ?y2_1⟩) (by assumption) ?r2_1
            case' y2_1 => (intro w hSw; (try dsimp only at hSw); (try have hlS := HLK.out _ hSw); have hcS := kcell hSw; clear hSw; go_simp; try with_reducible rfl)
            try simp only [Act.put, zA, zB, zC, zD, zE, zF]
            refine wpAnyH_take (i := 1) (v := ?v2_2) rfl (by kernel_rfl) (by kernel_rfl) (by kernel_rfl) (fun _ _ _ h => h) (Or.inl ⟨by rfl, ?y2_2⟩) (by assumption) ?r2_2
            case' y2_2 => (intro w hSw; (try dsimp only at hSw); (try have hlS := HLK.out _ hSw); have hcS := kcell hSw; clear hSw; go_simp; try with_reducible rfl)
            try simp only [Act.put, zA, zB, zC, zD, zE, zF]
            refine wpAnyH_take (i := 2) (v := ?v2_3) rfl (by kernel_rfl) (by kernel_rfl) (by kernel_rfl) (fun _ _ _ h => h) (Or.inl ⟨by rfl, ?y2_3⟩) (by assumption) ?r2_3
            case' y2_3 => (intro w hSw; (try dsimp only at hSw); (try have hlS := HLK.out _ hSw); have hcS := kcell hSw; clear hSw; go_simp; try with_reducible rfl)
            try simp only [Act.put, zA, zB, zC, zD, zE, zF]
            refine wpAnyH_take (i := 3) (v := ?v2_4) rfl (by kernel_rfl) (by kernel_rfl) (by kernel_rfl) (fun _ _ _ h => h) (Or.inl ⟨by rfl, ?y2_4⟩) (by assumption) ?r2_4
            case' y2_4 => (intro w hSw; (try dsimp only at hSw); (try have hlS := HLK.out _ hSw); have hcS := kcell hSw; clear hSw; go_simp; try with_reducible rfl)
            try simp only [Act.put, zA, zB, zC, zD, zE, zF]
            refine wpAnyH_take (i := 4) (v := ?v2_5) rfl (by kernel_rfl) (by kernel_rfl) (by kernel_rfl) (fun _ _ _ h => h) (Or.inl ⟨by rfl, ?y2_5⟩) (by assumption) ?r2_5
            case' y2_5 => (intro w hSw; (try dsimp only at hSw); (try have hlS := HLK.out _ hSw); have hcS := kcell hSw; clear hSw; go_simp; try with_reducible rfl)
            try simp only [Act.put, zA, zB, zC, zD, zE, zF]
            refine wpAnyH_take (i := 5) (v := ?v2_6) rfl (by kernel_rfl) (by kernel_rfl) (by kernel_rfl) (fun _ _ _ h => h) (Or.inl ⟨by rfl, ?y2_6⟩) (by assumption) ?r2_6
            case' y2_6 => (intro w hSw; (try dsimp only at hSw); (try have hlS := HLK.out _ hSw); have hcS := kcell hSw; clear hSw; go_simp; try with_reducible rfl)
            try simp only [Act.put, zA, zB, zC, zD, zE, zF]
            refine wpAnyH_take (i := 6) (v := ?v2_7) rfl (by kernel_rfl) (by kernel_rfl) (by kernel_rfl) (fun _ _ _ h => h) (Or.inl ⟨by rfl, ?y2_7⟩) (by assumption) ?r2_7
            case' y2_7 => (intro w hSw; (try dsimp only at hSw); (try have hlS := HLK.out _ hSw); have hcS := kcell hSw; clear hSw; go_simp; try with_reducible rfl)
            try simp only [Act.put, zA, zB, zC, zD, zE, zF]
            refine wpAnyH_take (i := 7) (v := ?v2_8) rfl (by kernel_rfl) (by kernel_rfl) (by kernel_rfl) (fun _ _ _ h => h) (Or.inl ⟨by rfl, ?y2_8⟩) (by assumption) ?r2_8
            case' y2_8 => (intro w hSw; (try dsimp only at hSw); (try have hlS := HLK.out _ hSw); have hcS := kcell hSw; clear hSw; go_simp; try with_reducible rfl)
            try simp only [Act.put, zA, zB, zC, zD, zE, zF]
            refine wpAnyH_take (i := 8) (v := ?v2_9) rfl (by kernel_rfl) (by kernel_rfl) (by kernel_rfl) (fun _ _ _ h => h) (Or.inl ⟨by rfl, ?y2_9⟩) (by assumption) ?r2_9
            case' y2_9 => (intro w hSw; (try dsimp only at hSw); (try have hlS := HLK.out _ hSw); have hcS := kcell hSw; clear hSw; go_simp; try with_reducible rfl)
            try simp only [Act.put, zA, zB, zC, zD, zE, zF]
            refine wpAnyH_take (i := 9) (v := ?v2_10) rfl (by kernel_rfl) (by kernel_rfl) (by kernel_rfl) (fun _ _ _ h => h) (Or.inl ⟨by rfl, ?y2_10⟩) (by assumption) ?r2_10
            case' y2_10 => (intro w hSw; (try dsimp only at hSw); (try have hlS := HLK.out _ hSw); have hcS := kcell hSw; clear hSw; go_simp; try with_reducible rfl)
            try simp only [Act.put, zA, zB, zC, zD, zE, zF]
            refine wpAnyH_take (i := 10) (v := ?v2_11) rfl (by kernel_rfl) (by kernel_rfl) (by kernel_rfl) (fun _ _ _ h => h) (Or.inl ⟨by rfl, ?y2_11⟩) (by assumption) ?r2_11
            case' y2_11 => (intro w hSw; (try dsimp only at hSw); (try have hlS := HLK.out _ hSw); have hcS := kcell hSw; clear hSw; go_simp; try with_reducible rfl)
            try simp only [Act.put, zA, zB, zC, zD, zE, zF]
            refine wpAnyH_take (i := 11) (v := ?v2_12) rfl (by kernel_rfl) (by kernel_rfl) (by kernel_rfl) (fun _ _ _ h => h) (Or.inl ⟨by rfl, ?y2_12⟩) (by assumption) ?r2_12
            case' y2_12 => (intro w hSw; (try dsimp only at hSw); (try have hlS := HLK.out _ hSw); have hcS := kcell hSw; clear hSw; go_simp; try with_reducible rfl)
            try simp only [Act.put, zA, zB, zC, zD, zE, zF]
            refine wpAnyH_take (i := 12) (v := ?v2_13) rfl (by kernel_rfl) (by kernel_rfl) (by kernel_rfl) (fun _ _ _ h => h) (Or.inl ⟨by rfl, ?y2_13⟩) (by assumption) ?r2_13
            case' y2_13 => (intro w hSw; (try dsimp only at hSw); (try have hlS := HLK.out _ hSw); have hcS := kcell hSw; clear hSw; go_simp; try with_reducible rfl)
            try simp only [Act.put, zA, zB, zC, zD, zE, zF]
            refine wpAnyH_take (i := 13) (v := ?v2_14) rfl (by kernel_rfl) (by kernel_rfl) (by kernel_rfl) (fun _ _ _ h => h) (Or.inl ⟨by rfl, ?y2_14⟩) (by assumption) ?r2_14
            case' y2_14 => (intro w hSw; (try dsimp only at hSw); (try have hlS := HLK.out _ hSw); have hcS := kcell hSw; clear hSw; go_simp; try with_reducible rfl)
            try simp only [Act.put, zA, zB, zC, zD, zE, zF]
            refine wpAnyH_take (i := 14) (v := ?v2_15) rfl (by kernel_rfl) (by kernel_rfl) (by kernel_rfl) (fun _ _ _ h => h) (Or.inl ⟨by rfl, ?y2_15⟩) (by assumption) ?r2_15
            case' y2_15 => (intro w hSw; (try dsimp only at hSw); (try have hlS := HLK.out _ hSw); have hcS := kcell hSw; clear hSw; go_simp; try with_reducible rfl)
            try simp only [Act.put, zA, zB, zC, zD, zE, zF]
            refine wpAnyH_ready (rs := [15]) (by kernel_rfl) (by simp) ?_
            refine (AllReadyH.cons rfl (fun K hK => ?_) AllReadyH.nil)
            go_simp
            ((go_at_call 167; refine HJO.out.mono ?_; rintro e w2 ⟨m, F2, rfl, r1, r2, r3⟩; have R1 : Hid (OpR 1 wr F1 w2 F2) := OpR.after_below hop.out.st.here (by repeat (first | exact Below.refl _ _ | assumption | refine Below.drew ?_ | refine Below.drewN ?_ _ | refine Below.allocT ?_ (Nat.le_refl _) _ | refine Below.setCell ?_ (by simp <;> omega) _ | refine Below.to ?_ (by assumption) (Nat.le_refl _))) r1; have R3 := hide r3; have hKeep : Hid (Keeps (SF F1) wr w2) := R1.out.st.keep; clear r1 r3))
            (try dsimp only)
            refine hK.out _ _ ?_ (fun hNext => ?_)
            · try dsimp only
              (repeat (first | (with_reducible exact Keeps.refl _ _) | exact hKeep.out | exact hKeepS.out _ | assumption | (with_reducible refine Keeps.drew ?_) | (with_reducible refine Keeps.drewN ?_ _) | (with_reducible refine Keeps.alloc ?_ _) | (with_reducible refine Keeps.setCell ?_ (.inl (by first | exact .inl rfl | exact .inr rfl)) _)))
            clear hK K hHeld
            have hHeld := hNext
            clear hNext
            (try dsimp only at hHeld)
            try simp only [Act.put, zA, zB, zC, zD, zE, zF]
            refine wpAnyH_take (i := 16) (v := ?v2_17) rfl (by kernel_rfl) (by kernel_rfl) (by kernel_rfl) (fun _ _ _ h => h) (Or.inl ⟨by rfl, ?y2_17⟩) (by assumption) ?r2_17
            case' y2_17 => (intro w hSw; (try dsimp only at hSw); (try have hlS := HLK.out _ hSw); have hcS := kcell hSw; clear hSw; go_simp; try with_reducible rfl)
            try simp only [Act.put, zA, zB, zC, zD, zE, zF]
            refine wpAnyH_done (by kernel_rfl) ?_ _
            go_wp2_with fail
            go_meet
            exact ⟨m, F2, rfl, R1.out, r2, fun v => by rw [R3.out v, rev_top2 _ HP.out, HXY.out.1, HXY.out.2]; rfl⟩
          · go_wp2_with fail
            refine wp_region_held_drew (S := (fun w' => Keeps (SF F1) wr w')) (by kernel_rfl) ?_ (fun hHeld => ?_)
            · try dsimp only
              (repeat (first | (with_reducible exact Keeps.refl _ _) | exact hKeep.out | exact hKeepS.out _ | assumption | (with_reducible refine Keeps.drew ?_) | (with_reducible refine Keeps.drewN ?_ _) | (with_reducible refine Keeps.alloc ?_ _) | (with_reducible refine Keeps.setCell ?_ (.inl (by first | exact .inl rfl | exact .inr rfl)) _)))
            refine wpAnyH_take (i := 0) (v := ?v3_1) rfl (by kernel_rfl) (by kernel_rfl) (by kernel_rfl) (fun _ _ _ h => h) (Or.inl ⟨by rfl, ?y3_1⟩) (by assumption) ?r3_1
            case' y3_1 => (intro w hSw; (try dsimp only at hSw); (try have hlS := HLK.out _ hSw); have hcS := kcell hSw; clear hSw; go_simp; try with_reducible rfl)
            try simp only [Act.put, zA, zB, zC, zD, zE, zF]
            refine wpAnyH_take (i := 1) (v := ?v3_2) rfl (by kernel_rfl) (by kernel_rfl) (by kernel_rfl) (fun _ _ _ h => h) (Or.inl ⟨by rfl, ?y3_2⟩) (by assumption) ?r3_2
            case' y3_2 => (intro w hSw; (try dsimp only at hSw); (try have hlS := HLK.out _ hSw); have hcS := kcell hSw; clear hSw; go_simp; try with_reducible rfl)
            try simp only [Act.put, zA, zB, zC, zD, zE, zF]
            refine wpAnyH_take (i := 2) (v := ?v3_3) rfl (by kernel_rfl) (by kernel_rfl) (by kernel_rfl) (fun _ _ _ h => h) (Or.inl ⟨by rfl, ?y3_3⟩) (by assumption) ?r3_3
            case' y3_3 => (intro w hSw; (try dsimp only at hSw); (try have hlS := HLK.out _ hSw); have hcS := kcell hSw; clear hSw; go_simp; try with_reducible rfl)
            try simp only [Act.put, zA, zB, zC, zD, zE, zF]
            refine wpAnyH_take (i := 3) (v := ?v3_4) rfl (by kernel_rfl) (by kernel_rfl) (by kernel_rfl) (fun _ _ _ h => h) (Or.inl ⟨by rfl, ?y3_4⟩) (by assumption) ?r3_4
            case' y3_4 => (intro w hSw; (try dsimp only at hSw); (try have hlS := HLK.out _ hSw); have hcS := kcell hSw; clear hSw; go_simp; try with_reducible rfl)
            try simp only [Act.put, zA, zB, zC, zD, zE, zF]
            refine wpAnyH_take (i := 4) (v := ?v3_5) rfl (by kernel_rfl) (by kernel_rfl) (by kernel_rfl) (fun _ _ _ h => h) (Or.inl ⟨by rfl, ?y3_5⟩) (by assumption) ?r3_5
            case' y3_5 => (intro w hSw; (try dsimp only at hSw); (try have hlS := HLK.out _ hSw); have hcS := kcell hSw; clear hSw; go_simp; try with_reducible rfl)
            try simp only [Act.put, zA, zB, zC, zD, zE, zF]
            refine wpAnyH_take (i := 5) (v := ?v3_6) rfl (by kernel_rfl) (by kernel_rfl) (by kernel_rfl) (fun _ _ _ h => h) (Or.inl ⟨by rfl, ?y3_6⟩) (by assumption) ?r3_6
            case' y3_6 => (intro w hSw; (try dsimp only at hSw); (try have hlS := HLK.out _ hSw); have hcS := kcell hSw; clear hSw; go_simp; try with_reducible rfl)
            try simp only [Act.put, zA, zB, zC, zD, zE, zF]
            refine wpAnyH_take (i := 6) (v := ?v3_7) rfl (by kernel_rfl) (by kernel_rfl) (by kernel_rfl) (fun _ _ _ h => h) (Or.inl ⟨by rfl, ?y3_7⟩) (by assumption) ?r3_7
            case' y3_7 => (intro w hSw; (try dsimp only at hSw); (try have hlS := HLK.out _ hSw); have hcS := kcell hSw; clear hSw; go_simp; try with_reducible rfl)
            try simp only [Act.put, zA, zB, zC, zD, zE, zF]
            refine wpAnyH_take (i := 7) (v := ?v3_8) rfl (by kernel_rfl) (by kernel_rfl) (by kernel_rfl) (fun _ _ _ h => h) (Or.inl ⟨by rfl, ?y3_8⟩) (by assumption) ?r3_8
            case' y3_8 => (intro w hSw; (try dsimp only at hSw); (try have hlS := HLK.out _ hSw); have hcS := kcell hSw; clear hSw; go_simp; try with_reducible rfl)
            try simp only [Act.put, zA, zB, zC, zD, zE, zF]
            refine wpAnyH_take (i := 8) (v := ?v3_9) rfl (by kernel_rfl) (by kernel_rfl) (by kernel_rfl) (fun _ _ _ h => h) (Or.inl ⟨by rfl, ?y3_9⟩) (by assumption) ?r3_9
            case' y3_9 => (intro w hSw; (try dsimp only at hSw); (try have hlS := HLK.out _ hSw); have hcS := kcell hSw; clear hSw; go_simp; try with_reducible rfl)
            try simp only [Act.put, zA, zB, zC, zD, zE, zF]
            refine wpAnyH_take (i := 9) (v := ?v3_10) rfl (by kernel_rfl) (by kernel_rfl) (by kernel_rfl) (fun _ _ _ h => h) (Or.inl ⟨by rfl, ?y3_10⟩) (by assumption) ?r3_10
            case' y3_10 => (intro w hSw; (try dsimp only at hSw); (try have hlS := HLK.out _ hSw); have hcS := kcell hSw; clear hSw; go_simp; try with_reducible rfl)
            try simp only [Act.put, zA, zB, zC, zD, zE, zF]
            refine wpAnyH_take (i := 10) (v := ?v3_11) rfl (by kernel_rfl) (by kernel_rfl) (by kernel_rfl) (fun _ _ _ h => h) (Or.inl ⟨by rfl, ?y3_11⟩) (by assumption) ?r3_11
            case' y3_11 => (intro w hSw; (try dsimp only at hSw); (try have hlS := HLK.out _ hSw); have hcS := kcell hSw; clear hSw; go_simp; try with_reducible rfl)
            try simp only [Act.put, zA, zB, zC, zD, zE, zF]
            refine wpAnyH_take (i := 11) (v := ?v3_12) rfl (by kernel_rfl) (by kernel_rfl) (by kernel_rfl) (fun _ _ _ h => h) (Or.inl ⟨by rfl, ?y3_12⟩) (by assumption) ?r3_12
            case' y3_12 => (intro w hSw; (try dsimp only at hSw); (try have hlS := HLK.out _ hSw); have hcS := kcell hSw; clear hSw; go_simp; try with_reducible rfl)
            try simp only [Act.put, zA, zB, zC, zD, zE, zF]
            refine wpAnyH_take (i := 12) (v := ?v3_13) rfl (by kernel_rfl) (by kernel_rfl) (by kernel_rfl) (fun _ _ _ h => h) (Or.inl ⟨by rfl, ?y3_13⟩) (by assumption) ?r3_13
            case' y3_13 => (intro w hSw; (try dsimp only at hSw); (try have hlS := HLK.out _ hSw); have hcS := kcell hSw; clear hSw; go_simp; try with_reducible rfl)
            try simp only [Act.put, zA, zB, zC, zD, zE, zF]
            refine wpAnyH_take (i := 13) (v := ?v3_14) rfl (by kernel_rfl) (by kernel_rfl) (by kernel_rfl) (fun _ _ _ h => h) (Or.inl ⟨by rfl, ?y3_14⟩) (by assumption) ?r3_14
            case' y3_14 => (intro w hSw; (try dsimp only at hSw); (try have hlS := HLK.out _ hSw); have hcS := kcell hSw; clear hSw; go_simp; try with_reducible rfl)
            try simp only [Act.put, zA, zB, zC, zD, zE, zF]
            refine wpAnyH_take (i := 14) (v := ?v3_15) rfl (by kernel_rfl) (by kernel_rfl) (by kernel_rfl) (fun _ _ _ h => h) (Or.inl ⟨by rfl, ?y3_15⟩) (by assumption) ?r3_15
            case' y3_15 => (intro w hSw; (try dsimp only at hSw); (try have hlS := HLK.out _ hSw); have hcS := kcell hSw; clear hSw; go_simp; try with_reducible rfl)
            try simp only [Act.put, zA, zB, zC, zD, zE, zF]
            refine wpAnyH_ready (rs := [15]) (by kernel_rfl) (by simp) ?_
            refine (AllReadyH.cons rfl (fun K hK => ?_) AllReadyH.nil)
            go_simp
            ((go_at_call 167; refine HJO.out.mono ?_; rintro e w2 ⟨m, F2, rfl, r1, r2, r3⟩; have R1 : Hid (OpR 1 wr F1 w2 F2) := OpR.after_below hop.out.st.here (by repeat (first | exact Below.refl _ _ | assumption | refine Below.drew ?_ | refine Below.drewN ?_ _ | refine Below.allocT ?_ (Nat.le_refl _) _ | refine Below.setCell ?_ (by simp <;> omega) _ | refine Below.to ?_ (by assumption) (Nat.le_refl _))) r1; have R3 := hide r3; have hKeep : Hid (Keeps (SF F1) wr w2) := R1.out.st.keep; clear r1 r3))
            (try dsimp only)
            refine hK.out _ _ ?_ (fun hNext => ?_)
            · try dsimp only
              (repeat (first | (with_reducible exact Keeps.refl _ _) | exact hKeep.out | exact hKeepS.out _ | assumption | (with_reducible refine Keeps.drew ?_) | (with_reducible refine Keeps.drewN ?_ _) | (with_reducible refine Keeps.alloc ?_ _) | (with_reducible refine Keeps.setCell ?_ (.inl (by first | exact .inl rfl | exact .inr rfl)) _)))
            clear hK K hHeld
            have hHeld := hNext
            clear hNext
            (try dsimp only at hHeld)
            try simp only [Act.put, zA, zB, zC, zD, zE, zF]
            refine wpAnyH_take (i := 16) (v := ?v3_17) rfl (by kernel_rfl) (by kernel_rfl) (by kernel_rfl) (fun _ _ _ h => h) (Or.inl ⟨by rfl, ?y3_17⟩) (by assumption) ?r3_17
            case' y3_17 => (intro w hSw; (try dsimp only at hSw); (try have hlS := HLK.out _ hSw); have hcS := kcell hSw; clear hSw; go_simp; try with_reducible rfl)
            try simp only [Act.put, zA, zB, zC, zD, zE, zF]
            refine wpAnyH_done (by kernel_rfl) ?_ _
            go_wp2_with fail
            go_meet
            exact ⟨m, F2, rfl, R1.out, r2, fun v => by rw [R3.out v, rev_top2 _ HP.out, HXY.out.1, HXY.out.2]; rfl⟩
        have o7 : 0 ≤ o := by omega
        have k1 : (o == -1) = false := by simpa using o1
        have k2 : (o == -2) = false := by simpa using o2
        have k3 : (o == -3) = false := by simpa using o3
        have k4 : (o == -4) = false := by simp; omega
        have k5 : (o == -5) = false := by simp; omega
        have k6 : (o == -6) = false := by simp; omega
        obtain ⟨x, rfl⟩ : ∃ x : Nat, o = (x : Int) := ⟨o.toNat, by omega⟩
        have hli := literal_any F1 x true wr hop.out.st.here (by have := HN1.out; omega) HRM.out
        rw [hop.out.st.p] at hli
        have HLI := hide hli
        have HO : Hid (¬ (x : Int) = -1 ∧ ¬ (x : Int) = -2 ∧ ¬ (x : Int) = -3 ∧ ¬ ((x : Int) = -4 ∨ (x : Int) = -5 ∨ (x : Int) = -6)) := ⟨o1, o2, o3, o456⟩
        clear hli o1 o2 o3 o456
        go_wp2_with (go_at_call 173; refine HLI.out.mono ?_; rintro e w2 ⟨m, F2, rfl, r1, r2, r3⟩; have R1 := hide r1; have R3 := hide r3; clear r1 r3)
        go_meet
        exact ⟨m, F2, rfl, R1.out, r2, fun v => by
          obtain ⟨h1, h2, h3, h4⟩ := HO.out
          rw [R3.out v]
          unfold stp arO
          rw [if_neg h1, if_neg h2, if_neg h3, if_neg (fun e => h4 (.inl e)), if_neg (fun e => h4 (.inr (.inl e))), if_neg (fun e => h4 (.inr (.inr e))), if_neg h3, if_neg h4]
          simp⟩
      case rest =>
        obtain ⟨m, F2, rfl, hR, hml, hstp⟩ := hcut
        obtain ⟨r, hrn⟩ : ∃ r, S.length = r + arO o := ⟨w1, HSN.out⟩
        have hS2 := hS.out.step hR.out.st
        have hcut := hS2.cut (r := r) (by omega)
        have hb2 := hR.out.st.below hop.out.st.here (by rw [hop.out.st.ba]; have := hop.out.st.keep.size; omega)
        rw [hop.out.st.ba] at hb2
        have d0 : wc.cell? ⟨b, off + q, none⟩ = some (.int .i64 o) := (hb2.cell (p := ⟨b, off + q, none⟩) hbb).trans c0
        have hbc : b < wc.heap.size := by have := hR.out.st.keep.size; omega
        have hr1 : (S.length : Int) - (arO o : Int) = (r : Int) := by omega
        have hr2 : (r : Int) ≤ 100 := by omega
        have hr3 : r ≤ cap1 := by omega
        have hr4 : (r : Int) ≤ (cap1 : Int) := by omega
        have hcap3 : (cap1 : Int) ≤ 9223372036854775807 := by have := hcap2; unfold maxLen at this; omega
        have hwc : w.heap.size ≤ wc.heap.size := by have := hR.out.st.keep.size; have := hop.out.st.keep.size; omega
        have HS2 := hide hS2
        have HCUT := hide hcut
        have HRN := hide hrn
        have HRC := hide hR.out.st.here
        have gi4 : (arO o : Int) ≤ 2 := by unfold arO; split; omega; split <;> omega
        clear hS2 hcut hb2 hrn c0
        go_wp2_with (first | (go_at_call 171; refine (operands_any _ _).mono ?_; rintro e w2 ⟨rfl, rfl⟩) | (at_builtin; go_must (refine wpList_append_own_at _ rfl (.tmp 69) (.tmp 71) _ rfl w.heap.size 3 i0 _ 1 8 Try.underlying41 hi0 hz0 hz1 hz2 rfl (by omega) _ _ _ rfl (HCUT.out.alloc _) ⟨wc.heap.size, 0, none⟩ 1 1 [.int .i64 m] rfl rfl (World.news_of_block (heap_alloc_new wc _)) (by simp [Value.oneCell']) (by unfold maxLen; omega) (by omega) (by simp; omega) ?_); intro v1 w1 hown1 hg1 _ hat1; have HOWN := hide hown1; have HG1 := hide hg1; have HAT := hide hat1; clear hown1 hg1 hat1))
        have hown2 : w1.ownsRow w.heap.size 3 1 v1 (S.take r ++ [m]).length ((S.take r ++ [m]).map fun (n : Nat) => Value.int .i64 n) := by
          have h1 := HOWN.out
          have h2 : (S.take r ++ [m]).length = r + 1 := by simp; omega
          rw [h2, List.map_append]
          exact h1
        have hT : ∀ g, v1.ownBlock = some g → ¬ SF F2 g := by
          intro g hg hs
          rcases HAT.out with e | e
          · exact HS2.out.2 g (by rw [← hg, e]; cases A1 <;> rfl) hs
          · rw [hg] at e
            injection e with e
            have := HRC.out.slt hs
            simp at e
            omega
        have hkeep : Keeps (fun i => (Value.slice A1 r cap1).ownBlock = some i) wc w1 :=
          Keeps.trans ((Keeps.refl _ wc).alloc _) (Keeps.of_grown HG1.out (fun k hk => hk)) (fun _ _ h => h)
        have hT2 : ∀ i, (Value.slice A1 r cap1).ownBlock = some i → w.heap.size ≤ i ∧ ¬ SF F2 i := by
          intro i hi
          refine ⟨(HS2.out.1.lt i ?_).1, HS2.out.2 i ?_⟩
          · rw [← hi]; cases A1 <;> rfl
          · rw [← hi]; cases A1 <;> rfl
        have hop2 : OpR (f.length - q) w F w1 F2 := by
          have h1 := hop.out.trans hR.out
          exact ((h1.mono (l := f.length - q) (by omega)).own hkeep (fun i hi => (hT2 i hi).1) (fun i hs hi => (hT2 i hi).2 hs))
        have HOW2 := hide hown2
        have HT := hide hT
        have HOP2 := hide hop2
        clear hown2 hT hkeep hT2 hop2
        go_wp2_with fail
        go_roundw
        case rel =>
          refine ⟨q, S.take r ++ [m], F2, by omega, by go_num, ⟨HOW2.out, HT.out⟩, HOP2.out, fun n hn => ?_, fun v => ?_⟩
          · rcases List.mem_append.1 hn with h1 | h1
            · have h2 := hSl.out n (List.mem_of_mem_take h1)
              have := hR.out.st.le
              omega
            · rw [List.mem_singleton] at h1
              rw [h1]; exact hml
          · have hq1 : q < f.length := by omega
            rw [drop_getD hq1, evS_cons, HOQ.out, ← hev.out v, hstp.out v, List.map_append, List.reverse_append]
            show [ev F2.ks v m] ++ _ = _
            rw [List.singleton_append]
            congr 1
            rw [← List.map_reverse, ← List.map_reverse, ← List.map_drop, List.drop_reverse]
            have : S.length - arO o = r := by have := HRN.out; omega
            rw [this]
            refine List.map_congr_left fun n hn => ?_
            exact hR.out.st.ev hop.out.st.here.wf (hSl.out n (List.mem_of_mem_take (List.mem_reverse.1 hn))) v
        case measure => simp [intOf]
end Go.Proofs.Ytmabfnddedffoaa
/- The node of formulas that all have to hold: walk. -/
namespace Go.Proofs.Ytmabfnddedffoaa
open Go.RowKit
open Go.Maps (Keyed)
set_option linter.unusedVariables false
set_option linter.unusedSimpArgs false
/-- The slice v holds the formulas fs, all below block B. -/
def Forms (w : World) (B : Nat) (v : Value) (fs : List (List Int)) : Prop := ∃ fv : Nat → Value, Sl w B 1 v fs.length (fun i _ => fv i) ∧ ∀ i, i < fs.length → Ints w B (fv i) (fs.getD i [])
theorem Ints.below {w w' : World} {B : Nat} {v : Value} {f : List Int} (h : Ints w B v f) (hb : Below B w w') : Ints w' B v f := Sl.below h hb
theorem Ints.more {w : World} {B B' : Nat} {v : Value} {f : List Int} (h : Ints w B v f) (hB : B ≤ B') : Ints w B' v f := Sl.more h hB
theorem Forms.below {w w' : World} {B : Nat} {v : Value} {fs : List (List Int)} (h : Forms w B v fs) (hb : Below B w w') : Forms w' B v fs := by
  obtain ⟨fv, h1, h2⟩ := h
  exact ⟨fv, Sl.below h1 hb, fun i hi => Sl.below (h2 i hi) hb⟩
theorem Forms.more {w : World} {B B' : Nat} {v : Value} {fs : List (List Int)} (h : Forms w B v fs) (hB : B ≤ B') : Forms w B' v fs := by
  obtain ⟨fv, h1, h2⟩ := h
  exact ⟨fv, Sl.more h1 hB, fun i hi => Sl.more (h2 i hi) hB⟩
theorem allF_snoc (v : Nat → Bool) (l : List (List Int)) (f : List Int) : allF v (l ++ [f]) = (allF v l && evF1 v f) := by simp [allF]
theorem getD_mem {α : Type} {l : List α} {z : α} {k : Nat} (h : k < l.length) : l.getD k z ∈ l := by
  rw [List.getD_eq_getElem?_getD, List.getElem?_eq_getElem h]; exact List.getElem_mem _
theorem take_getD {α : Type} {l : List α} {z : α} {k : Nat} (h : k < l.length) : l.take (k + 1) = l.take k ++ [l.getD k z] := by
  rw [List.take_succ_eq_append_getElem h, List.getD_eq_getElem?_getD, List.getElem?_eq_getElem h]; rfl
set_option maxRecDepth 100000 in
set_option maxHeartbeats 1000000 in
theorem all_any (F : Fo) (fs : List (List Int)) (fv : Value) (w : World) (h : FoAt w F) (hB : F.base ≤ w.heap.size) (hv : ∀ f ∈ fs, validF F.N f = true) (hf : Forms w F.base fv fs) (hn : fs.length ≤ 1000) (hr : Room F (102 * fs.length)) :
    Calls Try.prog 149 #[.pointer (some ⟨F.p, 0, none⟩), fv] w
      fun e w' => ∃ m F', e = .returned (.int .i64 (m : Nat)) ∧ OpR (102 * fs.length) w F w' F' ∧ m < F'.ks.length ∧ ∀ v, ev F'.ks v m = allF v fs := by
  obtain ⟨fvs, ⟨A, b, off, cap, rfl, hnc, hA, hc⟩, hfs⟩ := hf
  have H := hide h
  have HV := hide hv
  have HR := hide hr
  have HC := hide hc
  have HA := hide hA
  have HFS := hide hfs
  have h2 := h.wf.two
  clear h hv hr hc hA hfs
  go_enter Try.func149, Try.ntmps149
  go_wp2
  go_loopw [5, 10] (fun n i wr => ∃ (k m : Nat) (F1 : Fo), k ≤ fs.length ∧ i = .int .i64 k ∧ n = .int .i64 m ∧ Hid (OpR (102 * k) w F wr F1) ∧ m < F1.ks.length ∧ Hid (∀ v, ev F1.ks v m = allF v (fs.take k))) (fun _ i _ => fs.length - (intOf i).toNat)
  case atStart => exact ⟨0, 1, F, Nat.zero_le _, rfl, rfl, OpR.refl H.out _, by omega, fun v => rfl⟩
  case round =>
    obtain ⟨k, m, F1, hk, rfl, rfl, hop, hm, hev⟩ := hrel
    by_cases hlt : k < fs.length
    · obtain ⟨rfl, hbb⟩ : A = some ⟨b, off, none⟩ ∧ b < F.base := by
        rcases HA.out with h | h
        · exact h
        · omega
      obtain ⟨f, hf⟩ : ∃ f, fs.getD k [] = f := ⟨_, rfl⟩
      have hfv : validF F.N f = true := HV.out f (by rw [← hf]; exact getD_mem hlt)
      have hbl := hop.out.st.below H.out hB
      have c0 : wr.cell? ⟨b, off + k, none⟩ = some (fvs k) := by
        have h1 := HC.out k 0 hlt (by omega)
        rw [Nat.mul_one, Nat.add_zero] at h1
        exact (hbl.cell (p := ⟨b, off + k, none⟩) hbb).trans h1
      have hin : Ints wr F.base (fvs k) f := by
        have := (HFS.out k hlt).below hbl
        rwa [hf] at this
      obtain ⟨Af, capf, hfe⟩ := Sl.form hin
      have hr1 : Room F1 102 := Room.step (k := 102 * k) (HR.out.mono (by omega)) hop.out
      have hl100 := (validF_pos hfv).2
      have hle0 := hop.out.st.keep.size
      have hgr := grow_any F1 f (fvs k) wr hop.out.st.here (by rw [hop.out.st.ba]; omega) (by rw [hop.out.st.N]; exact hfv) (by rw [hop.out.st.ba]; exact hin) (hr1.mono (by omega))
      rw [hop.out.st.p] at hgr
      rw [hfe] at hgr c0
      have HGR := hide hgr
      have HF := hide hf
      have HFV := hide hfv
      have HR1 := hide hr1
      clear hf hfv hbl hin hfe hr1 hgr
      go_wp2_with (go_at_call 161; refine HGR.out.mono ?_; rintro e w1 ⟨g, F2, rfl, r1, r2, r3⟩; have R1 := hide r1; have R3 := hide r3; clear r1 r3)
      have hle1 := R1.out.st.le
      have hnd : NodesAt (w1.alloc (.cells #[.int .i64 m, .int .i64 g] 3)) w1.heap.size [m, g] := heap_new _ _ _ rfl
      have hF2 : FoAt (w1.alloc (.cells #[.int .i64 m, .int .i64 g] 3)) F2 := R1.out.st.here.below ((Below.refl _ _).alloc (Nat.le_refl _) _)
      have hnd2 : ¬ SF F2 w1.heap.size := fun e => by have := R1.out.st.here.slt e; omega
      have hr2 : Room F2 2 := Room.step (k := f.length) (HR1.out.mono (by omega)) R1.out
      have han := and_any F2 w1.heap.size [m, g] _ hF2 (by intro n hn; simp at hn; rcases hn with rfl | rfl <;> omega) hnd hnd2 (by simp) hr2
      rw [R1.out.st.p, hop.out.st.p] at han
      have HAN := hide han
      clear hnd hF2 hnd2 hr2 han
      go_wp2_with (go_at_call 148; refine HAN.out.mono ?_; rintro e w2 ⟨x, F3, rfl, r1, r2', r3⟩; have R4 : Hid (OpR 2 w1 F2 w2 F3) := OpR.after_below R1.out.st.here ((Below.refl _ _).alloc (Nat.le_refl _) _) r1; have R6 := hide r3; clear r1 r3)
      go_roundw
      case rel =>
        refine ⟨k + 1, x, F3, by omega, by go_num, rfl, ((hop.out.trans R1.out).trans R4.out).mono (by omega), r2', fun v => ?_⟩
        rw [R6.out v, take_getD (z := []) hlt, allF_snoc, HF.out, List.all_cons, List.all_cons, List.all_nil, R3.out v, R1.out.st.ev hop.out.st.here.wf hm, hev.out v]
        simp
      case measure => simp [intOf]; omega
    · go_wp2
      go_ret
      obtain rfl : k = fs.length := by omega
      exact ⟨m, F1, rfl, hop.out, hm, fun v => by rw [hev.out v, List.take_length]⟩
theorem ret_int {k : IntKind} {a b : Int} (h : a = b) : Ending.returned (.int k a) = .returned (.int k b) := by rw [h]
end Go.Proofs.Ytmabfnddedffoaa
/- Names: walks. -/
namespace Go.Proofs.Ytmabfnddedffoaa
open Go.RowKit
set_option linter.unusedVariables false
set_option linter.unusedSimpArgs false
theorem getD_str (s : ByteArray) (k : Nat) (h : k < s.size) : s.data.toList.getD k 0 = s[k] := by
  have : k < s.data.size := h
  simp only [List.getD_eq_getElem?_getD, Array.getElem?_toList, Array.getElem?_eq_getElem this]
  rfl
theorem alN_of {c : UInt8} (h : (97 ≤ (c.toNat : Int) ∧ (c.toNat : Int) ≤ 122) ∨ (48 ≤ (c.toNat : Int) ∧ (c.toNat : Int) ≤ 57)) : alN c = true := by
  unfold alN
  simp only [Bool.or_eq_true, Bool.and_eq_true, decide_eq_true_eq]
  omega
theorem alN_not {c : UInt8} (h : ¬ ((97 ≤ (c.toNat : Int) ∧ (c.toNat : Int) ≤ 122) ∨ (48 ≤ (c.toNat : Int) ∧ (c.toNat : Int) ≤ 57))) : alN c = false := by
  have : ¬ alN c = true := by
    unfold alN
    simp only [Bool.or_eq_true, Bool.and_eq_true, decide_eq_true_eq]
    omega
  simpa using this
set_option maxRecDepth 100000 in
set_option maxHeartbeats 1000000 in
theorem word_any (s : ByteArray) (w : World) (hs : s.size ≤ maxLen) :
    Calls Try.prog 155 #[.string s] w fun e w' => e = .returned (.int .i64 (wordN s.data.toList : Nat)) ∧ w = w' := by
  unfold maxLen at hs
  go_enter Try.func155, Try.ntmps155
  go_wp2
  go_loop [7] (fun i => ∃ k : Nat, k ≤ s.size ∧ i = .int .i64 k ∧ Hid (∀ j, j < k → alN (s.data.toList.getD j 0) = true)) (fun i => s.size - (intOf i).toNat)
  case atStart => exact ⟨0, Nat.zero_le _, rfl, fun j hj => by omega⟩
  case round =>
    obtain ⟨k, hk, rfl, hall⟩ := hrel
    by_cases hlt : k < s.size
    · have hgd := getD_str s k hlt
      have hyes : alN s[k] = true → Hid (∀ j, j < k + 1 → alN (s.data.toList.getD j 0) = true) := fun h j hj => by
        rcases Nat.lt_or_ge j k with h1 | h1
        · exact hall.out j h1
        · rw [show j = k from by omega, hgd]; exact h
      have hno : alN s[k] = false → wordN s.data.toList = k := fun h => wordN_at _ k (by simpa using hlt) hall.out (by rw [hgd]; exact h)
      have HY := hide hyes
      have HN := hide hno
      clear hgd hyes hno
      by_cases hc : (97 ≤ (s[k].toNat : Int) ∧ (s[k].toNat : Int) ≤ 122) ∨ (48 ≤ (s[k].toNat : Int) ∧ (s[k].toNat : Int) ≤ 57)
      · have HC := hide (alN_of hc)
        rcases hc with ⟨h1, h2⟩ | ⟨h1, h2⟩
        · have h3 : ¬ (s[k].toNat : Int) < 97 := by omega
          have h4 : ¬ (122 : Int) < (s[k].toNat : Int) := by omega
          go_wp2
          go_round
          case rel => exact ⟨k + 1, by omega, by go_num, HY.out HC.out⟩
          case measure => simp [intOf]; omega
        · have h3 : (s[k].toNat : Int) < 97 := by omega
          have h4 : ¬ (s[k].toNat : Int) < 48 := by omega
          have h5 : ¬ (57 : Int) < (s[k].toNat : Int) := by omega
          go_wp2
          go_round
          case rel => exact ⟨k + 1, by omega, by go_num, HY.out HC.out⟩
          case measure => simp [intOf]; omega
      · have HC := hide (alN_not hc)
        by_cases h1 : (s[k].toNat : Int) < 97
        · by_cases h2 : (s[k].toNat : Int) < 48
          · clear hc
            go_wp2
            go_ret
            exact ⟨by rw [HN.out HC.out]; rfl, rfl⟩
          · have h3 : (57 : Int) < (s[k].toNat : Int) := by omega
            clear hc
            go_wp2
            go_ret
            exact ⟨by rw [HN.out HC.out]; rfl, rfl⟩
        · have h2 : (122 : Int) < (s[k].toNat : Int) := by omega
          have h3 : ¬ (s[k].toNat : Int) < 48 := by omega
          have h4 : (57 : Int) < (s[k].toNat : Int) := by omega
          clear hc
          go_wp2
          go_ret
          exact ⟨by rw [HN.out HC.out]; rfl, rfl⟩
    · have : k = s.size := by omega
      subst this
      go_wp2
      go_ret
      exact ⟨by rw [wordN_all _ (by simpa using hall.out)]; simp, rfl⟩
theorem smN_of {c : UInt8} (h1 : 97 ≤ (c.toNat : Int)) (h2 : (c.toNat : Int) ≤ 122) : smN c = true := by
  unfold smN
  simp only [Bool.and_eq_true, decide_eq_true_eq]
  omega
theorem smN_not {c : UInt8} (h : (c.toNat : Int) < 97 ∨ 122 < (c.toNat : Int)) : smN c = false := by
  have : ¬ smN c = true := by
    unfold smN
    simp only [Bool.and_eq_true, decide_eq_true_eq]
    omega
  simpa using this
theorem ret_bool {a b : Bool} (h : a = b) : Ending.returned (.bool a) = .returned (.bool b) := by rw [h]
theorem str_ne {s : ByteArray} {l : List UInt8} (h : s.data.toList ≠ l) : (s.toList == l) = false ∧ ¬ s.toList = l := by
  rw [← ByteArray.toList_eq] at h
  exact ⟨by simpa using h, h⟩
set_option maxRecDepth 100000 in
set_option maxHeartbeats 1000000 in
theorem named_any (s : ByteArray) (w : World) (hs : s.size ≤ maxLen) :
    Calls Try.prog 128 #[.string s] w fun e w' => e = .returned (.bool (namedB s.data.toList)) ∧ w = w' := by
  have hl : s.data.toList.length = s.size := by simp
  by_cases h1 : s.size < 1
  · have hf : namedB s.data.toList = false := by
      unfold namedB; rw [hl]; simp; omega
    have HF := hide hf
    have h2 : (s.size : Int) < 1 := by omega
    clear hf hl h1
    go_enter Try.func128, Try.ntmps128
    go_wp2
    go_ret
    exact ⟨ret_bool HF.out.symm, rfl⟩
  by_cases h2 : 8 < s.size
  · have hf : namedB s.data.toList = false := by
      unfold namedB; rw [hl]; simp; omega
    have HF := hide hf
    have h3 : (8 : Int) < (s.size : Int) := by omega
    have h4 : ¬ (s.size : Int) < 1 := by omega
    clear hf hl h1 h2
    go_enter Try.func128, Try.ntmps128
    go_wp2
    go_ret
    exact ⟨ret_bool HF.out.symm, rfl⟩
  have h3 : ¬ (s.size : Int) < 1 := by omega
  have h4 : ¬ (8 : Int) < (s.size : Int) := by omega
  have h0 : 0 < s.size := by omega
  have hg := getD_str s 0 h0
  by_cases hsm : smN s[0] = true
  · have hb : 97 ≤ (s[0].toNat : Int) ∧ (s[0].toNat : Int) ≤ 122 := by
      unfold smN at hsm
      simp only [Bool.and_eq_true, decide_eq_true_eq] at hsm
      omega
    obtain ⟨hb1, hb2⟩ := hb
    have hb3 : ¬ (s[0].toNat : Int) < 97 := by omega
    have hb4 : ¬ (122 : Int) < (s[0].toNat : Int) := by omega
    by_cases hy : s.data.toList = [121, 101, 115]
    · have hf : namedB s.data.toList = false := by unfold namedB; rw [hy]; rfl
      have HF := hide hf
      have hse : s = ⟨#[121, 101, 115]⟩ := by
        obtain ⟨d⟩ := s
        congr 1
        exact Array.toList_inj.1 hy
      subst hse
      clear hf hy hl hg hsm
      go_enter Try.func128, Try.ntmps128
      go_wp2
      go_ret
      exact ⟨ret_bool HF.out.symm, rfl⟩
    by_cases hn : s.data.toList = [110, 111]
    · have hf : namedB s.data.toList = false := by unfold namedB; rw [hn]; rfl
      have HF := hide hf
      have hse : s = ⟨#[110, 111]⟩ := by
        obtain ⟨d⟩ := s
        congr 1
        exact Array.toList_inj.1 hn
      subst hse
      clear hf hy hn hl hg hsm
      go_enter Try.func128, Try.ntmps128
      go_wp2
      go_ret
      exact ⟨ret_bool HF.out.symm, rfl⟩
    have hf : namedB s.data.toList = decide ((wordN s.data.toList : Int) = (s.size : Int)) := by
      unfold namedB
      rw [hl, hg, hsm]
      have e1 : decide (1 ≤ s.size) = true := by simp; omega
      have e2 : decide (s.size ≤ 8) = true := by simp; omega
      have e3 : decide (s.data.toList ≠ [121, 101, 115]) = true := by simpa using hy
      have e4 : decide (s.data.toList ≠ [110, 111]) = true := by simpa using hn
      rw [e1, e2, e3, e4]
      simp only [Bool.and_self, Bool.true_and]
      congr 1
      exact propext ⟨fun h => by omega, fun h => by omega⟩
    have HF := hide hf
    obtain ⟨k1, _⟩ := str_ne hy
    obtain ⟨k2, _⟩ := str_ne hn
    clear hf hy hn hl hg hsm
    go_enter Try.func128, Try.ntmps128
    go_wp2_with (go_at_call 155; refine (word_any s _ hs).mono ?_; rintro e w1 ⟨rfl, rfl⟩)
    go_ret
    exact ⟨ret_bool (by rw [HF.out]; rfl), rfl⟩
  · have hf : namedB s.data.toList = false := by
      unfold namedB; rw [hg]
      have : smN s[0] = false := by simpa using hsm
      rw [this]; simp
    have HF := hide hf
    have hb : (s[0].toNat : Int) < 97 ∨ ¬ (s[0].toNat : Int) < 97 ∧ 122 < (s[0].toNat : Int) := by
      unfold smN at hsm
      simp only [Bool.and_eq_true, decide_eq_true_eq] at hsm
      omega
    clear hf hl hg hsm
    rcases hb with hb | ⟨hb, hb2⟩
    · go_enter Try.func128, Try.ntmps128
      go_wp2
      go_ret
      exact ⟨ret_bool HF.out.symm, rfl⟩
    · go_enter Try.func128, Try.ntmps128
      go_wp2
      go_ret
      exact ⟨ret_bool HF.out.symm, rfl⟩
/-- The slice v holds the texts ns, below block B. -/
def Names (w : World) (B : Nat) (v : Value) (ns : List ByteArray) : Prop := Sl w B 1 v ns.length (fun i _ => .string (ns.getD i ByteArray.empty))
theorem Names.below {w w' : World} {B : Nat} {v : Value} {f : List ByteArray} (h : Names w B v f) (hb : Below B w w') : Names w' B v f := Sl.below h hb
theorem Names.more {w : World} {B B' : Nat} {v : Value} {f : List ByteArray} (h : Names w B v f) (hB : B ≤ B') : Names w B' v f := Sl.more h hB
theorem Names.take {w : World} {B : Nat} {A : Option Addr} {n cap : Nat} {f : List ByteArray} (h : Names w B (.slice A n cap) f) {k : Nat} (hk : k ≤ f.length) : Names w B (.slice A k cap) (f.take k) := by
  obtain ⟨A', b, off, cap', h1, h2, h3, h4⟩ := h
  injection h1 with e1 e2 e3
  subst e1 e3
  have hl : (f.take k).length = k := by simp; omega
  refine ⟨A, b, off, cap, by rw [hl], by omega, ?_, fun i j hi hj => ?_⟩
  · rcases h3 with h3 | h3
    · exact .inl h3
    · exact .inr (by omega)
  · rw [h4 i j (by omega) hj]
    congr 2
    rw [hl] at hi
    simp [List.getD_eq_getElem?_getD, hi]
set_option maxRecDepth 100000 in
theorem indexS_any (ns : List ByteArray) (s : ByteArray) (v : Value) (B : Nat) (w : World) (hm : ns.length ≤ maxLen) (h : Names w B v ns) :
    Calls Try.prog 156 #[v, .string s] w fun e w' => e = .returned (.int .i64 (idxI (fun x => x.toList == s.toList) ns)) ∧ w = w' := by
  unfold maxLen at hm
  obtain ⟨A, b, off, cap, rfl, hnc, hA, hc⟩ := h
  have HC := hide hc
  have HA := hide hA
  clear hc hA
  go_enter Try.func156, Try.ntmps156
  go_wp2
  go_loop [8] (fun i => ∃ k : Nat, k ≤ ns.length ∧ i = .int .i64 k ∧ Hid (∀ j, j < k → ((ns.getD j ByteArray.empty).toList == s.toList) = false)) (fun i => ns.length - (intOf i).toNat)
  case atStart => exact ⟨0, Nat.zero_le _, rfl, fun j hj => by omega⟩
  case round =>
    obtain ⟨k, hk, rfl, hall⟩ := hrel
    by_cases hlt : k < ns.length
    · obtain ⟨rfl, hbb⟩ : A = some ⟨b, off, none⟩ ∧ b < B := by
        rcases HA.out with h | h
        · exact h
        · omega
      obtain ⟨x, hx⟩ : ∃ x, ns.getD k ByteArray.empty = x := ⟨_, rfl⟩
      have c0 : w.cell? ⟨b, off + k, none⟩ = some (.string x) := by
        have h1 := HC.out k 0 hlt (by omega)
        rw [Nat.mul_one, Nat.add_zero, hx] at h1
        exact h1
      have HX := hide hx
      clear hx
      by_cases he : x.toList = s.toList
      · have he1 : (s.toList == x.toList) = true := by simp [he]
        have HE := hide he
        clear he
        go_wp2
        go_ret
        exact ⟨ret_int (idxI_at _ ByteArray.empty ns k hall.out hlt (by rw [HX.out, HE.out]; simp)).symm, rfl⟩
      · have he1 : (s.toList == x.toList) = false := by simpa using fun e => he e.symm
        have he2 : ¬ s.toList = x.toList := fun e => he e.symm
        have HE := hide he
        clear he
        go_wp2
        go_round
        case rel => exact ⟨k + 1, by omega, by go_num, fun j hj => by
            rcases Nat.lt_or_ge j k with h | h
            · exact hall.out j h
            · rw [show j = k from by omega, HX.out]; simpa using HE.out⟩
        case measure => simp [intOf]; omega
    · go_wp2
      go_ret
      exact ⟨ret_int (idxI_none _ ByteArray.empty ns (fun j hj => hall.out j (by omega))).symm, rfl⟩
set_option maxRecDepth 100000 in
theorem containsS_any (ns : List ByteArray) (s : ByteArray) (v : Value) (B : Nat) (w : World) (hm : ns.length ≤ maxLen) (h : Names w B v ns) :
    Calls Try.prog 129 #[v, .string s] w fun e w' => e = .returned (.bool ((ns.map fun x => x.data.toList).contains s.data.toList)) ∧ w = w' := by
  have he : (ns.map fun x => x.data.toList).contains s.data.toList = decide (0 ≤ idxI (fun x => x.toList == s.toList) ns) := by
    rw [idxI_any, Bool.eq_iff_iff]
    simp [ByteArray.toList_eq]
  have HE := hide he
  have H := hide h
  clear he h
  go_enter Try.func129, Try.ntmps129
  go_wp2_with (go_at_call 156; refine (indexS_any ns s v B _ hm H.out).mono ?_; rintro e w1 ⟨rfl, rfl⟩)
  go_ret
  exact ⟨ret_bool HE.out.symm, rfl⟩
end Go.Proofs.Ytmabfnddedffoaa
/- Valid formulas and models: walks. -/
namespace Go.Proofs.Ytmabfnddedffoaa
open Go.RowKit
set_option linter.unusedVariables false
set_option linter.unusedSimpArgs false
theorem wrap_zero {w : Nat} (h : (w : Int) ≤ 9223372036854775808) : (wrap64 (w : Int) == 0) = decide (w = 0) := by
  rcases (by omega : (w : Int) ≤ 9223372036854775807 ∨ (w : Int) = 9223372036854775808) with h1 | h1
  · rw [IntWalk.wrap64_in _ (by omega)]
    rw [Bool.eq_iff_iff]; simp
  · rw [h1]
    have : decide (w = 0) = false := by simp; omega
    rw [this]
    unfold wrap64
    rfl
set_option maxRecDepth 100000 in
set_option maxHeartbeats 1000000 in
theorem valid_any (f : List Int) (N : Nat) (v : Value) (B : Nat) (w : World) (hm : f.length ≤ maxLen) (h : Ints w B v f) :
    Calls Try.prog 159 #[v, .int .i64 N] w fun e w' => e = .returned (.bool (validF N f)) ∧ w = w' := by
  unfold maxLen at hm
  obtain ⟨A, b, off, cap, rfl, hnc, hA, hc⟩ := h
  have HC := hide hc
  have HA := hide hA
  have hN0 : (0 : Int) ≤ (N : Int) := by omega
  clear hc hA
  go_enter Try.func159, Try.ntmps159
  go_wp2
  go_loop [5, 10] (fun x i => ∃ k c : Nat, k ≤ f.length ∧ c ≤ k + 1 ∧ i = .int .i64 k ∧ x = .int .i64 (wrap64 (c : Int)) ∧ Hid (vld N 1 f = vld N c (f.drop k))) (fun _ i => f.length - (intOf i).toNat)
  case atStart => exact ⟨0, 1, Nat.zero_le _, by omega, rfl, by rw [IntWalk.wrap64_in _ (by omega)]; rfl, rfl⟩
  case round =>
    obtain ⟨k, c, hk, hck, rfl, rfl, hv⟩ := hrel
    by_cases hlt : k < f.length
    · obtain ⟨rfl, hbb⟩ : A = some ⟨b, off, none⟩ ∧ b < B := by
        rcases HA.out with h | h
        · exact h
        · omega
      obtain ⟨o, ho⟩ : ∃ o, f.getD k 0 = o := ⟨_, rfl⟩
      have c0 : w.cell? ⟨b, off + k, none⟩ = some (.int .i64 o) := by
        have h1 := HC.out k 0 hlt (by omega)
        rw [Nat.mul_one, Nat.add_zero, ho] at h1
        exact h1
      have hv2 := hv.out
      rw [drop_getD hlt, ho] at hv2
      have HV2 := hide hv2
      rw [IntWalk.wrap64_in _ (by omega)]
      have hc0 : (0 : Int) ≤ (c : Int) := by omega
      have hbad : vld N c (o :: f.drop (k + 1)) = false → validF N f = false := fun h => by
        unfold validF; rw [HV2.out, h]; rfl
      have HBAD := hide hbad
      clear hv2 ho hbad
      match c, hck, HV2, HBAD, hc0 with
      | 0, _, HV2, HBAD, hc0 =>
        have h0 : (((0 : Nat) : Int) == 0) = true := by simp
        go_wp2
        go_ret
        exact ⟨ret_bool (HBAD.out rfl).symm, rfl⟩
      | c + 1, hck, HV2, HBAD, hc0 =>
        have h0 : (((c + 1 : Nat) : Int) == 0) = false := by simp; omega
        by_cases h6 : o < -6
        · have hb : vld N (c + 1) (o :: f.drop (k + 1)) = false := by
            have : decide (-6 ≤ o) = false := by simp; omega
            simp only [vld, this, Bool.false_and]
          have HB := hide (HBAD.out hb)
          clear hb
          go_wp2
          go_ret
          exact ⟨ret_bool HB.out.symm, rfl⟩
        · by_cases hoN : (N : Int) ≤ o
          · have hb : vld N (c + 1) (o :: f.drop (k + 1)) = false := by
              have : decide (o < N) = false := by simp; omega
              simp only [vld, this, Bool.and_false, Bool.false_and]
            have HB := hide (HBAD.out hb)
            clear hb
            go_wp2
            go_ret
            exact ⟨ret_bool HB.out.symm, rfl⟩
          · have hg : vld N (c + 1) (o :: f.drop (k + 1)) = vld N (c + arO o) (f.drop (k + 1)) := by
              have h1 : decide (-6 ≤ o) = true := by simp; omega
              have h2 : decide (o < N) = true := by simp; omega
              simp only [vld, h1, h2, Bool.true_and]
            have ha2 : arO o ≤ 2 := by unfold arO; split; omega; split <;> omega
            have HG := hide hg
            clear hg
            go_wp2_with (go_at_call 171; refine (operands_any _ _).mono ?_; rintro e w1 ⟨rfl, rfl⟩)
            go_round
            case rel => exact ⟨k + 1, c + arO o, by omega, by omega, by go_num, by congr 2; first | omega | (congr 1; omega), by rw [hv.out, ← HG.out]; exact (hv.out.symm.trans HV2.out)⟩
            case measure => simp [intOf]; omega
    · obtain rfl : k = f.length := by omega
      have hz := wrap_zero (w := c) (by omega)
      have hf : validF N f = (decide (c = 0) && decide (f.length ≤ 100)) := by
        unfold validF
        rw [hv.out, List.drop_length]
        congr 1
        cases c <;> simp [vld]
      obtain ⟨z, hzz⟩ : ∃ z, wrap64 (c : Int) = z := ⟨_, rfl⟩
      rw [hzz] at hz ⊢
      have HF := hide hf
      clear hf hzz
      by_cases hc0 : c = 0
      · have hz1 : (z == 0) = true := by rw [hz]; simp [hc0]
        have HC0 := hide hc0
        clear hz hc0
        by_cases h100 : f.length ≤ 100
        · have h101 : (f.length : Int) ≤ 100 := by omega
          go_wp2
          go_ret
          exact ⟨ret_bool (by rw [HF.out, HC0.out]; simp [h100]), rfl⟩
        · have h101 : ¬ (f.length : Int) ≤ 100 := by omega
          go_wp2
          go_ret
          exact ⟨ret_bool (by rw [HF.out]; simp [h100]), rfl⟩
      · have hz1 : (z == 0) = false := by rw [hz]; simp [hc0]
        have HC0 := hide hc0
        clear hz hc0
        go_wp2
        go_ret
        exact ⟨ret_bool (by rw [HF.out]; simp [HC0.out]), rfl⟩
end Go.Proofs.Ytmabfnddedffoaa
/- Which formulas and models are valid: walks. -/
namespace Go.Proofs.Ytmabfnddedffoaa
open Go.RowKit
set_option linter.unusedVariables false
set_option linter.unusedSimpArgs false
set_option maxRecDepth 100000 in
theorem indexForms_valid (p : List Int → Bool) (cap0 : Value) (v : Value) (fs : List (List Int)) (w : World) (hm : fs.length ≤ maxLen) (h : Forms w w.heap.size v fs)
    (hf : ∀ (i : Nat) (f : List Int) (fv : Value) (W : World), i < fs.length → fs.getD i [] = f → Below w.heap.size w W → Ints W w.heap.size fv f → Calls Try.prog 158 #[fv, cap0] W fun e w' => e = .returned (.bool (p f)) ∧ Below W.heap.size W w') :
    Calls Try.prog 170 #[v, .func (.func 158) #[] #[cap0]] w fun e w' => e = .returned (.int .i64 (idxI p fs)) ∧ Below w.heap.size w w' := by
  unfold maxLen at hm
  obtain ⟨fvs, ⟨A, b, off, cap, rfl, hnc, hA, hc⟩, hin⟩ := h
  have HC := hide hc
  have HA := hide hA
  have HF := hide hf
  have HIN := hide hin
  clear hc hA hf hin
  go_enter Try.func170, Try.ntmps170
  go_wp2
  go_loopw [5, 8] (fun _ i wr => ∃ k : Nat, k ≤ fs.length ∧ i = .int .i64 k ∧ Hid (∀ j, j < k → p (fs.getD j []) = false) ∧ Below w.heap.size w wr) (fun _ i _ => fs.length - (intOf i).toNat)
  case atStart => exact ⟨0, Nat.zero_le _, rfl, fun j hj => by omega, Below.refl _ _⟩
  case round =>
    obtain ⟨k, hk, rfl, hz, hB⟩ := hrel
    by_cases hlt : k < fs.length
    · obtain ⟨rfl, hbb⟩ : A = some ⟨b, off, none⟩ ∧ b < w.heap.size := by
        rcases HA.out with h | h
        · exact h
        · omega
      obtain ⟨f, hfe⟩ : ∃ f, fs.getD k [] = f := ⟨_, rfl⟩
      have c0 : wr.cell? ⟨b, off + k, none⟩ = some (fvs k) := by
        have h1 := HC.out k 0 hlt (by omega)
        rw [Nat.mul_one, Nat.add_zero] at h1
        exact (hB.cell (p := ⟨b, off + k, none⟩) hbb).trans h1
      have hi : Ints wr w.heap.size (fvs k) f := by
        have := (HIN.out k hlt).below hB
        rwa [hfe] at this
      have hcl := HF.out k f (fvs k) wr hlt hfe hB hi
      obtain ⟨Af, capf, hfv⟩ := Sl.form hi
      rw [hfv] at c0 hcl
      have HFE := hide hfe
      clear hfe hi hfv
      by_cases hp : p f = true
      · rw [hp] at hcl
        have HCL := hide hcl
        have HP := hide hp
        clear hcl hp
        go_wp2_with (go_at_call 158; refine HCL.out.mono ?_; rintro e w1 ⟨rfl, hB1⟩)
        go_ret
        exact ⟨ret_int (idxI_at p [] fs k hz.out hlt (by rw [HFE.out]; exact HP.out)).symm, (by repeat (first | exact Below.refl _ _ | assumption | refine Below.drew ?_ | refine Below.drewN ?_ _ | refine Below.allocT ?_ (Nat.le_refl _) _ | refine Below.setCell ?_ (by simp <;> omega) _ | refine Below.to ?_ (by assumption) (Nat.le_refl _)))⟩
      · have hp' : p f = false := by simpa using hp
        rw [hp'] at hcl
        have HCL := hide hcl
        have HP := hide hp'
        clear hcl hp hp'
        go_wp2_with (go_at_call 158; refine HCL.out.mono ?_; rintro e w1 ⟨rfl, hB1⟩)
        go_roundw
        case rel => exact ⟨k + 1, by omega, by go_num, fun j hj => by
            rcases Nat.lt_or_ge j k with h | h
            · exact hz.out j h
            · rw [show j = k from by omega, HFE.out]; exact HP.out, (by repeat (first | exact Below.refl _ _ | assumption | refine Below.drew ?_ | refine Below.drewN ?_ _ | refine Below.allocT ?_ (Nat.le_refl _) _ | refine Below.setCell ?_ (by simp <;> omega) _ | refine Below.to ?_ (by assumption) (Nat.le_refl _)))⟩
        case measure => simp [intOf]; omega
    · go_wp2
      go_ret
      exact ⟨ret_int (idxI_none p [] fs (fun j hj => hz.out j (by omega))).symm, (by repeat (first | exact Below.refl _ _ | assumption | refine Below.drew ?_ | refine Below.drewN ?_ _ | refine Below.allocT ?_ (Nat.le_refl _) _ | refine Below.setCell ?_ (by simp <;> omega) _ | refine Below.to ?_ (by assumption) (Nat.le_refl _)))⟩


set_option maxRecDepth 100000 in
theorem containsForms_valid (p : List Int → Bool) (cap0 : Value) (v : Value) (fs : List (List Int)) (w : World) (hm : fs.length ≤ maxLen) (h : Forms w w.heap.size v fs)
    (hf : ∀ (i : Nat) (f : List Int) (fv : Value) (W : World), i < fs.length → fs.getD i [] = f → Below w.heap.size w W → Ints W w.heap.size fv f → Calls Try.prog 158 #[fv, cap0] W fun e w' => e = .returned (.bool (p f)) ∧ Below W.heap.size W w') :
    Calls Try.prog 157 #[v, .func (.func 158) #[] #[cap0]] w fun e w' => e = .returned (.bool (fs.any p)) ∧ Below w.heap.size w w' := by
  have hc := indexForms_valid p cap0 v fs w hm h hf
  have he := idxI_any p fs
  have hlo := idxI_lo p fs
  have hhi := idxI_hi p fs
  obtain ⟨z, hz⟩ : ∃ z, idxI p fs = z := ⟨_, rfl⟩
  rw [hz] at hc he hlo hhi
  obtain ⟨fvs, h1, _⟩ := h
  obtain ⟨A, cap, rfl⟩ := Sl.form h1
  have HC := hide hc
  have HE := hide he
  unfold maxLen at hm
  have hz2 : z ≤ 9223372036854775807 := by omega
  clear hc he hz h1 hf
  go_enter Try.func157, Try.ntmps157
  go_wp2_with (go_at_call 170; refine HC.out.mono ?_; rintro e w1 ⟨rfl, hB1⟩)
  go_ret
  exact ⟨ret_bool HE.out, (by repeat (first | exact Below.refl _ _ | assumption | refine Below.drew ?_ | refine Below.drewN ?_ _ | refine Below.allocT ?_ (Nat.le_refl _) _ | refine Below.setCell ?_ (by simp <;> omega) _ | refine Below.to ?_ (by assumption) (Nat.le_refl _)))⟩


/-- A model's cells, in a box. -/
def MoBox (w : World) (b : Nat) (ov rv : Value) : Prop := w.heap[b]? = some (.cells #[ov, rv] 25 (0, 0))
/-- A model in memory. -/
structure MoAt (w : World) (B : Nat) (ov rv : Value) (m : Mo) : Prop where
  o : Names w B ov m.opts
  r : Forms w B rv m.rules
theorem MoAt.below {w w' : World} {B : Nat} {ov rv : Value} {m : Mo} (h : MoAt w B ov rv m) (hb : Below B w w') : MoAt w' B ov rv m := ⟨h.o.below hb, h.r.below hb⟩
theorem MoAt.more {w : World} {B B' : Nat} {ov rv : Value} {m : Mo} (h : MoAt w B ov rv m) (hB : B ≤ B') : MoAt w B' ov rv m := ⟨h.o.more hB, h.r.more hB⟩
theorem MoAt.up {w w' : World} {ov rv : Value} {m : Mo} (h : MoAt w w.heap.size ov rv m) (hb : Below w.heap.size w w') : MoAt w' w'.heap.size ov rv m := (h.below hb).more hb.size
theorem Ints.up {w w' : World} {v : Value} {f : List Int} (h : Ints w w.heap.size v f) (hb : Below w.heap.size w w') : Ints w' w'.heap.size v f := (h.below hb).more hb.size
theorem Forms.up {w w' : World} {v : Value} {f : List (List Int)} (h : Forms w w.heap.size v f) (hb : Below w.heap.size w w') : Forms w' w'.heap.size v f := (h.below hb).more hb.size
theorem Forms.form {w : World} {B : Nat} {v : Value} {fs : List (List Int)} (h : Forms w B v fs) : ∃ A cap, v = .slice A fs.length cap := by
  obtain ⟨_, h1, _⟩ := h
  exact Sl.form h1
/-- Sizes that memory allows. -/
def Sized (l : List (List Int)) : Prop := l.length ≤ maxLen ∧ ∀ f ∈ l, f.length ≤ maxLen
set_option maxRecDepth 100000 in
theorem checkClo_any (f : List Int) (fv ov rv : Value) (n mb : Nat) (A : Option Addr) (cap : Nat) (hov : ov = .slice A n cap) (W : World) (hm : f.length ≤ maxLen) (hb : MoBox W mb ov rv) (B : Nat) (h : Ints W B fv f) :
    Calls Try.prog 158 #[fv, .pointer (some ⟨mb, 0, none⟩)] W fun e w' => e = .returned (.bool (!validF n f)) ∧ Below W.heap.size W w' := by
  subst hov
  have c0 := cellOf hb 0
  have H := hide h
  clear hb h
  go_enter Try.func158, Try.ntmps158
  go_wp2_with (go_at_call 159; refine (valid_any f n _ B _ hm H.out).mono ?_; rintro e w1 ⟨rfl, rfl⟩)
  go_ret
  exact ⟨rfl, (by repeat (first | exact Below.refl _ _ | assumption | refine Below.drew ?_ | refine Below.drewN ?_ _ | refine Below.allocT ?_ (Nat.le_refl _) _ | refine Below.setCell ?_ (by simp <;> omega) _ | refine Below.to ?_ (by assumption) (Nat.le_refl _)))⟩
set_option maxRecDepth 100000 in
theorem checkForms_any (m : Mo) (fs : List (List Int)) (ov rv fv : Value) (w : World) (hm : m.opts.length ≤ maxLen) (hs : Sized fs) (ho : Names w w.heap.size ov m.opts) (h : Forms w w.heap.size fv fs) :
    Calls Try.prog 130 #[.agg #[ov, rv], fv] w fun e w' => e = .returned (.int .i64 (if fs.all (validF m.opts.length) = false then 11 else 0)) ∧ Below w.heap.size w w' := by
  obtain ⟨A, cap, hov⟩ := Sl.form ho
  have hB0 : Below w.heap.size w (w.alloc (.cells #[ov, rv] 25)) := (by repeat (first | exact Below.refl _ _ | assumption | refine Below.drew ?_ | refine Below.drewN ?_ _ | refine Below.allocT ?_ (Nat.le_refl _) _ | refine Below.setCell ?_ (by simp <;> omega) _ | refine Below.to ?_ (by assumption) (Nat.le_refl _)))
  have hbx : MoBox (w.alloc (.cells #[ov, rv] 25)) w.heap.size ov rv := heap_new _ _ _ rfl
  have hcl := containsForms_valid (fun f => !validF m.opts.length f) (.pointer (some ⟨w.heap.size, 0, none⟩)) fv fs (w.alloc (.cells #[ov, rv] 25)) hs.1 (h.up hB0)
    (fun i f fv' W hi hf hB hin => checkClo_any f fv' ov rv m.opts.length w.heap.size A cap hov W (hs.2 f (by rw [← hf]; exact getD_mem hi)) (box_to hbx hB) _ hin)
  have he : fs.any (fun f => !validF m.opts.length f) = !fs.all (validF m.opts.length) := by
    rw [List.all_eq_not_any_not, Bool.not_not]
  rw [he] at hcl
  obtain ⟨Af, capf, hfv⟩ := h.form
  subst hfv hov
  have HCL := hide hcl
  clear hcl he hbx hB0 h ho hs hm
  cases ha : fs.all (validF m.opts.length) with
  | true =>
    rw [ha] at HCL
    clear ha
    go_enter Try.func130, Try.ntmps130
    go_wp2_with (go_at_call 157; refine HCL.out.mono ?_; rintro e w1 ⟨rfl, hB1⟩)
    go_ret
    exact ⟨rfl, (by repeat (first | exact Below.refl _ _ | assumption | refine Below.drew ?_ | refine Below.drewN ?_ _ | refine Below.allocT ?_ (Nat.le_refl _) _ | refine Below.setCell ?_ (by simp <;> omega) _ | refine Below.to ?_ (by assumption) (Nat.le_refl _)))⟩
  | false =>
    rw [ha] at HCL
    clear ha
    go_enter Try.func130, Try.ntmps130
    go_wp2_with (go_at_call 157; refine HCL.out.mono ?_; rintro e w1 ⟨rfl, hB1⟩)
    go_ret
    exact ⟨rfl, (by repeat (first | exact Below.refl _ _ | assumption | refine Below.drew ?_ | refine Below.drewN ?_ _ | refine Below.allocT ?_ (Nat.le_refl _) _ | refine Below.setCell ?_ (by simp <;> omega) _ | refine Below.to ?_ (by assumption) (Nat.le_refl _)))⟩
end Go.Proofs.Ytmabfnddedffoaa
/- CheckModel, check: walks. -/
namespace Go.Proofs.Ytmabfnddedffoaa
open Go.RowKit
set_option linter.unusedVariables false
set_option linter.unusedSimpArgs false
/-- Sizes that memory allows. -/
structure SizedM (m : Mo) : Prop where
  n : m.opts.length ≤ maxLen
  s : ∀ x ∈ m.opts, x.size ≤ maxLen
  r : Sized m.rules
theorem names_get (m : Mo) (k : Nat) : m.names.getD k [] = (m.opts.getD k ByteArray.empty).data.toList := by
  unfold Mo.names
  simp only [List.getD_eq_getElem?_getD, List.getElem?_map]
  cases m.opts[k]? <;> rfl
theorem Mo.err_many {m : Mo} (h : 40 < m.opts.length ∨ 60 < m.rules.length) : m.err = 2 := by unfold Mo.err; rw [if_pos h]
theorem Mo.err_name {m : Mo} (h1 : m.opts.length ≤ 40) (h2 : m.rules.length ≤ 60) (h : namesB [] m.names = false) : m.err = 10 := by unfold Mo.err; rw [if_neg (by omega), if_pos h]
theorem Mo.err_rest {m : Mo} (h1 : m.opts.length ≤ 40) (h2 : m.rules.length ≤ 60) (h : namesB [] m.names = true) : m.err = if m.rules.all (validF m.opts.length) = false then 11 else 0 := by unfold Mo.err; rw [if_neg (by omega), if_neg (by simp [h])]
set_option maxRecDepth 100000 in
set_option maxHeartbeats 2000000 in
theorem CheckModel_any (m : Mo) (ov rv : Value) (w : World) (hs : SizedM m) (h : MoAt w w.heap.size ov rv m) :
    Calls Try.prog 52 #[.agg #[ov, rv]] w fun e w' => e = .returned (.int .i64 m.err) ∧ Below w.heap.size w w' := by
  obtain ⟨A, cap, hov⟩ := Sl.form h.o
  obtain ⟨Ar, capr, hrv⟩ := h.r.form
  by_cases h40 : 40 < m.opts.length
  · have he := Mo.err_many (m := m) (.inl h40)
    have HE := hide he
    have hi : (40 : Int) < (m.opts.length : Int) := by omega
    subst hov hrv
    clear he h40 h
    go_enter Try.func52, Try.ntmps52
    go_wp2_with fail
    go_ret
    exact ⟨ret_int HE.out.symm, (by repeat (first | exact Below.refl _ _ | assumption | refine Below.drew ?_ | refine Below.drewN ?_ _ | refine Below.allocT ?_ (Nat.le_refl _) _ | refine Below.setCell ?_ (by simp <;> omega) _ | refine Below.to ?_ (by assumption) (Nat.le_refl _)))⟩
  by_cases h60 : 60 < m.rules.length
  · have he := Mo.err_many (m := m) (.inr h60)
    have HE := hide he
    have hi : ¬ (40 : Int) < (m.opts.length : Int) := by omega
    have hj : (60 : Int) < (m.rules.length : Int) := by omega
    subst hov hrv
    clear he h40 h60 h
    go_enter Try.func52, Try.ntmps52
    go_wp2_with fail
    go_ret
    exact ⟨ret_int HE.out.symm, (by repeat (first | exact Below.refl _ _ | assumption | refine Below.drew ?_ | refine Below.drewN ?_ _ | refine Below.allocT ?_ (Nat.le_refl _) _ | refine Below.setCell ?_ (by simp <;> omega) _ | refine Below.to ?_ (by assumption) (Nat.le_refl _)))⟩
  have hi : ¬ (40 : Int) < (m.opts.length : Int) := by omega
  have hj : ¬ (60 : Int) < (m.rules.length : Int) := by omega
  have hn := h.o
  subst hov
  obtain ⟨A', b, off, cap', h1, hnc, hA, hc⟩ := hn
  injection h1 with e1 _ e3
  subst e1 e3
  have HC := hide hc
  have HA := hide hA
  have H := hide h
  have HS := hide hs
  have h40' : m.opts.length ≤ 40 := by omega
  have h60' : m.rules.length ≤ 60 := by omega
  have hcn : (m.opts.length : Int) ≤ (cap : Int) := by omega
  subst hrv
  clear hc hA h hs h40 h60
  go_enter Try.func52, Try.ntmps52
  go_wp2_with fail
  generalize hw0 : World.alloc _ _ = w0
  obtain ⟨hb0, hB0, hs0⟩ := alloc1 hw0
  clear hw0
  have HX0 : Hid (MoBox w0 w.heap.size (.slice A m.opts.length cap) (.slice Ar m.rules.length capr)) := hb0
  have HB0 := hide hB0
  have HH0 : Hid (MoAt w0 w0.heap.size (.slice A m.opts.length cap) (.slice Ar m.rules.length capr) m) := H.out.up hB0
  clear hb0 hB0 hs0
  go_loopw [18] (fun i wr => ∃ k : Nat, k ≤ m.opts.length ∧ i = .int .i64 k ∧ Hid (∀ j, j < k → namedB (m.names.getD j []) = true ∧ ([] ++ m.names.take j).contains (m.names.getD j []) = false) ∧ Hid (Below w0.heap.size w0 wr)) (fun i _ => m.opts.length - (intOf i).toNat)
  case atStart => exact ⟨0, Nat.zero_le _, rfl, fun j hj => by omega, Below.refl _ _⟩
  case round =>
    obtain ⟨k, hk, rfl, hall, hB⟩ := hrel
    have hbx := box_to HX0.out hB.out
    have x0 := cellOf hbx 0
    have x1 := cellOf hbx 1
    clear hbx
    by_cases hlt : k < m.opts.length
    · obtain ⟨rfl, hbb⟩ : A = some ⟨b, off, none⟩ ∧ b < w.heap.size := by
        rcases HA.out with h | h
        · exact h
        · omega
      obtain ⟨x, hx⟩ : ∃ x, m.opts.getD k ByteArray.empty = x := ⟨_, rfl⟩
      have hBw := Below.to HB0.out hB.out (Nat.le_refl _)
      have c0 : wr.cell? ⟨b, off + k, none⟩ = some (.string x) := by
        have h1 := HC.out k 0 hlt (by omega)
        rw [Nat.mul_one, Nat.add_zero, hx] at h1
        exact (hBw.cell (p := ⟨b, off + k, none⟩) hbb).trans h1
      have hxs : x.size ≤ maxLen := HS.out.s x (by rw [← hx]; exact getD_mem hlt)
      have hnm : m.names.getD k [] = x.data.toList := by rw [names_get, hx]
      have HNM := hide hnm
      have HBW := hide hBw
      have ik : (k : Int) ≤ (cap : Int) := by omega
      have ik2 : (k : Int) < (m.opts.length : Int) := by omega
      clear hx hnm hBw
      by_cases hnb : namedB x.data.toList = true
      · have hct := containsS_any (m.opts.take k) x (.slice (some ⟨b, off, none⟩) k cap) w.heap.size wr (by unfold maxLen; simp; omega) (Names.take (H.out.o.below HBW.out) (by omega))
        have hmt : (m.opts.take k).map (fun x => x.data.toList) = m.names.take k := by unfold Mo.names; rw [List.map_take]
        rw [hmt] at hct
        have hna := named_any x wr hxs
        rw [hnb] at hna
        have HNA := hide hna
        have HNB := hide hnb
        clear hmt hna hnb
        cases hcc : (m.names.take k).contains x.data.toList with
        | true =>
          rw [hcc] at hct
          have HCT := hide hct
          have hbad : namesB [] m.names = false := namesB_at [] m.names k (by unfold Mo.names; simpa using hlt) hall.out (by rw [HNM.out, HNB.out, List.nil_append, hcc]; rfl)
          have he := Mo.err_name h40' h60' hbad
          have HE := hide he
          clear hcc hct hbad he
          go_wp2_with (first | (go_at_call 128; refine HNA.out.mono ?_; rintro e w1 ⟨rfl, rfl⟩) | (go_at_call 129; refine HCT.out.mono ?_; rintro e w2 ⟨rfl, rfl⟩))
          go_ret
          exact ⟨ret_int HE.out.symm, HBW.out⟩
        | false =>
          rw [hcc] at hct
          have HCT := hide hct
          have HCC := hide hcc
          clear hct hcc
          go_wp2_with (first | (go_at_call 128; refine HNA.out.mono ?_; rintro e w1 ⟨rfl, rfl⟩) | (go_at_call 129; refine HCT.out.mono ?_; rintro e w2 ⟨rfl, rfl⟩))
          go_roundw
          case rel => exact ⟨k + 1, by omega, by go_num, fun j hj => by
              rcases Nat.lt_or_ge j k with h | h
              · exact hall.out j h
              · rw [show j = k from by omega, HNM.out, List.nil_append]; exact ⟨HNB.out, HCC.out⟩, hB.out⟩
          case measure => simp [intOf]; omega
      · have hnb' : namedB x.data.toList = false := by simpa using hnb
        have hna := named_any x wr hxs
        rw [hnb'] at hna
        have HNA := hide hna
        have hbad : namesB [] m.names = false := namesB_at [] m.names k (by unfold Mo.names; simpa using hlt) hall.out (by rw [HNM.out, hnb']; rfl)
        have he := Mo.err_name h40' h60' hbad
        have HE := hide he
        clear hna hbad he hnb hnb'
        go_wp2_with (go_at_call 128; refine HNA.out.mono ?_; rintro e w1 ⟨rfl, rfl⟩)
        go_ret
        exact ⟨ret_int HE.out.symm, HBW.out⟩
    · have hgood : namesB [] m.names = true := namesB_all [] m.names (fun j hj => hall.out j (by unfold Mo.names at hj; simp at hj; omega))
      have he := Mo.err_rest h40' h60' hgood
      have hmw := HH0.out.up hB.out
      have hck := checkForms_any m m.rules (.slice A m.opts.length cap) (.slice Ar m.rules.length capr) (.slice Ar m.rules.length capr) wr HS.out.n HS.out.r hmw.o hmw.r
      rw [← he] at hck
      have HCK := hide hck
      clear hgood he hmw hck
      go_wp2_with (go_at_call 130; refine HCK.out.mono ?_; rintro e w1 ⟨rfl, hB1⟩)
      go_ret
      exact ⟨rfl, Below.to (Below.to HB0.out hB.out (Nat.le_refl _)) hB1 (Nat.le_refl _)⟩
theorem Mo.errF_err {m : Mo} {l : List (List Int)} (h : m.err ≠ 0) : m.errF l = m.err := by unfold Mo.errF; rw [if_pos h]
theorem Mo.errF_ok {m : Mo} {l : List (List Int)} (h : m.err = 0) : m.errF l = if l.all (validF m.opts.length) = false then 11 else 0 := by unfold Mo.errF; rw [if_neg (by simp [h])]
set_option maxRecDepth 100000 in
theorem check_any (m : Mo) (l : List (List Int)) (ov rv lv : Value) (w : World) (hs : SizedM m) (hl : Sized l) (h : MoAt w w.heap.size ov rv m) (hf : Forms w w.heap.size lv l) :
    Calls Try.prog 133 #[.agg #[ov, rv], lv] w fun e w' => e = .returned (.int .i64 (m.errF l)) ∧ Below w.heap.size w w' := by
  obtain ⟨A, cap, hov⟩ := Sl.form h.o
  obtain ⟨Ar, capr, hrv⟩ := h.r.form
  obtain ⟨Al, capl, hlv⟩ := hf.form
  have H := hide h
  have HF := hide hf
  have HS := hide hs
  have HL := hide hl
  subst hov hrv hlv
  clear h hf hs hl
  go_enter Try.func133, Try.ntmps133
  go_upto_region 1 with (fail)
  generalize hw0 : World.alloc _ _ = w0
  obtain ⟨hb0, hB0, hs0⟩ := alloc1 hw0
  clear hw0
  have c0 := cellOf hb0 0
  have c1 := cellOf hb0 1
  have HX0 : Hid (MoBox w0 w.heap.size (.slice A m.opts.length cap) (.slice Ar m.rules.length capr)) := hb0
  have HB0 := hide hB0
  have hck := CheckModel_any m (.slice A m.opts.length cap) (.slice Ar m.rules.length capr) w0 HS.out (H.out.up hB0)
  clear hb0 hB0 hs0
  by_cases he : m.err = 0
  · rw [he] at hck
    have HCK := hide hck
    have HE := hide (Mo.errF_ok (l := l) he)
    clear hck he
    go_wp2_with (go_at_call 52; refine HCK.out.mono ?_; rintro e w1 ⟨rfl, hB1⟩; have hbx := box_to HX0.out hB1; have d0 := cellOf hbx 0; have d1 := cellOf hbx 1; have HB1 : Hid (Below w.heap.size w w1) := Below.to HB0.out hB1 (Nat.le_refl _); clear hbx hB1)
    have hcf := checkForms_any m l (.slice A m.opts.length cap) (.slice Ar m.rules.length capr) (.slice Al l.length capl) w1 HS.out.n HL.out (H.out.up HB1.out).o (HF.out.up HB1.out)
    rw [← HE.out] at hcf
    have HCF := hide hcf
    clear hcf
    go_wp2_with (go_at_call 130; refine HCF.out.mono ?_; rintro e w2 ⟨rfl, hB2⟩)
    go_ret
    exact ⟨rfl, Below.to HB1.out hB2 (Nat.le_refl _)⟩
  · have hne : (m.err != 0) = true := by simpa using he
    have HE := hide (Mo.errF_err (l := l) he)
    have HCK := hide hck
    obtain ⟨z, hz⟩ : ∃ z, m.err = z := ⟨_, rfl⟩
    rw [hz] at hne HCK HE
    clear hck he hz
    go_wp2_with (go_at_call 52; refine HCK.out.mono ?_; rintro e w1 ⟨rfl, hB1⟩)
    go_ret
    exact ⟨ret_int HE.out.symm, Below.to HB0.out hB1 (Nat.le_refl _)⟩
end Go.Proofs.Ytmabfnddedffoaa
/- The arguments of the laws about options, opened: no condition. -/
namespace Go.Proofs.Ytmabfnddedffoaa
open Go.Joins Go.ChangeShapes Go.WideShapes Go.ChangeAt Go.RowKit Go.Deep
set_option maxRecDepth 100000
set_option linter.unusedVariables false
set_option linter.unusedSimpArgs false
section
variable {H : Type} {enc : TypeId × Value → H} {W : World} {base b0 : Nat} {r : Reach} {spare : Nat → Bool} {held : Bool} {v : Value} {d : DataW H} {p : List MemPlace}
def I64 (n : Int) : Prop := -9223372036854775808 ≤ n ∧ n ≤ 9223372036854775807
theorem I64.of {n : Int} (h : (Lit.int .i64 n).wf = true) : I64 n := by
  simp [Lit.wf, IntKind.min, IntKind.max, IntKind.signed, IntKind.bits] at h
  exact ⟨by omega, by omega⟩
theorem int_cell {n : Nat} {c : Value} {y : DataW H × List MemPlace} (h : DataW.trod enc Try.prog W base spare held n 3 [c] = some y) : ∃ a, c = .int .i64 a ∧ I64 a := by
  obtain ⟨a, e0, _, wa⟩ := DataW.trod_int Try.underlying3 h
  simp at e0
  exact ⟨a, e0, I64.of wa⟩
theorem cellsInt : Try.prog.cellsOf 3 = 1 := by kernel_rfl
theorem cellsStr : Try.prog.cellsOf 9 = 1 := by kernel_rfl
theorem cellsFo : Try.prog.cellsOf 66 = 1 := by kernel_rfl
theorem ints_cell {t n : Nat} {c : Value} {y : DataW H × List MemPlace} (ht : Try.prog.underlying t = some (.slice 3)) (h : DataW.trod enc Try.prog W base spare held n t [c] = some y) :
    ∃ f : List Int, Ints W W.heap.size c f ∧ f.length ≤ maxLen ∧ ∀ x ∈ f, I64 x := by
  obtain ⟨xs, hsl, hl, hR⟩ := open_rows (α := Int) 0 (fun x _ => .int .i64 x) I64 ht cellsInt (by omega) (by
    intro n cs' y hlen ht
    match cs', hlen with
    | [c0], _ =>
      obtain ⟨a, rfl, ha⟩ := int_cell ht
      refine ⟨a, fun j hj => ?_, ha⟩
      match j, hj with
      | 0, _ => rfl) h
  refine ⟨xs, hsl, hl, fun x hx => ?_⟩
  obtain ⟨i, hi, rfl⟩ := List.mem_iff_getElem.1 hx
  have := hR i hi
  rwa [List.getD_eq_getElem?_getD, List.getElem?_eq_getElem hi, Option.getD_some] at this
theorem strs_cell {t n : Nat} {c : Value} {y : DataW H × List MemPlace} (ht : Try.prog.underlying t = some (.slice 9)) (h : DataW.trod enc Try.prog W base spare held n t [c] = some y) :
    ∃ f : List ByteArray, Names W W.heap.size c f ∧ f.length ≤ maxLen ∧ ∀ x ∈ f, x.size ≤ maxLen := by
  obtain ⟨xs, hsl, hl, hR⟩ := open_rows (α := ByteArray) ByteArray.empty (fun x _ => .string x) (fun x => x.size ≤ maxLen) ht cellsStr (by omega) (by
    intro n cs' y hlen ht
    match cs', hlen with
    | [c0], _ =>
      obtain ⟨s, h1, _, h3⟩ := DataW.trod_string Try.underlying9 ht
      simp at h1
      subst h1
      refine ⟨s, fun j hj => ?_, h3⟩
      match j, hj with
      | 0, _ => rfl) h
  refine ⟨xs, hsl, hl, fun x hx => ?_⟩
  obtain ⟨i, hi, rfl⟩ := List.mem_iff_getElem.1 hx
  have := hR i hi
  rwa [List.getD_eq_getElem?_getD, List.getElem?_eq_getElem hi, Option.getD_some] at this
theorem forms_cell {t n : Nat} {c : Value} {y : DataW H × List MemPlace} (ht : Try.prog.underlying t = some (.slice 66)) (h : DataW.trod enc Try.prog W base spare held n t [c] = some y) :
    ∃ fs : List (List Int), Forms W W.heap.size c fs ∧ Sized fs := by
  obtain ⟨xs, hsl, hl, hR⟩ := open_rows (α := List Int × Value) ([], .slice none 0 0) (fun x _ => x.2) (fun x => Ints W W.heap.size x.2 x.1 ∧ x.1.length ≤ maxLen) ht cellsFo (by omega) (by
    intro n cs' y hlen ht
    match cs', hlen with
    | [c0], _ =>
      obtain ⟨f, hf, hfl, _⟩ := ints_cell Try.underlying66 ht
      refine ⟨(f, c0), fun j hj => ?_, hf, hfl⟩
      match j, hj with
      | 0, _ => rfl) h
  have hg : ∀ i, i < xs.length → (xs.map (·.1)).getD i [] = (xs.getD i ([], .slice none 0 0)).1 := fun i hi => by simp [hi]
  refine ⟨xs.map (·.1), ⟨fun i => (xs.getD i ([], .slice none 0 0)).2, ?_, fun i hi => ?_⟩, by simpa using hl, fun f hf => ?_⟩
  · rw [List.length_map]
    exact hsl
  · rw [List.length_map] at hi
    rw [hg i hi]
    exact (hR i hi).1
  · obtain ⟨x, hx, rfl⟩ := List.mem_map.1 hf
    obtain ⟨i, hi, rfl⟩ := List.mem_iff_getElem.1 hx
    have := (hR i hi).2
    rwa [List.getD_eq_getElem?_getD, List.getElem?_eq_getElem hi, Option.getD_some] at this
end
end Go.Proofs.Ytmabfnddedffoaa

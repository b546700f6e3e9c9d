/- Part 5 of this claim's texts: walks and plain laws. -/
import Derived.Test.YtmgfijadjclmpaaRows
import Derived.Test.YtmgfijadjclmpaaGTC4
import Derived.Test.YtmgfijadjclmpaaGTC0
import Derived.Deep.CutBlock
import Derived.Deep.DeepMust
import Derived.Test.YtmgfijadjclmpaaGTC2
/- The node of a formula: walk. -/
namespace Go.Proofs.Ytmgfijadjclmpaa
open Go.RowKit
open Go.Maps (Keyed)
set_option linter.unusedVariables false
set_option linter.unusedSimpArgs false
theorem infoInt : (Try.prog.info? 3).map (fun i => (i.zero, i.size, i.bytes)) = some (some (.int .i64 0), 1, 8) := by kernel_rfl
/-- The slice v holds the numbers f, below block B. -/
def Ints (w : World) (B : Nat) (v : Value) (f : List Int) : Prop := Sl w B 1 v f.length (fun i _ => .int .i64 (f.getD i 0))
theorem operands_any (o : Int) (w : World) :
    Calls Try.prog 49 #[.int .i64 o] w fun e w' => e = .returned (.int .i64 (arO o : Nat)) ∧ w = w' := by
  by_cases h3 : o = -3
  · subst h3
    go_enter Try.func49, Try.ntmps49
    go_wp2
    go_ret
    exact ⟨rfl, rfl⟩
  by_cases h4 : o = -4
  · subst h4
    go_enter Try.func49, Try.ntmps49
    go_wp2
    go_ret
    exact ⟨rfl, rfl⟩
  by_cases h5 : o = -5
  · subst h5
    go_enter Try.func49, Try.ntmps49
    go_wp2
    go_ret
    exact ⟨rfl, rfl⟩
  by_cases h6 : o = -6
  · subst h6
    go_enter Try.func49, Try.ntmps49
    go_wp2
    go_ret
    exact ⟨rfl, rfl⟩
  have e : arO o = 0 := by unfold arO; rw [if_neg h3, if_neg (by omega)]
  have k3 : (o == -3) = false := by simpa using h3
  have k4 : (o == -4) = false := by simpa using h4
  have k5 : (o == -5) = false := by simpa using h5
  have k6 : (o == -6) = false := by simpa using h6
  have HE := hide e
  clear h3 h4 h5 h6 e
  go_enter Try.func49, Try.ntmps49
  go_wp2
  go_ret
  exact ⟨by rw [HE.out]; rfl, rfl⟩
/-- The stack of nodes. -/
def Stk (B : Nat) (w : World) (F : Fo) (sv : Value) (S : List Nat) : Prop := w.ownsRow B 3 1 sv S.length (S.map fun (n : Nat) => Value.int .i64 n) ∧ ∀ b, sv.ownBlock = some b → ¬ SF F b
theorem Stk.step {B : Nat} {w w' : World} {F F' : Fo} {sv : Value} {S : List Nat} (h : Stk B w F sv S) (st : FStep w F w' F') : Stk B w' F' sv S := by
  obtain ⟨h1, h2⟩ := h
  have hk : ∀ b, sv.ownBlock = some b → w'.heap[b]? = w.heap[b]? ∧ ¬ SF F' b := fun b hb => st.block (h1.lt b hb).2 (h2 b hb)
  refine ⟨⟨h1.1, ?_⟩, fun b hb => (hk b hb).2⟩
  rcases h1.2 with hn | ⟨g, cap, cur, rfl, q4, q5, q6⟩
  · exact .inl hn
  · exact .inr ⟨g, cap, cur, rfl, q4, ((hk g rfl).1).trans q5, q6⟩
theorem Stk.below {B : Nat} {w w' : World} {F : Fo} {sv : Value} {S : List Nat} (h : Stk B w F sv S) (hb : Below w.heap.size w w') : Stk B w' F sv S := ⟨owns_below h.1 hb, h.2⟩

theorem Stk.shape {B : Nat} {w : World} {F : Fo} {sv : Value} {S : List Nat} (h : Stk B w F sv S) : ∃ A cap, sv = .slice A S.length cap ∧ S.length ≤ cap ∧ cap ≤ maxLen := by
  rcases h.1.2 with ⟨h1, h2⟩ | ⟨g, cap, cur, h1, _, _, h2, h3, _⟩
  · exact ⟨none, 0, by rw [h1, h2], by omega, by unfold maxLen; omega⟩
  · exact ⟨_, cap, h1, h2, h3⟩
theorem Stk.cells {B : Nat} {w : World} {F : Fo} {A : Option Addr} {n cap : Nat} {S : List Nat} (h : Stk B w F (.slice A n cap) S) (hn : 0 < S.length) : ∃ g, A = some ⟨g, 0, none⟩ ∧ g < w.heap.size ∧ ¬ SF F g ∧ ∀ i, i < S.length → w.cell? ⟨g, i, none⟩ = some (.int .i64 (S.getD i 0 : Nat)) := by
  obtain ⟨g, cap', hv, _, hl⟩ := h.1.form hn
  injection hv with h1 h2 h3
  subst h1
  refine ⟨g, rfl, hl, h.2 g rfl, fun i hi => ?_⟩
  have := h.1.cells (g := g) rfl i (.int .i64 (S.getD i 0 : Nat)) (by simp [hi])
  have he : (⟨g, 0, none⟩ : Addr).add i = ⟨g, i, none⟩ := by
    unfold Addr.add
    split
    · rename_i h0; rw [h0]
    · rw [Nat.zero_add]
  rwa [he] at this
theorem Stk.cut {B : Nat} {w : World} {F : Fo} {A : Option Addr} {n cap : Nat} {S : List Nat} (h : Stk B w F (.slice A n cap) S) {r : Nat} (hr : r ≤ S.length) : w.ownsRow B 3 1 (.slice A r cap) r ((S.take r).map fun (n : Nat) => Value.int .i64 n) := by
  obtain ⟨⟨h1, ⟨h2, h3⟩ | ⟨g, cap', cur, h2, h3, h4, h5, h6, h7, h8⟩⟩, _⟩ := h
  · injection h2 with e1 e2 e3
    subst e1 e3
    obtain rfl : r = 0 := by omega
    exact ⟨by simp, .inl ⟨rfl, rfl⟩⟩
  · injection h2 with e1 e2 e3
    subst e1 e3
    refine ⟨by simp; omega, .inr ⟨g, cap, cur, rfl, h3, h4, by omega, h6, h7, ?_⟩⟩
    rw [List.map_take, ← h8, List.take_take, Nat.mul_one, Nat.mul_one, Nat.min_eq_left hr]
theorem OpR.own {k : Nat} {w wc w1 : World} {F F2 : Fo} {T : Nat → Prop} (h : OpR k w F wc F2) (hg : Keeps T wc w1) (hT : ∀ i, T i → w.heap.size ≤ i) (hn : ∀ i, SF F2 i → ¬ T i) : OpR k w F w1 F2 :=
  ⟨⟨h.st.here.keeps hg hn, h.st.ba, h.st.p, h.st.N, h.st.bk, h.st.bj, h.st.ks, h.st.kb, h.st.keep.trans hg (fun i hi ht => by have := hT i ht; omega)⟩, h.len, h.nj⟩
theorem rev_top {α : Type} {S : List Nat} {p : Nat} (e : Nat → α) (h : S.length = p + 1) : (S.map e).reverse = e (S.getD p 0) :: ((S.take p).map e).reverse := by
  have : S = S.take p ++ [S.getD p 0] := by
    have h1 := List.take_succ_eq_append_getElem (l := S) (i := p) (by omega)
    rw [List.take_of_length_le (by omega)] at h1
    rw [List.getD_eq_getElem?_getD, List.getElem?_eq_getElem (by omega)]
    exact h1
  conv => lhs; rw [this]
  simp
theorem rev_top2 {α : Type} {S : List Nat} {p : Nat} (e : Nat → α) (h : S.length = p + 2) : (S.map e).reverse = e (S.getD (p + 1) 0) :: e (S.getD p 0) :: ((S.take p).map e).reverse := by
  rw [rev_top e h, rev_top (S := S.take (p + 1)) (p := p) e (by simp; omega), List.take_take, Nat.min_eq_left (by omega)]
  congr 2
  simp [List.getD_eq_getElem?_getD]
set_option maxRecDepth 100000 in
set_option maxHeartbeats 4000000 in
theorem grow_any (F : Fo) (f : List Int) (fv : Value) (w : World) (h : FoAt w F) (hB : F.base ≤ w.heap.size) (hv : validF F.N f = true) (hf : Ints w F.base fv f) (hr : Room F f.length) :
    Calls Try.prog 32 #[.pointer (some ⟨F.p, 0, none⟩), fv] w
      fun e w' => ∃ m F', e = .returned (.int .i64 (m : Nat)) ∧ OpR f.length w F w' F' ∧ m < F'.ks.length ∧ ∀ v, ev F'.ks v m = evF1 v f := by
  obtain ⟨i0, hi0, hz0, hz1, hz2⟩ := info_parts infoInt
  have hsm := h.small
  obtain ⟨p1, p2⟩ := validF_pos hv
  obtain ⟨A, b, off, cap, rfl, hnc, hA, hc⟩ := hf
  obtain ⟨rfl, hbb⟩ : A = some ⟨b, off, none⟩ ∧ b < F.base := by
    rcases hA with h | h
    · exact h
    · omega
  have hnb : ¬ SF F b := fun e => by have := h.sbase e; omega
  have HC := hide hc
  have H := hide h
  have HV := hide hv
  have HR := hide hr
  have HNB := hide hnb
  clear h hv hr hc hnb hA
  have hlen : (f.length : Int) ≤ 100 := by omega
  have hnil : Hid (∀ n ∈ ([] : List Nat), n < F.ks.length) := by intro n hn; cases hn
  have hnil2 : Hid (∀ v, (([] : List Nat).map (ev F.ks v)).reverse = evS v (f.drop f.length)) := by intro v; simp [evS]
  go_enter Try.func32, Try.ntmps32
  go_wp2
  go_loopw [5, 6] (fun sv i wr => ∃ (j : Nat) (S : List Nat) (F1 : Fo), j ≤ f.length ∧ i = .int .i64 ((j : Int) - 1) ∧ Hid (Stk w.heap.size wr F1 sv S) ∧ Hid (OpR (f.length - j) w F wr F1) ∧ Hid (∀ n ∈ S, n < F1.ks.length) ∧ Hid (∀ v, (S.map (ev F1.ks v)).reverse = evS v (f.drop j))) (fun _ i _ => (intOf i + 1).toNat)
  case atStart => exact ⟨f.length, [], F, Nat.le_refl _, by go_num, ⟨World.ownsRow_nil w w.heap.size 3 1, fun b hb => by simp [Value.ownBlock] at hb⟩, OpR.refl H.out _, hnil, hnil2⟩
  case round =>
    obtain ⟨j, S, F1, hj, rfl, hS, hop, hSl, hev⟩ := hrel
    match j, hj, hop, hev with
    | 0, _, hop, hev =>
      have hS1 : S.length = 1 := by
        have h1 := hev.out (fun _ => false)
        rw [List.drop_zero, validF_one HV.out] at h1
        have := congrArg List.length h1
        simpa using this
      obtain ⟨A1, cap1, rfl, hcap1, hcap2⟩ := hS.out.shape
      obtain ⟨g, rfl, hg1, hg2, hg3⟩ := hS.out.cells (by omega)
      have x0 := hg3 0 (by omega)
      have hk0 : (0 : Int) < (S.length : Int) := by omega
      have hk1 : 0 < S.length := by omega
      have HS1 := hide hS1
      obtain ⟨x, hx⟩ : ∃ x, S.getD 0 0 = x := ⟨_, rfl⟩
      rw [hx] at x0
      have HX := hide hx
      clear hg3 hS1 hx
      go_wp2_with fail
      go_ret
      refine ⟨x, F1, rfl, by have := hop.out; rwa [Nat.sub_zero] at this, hSl.out _ ?_, fun v => ?_⟩
      · rw [← HX.out, List.getD_eq_getElem?_getD, List.getElem?_eq_getElem hk1]; exact List.getElem_mem _
      · have h1 := hev.out v
        rw [List.drop_zero, validF_one HV.out, rev_top (p := 0) _ HS1.out, HX.out] at h1
        injection h1
    | q + 1, hj, hop, hev =>
      have hq : ((q + 1 : Nat) : Int) - 1 = (q : Int) := by omega
      rw [hq]
      clear hq
      obtain ⟨o, ho⟩ : ∃ o, f.getD q 0 = o := ⟨_, rfl⟩
      obtain ⟨w1, _, hv2, hlo, hhi⟩ := vld_at (by have := HV.out; simp only [validF, Bool.and_eq_true] at this; exact this.1) (show q < f.length by omega)
      rw [ho] at hv2 hlo hhi
      have hSn : S.length = w1 + arO o := by
        have h1 := evS_len (fun _ => false) _ _ hv2
        rw [← hev.out, List.length_reverse, List.length_map] at h1
        exact h1
      have hbl := hop.out.st.below H.out hB
      have c0 : wr.cell? ⟨b, off + q, none⟩ = some (.int .i64 o) := by
        have h1 := HC.out q 0 (by omega) (by omega)
        rw [Nat.mul_one, Nat.add_zero, ho] at h1
        exact (hbl.cell (p := ⟨b, off + q, none⟩) hbb).trans h1
      have hbw : b < wr.heap.size := by have := hop.out.st.keep.size; omega
      have hnb1 : ¬ SF F1 b := (hop.out.st.block (by omega) HNB.out).2
      obtain ⟨A1, cap1, rfl, hcap1, hcap2⟩ := hS.out.shape
      have hN1 : F1.N = F.N := hop.out.st.N
      have hS100 : S.length ≤ 100 := by
        have h1 := vld_le _ _ hv2
        rw [List.length_drop] at h1
        omega
      have hroom : Room F1 1 := Room.step (k := f.length - (q + 1)) (HR.out.mono (by omega)) hop.out
      have HRM := hide hroom
      have HOQ := hide ho
      have HSN := hide hSn
      have HN1 := hide hN1
      have HBL := hide hbl
      have HV2 := hide hv2
      have gi0 : (0 : Int) ≤ (q : Int) := by omega
      have gi1 : (q : Int) < (f.length : Int) := by omega
      have gi2 : (0 : Int) ≤ (S.length : Int) := by omega
      have gi3 : (S.length : Int) ≤ 100 := by omega
      clear hroom ho hSn hbl hN1 hv2
      go_upto_block 2 with (fail)
      go_cut [7] from 12 to 72 (fun x wx => ∃ (m : Nat) (F2 : Fo), x = .int .i64 m ∧ Hid (OpR 1 wr F1 wx F2) ∧ m < F2.ks.length ∧ Hid (∀ v, stp v o ((S.map (ev F1.ks v)).reverse) = ev F2.ks v m :: ((S.map (ev F1.ks v)).reverse).drop (arO o)))
      case first =>
        have h2 := hop.out.st.here.wf.two
        by_cases o1 : o = -1
        · subst o1
          go_wp2_with fail
          go_meet
          exact ⟨1, F1, rfl, OpR.refl hop.out.st.here _, by omega, fun v => rfl⟩
        by_cases o2 : o = -2
        · subst o2
          go_wp2_with fail
          go_meet
          exact ⟨0, F1, rfl, OpR.refl hop.out.st.here _, by omega, fun v => rfl⟩
        by_cases o3 : o = -3
        · subst o3
          obtain ⟨p, hp⟩ : ∃ p, S.length = p + 1 := ⟨w1, HSN.out⟩
          obtain ⟨g, rfl, hg1, hg2, hg3⟩ := hS.out.cells (by omega)
          have x0 := hg3 p (by omega)
          obtain ⟨x, hx⟩ : ∃ x, S.getD p 0 = x := ⟨_, rfl⟩
          rw [hx] at x0
          have hxl : x < F1.ks.length := hSl.out x (by rw [← hx, List.getD_eq_getElem?_getD, List.getElem?_eq_getElem (by omega)]; exact List.getElem_mem _)
          have hno := not_any F1 x wr hop.out.st.here hxl HRM.out
          rw [hop.out.st.p] at hno
          have HNO := hide hno
          have HX := hide hx
          have HP := hide hp
          clear hno hx hg3
          have k0 : (1 : Int) ≤ (S.length : Int) := by omega
          have k1 : ((S.length : Int) - 1).toNat = p := by omega
          clear hp
          go_wp2_with (go_at_call 47; refine HNO.out.mono ?_; rintro e w2 ⟨m, F2, rfl, r1, r2, r3⟩; have R1 := hide r1; have R3 := hide r3; clear r1 r3)
          go_meet
          exact ⟨m, F2, rfl, R1.out, r2, fun v => by rw [R3.out v, rev_top _ HP.out, HX.out]; rfl⟩
        by_cases o456 : o = -4 ∨ o = -5 ∨ o = -6
        · obtain ⟨p, hp⟩ : ∃ p, S.length = p + 2 := ⟨w1, by
            have := HSN.out
            unfold arO at this
            rw [if_neg o3, if_pos o456] at this
            exact this⟩
          obtain ⟨g, rfl, hg1, hg2, hg3⟩ := hS.out.cells (by omega)
          have x0 := hg3 (p + 1) (by omega)
          have y0 := hg3 p (by omega)
          obtain ⟨x, hx⟩ : ∃ x, S.getD (p + 1) 0 = x := ⟨_, rfl⟩
          obtain ⟨y, hy⟩ : ∃ y, S.getD p 0 = y := ⟨_, rfl⟩
          rw [hx] at x0
          rw [hy] at y0
          have hxl : x < F1.ks.length := hSl.out x (by rw [← hx, List.getD_eq_getElem?_getD, List.getElem?_eq_getElem (by omega)]; exact List.getElem_mem _)
          have hyl : y < F1.ks.length := hSl.out y (by rw [← hy, List.getD_eq_getElem?_getD, List.getElem?_eq_getElem (by omega)]; exact List.getElem_mem _)
          have hjo := join_op o x y wr.drew o456 (hop.out.st.here.same fun _ _ => rfl) hxl hyl HRM.out
          rw [hop.out.st.p] at hjo
          have HJO := hide hjo
          have HXY := hide (And.intro hx hy)
          have HP := hide hp
          have HO := hide o456
          have k0 : (1 : Int) ≤ (S.length : Int) := by omega
          have k1 : ((S.length : Int) - 1).toNat = p + 1 := by omega
          have k2 : (2 : Int) ≤ (S.length : Int) := by omega
          have k3 : ((S.length : Int) - 2).toNat = p := by omega
          have k4 : IntKind.i64.wrap ((S.length : Int) - 1) = (S.length : Int) - 1 := IntWalk.i64_in _ (by omega)
          have k5 : IntKind.i64.wrap ((S.length : Int) - 2) = (S.length : Int) - 2 := IntWalk.i64_in _ (by omega)
          have k6 : (S.length : Int) - 1 < (S.length : Int) := by omega
          have k7 : (S.length : Int) - 2 < (S.length : Int) := by omega
          clear hjo hx hy hg3 hp
          rcases o456 with rfl | rfl | rfl
          · go_wp2_with fail
            refine wp_region_held_drew (S := (fun w' => Keeps (SF F1) wr w')) (by kernel_rfl) ?_ (fun hHeld => ?_)
            · try dsimp only
              (repeat (first | (with_reducible exact Keeps.refl _ _) | exact hKeep.out | exact hKeepS.out _ | assumption | (with_reducible refine Keeps.drew ?_) | (with_reducible refine Keeps.drewN ?_ _) | (with_reducible refine Keeps.alloc ?_ _) | (with_reducible refine Keeps.setCell ?_ (.inl (by first | exact .inl rfl | exact .inr rfl)) _)))
            refine zU 0 rfl ?_
            refine zU 1 rfl ?_
            refine zU 2 rfl ?_
            refine zU 3 rfl ?_
            refine zU 4 rfl ?_
            refine zU 5 rfl ?_
            refine zU 6 rfl ?_
            refine zU 7 rfl ?_
            refine zU 8 rfl ?_
            refine zU 9 rfl ?_
            refine zU 10 rfl ?_
            refine zU 11 rfl ?_
            refine zU 12 rfl ?_
            refine zU 13 rfl ?_
            refine zU 14 rfl ?_
            refine wpAnyH_ready (rs := [15]) (by kernel_rfl) (by simp) ?_
            refine (AllReadyH.cons rfl (fun K hK => ?_) AllReadyH.nil)
            go_simp
            ((go_at_call 46; refine HJO.out.mono ?_; rintro e w2 ⟨m, F2, rfl, r1, r2, r3⟩; have R1 : Hid (OpR 1 wr F1 w2 F2) := OpR.after_below hop.out.st.here (by repeat (first | exact Below.refl _ _ | assumption | refine Below.drew ?_ | refine Below.drewN ?_ _ | refine Below.allocT ?_ (Nat.le_refl _) _ | refine Below.setCell ?_ (by simp <;> omega) _ | refine Below.to ?_ (by assumption) (Nat.le_refl _))) r1; have R3 := hide r3; have hKeep : Hid (Keeps (SF F1) wr w2) := R1.out.st.keep; clear r1 r3))
            (try dsimp only)
            refine hK.out _ _ ?_ (fun hNext => ?_)
            · try dsimp only
              (repeat (first | (with_reducible exact Keeps.refl _ _) | exact hKeep.out | exact hKeepS.out _ | assumption | (with_reducible refine Keeps.drew ?_) | (with_reducible refine Keeps.drewN ?_ _) | (with_reducible refine Keeps.alloc ?_ _) | (with_reducible refine Keeps.setCell ?_ (.inl (by first | exact .inl rfl | exact .inr rfl)) _)))
            clear hK K hHeld
            have hHeld := hNext
            clear hNext
            (try dsimp only at hHeld)
            try simp only [zX]
            refine zU 16 rfl ?_
            refine wpAnyH_done (by kernel_rfl) ?_ _
            go_wp2_with fail
            go_meet
            exact ⟨m, F2, rfl, R1.out, r2, fun v => by rw [R3.out v, rev_top2 _ HP.out, HXY.out.1, HXY.out.2]; rfl⟩
          · go_wp2_with fail
            refine wp_region_held_drew (S := (fun w' => Keeps (SF F1) wr w')) (by kernel_rfl) ?_ (fun hHeld => ?_)
            · try dsimp only
              (repeat (first | (with_reducible exact Keeps.refl _ _) | exact hKeep.out | exact hKeepS.out _ | assumption | (with_reducible refine Keeps.drew ?_) | (with_reducible refine Keeps.drewN ?_ _) | (with_reducible refine Keeps.alloc ?_ _) | (with_reducible refine Keeps.setCell ?_ (.inl (by first | exact .inl rfl | exact .inr rfl)) _)))
            refine zU 0 rfl ?_
            refine zU 1 rfl ?_
            refine zU 2 rfl ?_
            refine zU 3 rfl ?_
            refine zU 4 rfl ?_
            refine zU 5 rfl ?_
            refine zU 6 rfl ?_
            refine zU 7 rfl ?_
            refine zU 8 rfl ?_
            refine zU 9 rfl ?_
            refine zU 10 rfl ?_
            refine zU 11 rfl ?_
            refine zU 12 rfl ?_
            refine zU 13 rfl ?_
            refine zU 14 rfl ?_
            refine wpAnyH_ready (rs := [15]) (by kernel_rfl) (by simp) ?_
            refine (AllReadyH.cons rfl (fun K hK => ?_) AllReadyH.nil)
            go_simp
            ((go_at_call 46; refine HJO.out.mono ?_; rintro e w2 ⟨m, F2, rfl, r1, r2, r3⟩; have R1 : Hid (OpR 1 wr F1 w2 F2) := OpR.after_below hop.out.st.here (by repeat (first | exact Below.refl _ _ | assumption | refine Below.drew ?_ | refine Below.drewN ?_ _ | refine Below.allocT ?_ (Nat.le_refl _) _ | refine Below.setCell ?_ (by simp <;> omega) _ | refine Below.to ?_ (by assumption) (Nat.le_refl _))) r1; have R3 := hide r3; have hKeep : Hid (Keeps (SF F1) wr w2) := R1.out.st.keep; clear r1 r3))
            (try dsimp only)
            refine hK.out _ _ ?_ (fun hNext => ?_)
            · try dsimp only
              (repeat (first | (with_reducible exact Keeps.refl _ _) | exact hKeep.out | exact hKeepS.out _ | assumption | (with_reducible refine Keeps.drew ?_) | (with_reducible refine Keeps.drewN ?_ _) | (with_reducible refine Keeps.alloc ?_ _) | (with_reducible refine Keeps.setCell ?_ (.inl (by first | exact .inl rfl | exact .inr rfl)) _)))
            clear hK K hHeld
            have hHeld := hNext
            clear hNext
            (try dsimp only at hHeld)
            try simp only [zX]
            refine zU 16 rfl ?_
            refine wpAnyH_done (by kernel_rfl) ?_ _
            go_wp2_with fail
            go_meet
            exact ⟨m, F2, rfl, R1.out, r2, fun v => by rw [R3.out v, rev_top2 _ HP.out, HXY.out.1, HXY.out.2]; rfl⟩
          · go_wp2_with fail
            refine wp_region_held_drew (S := (fun w' => Keeps (SF F1) wr w')) (by kernel_rfl) ?_ (fun hHeld => ?_)
            · try dsimp only
              (repeat (first | (with_reducible exact Keeps.refl _ _) | exact hKeep.out | exact hKeepS.out _ | assumption | (with_reducible refine Keeps.drew ?_) | (with_reducible refine Keeps.drewN ?_ _) | (with_reducible refine Keeps.alloc ?_ _) | (with_reducible refine Keeps.setCell ?_ (.inl (by first | exact .inl rfl | exact .inr rfl)) _)))
            refine zU 0 rfl ?_
            refine zU 1 rfl ?_
            refine zU 2 rfl ?_
            refine zU 3 rfl ?_
            refine zU 4 rfl ?_
            refine zU 5 rfl ?_
            refine zU 6 rfl ?_
            refine zU 7 rfl ?_
            refine zU 8 rfl ?_
            refine zU 9 rfl ?_
            refine zU 10 rfl ?_
            refine zU 11 rfl ?_
            refine zU 12 rfl ?_
            refine zU 13 rfl ?_
            refine zU 14 rfl ?_
            refine wpAnyH_ready (rs := [15]) (by kernel_rfl) (by simp) ?_
            refine (AllReadyH.cons rfl (fun K hK => ?_) AllReadyH.nil)
            go_simp
            ((go_at_call 46; refine HJO.out.mono ?_; rintro e w2 ⟨m, F2, rfl, r1, r2, r3⟩; have R1 : Hid (OpR 1 wr F1 w2 F2) := OpR.after_below hop.out.st.here (by repeat (first | exact Below.refl _ _ | assumption | refine Below.drew ?_ | refine Below.drewN ?_ _ | refine Below.allocT ?_ (Nat.le_refl _) _ | refine Below.setCell ?_ (by simp <;> omega) _ | refine Below.to ?_ (by assumption) (Nat.le_refl _))) r1; have R3 := hide r3; have hKeep : Hid (Keeps (SF F1) wr w2) := R1.out.st.keep; clear r1 r3))
            (try dsimp only)
            refine hK.out _ _ ?_ (fun hNext => ?_)
            · try dsimp only
              (repeat (first | (with_reducible exact Keeps.refl _ _) | exact hKeep.out | exact hKeepS.out _ | assumption | (with_reducible refine Keeps.drew ?_) | (with_reducible refine Keeps.drewN ?_ _) | (with_reducible refine Keeps.alloc ?_ _) | (with_reducible refine Keeps.setCell ?_ (.inl (by first | exact .inl rfl | exact .inr rfl)) _)))
            clear hK K hHeld
            have hHeld := hNext
            clear hNext
            (try dsimp only at hHeld)
            try simp only [zX]
            refine zU 16 rfl ?_
            refine wpAnyH_done (by kernel_rfl) ?_ _
            go_wp2_with fail
            go_meet
            exact ⟨m, F2, rfl, R1.out, r2, fun v => by rw [R3.out v, rev_top2 _ HP.out, HXY.out.1, HXY.out.2]; rfl⟩
        have o7 : 0 ≤ o := by omega
        have k1 : (o == -1) = false := by simpa using o1
        have k2 : (o == -2) = false := by simpa using o2
        have k3 : (o == -3) = false := by simpa using o3
        have k4 : (o == -4) = false := by simp; omega
        have k5 : (o == -5) = false := by simp; omega
        have k6 : (o == -6) = false := by simp; omega
        obtain ⟨x, rfl⟩ : ∃ x : Nat, o = (x : Int) := ⟨o.toNat, by omega⟩
        have hli := literal_any F1 x true wr hop.out.st.here (by have := HN1.out; omega) HRM.out
        rw [hop.out.st.p] at hli
        have HLI := hide hli
        have HO : Hid (¬ (x : Int) = -1 ∧ ¬ (x : Int) = -2 ∧ ¬ (x : Int) = -3 ∧ ¬ ((x : Int) = -4 ∨ (x : Int) = -5 ∨ (x : Int) = -6)) := ⟨o1, o2, o3, o456⟩
        clear hli o1 o2 o3 o456
        go_wp2_with (go_at_call 48; refine HLI.out.mono ?_; rintro e w2 ⟨m, F2, rfl, r1, r2, r3⟩; have R1 := hide r1; have R3 := hide r3; clear r1 r3)
        go_meet
        exact ⟨m, F2, rfl, R1.out, r2, fun v => by
          obtain ⟨h1, h2, h3, h4⟩ := HO.out
          rw [R3.out v]
          unfold stp arO
          rw [if_neg h1, if_neg h2, if_neg h3, if_neg (fun e => h4 (.inl e)), if_neg (fun e => h4 (.inr (.inl e))), if_neg (fun e => h4 (.inr (.inr e))), if_neg h3, if_neg h4]
          simp⟩
      case rest =>
        obtain ⟨m, F2, rfl, hR, hml, hstp⟩ := hcut
        obtain ⟨r, hrn⟩ : ∃ r, S.length = r + arO o := ⟨w1, HSN.out⟩
        have hS2 := hS.out.step hR.out.st
        have hcut := hS2.cut (r := r) (by omega)
        have hb2 := hR.out.st.below hop.out.st.here (by rw [hop.out.st.ba]; have := hop.out.st.keep.size; omega)
        rw [hop.out.st.ba] at hb2
        have d0 : wc.cell? ⟨b, off + q, none⟩ = some (.int .i64 o) := (hb2.cell (p := ⟨b, off + q, none⟩) hbb).trans c0
        have hbc : b < wc.heap.size := by have := hR.out.st.keep.size; omega
        have hr1 : (S.length : Int) - (arO o : Int) = (r : Int) := by omega
        have hr2 : (r : Int) ≤ 100 := by omega
        have hr3 : r ≤ cap1 := by omega
        have hr4 : (r : Int) ≤ (cap1 : Int) := by omega
        have hcap3 : (cap1 : Int) ≤ 9223372036854775807 := by have := hcap2; unfold maxLen at this; omega
        have hwc : w.heap.size ≤ wc.heap.size := by have := hR.out.st.keep.size; have := hop.out.st.keep.size; omega
        have HS2 := hide hS2
        have HCUT := hide hcut
        have HRN := hide hrn
        have HRC := hide hR.out.st.here
        have gi4 : (arO o : Int) ≤ 2 := by unfold arO; split; omega; split <;> omega
        clear hS2 hcut hb2 hrn c0
        go_wp2_with (first | (go_at_call 49; refine (operands_any _ _).mono ?_; rintro e w2 ⟨rfl, rfl⟩) | (at_builtin; go_must (refine wpList_append_own_at _ rfl (.tmp 69) (.tmp 71) _ rfl w.heap.size 3 i0 _ 1 8 Try.underlying24 hi0 hz0 hz1 hz2 rfl (by omega) _ _ _ rfl (HCUT.out.alloc _) ⟨wc.heap.size, 0, none⟩ 1 1 [.int .i64 m] rfl rfl (World.news_of_block (heap_alloc_new wc _)) (by simp [Value.oneCell']) (by unfold maxLen; omega) (by omega) (by simp; omega) ?_); intro v1 w1 hown1 hg1 _ hat1; have HOWN := hide hown1; have HG1 := hide hg1; have HAT := hide hat1; clear hown1 hg1 hat1))
        have hown2 : w1.ownsRow w.heap.size 3 1 v1 (S.take r ++ [m]).length ((S.take r ++ [m]).map fun (n : Nat) => Value.int .i64 n) := by
          have h1 := HOWN.out
          have h2 : (S.take r ++ [m]).length = r + 1 := by simp; omega
          rw [h2, List.map_append]
          exact h1
        have hT : ∀ g, v1.ownBlock = some g → ¬ SF F2 g := by
          intro g hg hs
          rcases HAT.out with e | e
          · exact HS2.out.2 g (by rw [← hg, e]; cases A1 <;> rfl) hs
          · rw [hg] at e
            injection e with e
            have := HRC.out.slt hs
            simp at e
            omega
        have hkeep : Keeps (fun i => (Value.slice A1 r cap1).ownBlock = some i) wc w1 :=
          Keeps.trans ((Keeps.refl _ wc).alloc _) (Keeps.of_grown HG1.out (fun k hk => hk)) (fun _ _ h => h)
        have hT2 : ∀ i, (Value.slice A1 r cap1).ownBlock = some i → w.heap.size ≤ i ∧ ¬ SF F2 i := by
          intro i hi
          refine ⟨(HS2.out.1.lt i ?_).1, HS2.out.2 i ?_⟩
          · rw [← hi]; cases A1 <;> rfl
          · rw [← hi]; cases A1 <;> rfl
        have hop2 : OpR (f.length - q) w F w1 F2 := by
          have h1 := hop.out.trans hR.out
          exact ((h1.mono (l := f.length - q) (by omega)).own hkeep (fun i hi => (hT2 i hi).1) (fun i hs hi => (hT2 i hi).2 hs))
        have HOW2 := hide hown2
        have HT := hide hT
        have HOP2 := hide hop2
        clear hown2 hT hkeep hT2 hop2
        go_wp2_with fail
        go_roundw
        case rel =>
          refine ⟨q, S.take r ++ [m], F2, by omega, by go_num, ⟨HOW2.out, HT.out⟩, HOP2.out, fun n hn => ?_, fun v => ?_⟩
          · rcases List.mem_append.1 hn with h1 | h1
            · have h2 := hSl.out n (List.mem_of_mem_take h1)
              have := hR.out.st.le
              omega
            · rw [List.mem_singleton] at h1
              rw [h1]; exact hml
          · have hq1 : q < f.length := by omega
            rw [drop_getD hq1, evS_cons, HOQ.out, ← hev.out v, hstp.out v, List.map_append, List.reverse_append]
            show [ev F2.ks v m] ++ _ = _
            rw [List.singleton_append]
            congr 1
            rw [← List.map_reverse, ← List.map_reverse, ← List.map_drop, List.drop_reverse]
            have : S.length - arO o = r := by have := HRN.out; omega
            rw [this]
            refine List.map_congr_left fun n hn => ?_
            exact hR.out.st.ev hop.out.st.here.wf (hSl.out n (List.mem_of_mem_take (List.mem_reverse.1 hn))) v
        case measure => simp [intOf]
end Go.Proofs.Ytmgfijadjclmpaa
/- The node of formulas that all have to hold: walk. -/
namespace Go.Proofs.Ytmgfijadjclmpaa
open Go.RowKit
open Go.Maps (Keyed)
set_option linter.unusedVariables false
set_option linter.unusedSimpArgs false
/-- The slice v holds the formulas fs, all below block B. -/
def Forms (w : World) (B : Nat) (v : Value) (fs : List (List Int)) : Prop := ∃ fv : Nat → Value, Sl w B 1 v fs.length (fun i _ => fv i) ∧ ∀ i, i < fs.length → Ints w B (fv i) (fs.getD i [])
theorem Ints.below {w w' : World} {B : Nat} {v : Value} {f : List Int} (h : Ints w B v f) (hb : Below B w w') : Ints w' B v f := Sl.below h hb
theorem Ints.more {w : World} {B B' : Nat} {v : Value} {f : List Int} (h : Ints w B v f) (hB : B ≤ B') : Ints w B' v f := Sl.more h hB
theorem Forms.below {w w' : World} {B : Nat} {v : Value} {fs : List (List Int)} (h : Forms w B v fs) (hb : Below B w w') : Forms w' B v fs := by
  obtain ⟨fv, h1, h2⟩ := h
  exact ⟨fv, Sl.below h1 hb, fun i hi => Sl.below (h2 i hi) hb⟩
theorem Forms.more {w : World} {B B' : Nat} {v : Value} {fs : List (List Int)} (h : Forms w B v fs) (hB : B ≤ B') : Forms w B' v fs := by
  obtain ⟨fv, h1, h2⟩ := h
  exact ⟨fv, Sl.more h1 hB, fun i hi => Sl.more (h2 i hi) hB⟩
theorem allF_snoc (v : Nat → Bool) (l : List (List Int)) (f : List Int) : allF v (l ++ [f]) = (allF v l && evF1 v f) := by simp [allF]
theorem getD_mem {α : Type} {l : List α} {z : α} {k : Nat} (h : k < l.length) : l.getD k z ∈ l := by
  rw [List.getD_eq_getElem?_getD, List.getElem?_eq_getElem h]; exact List.getElem_mem _
theorem take_getD {α : Type} {l : List α} {z : α} {k : Nat} (h : k < l.length) : l.take (k + 1) = l.take k ++ [l.getD k z] := by
  rw [List.take_succ_eq_append_getElem h, List.getD_eq_getElem?_getD, List.getElem?_eq_getElem h]; rfl
set_option maxRecDepth 100000 in
set_option maxHeartbeats 1000000 in
theorem all_any (F : Fo) (fs : List (List Int)) (fv : Value) (w : World) (h : FoAt w F) (hB : F.base ≤ w.heap.size) (hv : ∀ f ∈ fs, validF F.N f = true) (hf : Forms w F.base fv fs) (hn : fs.length ≤ 1000) (hr : Room F (102 * fs.length)) :
    Calls Try.prog 45 #[.pointer (some ⟨F.p, 0, none⟩), fv] w
      fun e w' => ∃ m F', e = .returned (.int .i64 (m : Nat)) ∧ OpR (102 * fs.length) w F w' F' ∧ m < F'.ks.length ∧ ∀ v, ev F'.ks v m = allF v fs := by
  obtain ⟨fvs, ⟨A, b, off, cap, rfl, hnc, hA, hc⟩, hfs⟩ := hf
  have H := hide h
  have HV := hide hv
  have HR := hide hr
  have HC := hide hc
  have HA := hide hA
  have HFS := hide hfs
  have h2 := h.wf.two
  clear h hv hr hc hA hfs
  go_enter Try.func45, Try.ntmps45
  go_wp2
  go_loopw [5, 10] (fun n i wr => ∃ (k m : Nat) (F1 : Fo), k ≤ fs.length ∧ i = .int .i64 k ∧ n = .int .i64 m ∧ Hid (OpR (102 * k) w F wr F1) ∧ m < F1.ks.length ∧ Hid (∀ v, ev F1.ks v m = allF v (fs.take k))) (fun _ i _ => fs.length - (intOf i).toNat)
  case atStart => exact ⟨0, 1, F, Nat.zero_le _, rfl, rfl, OpR.refl H.out _, by omega, fun v => rfl⟩
  case round =>
    obtain ⟨k, m, F1, hk, rfl, rfl, hop, hm, hev⟩ := hrel
    by_cases hlt : k < fs.length
    · obtain ⟨rfl, hbb⟩ : A = some ⟨b, off, none⟩ ∧ b < F.base := by
        rcases HA.out with h | h
        · exact h
        · omega
      obtain ⟨f, hf⟩ : ∃ f, fs.getD k [] = f := ⟨_, rfl⟩
      have hfv : validF F.N f = true := HV.out f (by rw [← hf]; exact getD_mem hlt)
      have hbl := hop.out.st.below H.out hB
      have c0 : wr.cell? ⟨b, off + k, none⟩ = some (fvs k) := by
        have h1 := HC.out k 0 hlt (by omega)
        rw [Nat.mul_one, Nat.add_zero] at h1
        exact (hbl.cell (p := ⟨b, off + k, none⟩) hbb).trans h1
      have hin : Ints wr F.base (fvs k) f := by
        have := (HFS.out k hlt).below hbl
        rwa [hf] at this
      obtain ⟨Af, capf, hfe⟩ := Sl.form hin
      have hr1 : Room F1 102 := Room.step (k := 102 * k) (HR.out.mono (by omega)) hop.out
      have hl100 := (validF_pos hfv).2
      have hle0 := hop.out.st.keep.size
      have hgr := grow_any F1 f (fvs k) wr hop.out.st.here (by rw [hop.out.st.ba]; omega) (by rw [hop.out.st.N]; exact hfv) (by rw [hop.out.st.ba]; exact hin) (hr1.mono (by omega))
      rw [hop.out.st.p] at hgr
      rw [hfe] at hgr c0
      have HGR := hide hgr
      have HF := hide hf
      have HFV := hide hfv
      have HR1 := hide hr1
      clear hf hfv hbl hin hfe hr1 hgr
      go_wp2_with (go_at_call 32; refine HGR.out.mono ?_; rintro e w1 ⟨g, F2, rfl, r1, r2, r3⟩; have R1 := hide r1; have R3 := hide r3; clear r1 r3)
      have hle1 := R1.out.st.le
      have hnd : NodesAt (w1.alloc (.cells #[.int .i64 m, .int .i64 g] 3)) w1.heap.size [m, g] := heap_new _ _ _ rfl
      have hF2 : FoAt (w1.alloc (.cells #[.int .i64 m, .int .i64 g] 3)) F2 := R1.out.st.here.below ((Below.refl _ _).alloc (Nat.le_refl _) _)
      have hnd2 : ¬ SF F2 w1.heap.size := fun e => by have := R1.out.st.here.slt e; omega
      have hr2 : Room F2 2 := Room.step (k := f.length) (HR1.out.mono (by omega)) R1.out
      have han := and_any F2 w1.heap.size [m, g] _ hF2 (by intro n hn; simp at hn; rcases hn with rfl | rfl <;> omega) hnd hnd2 (by simp) hr2
      rw [R1.out.st.p, hop.out.st.p] at han
      have HAN := hide han
      clear hnd hF2 hnd2 hr2 han
      go_wp2_with (go_at_call 31; refine HAN.out.mono ?_; rintro e w2 ⟨x, F3, rfl, r1, r2', r3⟩; have R4 : Hid (OpR 2 w1 F2 w2 F3) := OpR.after_below R1.out.st.here ((Below.refl _ _).alloc (Nat.le_refl _) _) r1; have R6 := hide r3; clear r1 r3)
      go_roundw
      case rel =>
        refine ⟨k + 1, x, F3, by omega, by go_num, rfl, ((hop.out.trans R1.out).trans R4.out).mono (by omega), r2', fun v => ?_⟩
        rw [R6.out v, take_getD (z := []) hlt, allF_snoc, HF.out, List.all_cons, List.all_cons, List.all_nil, R3.out v, R1.out.st.ev hop.out.st.here.wf hm, hev.out v]
        simp
      case measure => simp [intOf]; omega
    · go_wp2
      go_ret
      obtain rfl : k = fs.length := by omega
      exact ⟨m, F1, rfl, hop.out, hm, fun v => by rw [hev.out v, List.take_length]⟩
theorem ret_int {k : IntKind} {a b : Int} (h : a = b) : Ending.returned (.int k a) = .returned (.int k b) := by rw [h]
end Go.Proofs.Ytmgfijadjclmpaa

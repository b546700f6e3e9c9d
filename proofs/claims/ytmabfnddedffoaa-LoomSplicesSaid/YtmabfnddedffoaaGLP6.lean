/- Part 6 of this claim's texts: walks and plain laws. -/
import Derived.Test.YtmabfnddedffoaaRows
import Derived.Test.YtmabfnddedffoaaGLP5
/- Opposite, option, all of some nodes: walks. -/
namespace Go.Proofs.Ytmabfnddedffoaa
open Go.RowKit
open Go.Maps (Keyed)
set_option linter.unusedVariables false
set_option linter.unusedSimpArgs false
/-- A later forest, larger by at most k times 2 to the number of options. -/
structure OpR (k : Nat) (w : World) (F : Fo) (w' : World) (F' : Fo) : Prop where
  st : FStep w F w' F'
  len : F'.ks.length ≤ F.ks.length + k * 2 ^ F.N
  nj : F'.nj ≤ F.nj + k * 2 ^ F.N
theorem OpR.refl {w : World} {F : Fo} (h : FoAt w F) (k : Nat) : OpR k w F w F := ⟨FStep.refl h, by omega, by omega⟩
theorem OpR.trans {k l : Nat} {a b c : World} {F G H : Fo} (h : OpR k a F b G) (g : OpR l b G c H) : OpR (k + l) a F c H := by
  have h1 := h.len
  have h2 := h.nj
  have h3 := g.len
  have h4 := g.nj
  rw [h.st.N] at h3 h4
  refine ⟨h.st.trans g.st, ?_, ?_⟩
  · rw [Nat.add_mul]; omega
  · rw [Nat.add_mul]; omega
theorem OpR.then_below {k : Nat} {a b c : World} {F G : Fo} (h : OpR k a F b G) (hb : Below b.heap.size b c) : OpR k a F c G := ⟨h.st.then_below hb, h.len, h.nj⟩
theorem OpR.after_below {k : Nat} {a b c : World} {F G : Fo} (hF : FoAt a F) (hb : Below a.heap.size a b) (h : OpR k b F c G) : OpR k a F c G := ⟨(FStep.of_below hF hb).trans h.st, h.len, h.nj⟩
theorem OpR.mono {k l : Nat} {a b : World} {F G : Fo} (h : OpR k a F b G) (hk : k ≤ l) : OpR l a F b G := by
  have h1 := h.len
  have h2 := h.nj
  have h3 := Nat.mul_le_mul_right (2 ^ F.N) hk
  exact ⟨h.st, by omega, by omega⟩
theorem OpR.of_join {d : Nat} {w w' : World} {F F' : Fo} {o : Int} {a b n : Nat} (h : JoinR d w F o a b n w' F') (hd : d ≤ F.N) : OpR 1 w F w' F' := by
  have h1 := h.len
  have h2 := h.nj
  have h3 : 2 ^ d ≤ 2 ^ F.N := Nat.pow_le_pow_right (by omega) hd
  exact ⟨h.st, by omega, by omega⟩
/-- There is room for k more steps. -/
def Room (F : Fo) (k : Nat) : Prop := F.ks.length + k * 2 ^ F.N ≤ 1073741824 ∧ F.nj + k * 2 ^ F.N ≤ 1073741824
theorem Room.step {k l : Nat} {w w' : World} {F F' : Fo} (hr : Room F (k + l)) (h : OpR k w F w' F') : Room F' l := by
  have h1 := h.len
  have h2 := h.nj
  obtain ⟨h3, h4⟩ := hr
  rw [Nat.add_mul] at h3 h4
  unfold Room
  rw [h.st.N]
  omega
theorem Room.mono {k l : Nat} {F : Fo} (hr : Room F k) (h : l ≤ k) : Room F l := by
  have h3 := Nat.mul_le_mul_right (2 ^ F.N) h
  obtain ⟨h4, h5⟩ := hr
  exact ⟨by omega, by omega⟩
/-- Two nodes joined, from a later forest. -/
theorem join_op {F : Fo} (o : Int) (a b : Nat) (w : World) (ho : o = -4 ∨ o = -5 ∨ o = -6) (h : FoAt w F) (ha : a < F.ks.length) (hb : b < F.ks.length) (hr : Room F 1) :
    Calls Try.prog 167 #[.pointer (some ⟨F.p, 0, none⟩), .int .i64 o, .int .i64 a, .int .i64 b] w
      fun e w' => ∃ n F', e = .returned (.int .i64 (n : Nat)) ∧ OpR 1 w F w' F' ∧ n < F'.ks.length ∧ ∀ v, ev F'.ks v n = opB o (ev F.ks v a) (ev F.ks v b) := by
  unfold Room at hr
  refine (join_any F.N F o a b w ho h ha hb (by omega) (by omega) (by omega)).mono ?_
  rintro e w' ⟨n, F', rfl, hj⟩
  exact ⟨n, F', rfl, OpR.of_join hj (Nat.le_refl _), hj.lt, hj.ev⟩
set_option maxRecDepth 100000 in
theorem not_any (F : Fo) (n : Nat) (w : World) (h : FoAt w F) (hn : n < F.ks.length) (hr : Room F 1) :
    Calls Try.prog 172 #[.pointer (some ⟨F.p, 0, none⟩), .int .i64 n] w
      fun e w' => ∃ m F', e = .returned (.int .i64 (m : Nat)) ∧ OpR 1 w F w' F' ∧ m < F'.ks.length ∧ ∀ v, ev F'.ks v m = !ev F.ks v n := by
  have h2 := h.wf.two
  have H := hide h
  have HR := hide hr
  clear h hr
  go_enter Try.func172, Try.ntmps172
  go_wp2_with (go_at_call 167; refine (join_op (-6) n 0 _ (by omega) H.out hn (by omega) HR.out).mono ?_; rintro e w1 ⟨m, F1, rfl, h1, h2, h3⟩; have H1 := hide h1; have H3 := hide h3; clear h1 h3)
  go_ret
  exact ⟨m, F1, rfl, H1.out, h2, fun v => by rw [H3.out v, ev_zero]; cases ev F.ks v n <;> rfl⟩
set_option maxRecDepth 100000 in
theorem literal_any (F : Fo) (o : Nat) (b : Bool) (w : World) (h : FoAt w F) (ho : o < F.N) (hr : Room F 1) :
    Calls Try.prog 173 #[.pointer (some ⟨F.p, 0, none⟩), .int .i64 o, .bool b] w
      fun e w' => ∃ m F', e = .returned (.int .i64 (m : Nat)) ∧ OpR 1 w F w' F' ∧ m < F'.ks.length ∧ ∀ v, ev F'.ks v m = (v o == b) := by
  have h2 := h.wf.two
  have h3 := h.wf.top0
  have h4 := h.wf.top1
  have hp := pow_pos2 F.N
  have h01 := node_any F o 0 1 w h ho (by omega) (by omega) (by omega) (by omega) (by unfold Room at hr; omega)
  have h10 := node_any F o 1 0 w h ho (by omega) (by omega) (by omega) (by omega) (by unfold Room at hr; omega)
  have H01 := hide h01
  have H10 := hide h10
  have HP := hide hp
  clear h hr h3 h4 h01 h10 hp
  cases b with
  | true =>
    go_enter Try.func173, Try.ntmps173
    go_wp2_with (go_at_call 175; refine H01.out.mono ?_; rintro e w1 ⟨m, F1, rfl, h1⟩; have H1 := hide h1; clear h1)
    go_ret
    have h1 := H1.out.len
    have h2 := H1.out.nj
    have hp := HP.out
    exact ⟨m, F1, rfl, ⟨H1.out.st, by omega, by omega⟩, H1.out.lt, fun v => by rw [H1.out.ev v, ev_zero, ev_one]; cases v o <;> rfl⟩
  | false =>
    go_enter Try.func173, Try.ntmps173
    go_wp2_with (go_at_call 175; refine H10.out.mono ?_; rintro e w1 ⟨m, F1, rfl, h1⟩; have H1 := hide h1; clear h1)
    go_ret
    have h1 := H1.out.len
    have h2 := H1.out.nj
    have hp := HP.out
    exact ⟨m, F1, rfl, ⟨H1.out.st, by omega, by omega⟩, H1.out.lt, fun v => by rw [H1.out.ev v, ev_zero, ev_one]; cases v o <;> rfl⟩
/-- Nodes in a block of their own. -/
def NodesAt (w : World) (b : Nat) (l : List Nat) : Prop := w.heap[b]? = some (.cells (l.map fun (n : Nat) => Value.int .i64 n).toArray 3 (0, 0))
theorem NodesAt.cell {w : World} {b : Nat} {l : List Nat} (h : NodesAt w b l) {i : Nat} (hi : i < l.length) : w.cell? ⟨b, i, none⟩ = some (.int .i64 (l.getD i 0 : Nat)) := by
  rw [cellOf h i]
  simp [hi]
set_option maxRecDepth 100000 in
theorem and_any (F : Fo) (b : Nat) (l : List Nat) (w : World) (h : FoAt w F) (hl : ∀ n ∈ l, n < F.ks.length) (hb : NodesAt w b l) (hnb : ¬ SF F b) (hlen : l.length ≤ 100) (hr : Room F l.length) :
    Calls Try.prog 148 #[.pointer (some ⟨F.p, 0, none⟩), .slice (some ⟨b, 0, none⟩) l.length l.length] w
      fun e w' => ∃ m F', e = .returned (.int .i64 (m : Nat)) ∧ OpR l.length w F w' F' ∧ m < F'.ks.length ∧ ∀ v, ev F'.ks v m = l.all (fun n => ev F.ks v n) := by
  have h2 := h.wf.two
  have H := hide h
  have HR := hide hr
  have HL := hide hl
  have HB := hide hb
  have HNB := hide hnb
  have hbl : b < w.heap.size := box_lt hb
  clear h hr hl hb hnb
  go_enter Try.func148, Try.ntmps148
  go_wp2
  go_loopw [5, 10] (fun n i wr => ∃ (k m : Nat) (F1 : Fo), k ≤ l.length ∧ i = .int .i64 k ∧ n = .int .i64 m ∧ Hid (OpR k w F wr F1) ∧ m < F1.ks.length ∧ Hid (∀ v, ev F1.ks v m = (l.take k).all (fun n => ev F.ks v n))) (fun _ i _ => l.length - (intOf i).toNat)
  case atStart => exact ⟨0, 1, F, Nat.zero_le _, rfl, rfl, OpR.refl H.out 0, by omega, fun v => rfl⟩
  case round =>
    obtain ⟨k, m, F1, hk, rfl, rfl, hop, hm, hev⟩ := hrel
    by_cases hlt : k < l.length
    · obtain ⟨x, hx⟩ : ∃ x, l.getD k 0 = x := ⟨_, rfl⟩
      have hxm : x ∈ l := by
        rw [← hx, List.getD_eq_getElem?_getD, List.getElem?_eq_getElem hlt]
        exact List.getElem_mem _
      have hxl := HL.out x hxm
      have hle := hop.out.st.le
      have c0 : wr.cell? ⟨b, k, none⟩ = some (.int .i64 (x : Nat)) := by
        have := NodesAt.cell (((hop.out.st.block hbl HNB.out).1).trans HB.out) hlt
        rwa [hx] at this
      have hjo := join_op (-4) m x wr (by omega) hop.out.st.here hm (by omega) ((HR.out.mono (show k + 1 ≤ l.length by omega)).step hop.out)
      rw [hop.out.st.p] at hjo
      have HJO := hide hjo
      have HX := hide hx
      clear hjo hx hxm
      go_wp2_with (go_at_call 167; refine HJO.out.mono ?_; rintro e w1 ⟨m2, F2, rfl, h1, h2, h3⟩; have H1 := hide h1; have H3 := hide h3; clear h1 h3)
      go_roundw
      case rel =>
        refine ⟨k + 1, m2, F2, by omega, by go_num, rfl, hop.out.trans H1.out, h2, fun v => ?_⟩
        rw [H3.out v, hev.out v, List.take_succ_eq_append_getElem hlt, List.all_append, hop.out.st.ev H.out.wf hxl]
        have : l[k] = x := by
          have := HX.out
          rw [List.getD_eq_getElem?_getD, List.getElem?_eq_getElem hlt] at this
          simpa using this
        simp [opB, this]
      case measure => simp [intOf]; omega
    · go_wp2
      go_ret
      obtain rfl : k = l.length := by omega
      exact ⟨m, F1, rfl, hop.out, hm, fun v => by rw [hev.out v, List.take_length]⟩
end Go.Proofs.Ytmabfnddedffoaa

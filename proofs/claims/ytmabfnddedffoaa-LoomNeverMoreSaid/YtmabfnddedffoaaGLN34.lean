/- Part 34 of this claim's texts: walks and plain laws. -/
import Derived.Test.YtmabfnddedffoaaRows
import Derived.Test.YtmabfnddedffoaaGLN33
import Derived.Test.YtmabfnddedffoaaGLN29
import Derived.Test.YtmabfnddedffoaaGLN24
import Derived.Test.YtmabfnddedffoaaGLN25
import Derived.Deep.RegionHeld3
import Derived.Deep.DrawnRows
import Derived.Test.YtmabfnddedffoaaGLN3
import Derived.Test.YtmabfnddedffoaaGLN27
import Derived.Test.YtmabfnddedffoaaGLN30
import Derived.Laws.EntriesVeiled
/- The wires of a variant that use a run: walks. -/
namespace Go.Proofs.Ytmabfnddedffoaa
open Go.RowKit
set_option linter.unusedVariables false
set_option linter.unusedSimpArgs false
/-- Whether a variant has a wire. -/
def inB (l : Lo) (v : List Bool) (i : Nat) : Bool := holB l.m (l.ws.getD i Wi.o).form v
def carE (l : Lo) (run : Int) (v : List Bool) : Int := havE l (btw run 0 ((l.us.length : Int) - 1) && decide (v.length = l.m.opts.length))
def carL (l : Lo) (run : Int) (v : List Bool) : List Nat := if carE l run v = 0 then (List.range l.ws.length).filter (fun i => thruB l run.toNat i && inB l v i) else []
set_option maxRecDepth 100000 in
set_option maxHeartbeats 2000000 in
theorem in_any (i : Nat) (v : List Bool) (A : Option Addr) (q : Nat) (A0 A1 A2 A3 A4 A5 : Option Addr) (q0 q1 q2 q3 q4 q5 : Nat) (l : Lo) (w : World) (hs : SizedL l) (h : LoA w w.heap.size A0 A1 A2 A3 A4 A5 q0 q1 q2 q3 q4 q5 l) (hv : Bols w w.heap.size (.slice A v.length q) v) (hi : i < l.ws.length) (w60 : l.ws.length ≤ 60) :
    Calls Try.prog 111 #[.agg #[.slice A0 l.m.opts.length q0, .slice A1 l.m.rules.length q1, .slice A2 l.ss.length q2, .slice A3 l.us.length q3, .slice A4 l.ps.length q4, .slice A5 l.ws.length q5], .int .i64 i, .slice A v.length q] w fun e w' => e = .returned (.bool (inB l v i)) ∧ Below w.heap.size w w' := by
  have H := hide h
  have HV := hide hv
  have HSM := hide hs.m
  obtain ⟨bw, offw, x, Af, qf, HX, rfl, hbw, hq5, HFO, e0, e1, e2, e3, e4, e5, e6⟩ := h.wi hi
  have hfl : x.form.length ≤ maxLen := (hs.wn x (by rw [← HX.out]; exact getD_mem3f hi)).2
  have ii : (i : Int) < (l.ws.length : Int) := by omega
  have iq : (l.ws.length : Int) ≤ (q5 : Int) := by omega
  have hr : inB l v i = holB l.m x.form v := by unfold inB; rw [HX.out]
  rw [hr]
  clear h hv hs hr
  go_enter Try.func111, Try.ntmps111
  go_upto_region 1 with (fail)
  generalize hw0 : World.alloc _ _ = w0
  obtain ⟨hb0, hB0, hs0⟩ := alloc1 hw0
  have c0 := cellOf hb0 0; have c1 := cellOf hb0 1; have c2 := cellOf hb0 2; have c3 := cellOf hb0 3; have c4 := cellOf hb0 4; have c5 := cellOf hb0 5
  have hlb := box_lt hb0
  have HB0 := hide hB0
  have g6 := (hB0.cell (p := ⟨bw, offw + i * 7 + 6, none⟩) hbw).trans e6
  have lbw : bw < w0.heap.size := by omega
  have HH0 := hide (H.out.up hB0)
  have HF0 := hide (Ints.up HFO.out hB0)
  have HV0 := hide (Sl.up HV.out hB0)
  clear hw0 hb0 hB0 hs0 e0 e1 e2 e3 e4 e5 e6
  refine wp_region_held_drew (S := (fun w' => Below w0.heap.size w0 w')) (by kernel_rfl) ?_ (fun hHeld => ?_)
  · try dsimp only
    exact (by repeat (first | exact Below.refl _ _ | assumption | refine Below.drew ?_ | refine Below.drewN ?_ _ | refine Below.allocT ?_ (Nat.le_refl _) _ | refine Below.setCell ?_ (by simp <;> omega) _ | refine Below.to ?_ (by assumption) (Nat.le_refl _)))
  refine zT 0 rfl ?_
  try simp only [zX]
  refine zT 1 rfl ?_
  try simp only [zX]
  refine zT 2 rfl ?_
  try simp only [zX]
  refine zT 3 rfl ?_
  try simp only [zX]
  refine zT 4 rfl ?_
  try simp only [zX]
  refine zT 5 rfl ?_
  try simp only [zX]
  refine zT 6 rfl ?_
  try simp only [zX]
  refine zT 7 rfl ?_
  try simp only [zX]
  refine zT 8 rfl ?_
  try simp only [zX]
  refine wpAnyH_ready (rs := [9]) (by kernel_rfl) (by simp) ?_
  refine AllReadyH.cons rfl (fun K hK => ?_) AllReadyH.nil
  go_simp
  ((go_at_call 146; refine (Holds_any l.m x.form v _ _ _ _ _ HSM.out hfl (HH0.out.up (by repeat (first | exact Below.refl _ _ | assumption | refine Below.drew ?_ | refine Below.drewN ?_ _ | refine Below.allocT ?_ (Nat.le_refl _) _ | refine Below.setCell ?_ (by simp <;> omega) _ | refine Below.to ?_ (by assumption) (Nat.le_refl _)))).m (HF0.out.up (by repeat (first | exact Below.refl _ _ | assumption | refine Below.drew ?_ | refine Below.drewN ?_ _ | refine Below.allocT ?_ (Nat.le_refl _) _ | refine Below.setCell ?_ (by simp <;> omega) _ | refine Below.to ?_ (by assumption) (Nat.le_refl _)))) (Sl.up HV0.out (by repeat (first | exact Below.refl _ _ | assumption | refine Below.drew ?_ | refine Below.drewN ?_ _ | refine Below.allocT ?_ (Nat.le_refl _) _ | refine Below.setCell ?_ (by simp <;> omega) _ | refine Below.to ?_ (by assumption) (Nat.le_refl _))))).mono ?_; rintro e w5 ⟨rfl, hB5⟩))
  (try dsimp only)
  refine hK.out _ _ ?_ (fun hNext => ?_)
  · try dsimp only
    exact (by repeat (first | exact Below.refl _ _ | assumption | refine Below.drew ?_ | refine Below.drewN ?_ _ | refine Below.allocT ?_ (Nat.le_refl _) _ | refine Below.setCell ?_ (by simp <;> omega) _ | refine Below.to ?_ (by assumption) (Nat.le_refl _)))
  clear hK K hHeld
  have hHeld := hNext
  clear hNext
  (try dsimp only at hHeld)
  try simp only [zX]
  refine zT 10 rfl ?_
  try simp only [zX]
  refine zT 11 rfl ?_
  try simp only [zX]
  refine zT 12 rfl ?_
  try simp only [zX]
  refine zT 13 rfl ?_
  try simp only [zX]
  refine zT 14 rfl ?_
  try simp only [zX]
  refine wpAnyH_done (by kernel_rfl) ?_ _
  go_wp2_with fail
  go_ret
  exact ⟨rfl, Below.to HB0.out hHeld (Nat.le_refl _)⟩
theorem filter_filter6 (p q : Nat → Bool) (L : List Nat) : (L.filter p).filter q = L.filter fun i => p i && q i := by
  rw [List.filter_filter]
  congr 1
  funext i
  exact Bool.and_comm _ _
set_option maxRecDepth 100000 in
set_option maxHeartbeats 1000000 in
theorem bools_any (f : List Bool) (v : Value) (w : World) (hl : f.length ≤ 1000) (h : Bols w w.heap.size v f) :
    Calls Try.prog 37 #[v] w fun e w' => ∃ A cap, e = .returned (.slice A f.length cap) ∧ Bols w' w'.heap.size (.slice A f.length cap) f ∧ Below w.heap.size w w' := by
  obtain ⟨i1, hi1, jz0, jz1, jz2⟩ := info_parts infoBool
  obtain ⟨A, q, rfl⟩ := Sl.form h
  have H := hide (Sl.reads h (by omega))
  clear h
  go_enter Try.func37, Try.ntmps37
  go_wp2_with (at_builtin; refine wpList_append_any _ rfl (.tmp 3) (.tmp 4) _ rfl w.heap.size 4 i1 _ 1 1 Try.underlying38 hi1 jz0 jz1 jz2 rfl (by decide) _ 0 [] rfl (World.ownsRow_made w #[] 0 (Nat.le_refl _) (by unfold maxLen; omega) rfl) w.heap.size A f.length q (flat f.length 1 (fun i _ => .bool (f.getD i false))) rfl (H.out.alloc (Nat.le_refl _) _) (flat_one6 (by omega) (fun i j _ _ => rfl)) (by unfold maxLen; omega) (by omega) (by simp) ?_; intro v4 w4 hown4 hg4 _; rw [Nat.zero_add, List.nil_append] at hown4; obtain ⟨A4', cap4, hv4⟩ := owns_form hown4; subst hv4; have HX1 := hide hown4; have HB4 := hide (Below.grown (Below.allocT (Below.refl w.heap.size w) (Nat.le_refl _) _) hg4 (by simp) (fun j hj => by injection hj with hj; exact Nat.le_of_eq hj)); clear hown4 hg4)
  go_ret
  exact ⟨_, _, rfl, Sl.of_owns HX1.out (fun i j hi hj => flat_get hi hj), HB4.out⟩
set_option maxRecDepth 100000 in
set_option maxHeartbeats 1000000 in
theorem have_carried (p0 p1 p2 : Value) (b : Bool) (A0 A1 A2 A3 A4 A5 : Option Addr) (q0 q1 q2 q3 q4 q5 : Nat) (l : Lo) (w : World) (hs : SizedL l) (h : LoA w w.heap.size A0 A1 A2 A3 A4 A5 q0 q1 q2 q3 q4 q5 l)
    (hf : l.err = 0 → ∀ W, Below w.heap.size w W → Calls Try.prog 109 #[p0, p1, p2] W fun e w' => e = .returned (.bool b) ∧ Below W.heap.size W w') :
    Calls Try.prog 82 #[.agg #[.slice A0 l.m.opts.length q0, .slice A1 l.m.rules.length q1, .slice A2 l.ss.length q2, .slice A3 l.us.length q3, .slice A4 l.ps.length q4, .slice A5 l.ws.length q5], .func (.func 109) #[] #[p0, p1, p2]] w fun e w' => e = .returned (.int .i64 (havE l b)) ∧ Below w.heap.size w w' := by
  have H := hide h
  have HF := hide hf
  obtain ⟨z, hz⟩ : ∃ z, l.err = z := ⟨_, rfl⟩
  have HZ := hide hz
  clear h hf
  by_cases hz0 : z = 0
  · subst hz0
    have hr : havE l b = mustE b 1 := by unfold havE; rw [hz]; rfl
    rw [hr]
    have hf := HF.out hz
    have HF2 := hide hf
    clear hf hz hr
    go_enter Try.func82, Try.ntmps82
    go_upto_region 1 with (fail)
    generalize hw0 : World.alloc _ _ = w0
    obtain ⟨hb0, hB0, hs0⟩ := alloc1 hw0
    have c0 := cellOf hb0 0; have c1 := cellOf hb0 1; have c2 := cellOf hb0 2; have c3 := cellOf hb0 3; have c4 := cellOf hb0 4; have c5 := cellOf hb0 5
    have hlb := box_lt hb0
    have hck := Check_any A0 A1 A2 A3 A4 A5 q0 q1 q2 q3 q4 q5 l w0 hs (H.out.up hB0)
    rw [HZ.out] at hck
    have HCK := hide hck
    have HB0 := hide hB0
    clear hw0 hb0 hB0 hs0 hck
    go_wp2_with (first | (go_at_call 17; refine HCK.out.mono ?_; rintro e w1 ⟨rfl, hB1⟩; have HB1 := hide (Below.to HB0.out hB1 (Nat.le_refl _)); clear hB1 c0 c1 c2 c3 c4 c5 hlb) | (go_at_call 109; refine (HF2.out _ HB1.out).mono ?_; rintro e w2 ⟨rfl, hB2⟩; have HB2 := hide (Below.to HB1.out hB2 (Nat.le_refl _)); clear hB2) | (go_at_call 57; refine (must_any _ _ _).mono ?_; rintro e w3 ⟨rfl, rfl⟩))
    go_ret
    exact ⟨rfl, HB2.out⟩
  · have hr : havE l b = z := by unfold havE; rw [hz, if_pos hz0]
    have hz1 : (z != 0) = true := by simpa using hz0
    rw [hr]
    clear hz hr hz0
    go_enter Try.func82, Try.ntmps82
    go_upto_region 1 with (fail)
    generalize hw0 : World.alloc _ _ = w0
    obtain ⟨hb0, hB0, hs0⟩ := alloc1 hw0
    have c0 := cellOf hb0 0; have c1 := cellOf hb0 1; have c2 := cellOf hb0 2; have c3 := cellOf hb0 3; have c4 := cellOf hb0 4; have c5 := cellOf hb0 5
    have hlb := box_lt hb0
    have hck := Check_any A0 A1 A2 A3 A4 A5 q0 q1 q2 q3 q4 q5 l w0 hs (H.out.up hB0)
    rw [HZ.out] at hck
    have HCK := hide hck
    have HB0 := hide hB0
    clear hw0 hb0 hB0 hs0 hck
    go_wp2_with (go_at_call 17; refine HCK.out.mono ?_; rintro e w1 ⟨rfl, hB1⟩; have HB1 := hide (Below.to HB0.out hB1 (Nat.le_refl _)); clear hB1 c0 c1 c2 c3 c4 c5 hlb)
    go_ret
    exact ⟨rfl, HB1.out⟩

set_option maxRecDepth 100000 in
set_option maxHeartbeats 1000000 in
theorem carried1_any (run : Int) (v : List Bool) (A : Option Addr) (q : Nat) (A0 A1 A2 A3 A4 A5 : Option Addr) (q0 q1 q2 q3 q4 q5 : Nat) (l : Lo) (rb lb vb : Nat) (w : World) (hm : l.us.length ≤ maxLen) (hr : w.heap[rb]? = some (.cells #[.int .i64 run] 3 (0, 0))) (hv : w.heap[vb]? = some (.cells #[.slice A v.length q] 38 (0, 0))) (h : LoBox w lb A0 A1 A2 A3 A4 A5 q0 q1 q2 q3 q4 q5 l) :
    Calls Try.prog 109 #[.pointer (some ⟨rb, 0, none⟩), .pointer (some ⟨lb, 0, none⟩), .pointer (some ⟨vb, 0, none⟩)] w fun e w' => e = .returned (.bool (btw run 0 ((l.us.length : Int) - 1) && decide (v.length = l.m.opts.length))) ∧ Below w.heap.size w w' := by
  have c0 := cellOf h 0
  have c3 := cellOf h 3
  have d0 := cellOf hr 0
  have e0 := cellOf hv 0
  have hlb := box_lt h
  have hlr := box_lt hr
  have hlv := box_lt hv
  unfold maxLen at hm
  cases hb : btw run 0 ((l.us.length : Int) - 1) with
  | false =>
    have HB := hide hb
    clear h hr hv hb
    go_enter Try.func109, Try.ntmps109
    go_wp2_with (go_at_call 54; refine (withinB_any _ _ _ _ _ HB.out).mono ?_; rintro e w1 ⟨rfl, rfl⟩)
    go_ret
    exact ⟨ret_bool (Bool.false_and _).symm, Below.refl _ _⟩
  | true =>
    have HB := hide hb
    have hde : decide (v.length = l.m.opts.length) = decide ((v.length : Int) = (l.m.opts.length : Int)) := decide_eq_decide.2 (by omega)
    by_cases hvl : v.length = l.m.opts.length
    · have g1 : ((v.length : Int) == (l.m.opts.length : Int)) = true := by simp [hvl]
      have HV : Hid (decide (v.length = l.m.opts.length) = true) := decide_eq_true hvl
      clear h hr hv hb hde hvl
      go_enter Try.func109, Try.ntmps109
      go_wp2_with (go_at_call 54; refine (withinB_any _ _ _ _ _ HB.out).mono ?_; rintro e w1 ⟨rfl, rfl⟩)
      go_ret
      exact ⟨ret_bool (by rw [HV.out]; rfl), Below.refl _ _⟩
    · have g1 : ((v.length : Int) == (l.m.opts.length : Int)) = false := by simp; omega
      have HV : Hid (decide (v.length = l.m.opts.length) = false) := decide_eq_false hvl
      clear h hr hv hb hde hvl
      go_enter Try.func109, Try.ntmps109
      go_wp2_with (go_at_call 54; refine (withinB_any _ _ _ _ _ HB.out).mono ?_; rintro e w1 ⟨rfl, rfl⟩)
      go_ret
      exact ⟨ret_bool (by rw [HV.out]; rfl), Below.refl _ _⟩
end Go.Proofs.Ytmabfnddedffoaa
/- Carried, both: walks. -/
namespace Go.Proofs.Ytmabfnddedffoaa
open Go.RowKit
set_option linter.unusedVariables false
set_option linter.unusedSimpArgs false
theorem carE_ok {l : Lo} {run : Int} {v : List Bool} (h : carE l run v = 0) : LoOk l ∧ 0 ≤ run ∧ run < (l.us.length : Int) ∧ v.length = l.m.opts.length := by
  obtain ⟨h1, h2⟩ := havE_ok h
  rw [Bool.and_eq_true] at h2
  obtain ⟨h3, h4⟩ := btw_iff.1 h2.1
  exact ⟨h1, h3, by omega, by simpa using h2.2⟩
theorem carL_thru {l : Lo} {run : Int} {v : List Bool} (h : carE l run v = 0) : carL l run v = (thruL l run.toNat).filter (inB l v) := by
  unfold carL thruL
  rw [if_pos h, filter_filter6]
theorem carL_len (l : Lo) (run : Int) (v : List Bool) : (carL l run v).length ≤ l.ws.length := by
  unfold carL
  split
  · exact filter_range_len _ _
  · simp
theorem carL_mem {l : Lo} {run : Int} {v : List Bool} {i : Nat} (h : i ∈ carL l run v) : i < l.ws.length := by
  unfold carL at h
  split at h
  · have := (List.mem_filter.1 h).1
    simpa using this
  · simp at h
theorem alloc3x {w w0 : World} {o p q : Obj} (h : ((w.alloc o).alloc p).alloc q = w0) : w0.heap[w.heap.size]? = some o ∧ w0.heap[w.heap.size + 1]? = some p ∧ w0.heap[w.heap.size + 2]? = some q ∧ Below w.heap.size w w0 ∧ w0.heap.size = w.heap.size + 3 := by
  have hw : allocs w [o, p, q] = w0 := h
  subst hw
  exact ⟨allocs_get w _ 0 (by simp), allocs_get w _ 1 (by simp), allocs_get w _ 2 (by simp), allocs_below w _ (Nat.le_refl _) _, allocs_size w _⟩
theorem take_filter (p : Nat → Bool) {T : List Nat} {k i : Nat} (hk : k < T.length) (hi : T.getD k 0 = i) : (T.take (k + 1)).filter p = if p i then (T.take k).filter p ++ [i] else (T.take k).filter p := by
  rw [take_snoc hk, hi, List.filter_append]
  cases h : p i <;> simp [h]
set_option maxRecDepth 100000 in
set_option maxHeartbeats 4000000 in
theorem Carried_any (run : Int) (v : List Bool) (Av : Option Addr) (qv : Nat) (A0 A1 A2 A3 A4 A5 : Option Addr) (q0 q1 q2 q3 q4 q5 : Nat) (l : Lo) (w : World) (hs : SizedL l) (h : LoA w w.heap.size A0 A1 A2 A3 A4 A5 q0 q1 q2 q3 q4 q5 l) (hv : Bols w w.heap.size (.slice Av v.length qv) v) :
    Calls Try.prog 36 #[.agg #[.slice A0 l.m.opts.length q0, .slice A1 l.m.rules.length q1, .slice A2 l.ss.length q2, .slice A3 l.us.length q3, .slice A4 l.ps.length q4, .slice A5 l.ws.length q5], .int .i64 run, .slice Av v.length qv] w (TigP (carL l run v) (carE l run v) w) := by
  obtain ⟨i0, hi0, iz0, iz1, iz2⟩ := info_parts infoInt
  have H := hide h
  have HS := hide hs
  have HV := hide hv
  have hu := hs.u
  obtain ⟨z, hz⟩ : ∃ z, carE l run v = z := ⟨_, rfl⟩
  have HZ := hide hz
  clear h hs hv
  by_cases hz0 : z = 0
  case neg =>
    have hL : carL l run v = [] := by unfold carL; rw [if_neg (by rw [hz]; exact hz0)]
    rw [hz, hL]
    have hz1 : (z != 0) = true := by simpa using hz0
    clear hz hz0 hL
    go_enter Try.func36, Try.ntmps36
    go_upto_region 1 with (fail)
    generalize hw0 : World.alloc _ _ = w0
    obtain ⟨hb0, hb1, hb2, hB0, hs0⟩ := alloc3x hw0
    have c0 := cellOf hb0 0; have c1 := cellOf hb0 1; have c2 := cellOf hb0 2; have c3 := cellOf hb0 3; have c4 := cellOf hb0 4; have c5 := cellOf hb0 5
    have hlb := box_lt hb0
    have hhv := have_carried (.pointer (some ⟨w.heap.size + 1, 0, none⟩)) (.pointer (some ⟨w.heap.size, 0, none⟩)) (.pointer (some ⟨w.heap.size + 2, 0, none⟩)) (btw run 0 ((l.us.length : Int) - 1) && decide (v.length = l.m.opts.length)) A0 A1 A2 A3 A4 A5 q0 q1 q2 q3 q4 q5 l w0 HS.out (H.out.up hB0) (fun _ W hW => carried1_any run v Av qv A0 A1 A2 A3 A4 A5 q0 q1 q2 q3 q4 q5 l _ _ _ W hu (box_to hb1 hW) (box_to hb2 hW) (LoBox.to hb0 hW))
    rw [show havE l (btw run 0 ((l.us.length : Int) - 1) && decide (v.length = l.m.opts.length)) = z from HZ.out] at hhv
    have HHV := hide hhv
    have HB0 := hide hB0
    clear hw0 hb0 hb1 hb2 hB0 hs0 hhv
    go_wp2_with (go_at_call 82; refine HHV.out.mono ?_; rintro e w1 ⟨rfl, hB1⟩; have HB1 := hide (Below.to HB0.out hB1 (Nat.le_refl _)); clear hB1)
    go_ret2
    exact ⟨_, rfl, Sl.nil _ _ _ _, HB1.out⟩
  case pos =>
  subst hz0
  obtain ⟨ok, r0, r1, -⟩ := carE_ok hz
  have hcl := carL_thru hz
  rw [hz]
  obtain ⟨kr, rfl⟩ := Int.eq_ofNat_of_zero_le r0
  rw [Int.toNat_natCast] at hcl
  have hkr : kr < l.us.length := by omega
  have OK := hide ok
  have w60 := ok.w60
  obtain ⟨T, hT⟩ : ∃ T, thruL l kr = T := ⟨_, rfl⟩
  rw [hT] at hcl
  have hTm : ∀ i ∈ T, i < l.ws.length := fun i hi => thruL_mem (by rw [hT]; exact hi)
  have hTl : T.length ≤ 60 := by rw [← hT]; exact Nat.le_trans (thruL_len l kr) w60
  have HT := hide hT
  have HTM := hide hTm
  have HCL := hide hcl
  clear hz ok r0 r1 hT hTm hcl
  go_enter Try.func36, Try.ntmps36
  go_upto_region 1 with (fail)
  generalize hw0 : World.alloc _ _ = w0
  obtain ⟨hb0, hb1, hb2, hB0, hs0⟩ := alloc3x hw0
  have c0 := cellOf hb0 0; have c1 := cellOf hb0 1; have c2 := cellOf hb0 2; have c3 := cellOf hb0 3; have c4 := cellOf hb0 4; have c5 := cellOf hb0 5
  have hlb := box_lt hb0
  have hhv := have_carried (.pointer (some ⟨w.heap.size + 1, 0, none⟩)) (.pointer (some ⟨w.heap.size, 0, none⟩)) (.pointer (some ⟨w.heap.size + 2, 0, none⟩)) (btw (kr : Int) 0 ((l.us.length : Int) - 1) && decide (v.length = l.m.opts.length)) A0 A1 A2 A3 A4 A5 q0 q1 q2 q3 q4 q5 l w0 HS.out (H.out.up hB0) (fun _ W hW => carried1_any kr v Av qv A0 A1 A2 A3 A4 A5 q0 q1 q2 q3 q4 q5 l _ _ _ W hu (box_to hb1 hW) (box_to hb2 hW) (LoBox.to hb0 hW))
  rw [show havE l (btw (kr : Int) 0 ((l.us.length : Int) - 1) && decide (v.length = l.m.opts.length)) = 0 from HZ.out] at hhv
  have HHV := hide hhv
  have HB0 := hide hB0
  have HL0 : Hid (LoBox w0 w.heap.size A0 A1 A2 A3 A4 A5 q0 q1 q2 q3 q4 q5 l) := hb0
  have HR0 := hide hb1
  have HW0 := hide hb2
  clear hw0 hb0 hb1 hb2 hB0 hs0 hhv
  go_wp2_with (first | (go_at_call 82; refine HHV.out.mono ?_; rintro e w1 ⟨rfl, hB1⟩; have e0 := cellOf (HL0.out.to hB1) 0; have e1 := cellOf (HL0.out.to hB1) 1; have e2 := cellOf (HL0.out.to hB1) 2; have e3 := cellOf (HL0.out.to hB1) 3; have e4 := cellOf (HL0.out.to hB1) 4; have e5 := cellOf (HL0.out.to hB1) 5; have f0 := cellOf (box_to HR0.out hB1) 0; have lb1 := box_lt (HL0.out.to hB1); have lr1 := box_lt (box_to HR0.out hB1); have HL1 := hide (HL0.out.to hB1); have HW1 := hide (box_to HW0.out hB1); have HB1 := hide (Below.to HB0.out hB1 (Nat.le_refl _)); clear hB1 c0 c1 c2 c3 c4 c5 hlb) | (go_at_call 110; refine (through_any kr A0 A1 A2 A3 A4 A5 q0 q1 q2 q3 q4 q5 l _ (H.out.up HB1.out) OK.out hkr).mono ?_; rw [HT.out]; rintro e w2 ⟨v2, rfl, hn2, hB2⟩; obtain ⟨At, qt, hv2⟩ := Sl.form hn2; subst hv2; have HN2 := hide hn2; have HL2 := hide (HL1.out.to hB2); have HW2 := hide (box_to HW1.out hB2); have HB2 := hide (Below.to HB1.out hB2 (Nat.le_refl _)); clear hn2 hB2 e0 e1 e2 e3 e4 e5 f0 lb1 lr1))
  go_loopw [9, 11, 22] (fun o _ i wr => ∃ (k : Nat) (A : Option Addr) (cap : Nat) (S : List Nat), i = .int .i64 k ∧ o = .slice A S.length cap ∧ k ≤ T.length ∧ Hid ((T.take k).filter (inB l v) = S) ∧ Hid (Below w2.heap.size w2 wr) ∧ Hid (ReaS w wr w2.heap.size w.heap.size A0 A1 A2 A3 A4 A5 q0 q1 q2 q3 q4 q5 l (.slice A S.length cap) S)) (fun _ _ i _ => T.length - (intOf i).toNat)
  case atStart => exact ⟨0, _, _, [], rfl, rfl, Nat.zero_le _, rfl, Below.refl _ _, ReaS.mk' HB2.out HL2.out (World.ownsRow_nil _ _ _ _) ⟨HB2.out.size, Nat.le_refl _⟩⟩
  case round =>
    obtain ⟨k, A, cap, S, rfl, rfl, hk, HSs, HBr, R⟩ := hrel
    have hSl : S.length ≤ 60 := by
      rw [← HSs.out]
      refine Nat.le_trans (List.length_filter_le _ _) ?_
      simp
      omega
    by_cases hkl : k < T.length
    · obtain ⟨bt, ot, rfl, hbt, _, ct⟩ := (HN2.out.up HBr.out).at hkl
      have hqt := Nods.cap HN2.out
      obtain ⟨i, hi⟩ : ∃ i, T.getD k 0 = i := ⟨_, rfl⟩
      have hil : i < l.ws.length := HTM.out i (by rw [← hi]; exact getD_mem3 hkl)
      rw [hi] at ct
      have htf := take_filter (inB l v) hkl hi
      rw [HSs.out] at htf
      have HTF := hide htf
      have ik : (k : Int) < (T.length : Int) := by omega
      have iqt : (T.length : Int) ≤ (qt : Int) := by omega
      have hin := in_any i v Av qv A0 A1 A2 A3 A4 A5 q0 q1 q2 q3 q4 q5 l wr HS.out (H.out.up R.out.below) (Sl.up HV.out R.out.below) hil w60
      have d0 := cellOf R.out.box 0; have d1 := cellOf R.out.box 1; have d2 := cellOf R.out.box 2; have d3 := cellOf R.out.box 3; have d4 := cellOf R.out.box 4; have d5 := cellOf R.out.box 5
      have ld := box_lt R.out.box
      have hwb := box_to HW2.out HBr.out
      have u0 := cellOf hwb 0
      have lu := box_lt hwb
      clear hi htf hqt hwb
      cases hb : inB l v i with
      | false =>
        rw [hb] at hin HTF
        have HIN := hide hin
        clear hb hin
        go_wp2_with (go_at_call 111; refine HIN.out.mono ?_; rintro e w3 ⟨rfl, hB3⟩; have R3 := hide (R.out.to hB3); have HB3 := hide (Below.to HBr.out hB3 (Nat.le_refl _)); clear hB3 d0 d1 d2 d3 d4 d5 ld u0 lu ct)
        go_roundw
        case rel => exact ⟨k + 1, _, _, S, by go_num, rfl, by omega, HTF.out.trans (if_neg (by simp)), HB3.out, R3.out⟩
        case measure => simp [intOf]; omega
      | true =>
        rw [hb] at hin HTF
        have HIN := hide hin
        clear hb hin
        go_wp2_with (first | (go_at_call 111; refine HIN.out.mono ?_; rintro e w3' ⟨rfl, hB3⟩; have R3 := hide (R.out.to hB3); have HB3 := hide (Below.to HBr.out hB3 (Nat.le_refl _)); clear hB3 d0 d1 d2 d3 d4 d5 ld u0 lu ct) | (at_builtin; go_must (refine wpList_append_own_at _ rfl (.tmp 30) (.tmp 32) _ rfl (w2.heap.size) 3 i0 _ 1 8 Try.underlying41 hi0 iz0 iz1 iz2 rfl (by omega) _ _ _ rfl ((R3.out.own).alloc _) ⟨w3'.heap.size, 0, none⟩ 1 1 [.int .i64 (i : Nat)] rfl rfl (World.news_of_block (heap_alloc_new w3' _)) (by simp [Value.oneCell']) (by have h1 := hSl; unfold maxLen; omega) (by have h1 := hSl; omega) (by have h1 := R3.out.lt.2; simp; omega) ?_); intro v1 w3 hown1 hg1 _ hat1; obtain ⟨A6', cap6, hv6⟩ := owns_form hown1; subst hv6; have R5 := hide (R3.out.push hown1 hg1); have HB4 := hide (own_low HB3.out R3.out.own (Nat.le_refl _) hg1); clear hown1 hg1 hat1))
        go_roundw
        case rel => exact ⟨k + 1, A6', cap6, S ++ [i], by go_num, by rw [List.length_append, List.length_singleton], by omega, HTF.out.trans (by simp), HB4.out, by rw [List.length_append, List.length_singleton]; exact R5.out⟩
        case measure => simp [intOf]; omega
    · have hke : k = T.length := by omega
      subst hke
      have hS := HSs.out
      rw [List.take_length] at hS
      have HS2 := hide hS
      clear hS
      go_wp2_with fail
      go_ret2
      exact ⟨_, rfl, by rw [HCL.out, HS2.out]; exact R.out.nd, R.out.below⟩
end Go.Proofs.Ytmabfnddedffoaa
/- The program's search for a way: its lists and what its closure has captured. -/
namespace Go.Proofs.Ytmabfnddedffoaa
open Go.RowKit
set_option linter.unusedVariables false
set_option linter.unusedSimpArgs false
/-- Numbers as values. -/
def nvL (S : List Nat) : List Value := S.map fun (n : Nat) => Value.int .i64 n
theorem nvL_snoc (S : List Nat) (k : Nat) : nvL (S ++ [k]) = nvL S ++ [.int .i64 k] := by simp [nvL]
/-- The closure of the search, its lists and what it has captured; the blocks lie from n on. -/
structure WyAt (w0 w : World) (n : Nat) (A0 A1 A2 A3 A4 A5 : Option Addr) (q0 q1 q2 q3 q4 q5 : Nat) (l : Lo) (b : Nat) (sv rv : Value) (S R : List Nat) : Prop where
  below : Below n w0 w
  box : LoBox w n A0 A1 A2 A3 A4 A5 q0 q1 q2 q3 q4 q5 l
  tb : w.heap[n + 1]? = some (.cells #[.int .i64 b] 3 (0, 0))
  s : w.heap[n + 2]? = some (.cells #[sv] 41 (0, 0))
  r : w.heap[n + 3]? = some (.cells #[rv] 41 (0, 0))
  v : w.heap[n + 4]? = some (.cells #[.func (.func 145) #[] #[.pointer (some ⟨n + 2, 0, none⟩), .pointer (some ⟨n + 1, 0, none⟩), .pointer (some ⟨n, 0, none⟩), .pointer (some ⟨n + 3, 0, none⟩), .pointer (some ⟨n + 4, 0, none⟩)]] 154 (0, 0))
  sr : w.ownsRow (n + 5) 3 1 sv S.length (nvL S)
  rr : w.ownsRow (n + 5) 3 1 rv R.length (nvL R)
  ne : ∀ g, sv.ownBlock = some g → rv.ownBlock ≠ some g
  n0 : n = w0.heap.size
section
variable {w0 w w' : World} {n b : Nat} {A0 A1 A2 A3 A4 A5 : Option Addr} {q0 q1 q2 q3 q4 q5 : Nat} {l : Lo} {sv rv v1 : Value} {S R : List Nat} {o : Obj} {a : Nat}
theorem WyAt.size (h : WyAt w0 w n A0 A1 A2 A3 A4 A5 q0 q1 q2 q3 q4 q5 l b sv rv S R) : n + 5 ≤ w.heap.size := by
  have := box_lt h.v
  omega
theorem WyAt.up (h : WyAt w0 w n A0 A1 A2 A3 A4 A5 q0 q1 q2 q3 q4 q5 l b sv rv S R) (hb : Below w.heap.size w w') : WyAt w0 w' n A0 A1 A2 A3 A4 A5 q0 q1 q2 q3 q4 q5 l b sv rv S R :=
  ⟨Below.to h.below hb (by have := h.size; have := h.n0; omega), box_to h.box hb, box_to h.tb hb, box_to h.s hb, box_to h.r hb, box_to h.v hb, owns_below h.sr hb, owns_below h.rr hb, h.ne, h.n0⟩
theorem WyAt.snoS (h : WyAt w0 w n A0 A1 A2 A3 A4 A5 q0 q1 q2 q3 q4 q5 l b sv rv S R) (hown : w'.ownsRow (n + 5) 3 1 v1 (S.length + 1) (nvL S ++ [.int .i64 a])) (hg : (w.alloc o).grownBy w' sv.ownBlock) (hat : v1.ownBlock = sv.ownBlock ∨ v1.ownBlock = some (w.alloc o).heap.size) :
    WyAt w0 (w'.setCell ⟨n + 2, 0, none⟩ v1) n A0 A1 A2 A3 A4 A5 q0 q1 q2 q3 q4 q5 l b v1 rv (S ++ [a]) R := by
  have hz := h.size
  have hk : ∀ k, k < w.heap.size → sv.ownBlock ≠ some k → k ≠ n + 2 → (w'.setCell ⟨n + 2, 0, none⟩ v1).heap[k]? = w.heap[k]? := fun k h1 h2 h3 =>
    (Below.heap_setCell _ _ _ _ h3).trans ((hg.block k (by simp; omega) (fun e => h2 e.symm)).trans (Below.heap_alloc _ _ _ h1))
  have hlow : ∀ k, k < n + 5 → sv.ownBlock ≠ some k := fun k h1 h2 => by have := (h.sr.lt k h2).1; omega
  have hs : w'.heap[n + 2]? = some (.cells #[sv] 41 (0, 0)) := (hg.block (n + 2) (by simp; omega) (fun e => hlow _ (by omega) e.symm)).trans ((Below.heap_alloc _ _ _ (by omega)).trans h.s)
  have hv1 : ∀ k, v1.ownBlock = some k → n + 5 ≤ k := fun k h1 => (hown.lt k h1).1
  refine ⟨?_, (hk n (by omega) (hlow _ (by omega)) (by omega)).trans h.box, (hk (n + 1) (by omega) (hlow _ (by omega)) (by omega)).trans h.tb, setCellOf hs v1, (hk (n + 3) (by omega) (hlow _ (by omega)) (by omega)).trans h.r, (hk (n + 4) (by omega) (hlow _ (by omega)) (by omega)).trans h.v, ?_, ?_, ?_, h.n0⟩
  · exact Below.setCell (Below.grown (h.below.alloc (by omega) o) hg (by simp; omega) (fun k h1 => by have := (h.sr.lt k h1).1; omega)) (by show n ≤ n + 2; omega) v1
  · rw [List.length_append, List.length_singleton, nvL_snoc]
    exact ownsRow_same hown fun k h1 => Below.heap_setCell _ _ _ _ (by have := hv1 k h1; show k ≠ n + 2; omega)
  · exact ownsRow_same h.rr fun k h1 => hk k (h.rr.lt k h1).2 (fun e => h.ne k e h1) (by have := (h.rr.lt k h1).1; omega)
  · intro g h1 h2
    rcases hat with e | e
    · exact h.ne g (by rw [← e]; exact h1) h2
    · rw [e] at h1
      injection h1 with h1
      have := (h.rr.lt g h2).2
      simp at h1
      omega
theorem WyAt.snoR (h : WyAt w0 w n A0 A1 A2 A3 A4 A5 q0 q1 q2 q3 q4 q5 l b sv rv S R) (hown : w'.ownsRow (n + 5) 3 1 v1 (R.length + 1) (nvL R ++ [.int .i64 a])) (hg : (w.alloc o).grownBy w' rv.ownBlock) (hat : v1.ownBlock = rv.ownBlock ∨ v1.ownBlock = some (w.alloc o).heap.size) :
    WyAt w0 (w'.setCell ⟨n + 3, 0, none⟩ v1) n A0 A1 A2 A3 A4 A5 q0 q1 q2 q3 q4 q5 l b sv v1 S (R ++ [a]) := by
  have hz := h.size
  have hk : ∀ k, k < w.heap.size → rv.ownBlock ≠ some k → k ≠ n + 3 → (w'.setCell ⟨n + 3, 0, none⟩ v1).heap[k]? = w.heap[k]? := fun k h1 h2 h3 =>
    (Below.heap_setCell _ _ _ _ h3).trans ((hg.block k (by simp; omega) (fun e => h2 e.symm)).trans (Below.heap_alloc _ _ _ h1))
  have hlow : ∀ k, k < n + 5 → rv.ownBlock ≠ some k := fun k h1 h2 => by have := (h.rr.lt k h2).1; omega
  have hs : w'.heap[n + 3]? = some (.cells #[rv] 41 (0, 0)) := (hg.block (n + 3) (by simp; omega) (fun e => hlow _ (by omega) e.symm)).trans ((Below.heap_alloc _ _ _ (by omega)).trans h.r)
  have hv1 : ∀ k, v1.ownBlock = some k → n + 5 ≤ k := fun k h1 => (hown.lt k h1).1
  refine ⟨?_, (hk n (by omega) (hlow _ (by omega)) (by omega)).trans h.box, (hk (n + 1) (by omega) (hlow _ (by omega)) (by omega)).trans h.tb, (hk (n + 2) (by omega) (hlow _ (by omega)) (by omega)).trans h.s, setCellOf hs v1, (hk (n + 4) (by omega) (hlow _ (by omega)) (by omega)).trans h.v, ?_, ?_, ?_, h.n0⟩
  · exact Below.setCell (Below.grown (h.below.alloc (by omega) o) hg (by simp; omega) (fun k h1 => by have := (h.rr.lt k h1).1; omega)) (by show n ≤ n + 3; omega) v1
  · exact ownsRow_same h.sr fun k h1 => hk k (h.sr.lt k h1).2 (fun e => h.ne k h1 e) (by have := (h.sr.lt k h1).1; omega)
  · rw [List.length_append, List.length_singleton, nvL_snoc]
    exact ownsRow_same hown fun k h1 => Below.heap_setCell _ _ _ _ (by have := hv1 k h1; show k ≠ n + 3; omega)
  · intro g h1 h2
    rcases hat with e | e
    · exact h.ne g h1 (by rw [← e]; exact h2)
    · rw [e] at h2
      injection h2 with h2
      have := (h.sr.lt g h1).2
      simp at h2
      omega
theorem own_cut {e B : Nat} {A : Option Addr} {m cap : Nat} {xs : List Value} (h : w.ownsRow B e 1 (.slice A m cap) m xs) {r : Nat} (hr : r ≤ m) : w.ownsRow B e 1 (.slice A r cap) r (xs.take r) := by
  obtain ⟨h1, ⟨h2, h3⟩ | ⟨g, cap', cur, h2, h3, h4, h5, h6, h7, h8⟩⟩ := h
  · injection h2 with e1 e2 e3
    subst e1 e3
    obtain rfl : r = 0 := by omega
    exact ⟨by simp, .inl ⟨rfl, rfl⟩⟩
  · injection h2 with e1 e2 e3
    subst e1 e3
    refine ⟨by simp; omega, .inr ⟨g, cap, cur, rfl, h3, h4, by omega, h6, h7, ?_⟩⟩
    rw [← h8, List.take_take, Nat.mul_one, Nat.mul_one, Nat.min_eq_left hr]
theorem own_block (A : Option Addr) (m m' cap cap' : Nat) : (Value.slice A m cap).ownBlock = (Value.slice A m' cap').ownBlock := by cases A <;> rfl
theorem nvL_take (S : List Nat) (a : Nat) : (nvL (S ++ [a])).take S.length = nvL S := by
  rw [nvL_snoc, List.take_append_of_le_length (by simp [nvL])]
  rw [List.take_of_length_le (by simp [nvL])]
theorem WyAt.popS {A : Option Addr} {cap : Nat} (h : WyAt w0 w n A0 A1 A2 A3 A4 A5 q0 q1 q2 q3 q4 q5 l b (.slice A (S.length + 1) cap) rv (S ++ [a]) R) : WyAt w0 (w.setCell ⟨n + 2, 0, none⟩ (.slice A S.length cap)) n A0 A1 A2 A3 A4 A5 q0 q1 q2 q3 q4 q5 l b (.slice A S.length cap) rv S R := by
  have hz := h.size
  have hk : ∀ k, k ≠ n + 2 → (w.setCell ⟨n + 2, 0, none⟩ (.slice A S.length cap)).heap[k]? = w.heap[k]? := fun k h3 => Below.heap_setCell _ _ _ _ h3
  have hc := h.sr
  rw [List.length_append, List.length_singleton] at hc
  have hc := own_cut hc (r := S.length) (by omega)
  rw [nvL_take] at hc
  refine ⟨Below.setCell h.below (by show n ≤ n + 2; omega) _, (hk n (by omega)).trans h.box, (hk _ (by omega)).trans h.tb, setCellOf h.s _, (hk _ (by omega)).trans h.r, (hk _ (by omega)).trans h.v, ?_, ?_, fun g hg => h.ne g (by rw [own_block A _ S.length _ cap]; exact hg), h.n0⟩
  · exact ownsRow_same hc fun k h1 => hk k (by have := (hc.lt k h1).1; omega)
  · exact ownsRow_same h.rr fun k h1 => hk k (by have := (h.rr.lt k h1).1; omega)
theorem WyAt.popR {A : Option Addr} {cap : Nat} (h : WyAt w0 w n A0 A1 A2 A3 A4 A5 q0 q1 q2 q3 q4 q5 l b sv (.slice A (R.length + 1) cap) S (R ++ [a])) : WyAt w0 (w.setCell ⟨n + 3, 0, none⟩ (.slice A R.length cap)) n A0 A1 A2 A3 A4 A5 q0 q1 q2 q3 q4 q5 l b sv (.slice A R.length cap) S R := by
  have hz := h.size
  have hk : ∀ k, k ≠ n + 3 → (w.setCell ⟨n + 3, 0, none⟩ (.slice A R.length cap)).heap[k]? = w.heap[k]? := fun k h3 => Below.heap_setCell _ _ _ _ h3
  have hc := h.rr
  rw [List.length_append, List.length_singleton] at hc
  have hc := own_cut hc (r := R.length) (by omega)
  rw [nvL_take] at hc
  refine ⟨Below.setCell h.below (by show n ≤ n + 3; omega) _, (hk n (by omega)).trans h.box, (hk _ (by omega)).trans h.tb, (hk _ (by omega)).trans h.s, setCellOf h.r _, (hk _ (by omega)).trans h.v, ?_, ?_, fun g hg => by rw [own_block A _ (R.length + 1) _ cap]; exact h.ne g hg, h.n0⟩
  · exact ownsRow_same h.sr fun k h1 => hk k (by have := (h.sr.lt k h1).1; omega)
  · exact ownsRow_same hc fun k h1 => hk k (by have := (hc.lt k h1).1; omega)
end
end Go.Proofs.Ytmabfnddedffoaa

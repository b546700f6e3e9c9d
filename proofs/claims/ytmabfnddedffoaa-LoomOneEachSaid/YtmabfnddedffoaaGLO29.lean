/- Part 29 of this claim's texts: walks and plain laws. -/
import Derived.Test.YtmabfnddedffoaaRows
import Derived.Test.YtmabfnddedffoaaGLO14
import Derived.Deep.RegionHeld3
import Derived.Deep.DrawnRows
import Derived.Test.YtmabfnddedffoaaGLO28
import Derived.Test.YtmabfnddedffoaaGLO1
/- Whether a loom is larger than a statement looks at: walk. -/
namespace Go.Proofs.Ytmabfnddedffoaa
open Go.RowKit
set_option linter.unusedVariables false
set_option linter.unusedSimpArgs false
theorem any_yes {α : Type} {z : α} {p : α → Bool} {l : List α} {k : Nat} (hk : k < l.length) (h : p (l.getD k z) = true) : l.any p = true :=
  List.any_eq_true.2 ⟨_, by rw [List.getD_eq_getElem?_getD, List.getElem?_eq_getElem hk]; exact List.getElem_mem hk, h⟩
theorem any_no {α : Type} {z : α} {p : α → Bool} {l : List α} (h : ∀ j, j < l.length → p (l.getD j z) = false) : l.any p = false := by
  rw [← Bool.not_eq_true, List.any_eq_true]
  rintro ⟨x, hx, hp⟩
  obtain ⟨i, hi, rfl⟩ := List.mem_iff_getElem.1 hx
  have := h i hi
  rw [List.getD_eq_getElem?_getD, List.getElem?_eq_getElem hi, Option.getD_some, hp] at this
  cases this
theorem getD_mem3f {α : Type} {l : List α} {z : α} {k : Nat} (h : k < l.length) : l.getD k z ∈ l := by
  rw [List.getD_eq_getElem?_getD, List.getElem?_eq_getElem h]
  exact List.getElem_mem h
def farN (l : Lo) : Bool := decide (10 < l.m.opts.length) || decide (10 < l.m.rules.length) || decide (12 < l.ss.length) || decide (12 < l.us.length) || decide (10 < l.ps.length) || decide (12 < l.ws.length)
def farW (x : Wi) : Bool := decide (100 < x.name.size) || decide (40 < x.form.length)
/-- Whether a loom is larger than a statement looks at. -/
def farB (l : Lo) : Bool := farN l || (l.m.rules.any fun f => decide (40 < f.length)) || (l.m.opts.any fun s => decide (100 < s.size)) || (l.ps.any fun p => decide (100 < p.name.size)) || l.ws.any farW
theorem far_small {l : Lo} (h : farB l = false) : l.m.opts.length ≤ 10 ∧ l.m.rules.length ≤ 10 ∧ l.ss.length ≤ 12 ∧ l.us.length ≤ 12 ∧ l.ps.length ≤ 10 ∧ l.ws.length ≤ 12 := by
  unfold farB farN at h
  simp only [Bool.or_eq_false_iff, decide_eq_false_iff_not] at h
  omega
theorem MoAt.rule_at {w : World} {B : Nat} {ov : Value} {A : Option Addr} {n q : Nat} {m : Mo} (h : MoAt w B ov (.slice A n q) m) {k : Nat} (hk : k < m.rules.length) : ∃ b off f Af qf, Hid (m.rules.getD k [] = f) ∧ A = some ⟨b, off, none⟩ ∧ b < B ∧ m.rules.length ≤ q ∧ Hid (Ints w B (.slice Af f.length qf) f) ∧ w.cell? ⟨b, off + k, none⟩ = some (.slice Af f.length qf) := by
  obtain ⟨fv, hs, hf⟩ := h.r
  obtain ⟨h1, h2, b, off, h3, h4, h5⟩ := sl_at hs hk
  have h6 := hf k hk
  obtain ⟨Af, qf, e⟩ := Sl.form h6
  rw [e] at h6
  have h7 := h5 0 (by omega)
  rw [e, Nat.mul_one, Nat.add_zero] at h7
  exact ⟨b, off, _, Af, qf, rfl, h3, h4, h1 ▸ h2, h6, h7⟩
theorem MoAt.opt_at {w : World} {B : Nat} {rv : Value} {A : Option Addr} {n q : Nat} {m : Mo} (h : MoAt w B (.slice A n q) rv m) {k : Nat} (hk : k < m.opts.length) : ∃ b off s, Hid (m.opts.getD k ByteArray.empty = s) ∧ A = some ⟨b, off, none⟩ ∧ b < B ∧ m.opts.length ≤ q ∧ w.cell? ⟨b, off + k, none⟩ = some (.string s) := by
  obtain ⟨h1, h2, b, off, h3, h4, h5⟩ := sl_at h.o hk
  have h7 := h5 0 (by omega)
  rw [Nat.mul_one, Nat.add_zero] at h7
  exact ⟨b, off, _, rfl, h3, h4, h1 ▸ h2, h7⟩
set_option maxRecDepth 100000 in
set_option maxHeartbeats 8000000 in
theorem Far_any (A0 A1 A2 A3 A4 A5 : Option Addr) (q0 q1 q2 q3 q4 q5 : Nat) (l : Lo) (w : World) (hs : SizedL l) (h : LoA w w.heap.size A0 A1 A2 A3 A4 A5 q0 q1 q2 q3 q4 q5 l) :
    Calls Try.prog 14 #[.agg #[.slice A0 l.m.opts.length q0, .slice A1 l.m.rules.length q1, .slice A2 l.ss.length q2, .slice A3 l.us.length q3, .slice A4 l.ps.length q4, .slice A5 l.ws.length q5]] w fun e w' => e = .returned (.bool (farB l)) ∧ Below w.heap.size w w' := by
  have H := hide h
  have HS := hide hs
  clear h hs
  go_enter Try.func14, Try.ntmps14
  go_upto_region 1 with (fail)
  generalize hw0 : World.alloc _ _ = w0
  obtain ⟨hb0, hB0, hs0⟩ := alloc1 hw0
  have HB0 := hide hB0
  have c0 := cellOf hb0 0; have c1 := cellOf hb0 1; have c2 := cellOf hb0 2; have c3 := cellOf hb0 3; have c4 := cellOf hb0 4; have c5 := cellOf hb0 5
  have hlb := box_lt hb0
  have H0 := hide (H.out.up hB0)
  clear hw0 hb0 hB0 hs0
  by_cases t0 : (10 : Int) < (l.m.opts.length : Int)
  · have hz2 : farB l = true := by
      have : farN l = true := by unfold farN; rw [decide_eq_true (by omega : 10 < l.m.opts.length)]; simp
      unfold farB
      rw [this]
      rfl
    have HZ2 := hide hz2
    clear hz2
    go_wp2_with fail
    go_ret
    exact ⟨ret_bool HZ2.out.symm, HB0.out⟩
  by_cases t1 : (10 : Int) < (l.m.rules.length : Int)
  · have hz2 : farB l = true := by
      have : farN l = true := by unfold farN; rw [decide_eq_true (by omega : 10 < l.m.rules.length)]; simp
      unfold farB
      rw [this]
      rfl
    have HZ2 := hide hz2
    clear hz2
    go_wp2_with fail
    go_ret
    exact ⟨ret_bool HZ2.out.symm, HB0.out⟩
  by_cases t2 : (12 : Int) < (l.ss.length : Int)
  · have hz2 : farB l = true := by
      have : farN l = true := by unfold farN; rw [decide_eq_true (by omega : 12 < l.ss.length)]; simp
      unfold farB
      rw [this]
      rfl
    have HZ2 := hide hz2
    clear hz2
    go_wp2_with fail
    go_ret
    exact ⟨ret_bool HZ2.out.symm, HB0.out⟩
  by_cases t3 : (12 : Int) < (l.us.length : Int)
  · have hz2 : farB l = true := by
      have : farN l = true := by unfold farN; rw [decide_eq_true (by omega : 12 < l.us.length)]; simp
      unfold farB
      rw [this]
      rfl
    have HZ2 := hide hz2
    clear hz2
    go_wp2_with fail
    go_ret
    exact ⟨ret_bool HZ2.out.symm, HB0.out⟩
  by_cases t4 : (10 : Int) < (l.ps.length : Int)
  · have hz2 : farB l = true := by
      have : farN l = true := by unfold farN; rw [decide_eq_true (by omega : 10 < l.ps.length)]; simp
      unfold farB
      rw [this]
      rfl
    have HZ2 := hide hz2
    clear hz2
    go_wp2_with fail
    go_ret
    exact ⟨ret_bool HZ2.out.symm, HB0.out⟩
  by_cases t5 : (12 : Int) < (l.ws.length : Int)
  · have hz2 : farB l = true := by
      have : farN l = true := by unfold farN; rw [decide_eq_true (by omega : 12 < l.ws.length)]; simp
      unfold farB
      rw [this]
      rfl
    have HZ2 := hide hz2
    clear hz2
    go_wp2_with fail
    go_ret
    exact ⟨ret_bool HZ2.out.symm, HB0.out⟩
  have hfn : farN l = false := by
    unfold farN
    rw [decide_eq_false (by omega : ¬ 10 < l.m.opts.length), decide_eq_false (by omega : ¬ 10 < l.m.rules.length), decide_eq_false (by omega : ¬ 12 < l.ss.length), decide_eq_false (by omega : ¬ 12 < l.us.length), decide_eq_false (by omega : ¬ 10 < l.ps.length), decide_eq_false (by omega : ¬ 12 < l.ws.length)]
    rfl
  have HFN := hide hfn
  clear hfn
  go_wp2_with fail
  go_loop [3] (fun i => ∃ k : Nat, k ≤ l.m.rules.length ∧ i = .int .i64 k ∧ Hid (∀ j, j < k → (fun f : List Int => decide (40 < f.length)) (l.m.rules.getD j []) = false)) (fun i => l.m.rules.length - (intOf i).toNat)
  case atStart => exact ⟨0, Nat.zero_le _, rfl, fun j hj => by omega⟩
  case round =>
    obtain ⟨k, hk, rfl, hall⟩ := hrel
    by_cases hlt : k < l.m.rules.length
    · obtain ⟨b, off, x, Af, qf, HX, rfl, hbb, hq, HFO, e0⟩ := H0.out.m.rule_at hlt
      have hsz := (HS.out.m.r).2 x (by rw [← HX.out]; exact getD_mem3f hlt)
      have ik : (k : Int) < (l.m.rules.length : Int) := by omega
      have iq : (l.m.rules.length : Int) ≤ (q1 : Int) := by omega
      unfold maxLen at hsz
      by_cases hc : (40 : Int) < (x.length : Int)
      · have hz2 : farB l = true := by
          have h1 : l.m.rules.any (fun f : List Int => decide (40 < f.length)) = true := any_yes (z := []) hlt (by rw [HX.out]; exact decide_eq_true (by omega))
          unfold farB
          rw [h1]
          simp
        have HZ2 := hide hz2
        clear hz2
        go_wp2_with fail
        go_ret
        exact ⟨ret_bool HZ2.out.symm, HB0.out⟩
      · have hno : (fun f : List Int => decide (40 < f.length)) (l.m.rules.getD k []) = false := by rw [HX.out]; exact decide_eq_false (by omega)
        have HNO := hide hno
        clear hno
        go_wp2_with fail
        go_round
        case rel => exact ⟨k + 1, by omega, by go_num, fun j hj => by
            rcases Nat.lt_or_ge j k with h | h
            · exact hall.out j h
            · rw [show j = k from by omega]; exact HNO.out⟩
        case measure => simp [intOf]; omega
    · have hke : k = l.m.rules.length := by omega
      subst hke
      have HA1 : Hid (l.m.rules.any (fun f : List Int => decide (40 < f.length)) = false) := any_no (z := []) hall.out
      clear hall
      go_wp2_with fail
      go_loop [4] (fun i => ∃ k : Nat, k ≤ l.m.opts.length ∧ i = .int .i64 k ∧ Hid (∀ j, j < k → (fun s : ByteArray => decide (100 < s.size)) (l.m.opts.getD j ByteArray.empty) = false)) (fun i => l.m.opts.length - (intOf i).toNat)
      case atStart => exact ⟨0, Nat.zero_le _, rfl, fun j hj => by omega⟩
      case round =>
        obtain ⟨k, hk, rfl, hall⟩ := hrel
        by_cases hlt : k < l.m.opts.length
        · obtain ⟨b, off, x, HX, rfl, hbb, hq, e0⟩ := H0.out.m.opt_at hlt
          have hsz := HS.out.m.s x (by rw [← HX.out]; exact getD_mem3f hlt)
          have ik : (k : Int) < (l.m.opts.length : Int) := by omega
          have iq : (l.m.opts.length : Int) ≤ (q0 : Int) := by omega
          unfold maxLen at hsz
          by_cases hc : (100 : Int) < (x.size : Int)
          · have hz2 : farB l = true := by
              have h1 : l.m.opts.any (fun s : ByteArray => decide (100 < s.size)) = true := any_yes (z := ByteArray.empty) hlt (by rw [HX.out]; exact decide_eq_true (by omega))
              unfold farB
              rw [h1]
              simp
            have HZ2 := hide hz2
            clear hz2
            go_wp2_with fail
            go_ret
            exact ⟨ret_bool HZ2.out.symm, HB0.out⟩
          · have hno : (fun s : ByteArray => decide (100 < s.size)) (l.m.opts.getD k ByteArray.empty) = false := by rw [HX.out]; exact decide_eq_false (by omega)
            have HNO := hide hno
            clear hno
            go_wp2_with fail
            go_round
            case rel => exact ⟨k + 1, by omega, by go_num, fun j hj => by
                rcases Nat.lt_or_ge j k with h | h
                · exact hall.out j h
                · rw [show j = k from by omega]; exact HNO.out⟩
            case measure => simp [intOf]; omega
        · have hke : k = l.m.opts.length := by omega
          subst hke
          have HA2 : Hid (l.m.opts.any (fun s : ByteArray => decide (100 < s.size)) = false) := any_no (z := ByteArray.empty) hall.out
          clear hall
          go_wp2_with fail
          go_loop [5] (fun i => ∃ k : Nat, k ≤ l.ps.length ∧ i = .int .i64 k ∧ Hid (∀ j, j < k → (fun p : Pl => decide (100 < p.name.size)) (l.ps.getD j Pl.o) = false)) (fun i => l.ps.length - (intOf i).toNat)
          case atStart => exact ⟨0, Nat.zero_le _, rfl, fun j hj => by omega⟩
          case round =>
            obtain ⟨k, hk, rfl, hall⟩ := hrel
            by_cases hlt : k < l.ps.length
            · obtain ⟨b, off, x, HX, rfl, hbb, hq, e0, e1, e2⟩ := H0.out.pl hlt
              have hsz := HS.out.pn x (by rw [← HX.out]; exact getD_mem3f hlt)
              have ik : (k : Int) < (l.ps.length : Int) := by omega
              have iq : (l.ps.length : Int) ≤ (q4 : Int) := by omega
              unfold maxLen at hsz
              by_cases hc : (100 : Int) < (x.name.size : Int)
              · have hz2 : farB l = true := by
                  have h1 : l.ps.any (fun p : Pl => decide (100 < p.name.size)) = true := any_yes (z := Pl.o) hlt (by rw [HX.out]; exact decide_eq_true (by omega))
                  unfold farB
                  rw [h1]
                  simp
                have HZ2 := hide hz2
                clear hz2
                go_wp2_with fail
                go_ret
                exact ⟨ret_bool HZ2.out.symm, HB0.out⟩
              · have hno : (fun p : Pl => decide (100 < p.name.size)) (l.ps.getD k Pl.o) = false := by rw [HX.out]; exact decide_eq_false (by omega)
                have HNO := hide hno
                clear hno
                go_wp2_with fail
                go_round
                case rel => exact ⟨k + 1, by omega, by go_num, fun j hj => by
                    rcases Nat.lt_or_ge j k with h | h
                    · exact hall.out j h
                    · rw [show j = k from by omega]; exact HNO.out⟩
                case measure => simp [intOf]; omega
            · have hke : k = l.ps.length := by omega
              subst hke
              have HA3 : Hid (l.ps.any (fun p : Pl => decide (100 < p.name.size)) = false) := any_no (z := Pl.o) hall.out
              clear hall
              go_wp2_with fail
              go_loop [6] (fun i => ∃ k : Nat, k ≤ l.ws.length ∧ i = .int .i64 k ∧ Hid (∀ j, j < k → farW (l.ws.getD j Wi.o) = false)) (fun i => l.ws.length - (intOf i).toNat)
              case atStart => exact ⟨0, Nat.zero_le _, rfl, fun j hj => by omega⟩
              case round =>
                obtain ⟨k, hk, rfl, hall⟩ := hrel
                by_cases hlt : k < l.ws.length
                · obtain ⟨b, off, x, Af, qf, HX, rfl, hbb, hq, HFO, e0, e1, e2, e3, e4, e5, e6⟩ := H0.out.wi hlt
                  obtain ⟨hsz, hsz2⟩ := HS.out.wn x (by rw [← HX.out]; exact getD_mem3f hlt)
                  have ik : (k : Int) < (l.ws.length : Int) := by omega
                  have iq : (l.ws.length : Int) ≤ (q5 : Int) := by omega
                  unfold maxLen at hsz hsz2
                  by_cases hc : (100 : Int) < (x.name.size : Int)
                  · have hz2 : farB l = true := by
                      have h1 : l.ws.any farW = true := any_yes (z := Wi.o) hlt (by rw [HX.out]; unfold farW; rw [decide_eq_true (by omega : 100 < x.name.size)]; rfl)
                      unfold farB
                      rw [h1]
                      simp
                    have HZ2 := hide hz2
                    clear hz2
                    go_wp2_with fail
                    go_ret
                    exact ⟨ret_bool HZ2.out.symm, HB0.out⟩
                  · by_cases hc2 : (40 : Int) < (x.form.length : Int)
                    · have hz2 : farB l = true := by
                        have h1 : l.ws.any farW = true := any_yes (z := Wi.o) hlt (by rw [HX.out]; unfold farW; rw [decide_eq_true (by omega : 40 < x.form.length)]; simp)
                        unfold farB
                        rw [h1]
                        simp
                      have HZ2 := hide hz2
                      clear hz2
                      go_wp2_with fail
                      go_ret
                      exact ⟨ret_bool HZ2.out.symm, HB0.out⟩
                    · have hno : farW (l.ws.getD k Wi.o) = false := by rw [HX.out]; unfold farW; rw [decide_eq_false (by omega : ¬ 100 < x.name.size), decide_eq_false (by omega : ¬ 40 < x.form.length)]; rfl
                      have HNO := hide hno
                      clear hno
                      go_wp2_with fail
                      go_round
                      case rel => exact ⟨k + 1, by omega, by go_num, fun j hj => by
                          rcases Nat.lt_or_ge j k with h | h
                          · exact hall.out j h
                          · rw [show j = k from by omega]; exact HNO.out⟩
                      case measure => simp [intOf]; omega
                · have hke : k = l.ws.length := by omega
                  subst hke
                  have HA4 : Hid (l.ws.any farW = false) := any_no (z := Wi.o) hall.out
                  clear hall

                  have hz2 : farB l = false := by
                    unfold farB
                    rw [HFN.out, HA1.out, HA2.out, HA3.out, HA4.out]
                    rfl
                  have HZ2 := hide hz2
                  clear hz2
                  go_wp2_with fail
                  go_ret
                  exact ⟨ret_bool HZ2.out.symm, HB0.out⟩
end Go.Proofs.Ytmabfnddedffoaa
/- Formulas copied: walk. -/
namespace Go.Proofs.Ytmabfnddedffoaa
open Go.RowKit
set_option linter.unusedVariables false
set_option linter.unusedSimpArgs false
theorem Ints.flat6 {w : World} {B n cap : Nat} {A : Option Addr} {l : List Int} (h : Ints w B (.slice A n cap) l) : Reads w B 1 A l.length (l.map (Value.int .i64)) := by
  have h1 := Sl.form h
  obtain ⟨A', cap', he⟩ := h1
  injection he with e1 e2 e3
  subst e1 e2 e3
  have h2 := Sl.reads h (by omega)
  have e : Go.Proofs.Ytmabfnddedffoaa.flat l.length 1 (fun i _ => Value.int .i64 (l.getD i 0)) = l.map (Value.int .i64) := by
    apply List.ext_getElem
    · simp [flat_length]
    · intro i q1 q2
      have h3 := flat_get (n := l.length) (sz := 1) (f := fun i _ => Value.int .i64 (l.getD i 0)) (i := i) (j := 0) (by simpa using q2) (by omega)
      rw [Nat.mul_one, Nat.add_zero, List.getElem?_eq_getElem q1] at h3
      injection h3 with h3
      rw [h3]
      have q3 : i < l.length := by simpa using q2
      simp [q3]
  rwa [e] at h2
theorem one_ints6 {l : List Int} : ∀ u ∈ l.map (Value.int .i64), u.oneCell' = true := by
  intro u hu
  rw [List.mem_map] at hu
  obtain ⟨_, _, rfl⟩ := hu
  rfl
theorem ints_own6 {w : World} {base : Nat} {v : Value} {l : List Int} (h : w.ownsRow base 3 1 v l.length (l.map (Value.int .i64))) : Ints w w.heap.size v l :=
  Sl.of_owns h fun i j hi hj => by
    obtain rfl : j = 0 := by omega
    rw [Nat.mul_one, Nat.add_zero, List.getElem?_map]
    simp [hi]
/-- Formulas in rows of their own, in a row of the call's own. -/
structure FoS (w0 wr : World) (B : Nat) (v : Value) (L : List (List Int)) (vs : List Value) : Prop where
  below : Below w0.heap.size w0 wr
  len : vs.length = L.length
  own : wr.ownsRow B 66 1 v L.length vs
  row : ∀ i, i < L.length → wr.ownsRow B 3 1 (vs.getD i undef) (L.getD i []).length ((L.getD i []).map (Value.int .i64))
  lt : w0.heap.size ≤ B ∧ B ≤ wr.heap.size
theorem FoS.to {w0 wr w' : World} {B : Nat} {v : Value} {L : List (List Int)} {vs : List Value} (h : FoS w0 wr B v L vs) (hb : Below wr.heap.size wr w') : FoS w0 w' B v L vs :=
  ⟨Below.to h.below hb (Nat.le_refl _), h.len, owns_below h.own hb, fun i hi => owns_below (h.row i hi) hb, h.lt.1, Nat.le_trans h.lt.2 hb.size⟩
theorem FoS.push {w0 wr w' : World} {B : Nat} {v v1 x : Value} {L : List (List Int)} {vs : List Value} {f : List Int} {o : Obj} (h : FoS w0 wr B v L vs) (hx : wr.ownsRow B 3 1 x f.length (f.map (Value.int .i64))) (hown : w'.ownsRow B 66 1 v1 (L.length + 1) (vs ++ [x])) (hg : (wr.alloc o).grownBy w' v.ownBlock) : FoS w0 w' B v1 (L ++ [f]) (vs ++ [x]) := by
  have hl := h.len
  refine ⟨own_low h.below h.own h.lt.1 hg, by simp [hl], by rw [List.length_append]; exact hown, fun i hi => ?_, h.lt.1, by have := hg.size; simp at this; have := h.lt.2; omega⟩
  rcases Nat.lt_or_ge i L.length with h1 | h1
  · rw [List.getD_eq_getElem?_getD, List.getElem?_append_left (by omega), ← List.getD_eq_getElem?_getD, List.getD_eq_getElem?_getD (l := L ++ [f]), List.getElem?_append_left h1, ← List.getD_eq_getElem?_getD]
    exact ownsKeep (h.row i h1) h.own (by decide) hg
  · have he : i = L.length := by simp at hi; omega
    subst he
    rw [List.getD_eq_getElem?_getD, List.getElem?_append_right (by omega), List.getD_eq_getElem?_getD (l := L ++ [f]), List.getElem?_append_right (Nat.le_refl _), hl, Nat.sub_self]
    exact ownsKeep hx h.own (by decide) hg
theorem FoS.forms {w0 wr : World} {B : Nat} {v : Value} {L : List (List Int)} {vs : List Value} (h : FoS w0 wr B v L vs) : Forms wr wr.heap.size v L := by
  refine ⟨fun i => vs.getD i undef, Sl.of_owns h.own fun i j hi hj => ?_, fun i hi => ints_own6 (h.row i hi)⟩
  obtain rfl : j = 0 := by omega
  have := h.len
  have hi2 : i < vs.length := by omega
  rw [Nat.mul_one, Nat.add_zero]
  simp [hi2]
set_option maxRecDepth 100000 in
set_option maxHeartbeats 4000000 in
theorem copyForms_any (L : List (List Int)) (A : Option Addr) (q : Nat) (w : World) (hl : L.length ≤ 100) (hf : ∀ f ∈ L, f.length ≤ 100) (h : Forms w w.heap.size (.slice A L.length q) L) :
    Calls Try.prog 51 #[.slice A L.length q] w fun e w' => ∃ v vs, e = .returned v ∧ FoS w w' w.heap.size v L vs := by
  obtain ⟨i0, hi0, iz0, iz1, iz2⟩ := info_parts infoInt
  obtain ⟨i1, hi1, jz0, jz1, jz2⟩ := info_parts infoForm
  have H := hide h
  have HF := hide hf
  clear h hf
  go_enter Try.func51, Try.ntmps51
  go_wp2_with fail
  go_loopw [3, 4] (fun o i wr => ∃ (k : Nat) (A : Option Addr) (cap : Nat) (T : List (List Int)) (vs : List Value), i = .int .i64 k ∧ o = .slice A T.length cap ∧ k ≤ L.length ∧ Hid (L.take k = T) ∧ Hid (FoS w wr w.heap.size (.slice A T.length cap) T vs)) (fun _ i _ => L.length - (intOf i).toNat)
  case atStart => exact ⟨0, _, _, [], [], rfl, rfl, Nat.zero_le _, rfl, ⟨Below.refl _ _, rfl, World.ownsRow_nil _ _ _ _, fun i hi => absurd hi (by simp), Nat.le_refl _, Nat.le_refl _⟩⟩
  case round =>
    obtain ⟨k, Ao, cap, T, vs, rfl, rfl, hk, HT, R⟩ := hrel
    have hTl : T.length ≤ 100 := by rw [← HT.out]; simp; omega
    by_cases hkl : k < L.length
    · obtain ⟨fv, hs, hfi⟩ := (Forms.up H.out R.out.below)
      obtain ⟨_, hq, b, off, rfl, hb, hc⟩ := sl_at hs hkl
      have hx := hfi k hkl
      obtain ⟨f, hfe⟩ : ∃ f, L.getD k [] = f := ⟨_, rfl⟩
      rw [hfe] at hx
      obtain ⟨Af, qf, e⟩ := Sl.form hx
      have c0 := hc 0 (by omega)
      rw [Nat.mul_one, Nat.add_zero, e] at c0
      rw [e] at hx
      have hfl : f.length ≤ 100 := by rw [← hfe]; exact HF.out _ (getD_mem3f hkl)
      have htk : L.take (k + 1) = T ++ [f] := by
        rw [← HT.out, ← hfe, List.take_add_one, List.getElem?_eq_getElem hkl, List.getD_eq_getElem?_getD, List.getElem?_eq_getElem hkl]
        rfl
      have HTK := hide htk
      have HFR := hide hx.flat6
      have ik0 : (0 : Int) ≤ (k : Int) := by omega
      have ik : (k : Int) < (L.length : Int) := by omega
      have iq : (L.length : Int) ≤ (q : Int) := by omega
      have hBw := R.out.lt.2
      clear hx hs hfi hc htk hfe e
      go_wp2_with (first
        | (at_builtin; refine wpList_append_own_at _ rfl (.tmp 11) (.tmp 18) _ rfl w.heap.size 66 i1 _ 1 24 Try.underlying23 hi1 jz0 jz1 jz2 rfl (by omega) _ _ _ rfl (R1.out.own.alloc _) ⟨w1.heap.size, 0, none⟩ 1 1 [.slice A1 f.length cap1] rfl rfl (World.news_of_block (heap_alloc_new w1 _)) (by simp [Value.oneCell']) (by unfold maxLen; omega) (by omega) (by have := R1.out.lt.2; simp; omega) ?_; intro v2 w3 hown2 hg2 _ hat2; obtain ⟨A2, cap2, hv2⟩ := owns_form hown2; subst hv2; have R2 := hide (R1.out.push HX1.out hown2 hg2); clear hown2 hg2 hat2)
        | (at_builtin; refine wpList_append_any _ rfl (.tmp 12) (.tmp 16) _ rfl w.heap.size 3 i0 _ 1 8 Try.underlying66 hi0 iz0 iz1 iz2 rfl (by decide) _ 0 [] rfl (World.ownsRow_made wr #[] 0 hBw (by unfold maxLen; omega) rfl) wr.heap.size Af f.length qf (f.map (Value.int .i64)) rfl (HFR.out.alloc (Nat.le_refl _) _) one_ints6 (by unfold maxLen; omega) (by omega) (by simp; omega) ?_; intro v1 w1 hown1 hg1 _; rw [Nat.zero_add, List.nil_append] at hown1; obtain ⟨A1, cap1, hv1⟩ := owns_form hown1; subst hv1; have HX1 := hide hown1; have R1 := hide (R.out.to (Below.grown (Below.allocT (Below.refl _ _) (Nat.le_refl _) _) hg1 (by simp) (fun j hj => by injection hj with hj; exact Nat.le_of_eq hj))); clear hown1 hg1))
      go_roundw
      case rel => exact ⟨k + 1, A2, cap2, T ++ [f], _, by go_num, by rw [List.length_append, List.length_singleton], by omega, HTK.out, by rw [List.length_append, List.length_singleton]; exact R2.out⟩
      case measure => simp [intOf]; omega
    · have hke : k = L.length := by omega
      subst hke
      have hT := HT.out
      rw [List.take_length] at hT
      subst hT
      go_wp2_with fail
      go_ret
      exact ⟨_, vs, rfl, R.out⟩
end Go.Proofs.Ytmabfnddedffoaa

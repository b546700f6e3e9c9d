/- Part 27 of this claim's texts: walks and plain laws. -/
import Derived.Test.YtmabfnddedffoaaRows
import Derived.Test.YtmabfnddedffoaaGLV14
import Derived.Deep.RegionHeld3
import Derived.Deep.DrawnRows
/- Whether a loom is larger than a statement looks at: walk. -/
namespace Go.Proofs.Ytmabfnddedffoaa
open Go.RowKit
set_option linter.unusedVariables false
set_option linter.unusedSimpArgs false
theorem any_yes {α : Type} {z : α} {p : α → Bool} {l : List α} {k : Nat} (hk : k < l.length) (h : p (l.getD k z) = true) : l.any p = true :=
  List.any_eq_true.2 ⟨_, by rw [List.getD_eq_getElem?_getD, List.getElem?_eq_getElem hk]; exact List.getElem_mem hk, h⟩
theorem any_no {α : Type} {z : α} {p : α → Bool} {l : List α} (h : ∀ j, j < l.length → p (l.getD j z) = false) : l.any p = false := by
  rw [← Bool.not_eq_true, List.any_eq_true]
  rintro ⟨x, hx, hp⟩
  obtain ⟨i, hi, rfl⟩ := List.mem_iff_getElem.1 hx
  have := h i hi
  rw [List.getD_eq_getElem?_getD, List.getElem?_eq_getElem hi, Option.getD_some, hp] at this
  cases this
theorem getD_mem3f {α : Type} {l : List α} {z : α} {k : Nat} (h : k < l.length) : l.getD k z ∈ l := by
  rw [List.getD_eq_getElem?_getD, List.getElem?_eq_getElem h]
  exact List.getElem_mem h
def farN (l : Lo) : Bool := decide (10 < l.m.opts.length) || decide (10 < l.m.rules.length) || decide (12 < l.ss.length) || decide (12 < l.us.length) || decide (10 < l.ps.length) || decide (12 < l.ws.length)
def farW (x : Wi) : Bool := decide (100 < x.name.size) || decide (40 < x.form.length)
/-- Whether a loom is larger than a statement looks at. -/
def farB (l : Lo) : Bool := farN l || (l.m.rules.any fun f => decide (40 < f.length)) || (l.m.opts.any fun s => decide (100 < s.size)) || (l.ps.any fun p => decide (100 < p.name.size)) || l.ws.any farW
theorem far_small {l : Lo} (h : farB l = false) : l.m.opts.length ≤ 10 ∧ l.m.rules.length ≤ 10 ∧ l.ss.length ≤ 12 ∧ l.us.length ≤ 12 ∧ l.ps.length ≤ 10 ∧ l.ws.length ≤ 12 := by
  unfold farB farN at h
  simp only [Bool.or_eq_false_iff, decide_eq_false_iff_not] at h
  omega
theorem MoAt.rule_at {w : World} {B : Nat} {ov : Value} {A : Option Addr} {n q : Nat} {m : Mo} (h : MoAt w B ov (.slice A n q) m) {k : Nat} (hk : k < m.rules.length) : ∃ b off f Af qf, Hid (m.rules.getD k [] = f) ∧ A = some ⟨b, off, none⟩ ∧ b < B ∧ m.rules.length ≤ q ∧ Hid (Ints w B (.slice Af f.length qf) f) ∧ w.cell? ⟨b, off + k, none⟩ = some (.slice Af f.length qf) := by
  obtain ⟨fv, hs, hf⟩ := h.r
  obtain ⟨h1, h2, b, off, h3, h4, h5⟩ := sl_at hs hk
  have h6 := hf k hk
  obtain ⟨Af, qf, e⟩ := Sl.form h6
  rw [e] at h6
  have h7 := h5 0 (by omega)
  rw [e, Nat.mul_one, Nat.add_zero] at h7
  exact ⟨b, off, _, Af, qf, rfl, h3, h4, h1 ▸ h2, h6, h7⟩
theorem MoAt.opt_at {w : World} {B : Nat} {rv : Value} {A : Option Addr} {n q : Nat} {m : Mo} (h : MoAt w B (.slice A n q) rv m) {k : Nat} (hk : k < m.opts.length) : ∃ b off s, Hid (m.opts.getD k ByteArray.empty = s) ∧ A = some ⟨b, off, none⟩ ∧ b < B ∧ m.opts.length ≤ q ∧ w.cell? ⟨b, off + k, none⟩ = some (.string s) := by
  obtain ⟨h1, h2, b, off, h3, h4, h5⟩ := sl_at h.o hk
  have h7 := h5 0 (by omega)
  rw [Nat.mul_one, Nat.add_zero] at h7
  exact ⟨b, off, _, rfl, h3, h4, h1 ▸ h2, h7⟩
set_option maxRecDepth 100000 in
set_option maxHeartbeats 8000000 in
theorem Far_any (A0 A1 A2 A3 A4 A5 : Option Addr) (q0 q1 q2 q3 q4 q5 : Nat) (l : Lo) (w : World) (hs : SizedL l) (h : LoA w w.heap.size A0 A1 A2 A3 A4 A5 q0 q1 q2 q3 q4 q5 l) :
    Calls Try.prog 14 #[.agg #[.slice A0 l.m.opts.length q0, .slice A1 l.m.rules.length q1, .slice A2 l.ss.length q2, .slice A3 l.us.length q3, .slice A4 l.ps.length q4, .slice A5 l.ws.length q5]] w fun e w' => e = .returned (.bool (farB l)) ∧ Below w.heap.size w w' := by
  have H := hide h
  have HS := hide hs
  clear h hs
  go_enter Try.func14, Try.ntmps14
  go_upto_region 1 with (fail)
  generalize hw0 : World.alloc _ _ = w0
  obtain ⟨hb0, hB0, hs0⟩ := alloc1 hw0
  have HB0 := hide hB0
  have c0 := cellOf hb0 0; have c1 := cellOf hb0 1; have c2 := cellOf hb0 2; have c3 := cellOf hb0 3; have c4 := cellOf hb0 4; have c5 := cellOf hb0 5
  have hlb := box_lt hb0
  have H0 := hide (H.out.up hB0)
  clear hw0 hb0 hB0 hs0
  by_cases t0 : (10 : Int) < (l.m.opts.length : Int)
  · have hz2 : farB l = true := by
      have : farN l = true := by unfold farN; rw [decide_eq_true (by omega : 10 < l.m.opts.length)]; simp
      unfold farB
      rw [this]
      rfl
    have HZ2 := hide hz2
    clear hz2
    go_wp2_with fail
    go_ret
    exact ⟨ret_bool HZ2.out.symm, HB0.out⟩
  by_cases t1 : (10 : Int) < (l.m.rules.length : Int)
  · have hz2 : farB l = true := by
      have : farN l = true := by unfold farN; rw [decide_eq_true (by omega : 10 < l.m.rules.length)]; simp
      unfold farB
      rw [this]
      rfl
    have HZ2 := hide hz2
    clear hz2
    go_wp2_with fail
    go_ret
    exact ⟨ret_bool HZ2.out.symm, HB0.out⟩
  by_cases t2 : (12 : Int) < (l.ss.length : Int)
  · have hz2 : farB l = true := by
      have : farN l = true := by unfold farN; rw [decide_eq_true (by omega : 12 < l.ss.length)]; simp
      unfold farB
      rw [this]
      rfl
    have HZ2 := hide hz2
    clear hz2
    go_wp2_with fail
    go_ret
    exact ⟨ret_bool HZ2.out.symm, HB0.out⟩
  by_cases t3 : (12 : Int) < (l.us.length : Int)
  · have hz2 : farB l = true := by
      have : farN l = true := by unfold farN; rw [decide_eq_true (by omega : 12 < l.us.length)]; simp
      unfold farB
      rw [this]
      rfl
    have HZ2 := hide hz2
    clear hz2
    go_wp2_with fail
    go_ret
    exact ⟨ret_bool HZ2.out.symm, HB0.out⟩
  by_cases t4 : (10 : Int) < (l.ps.length : Int)
  · have hz2 : farB l = true := by
      have : farN l = true := by unfold farN; rw [decide_eq_true (by omega : 10 < l.ps.length)]; simp
      unfold farB
      rw [this]
      rfl
    have HZ2 := hide hz2
    clear hz2
    go_wp2_with fail
    go_ret
    exact ⟨ret_bool HZ2.out.symm, HB0.out⟩
  by_cases t5 : (12 : Int) < (l.ws.length : Int)
  · have hz2 : farB l = true := by
      have : farN l = true := by unfold farN; rw [decide_eq_true (by omega : 12 < l.ws.length)]; simp
      unfold farB
      rw [this]
      rfl
    have HZ2 := hide hz2
    clear hz2
    go_wp2_with fail
    go_ret
    exact ⟨ret_bool HZ2.out.symm, HB0.out⟩
  have hfn : farN l = false := by
    unfold farN
    rw [decide_eq_false (by omega : ¬ 10 < l.m.opts.length), decide_eq_false (by omega : ¬ 10 < l.m.rules.length), decide_eq_false (by omega : ¬ 12 < l.ss.length), decide_eq_false (by omega : ¬ 12 < l.us.length), decide_eq_false (by omega : ¬ 10 < l.ps.length), decide_eq_false (by omega : ¬ 12 < l.ws.length)]
    rfl
  have HFN := hide hfn
  clear hfn
  go_wp2_with fail
  go_loop [3] (fun i => ∃ k : Nat, k ≤ l.m.rules.length ∧ i = .int .i64 k ∧ Hid (∀ j, j < k → (fun f : List Int => decide (40 < f.length)) (l.m.rules.getD j []) = false)) (fun i => l.m.rules.length - (intOf i).toNat)
  case atStart => exact ⟨0, Nat.zero_le _, rfl, fun j hj => by omega⟩
  case round =>
    obtain ⟨k, hk, rfl, hall⟩ := hrel
    by_cases hlt : k < l.m.rules.length
    · obtain ⟨b, off, x, Af, qf, HX, rfl, hbb, hq, HFO, e0⟩ := H0.out.m.rule_at hlt
      have hsz := (HS.out.m.r).2 x (by rw [← HX.out]; exact getD_mem3f hlt)
      have ik : (k : Int) < (l.m.rules.length : Int) := by omega
      have iq : (l.m.rules.length : Int) ≤ (q1 : Int) := by omega
      unfold maxLen at hsz
      by_cases hc : (40 : Int) < (x.length : Int)
      · have hz2 : farB l = true := by
          have h1 : l.m.rules.any (fun f : List Int => decide (40 < f.length)) = true := any_yes (z := []) hlt (by rw [HX.out]; exact decide_eq_true (by omega))
          unfold farB
          rw [h1]
          simp
        have HZ2 := hide hz2
        clear hz2
        go_wp2_with fail
        go_ret
        exact ⟨ret_bool HZ2.out.symm, HB0.out⟩
      · have hno : (fun f : List Int => decide (40 < f.length)) (l.m.rules.getD k []) = false := by rw [HX.out]; exact decide_eq_false (by omega)
        have HNO := hide hno
        clear hno
        go_wp2_with fail
        go_round
        case rel => exact ⟨k + 1, by omega, by go_num, fun j hj => by
            rcases Nat.lt_or_ge j k with h | h
            · exact hall.out j h
            · rw [show j = k from by omega]; exact HNO.out⟩
        case measure => simp [intOf]; omega
    · have hke : k = l.m.rules.length := by omega
      subst hke
      have HA1 : Hid (l.m.rules.any (fun f : List Int => decide (40 < f.length)) = false) := any_no (z := []) hall.out
      clear hall
      go_wp2_with fail
      go_loop [4] (fun i => ∃ k : Nat, k ≤ l.m.opts.length ∧ i = .int .i64 k ∧ Hid (∀ j, j < k → (fun s : ByteArray => decide (100 < s.size)) (l.m.opts.getD j ByteArray.empty) = false)) (fun i => l.m.opts.length - (intOf i).toNat)
      case atStart => exact ⟨0, Nat.zero_le _, rfl, fun j hj => by omega⟩
      case round =>
        obtain ⟨k, hk, rfl, hall⟩ := hrel
        by_cases hlt : k < l.m.opts.length
        · obtain ⟨b, off, x, HX, rfl, hbb, hq, e0⟩ := H0.out.m.opt_at hlt
          have hsz := HS.out.m.s x (by rw [← HX.out]; exact getD_mem3f hlt)
          have ik : (k : Int) < (l.m.opts.length : Int) := by omega
          have iq : (l.m.opts.length : Int) ≤ (q0 : Int) := by omega
          unfold maxLen at hsz
          by_cases hc : (100 : Int) < (x.size : Int)
          · have hz2 : farB l = true := by
              have h1 : l.m.opts.any (fun s : ByteArray => decide (100 < s.size)) = true := any_yes (z := ByteArray.empty) hlt (by rw [HX.out]; exact decide_eq_true (by omega))
              unfold farB
              rw [h1]
              simp
            have HZ2 := hide hz2
            clear hz2
            go_wp2_with fail
            go_ret
            exact ⟨ret_bool HZ2.out.symm, HB0.out⟩
          · have hno : (fun s : ByteArray => decide (100 < s.size)) (l.m.opts.getD k ByteArray.empty) = false := by rw [HX.out]; exact decide_eq_false (by omega)
            have HNO := hide hno
            clear hno
            go_wp2_with fail
            go_round
            case rel => exact ⟨k + 1, by omega, by go_num, fun j hj => by
                rcases Nat.lt_or_ge j k with h | h
                · exact hall.out j h
                · rw [show j = k from by omega]; exact HNO.out⟩
            case measure => simp [intOf]; omega
        · have hke : k = l.m.opts.length := by omega
          subst hke
          have HA2 : Hid (l.m.opts.any (fun s : ByteArray => decide (100 < s.size)) = false) := any_no (z := ByteArray.empty) hall.out
          clear hall
          go_wp2_with fail
          go_loop [5] (fun i => ∃ k : Nat, k ≤ l.ps.length ∧ i = .int .i64 k ∧ Hid (∀ j, j < k → (fun p : Pl => decide (100 < p.name.size)) (l.ps.getD j Pl.o) = false)) (fun i => l.ps.length - (intOf i).toNat)
          case atStart => exact ⟨0, Nat.zero_le _, rfl, fun j hj => by omega⟩
          case round =>
            obtain ⟨k, hk, rfl, hall⟩ := hrel
            by_cases hlt : k < l.ps.length
            · obtain ⟨b, off, x, HX, rfl, hbb, hq, e0, e1, e2⟩ := H0.out.pl hlt
              have hsz := HS.out.pn x (by rw [← HX.out]; exact getD_mem3f hlt)
              have ik : (k : Int) < (l.ps.length : Int) := by omega
              have iq : (l.ps.length : Int) ≤ (q4 : Int) := by omega
              unfold maxLen at hsz
              by_cases hc : (100 : Int) < (x.name.size : Int)
              · have hz2 : farB l = true := by
                  have h1 : l.ps.any (fun p : Pl => decide (100 < p.name.size)) = true := any_yes (z := Pl.o) hlt (by rw [HX.out]; exact decide_eq_true (by omega))
                  unfold farB
                  rw [h1]
                  simp
                have HZ2 := hide hz2
                clear hz2
                go_wp2_with fail
                go_ret
                exact ⟨ret_bool HZ2.out.symm, HB0.out⟩
              · have hno : (fun p : Pl => decide (100 < p.name.size)) (l.ps.getD k Pl.o) = false := by rw [HX.out]; exact decide_eq_false (by omega)
                have HNO := hide hno
                clear hno
                go_wp2_with fail
                go_round
                case rel => exact ⟨k + 1, by omega, by go_num, fun j hj => by
                    rcases Nat.lt_or_ge j k with h | h
                    · exact hall.out j h
                    · rw [show j = k from by omega]; exact HNO.out⟩
                case measure => simp [intOf]; omega
            · have hke : k = l.ps.length := by omega
              subst hke
              have HA3 : Hid (l.ps.any (fun p : Pl => decide (100 < p.name.size)) = false) := any_no (z := Pl.o) hall.out
              clear hall
              go_wp2_with fail
              go_loop [6] (fun i => ∃ k : Nat, k ≤ l.ws.length ∧ i = .int .i64 k ∧ Hid (∀ j, j < k → farW (l.ws.getD j Wi.o) = false)) (fun i => l.ws.length - (intOf i).toNat)
              case atStart => exact ⟨0, Nat.zero_le _, rfl, fun j hj => by omega⟩
              case round =>
                obtain ⟨k, hk, rfl, hall⟩ := hrel
                by_cases hlt : k < l.ws.length
                · obtain ⟨b, off, x, Af, qf, HX, rfl, hbb, hq, HFO, e0, e1, e2, e3, e4, e5, e6⟩ := H0.out.wi hlt
                  obtain ⟨hsz, hsz2⟩ := HS.out.wn x (by rw [← HX.out]; exact getD_mem3f hlt)
                  have ik : (k : Int) < (l.ws.length : Int) := by omega
                  have iq : (l.ws.length : Int) ≤ (q5 : Int) := by omega
                  unfold maxLen at hsz hsz2
                  by_cases hc : (100 : Int) < (x.name.size : Int)
                  · have hz2 : farB l = true := by
                      have h1 : l.ws.any farW = true := any_yes (z := Wi.o) hlt (by rw [HX.out]; unfold farW; rw [decide_eq_true (by omega : 100 < x.name.size)]; rfl)
                      unfold farB
                      rw [h1]
                      simp
                    have HZ2 := hide hz2
                    clear hz2
                    go_wp2_with fail
                    go_ret
                    exact ⟨ret_bool HZ2.out.symm, HB0.out⟩
                  · by_cases hc2 : (40 : Int) < (x.form.length : Int)
                    · have hz2 : farB l = true := by
                        have h1 : l.ws.any farW = true := any_yes (z := Wi.o) hlt (by rw [HX.out]; unfold farW; rw [decide_eq_true (by omega : 40 < x.form.length)]; simp)
                        unfold farB
                        rw [h1]
                        simp
                      have HZ2 := hide hz2
                      clear hz2
                      go_wp2_with fail
                      go_ret
                      exact ⟨ret_bool HZ2.out.symm, HB0.out⟩
                    · have hno : farW (l.ws.getD k Wi.o) = false := by rw [HX.out]; unfold farW; rw [decide_eq_false (by omega : ¬ 100 < x.name.size), decide_eq_false (by omega : ¬ 40 < x.form.length)]; rfl
                      have HNO := hide hno
                      clear hno
                      go_wp2_with fail
                      go_round
                      case rel => exact ⟨k + 1, by omega, by go_num, fun j hj => by
                          rcases Nat.lt_or_ge j k with h | h
                          · exact hall.out j h
                          · rw [show j = k from by omega]; exact HNO.out⟩
                      case measure => simp [intOf]; omega
                · have hke : k = l.ws.length := by omega
                  subst hke
                  have HA4 : Hid (l.ws.any farW = false) := any_no (z := Wi.o) hall.out
                  clear hall

                  have hz2 : farB l = false := by
                    unfold farB
                    rw [HFN.out, HA1.out, HA2.out, HA3.out, HA4.out]
                    rfl
                  have HZ2 := hide hz2
                  clear hz2
                  go_wp2_with fail
                  go_ret
                  exact ⟨ret_bool HZ2.out.symm, HB0.out⟩
end Go.Proofs.Ytmabfnddedffoaa

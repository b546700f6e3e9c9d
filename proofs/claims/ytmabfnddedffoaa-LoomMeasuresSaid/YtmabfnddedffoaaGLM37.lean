/- Part 37 of this claim's texts: walks and plain laws. -/
import Derived.Test.YtmabfnddedffoaaRows
import Derived.Test.YtmabfnddedffoaaGLM36
import Derived.Laws.EntriesVeiled
import Derived.Deep.RegionHeld3
import Derived.Deep.DrawnRows
import Derived.Test.YtmabfnddedffoaaGLM25
import Derived.Test.YtmabfnddedffoaaGLM33
import Derived.Deep.DeepMust
/- Joined, both: walks. -/
namespace Go.Proofs.Ytmabfnddedffoaa
open Go.RowKit
set_option linter.unusedVariables false
set_option linter.unusedSimpArgs false
/-- Some of the spots lie on the first side of a run, and some do not. -/
def sdA (l : Lo) (k : Nat) (t : Int) : Bool := decide (t.toNat ∈ sideL l k)
def sdB (l : Lo) (k : Nat) (t : Int) : Bool := !decide (t.toNat ∈ sideL l k)
noncomputable def joiT (l : Lo) (T : List Nat) : Nat → Int := fun k => if (T.any fun t => decide (t ∈ sideL l k)) && (T.any fun t => !decide (t ∈ sideL l k)) then runLen l k else 0
noncomputable def joiN (l : Lo) (ts : List Int) : Int := if givE l ts = 0 then joinN l.rs (runLen l) (ts.map Int.toNat) else 0
theorem joi_err {l : Lo} {ts : List Int} (h : givE l ts ≠ 0) : joiN l ts = 0 := by unfold joiN; rw [if_neg h]
theorem joi_is {l : Lo} (ok : LoOk l) {T : List Nat} (hT : ∀ t ∈ T, t < l.ss.length) : joinN l.rs (runLen l) T = sumN (joiT l T) l.us.length := by
  unfold joinN
  rw [rs_len]
  refine sumN_congr fun k hk => ?_
  rw [← ok.join_step hk hT ((T.any fun t => decide (t ∈ sideL l k)) && (T.any fun t => !decide (t ∈ sideL l k)))]
  · unfold joiT
    rfl
  · rw [Bool.and_eq_true, List.any_eq_true, List.any_eq_true]
    constructor
    · rintro ⟨⟨x, hx, h1⟩, y, hy, h2⟩
      exact ⟨⟨x, hx, (ok.side_mem hk x).1 (by simpa using h1)⟩, y, hy, fun q => by simp at h2; exact h2 ((ok.side_mem hk y).2 q)⟩
    · rintro ⟨⟨x, hx, h1⟩, y, hy, h2⟩
      exact ⟨⟨x, hx, by simpa using (ok.side_mem hk x).2 h1⟩, y, hy, by simp; exact fun q => h2 ((ok.side_mem hk y).1 q)⟩
theorem joi_any (l : Lo) (k : Nat) : ∀ (ts : List Int), ((ts.map Int.toNat).any fun t => decide (t ∈ sideL l k)) = ts.any (sdA l k) ∧ ((ts.map Int.toNat).any fun t => !decide (t ∈ sideL l k)) = ts.any (sdB l k)
  | [] => ⟨rfl, rfl⟩
  | t :: ts => by
    obtain ⟨h1, h2⟩ := joi_any l k ts
    exact ⟨by rw [List.map_cons, List.any_cons, List.any_cons, h1]; rfl, by rw [List.map_cons, List.any_cons, List.any_cons, h2]; rfl⟩
theorem joi_range {l : Lo} (ok : LoOk l) (T : List Nat) (m : Nat) (hm : m ≤ l.us.length) : 0 ≤ sumN (joiT l T) m ∧ sumN (joiT l T) m ≤ (m : Int) * 1000000 := ok.join_range T m hm _
set_option maxRecDepth 100000 in
set_option maxHeartbeats 1000000 in
theorem have_joined (p0 p1 : Value) (b : Bool) (A0 A1 A2 A3 A4 A5 : Option Addr) (q0 q1 q2 q3 q4 q5 : Nat) (l : Lo) (w : World) (hs : SizedL l) (h : LoA w w.heap.size A0 A1 A2 A3 A4 A5 q0 q1 q2 q3 q4 q5 l)
    (hf : l.err = 0 → ∀ W, Below w.heap.size w W → Calls Try.prog 96 #[p0, p1] W fun e w' => e = .returned (.bool b) ∧ Below W.heap.size W w') :
    Calls Try.prog 82 #[.agg #[.slice A0 l.m.opts.length q0, .slice A1 l.m.rules.length q1, .slice A2 l.ss.length q2, .slice A3 l.us.length q3, .slice A4 l.ps.length q4, .slice A5 l.ws.length q5], .func (.func 96) #[] #[p0, p1]] w fun e w' => e = .returned (.int .i64 (havE l b)) ∧ Below w.heap.size w w' := by
  have H := hide h
  have HF := hide hf
  obtain ⟨z, hz⟩ : ∃ z, l.err = z := ⟨_, rfl⟩
  have HZ := hide hz
  clear h hf
  by_cases hz0 : z = 0
  · subst hz0
    have hr : havE l b = mustE b 1 := by unfold havE; rw [hz]; rfl
    rw [hr]
    have hf := HF.out hz
    have HF2 := hide hf
    clear hf hz hr
    go_enter Try.func82, Try.ntmps82
    go_upto_region 1 with (fail)
    generalize hw0 : World.alloc _ _ = w0
    obtain ⟨hb0, hB0, hs0⟩ := alloc1 hw0
    have c0 := cellOf hb0 0; have c1 := cellOf hb0 1; have c2 := cellOf hb0 2; have c3 := cellOf hb0 3; have c4 := cellOf hb0 4; have c5 := cellOf hb0 5
    have hlb := box_lt hb0
    have hck := Check_any A0 A1 A2 A3 A4 A5 q0 q1 q2 q3 q4 q5 l w0 hs (H.out.up hB0)
    rw [HZ.out] at hck
    have HCK := hide hck
    have HB0 := hide hB0
    clear hw0 hb0 hB0 hs0 hck
    go_wp2_with (first | (go_at_call 17; refine HCK.out.mono ?_; rintro e w1 ⟨rfl, hB1⟩; have HB1 := hide (Below.to HB0.out hB1 (Nat.le_refl _)); clear hB1 c0 c1 c2 c3 c4 c5 hlb) | (go_at_call 96; refine (HF2.out _ HB1.out).mono ?_; rintro e w2 ⟨rfl, hB2⟩; have HB2 := hide (Below.to HB1.out hB2 (Nat.le_refl _)); clear hB2) | (go_at_call 57; refine (must_any _ _ _).mono ?_; rintro e w3 ⟨rfl, rfl⟩))
    go_ret
    exact ⟨rfl, HB2.out⟩
  · have hr : havE l b = z := by unfold havE; rw [hz, if_pos hz0]
    have hz1 : (z != 0) = true := by simpa using hz0
    rw [hr]
    clear hz hr hz0
    go_enter Try.func82, Try.ntmps82
    go_upto_region 1 with (fail)
    generalize hw0 : World.alloc _ _ = w0
    obtain ⟨hb0, hB0, hs0⟩ := alloc1 hw0
    have c0 := cellOf hb0 0; have c1 := cellOf hb0 1; have c2 := cellOf hb0 2; have c3 := cellOf hb0 3; have c4 := cellOf hb0 4; have c5 := cellOf hb0 5
    have hlb := box_lt hb0
    have hck := Check_any A0 A1 A2 A3 A4 A5 q0 q1 q2 q3 q4 q5 l w0 hs (H.out.up hB0)
    rw [HZ.out] at hck
    have HCK := hide hck
    have HB0 := hide hB0
    clear hw0 hb0 hB0 hs0 hck
    go_wp2_with (go_at_call 17; refine HCK.out.mono ?_; rintro e w1 ⟨rfl, hB1⟩; have HB1 := hide (Below.to HB0.out hB1 (Nat.le_refl _)); clear hB1 c0 c1 c2 c3 c4 c5 hlb)
    go_ret
    exact ⟨rfl, HB1.out⟩

set_option maxRecDepth 100000 in
theorem index_here (p : Int → Bool) (c0 : Value) (v : Value) (gs : List Int) (w : World) (hm : gs.length ≤ maxLen) (h : Ints w w.heap.size v gs)
    (hf : ∀ (i : Nat) (x : Int)  (W : World), i < gs.length → gs.getD i 0 = x → Below w.heap.size w W → Calls Try.prog 98 #[.int .i64 x, c0] W fun e w' => e = .returned (.bool (p x)) ∧ Below W.heap.size W w') :
    Calls Try.prog 143 #[v, .func (.func 98) #[] #[c0]] w fun e w' => e = .returned (.int .i64 (idxI p gs)) ∧ Below w.heap.size w w' := by
  unfold maxLen at hm
  obtain ⟨A, cap, rfl⟩ := Ints.form h
  have H := hide h; clear h
  have HF := hide hf; clear hf
  go_enter Try.func143, Try.ntmps143
  go_wp2
  go_loopw [5, 8] (fun _ i wr => ∃ k : Nat, k ≤ gs.length ∧ i = .int .i64 k ∧ Hid (∀ j, j < k → p (gs.getD j 0) = false) ∧ Below w.heap.size w wr) (fun _ i _ => gs.length - (intOf i).toNat)
  case atStart => exact ⟨0, Nat.zero_le _, rfl, fun j hj => by omega, Below.refl _ _⟩
  case round =>
    obtain ⟨k, hk, rfl, hz, hB⟩ := hrel
    by_cases hlt : k < gs.length
    · obtain ⟨b, off, x, HX, rfl, hbb, hq, e0⟩ := Ints.at (H.out.below hB) hlt
      have hf := fun W (hW : Below w.heap.size w W) => HF.out k x  W hlt HX.out hW
      have HF2 := hide hf
      have HB := hide hB
      clear hf
      by_cases hp : p x = true
      · have HP := hide hp
        clear hp
        go_wp2_with (go_at_call 98; refine (HF2.out _ hB).mono ?_; rw [HP.out]; rintro e w1 ⟨rfl, hB1⟩)
        go_ret
        exact ⟨ret_int (idxI_at p 0 gs k hz.out hlt (by rw [HX.out]; exact HP.out)).symm, Below.to HB.out hB1 (Nat.le_refl _)⟩
      · have hp' : p x = false := by simpa using hp
        have HP := hide hp'
        clear hp hp'
        go_wp2_with (go_at_call 98; refine (HF2.out _ hB).mono ?_; rw [HP.out]; rintro e w1 ⟨rfl, hB1⟩)
        go_roundw
        case rel => exact ⟨k + 1, by omega, by go_num, fun j hj => by
            rcases Nat.lt_or_ge j k with h | h
            · exact hz.out j h
            · rw [show j = k from by omega, HX.out]; exact HP.out, Below.to HB.out hB1 (Nat.le_refl _)⟩
        case measure => simp [intOf]; omega
    · go_wp2
      go_ret
      exact ⟨ret_int (idxI_none p 0 gs (fun j hj => hz.out j (by omega))).symm, hB⟩
set_option maxRecDepth 100000 in
theorem contains_here (p : Int → Bool) (c0 : Value) (v : Value) (gs : List Int) (w : World) (hm : gs.length ≤ maxLen) (h : Ints w w.heap.size v gs)
    (hf : ∀ (i : Nat) (x : Int)  (W : World), i < gs.length → gs.getD i 0 = x → Below w.heap.size w W → Calls Try.prog 98 #[.int .i64 x, c0] W fun e w' => e = .returned (.bool (p x)) ∧ Below W.heap.size W w') :
    Calls Try.prog 97 #[v, .func (.func 98) #[] #[c0]] w fun e w' => e = .returned (.bool (gs.any p)) ∧ Below w.heap.size w w' := by
  have hc := index_here p c0 v gs w hm h hf
  have he := idxI_any p gs
  have hlo := idxI_lo p gs
  have hhi := idxI_hi p gs
  obtain ⟨z, hz⟩ : ∃ z, idxI p gs = z := ⟨_, rfl⟩
  rw [hz] at hc he hlo hhi
  obtain ⟨A, cap, rfl⟩ := Ints.form h
  have HC := hide hc
  have HE := hide he
  unfold maxLen at hm
  have hz2 : z ≤ 9223372036854775807 := by omega
  clear hc he hz h hf
  go_enter Try.func97, Try.ntmps97
  go_wp2_with (go_at_call 143; refine HC.out.mono ?_; rintro e w1 ⟨rfl, hB1⟩)
  go_ret
  exact ⟨ret_bool HE.out, hB1⟩

set_option maxRecDepth 100000 in
theorem index_there (p : Int → Bool) (c0 : Value) (v : Value) (gs : List Int) (w : World) (hm : gs.length ≤ maxLen) (h : Ints w w.heap.size v gs)
    (hf : ∀ (i : Nat) (x : Int)  (W : World), i < gs.length → gs.getD i 0 = x → Below w.heap.size w W → Calls Try.prog 100 #[.int .i64 x, c0] W fun e w' => e = .returned (.bool (p x)) ∧ Below W.heap.size W w') :
    Calls Try.prog 143 #[v, .func (.func 100) #[] #[c0]] w fun e w' => e = .returned (.int .i64 (idxI p gs)) ∧ Below w.heap.size w w' := by
  unfold maxLen at hm
  obtain ⟨A, cap, rfl⟩ := Ints.form h
  have H := hide h; clear h
  have HF := hide hf; clear hf
  go_enter Try.func143, Try.ntmps143
  go_wp2
  go_loopw [5, 8] (fun _ i wr => ∃ k : Nat, k ≤ gs.length ∧ i = .int .i64 k ∧ Hid (∀ j, j < k → p (gs.getD j 0) = false) ∧ Below w.heap.size w wr) (fun _ i _ => gs.length - (intOf i).toNat)
  case atStart => exact ⟨0, Nat.zero_le _, rfl, fun j hj => by omega, Below.refl _ _⟩
  case round =>
    obtain ⟨k, hk, rfl, hz, hB⟩ := hrel
    by_cases hlt : k < gs.length
    · obtain ⟨b, off, x, HX, rfl, hbb, hq, e0⟩ := Ints.at (H.out.below hB) hlt
      have hf := fun W (hW : Below w.heap.size w W) => HF.out k x  W hlt HX.out hW
      have HF2 := hide hf
      have HB := hide hB
      clear hf
      by_cases hp : p x = true
      · have HP := hide hp
        clear hp
        go_wp2_with (go_at_call 100; refine (HF2.out _ hB).mono ?_; rw [HP.out]; rintro e w1 ⟨rfl, hB1⟩)
        go_ret
        exact ⟨ret_int (idxI_at p 0 gs k hz.out hlt (by rw [HX.out]; exact HP.out)).symm, Below.to HB.out hB1 (Nat.le_refl _)⟩
      · have hp' : p x = false := by simpa using hp
        have HP := hide hp'
        clear hp hp'
        go_wp2_with (go_at_call 100; refine (HF2.out _ hB).mono ?_; rw [HP.out]; rintro e w1 ⟨rfl, hB1⟩)
        go_roundw
        case rel => exact ⟨k + 1, by omega, by go_num, fun j hj => by
            rcases Nat.lt_or_ge j k with h | h
            · exact hz.out j h
            · rw [show j = k from by omega, HX.out]; exact HP.out, Below.to HB.out hB1 (Nat.le_refl _)⟩
        case measure => simp [intOf]; omega
    · go_wp2
      go_ret
      exact ⟨ret_int (idxI_none p 0 gs (fun j hj => hz.out j (by omega))).symm, hB⟩
set_option maxRecDepth 100000 in
theorem contains_there (p : Int → Bool) (c0 : Value) (v : Value) (gs : List Int) (w : World) (hm : gs.length ≤ maxLen) (h : Ints w w.heap.size v gs)
    (hf : ∀ (i : Nat) (x : Int)  (W : World), i < gs.length → gs.getD i 0 = x → Below w.heap.size w W → Calls Try.prog 100 #[.int .i64 x, c0] W fun e w' => e = .returned (.bool (p x)) ∧ Below W.heap.size W w') :
    Calls Try.prog 97 #[v, .func (.func 100) #[] #[c0]] w fun e w' => e = .returned (.bool (gs.any p)) ∧ Below w.heap.size w w' := by
  have hc := index_there p c0 v gs w hm h hf
  have he := idxI_any p gs
  have hlo := idxI_lo p gs
  have hhi := idxI_hi p gs
  obtain ⟨z, hz⟩ : ∃ z, idxI p gs = z := ⟨_, rfl⟩
  rw [hz] at hc he hlo hhi
  obtain ⟨A, cap, rfl⟩ := Ints.form h
  have HC := hide hc
  have HE := hide he
  unfold maxLen at hm
  have hz2 : z ≤ 9223372036854775807 := by omega
  clear hc he hz h hf
  go_enter Try.func97, Try.ntmps97
  go_wp2_with (go_at_call 143; refine HC.out.mono ?_; rintro e w1 ⟨rfl, hB1⟩)
  go_ret
  exact ⟨ret_bool HE.out, hB1⟩

set_option maxRecDepth 100000 in
set_option maxHeartbeats 1000000 in
theorem joined1_any (As : Option Addr) (qs : Nat) (ts : List Int) (A0 A1 A2 A3 A4 A5 : Option Addr) (q0 q1 q2 q3 q4 q5 : Nat) (l : Lo) (lb sb : Nat) (w : World) (hs : SizedL l) (hm : ts.length ≤ maxLen) (hl : LoA w w.heap.size A0 A1 A2 A3 A4 A5 q0 q1 q2 q3 q4 q5 l) (hv : Ints w w.heap.size (.slice As ts.length qs) ts) (hr : w.heap[sb]? = some (.cells #[.slice As ts.length qs] 41 (0, 0))) (h : LoBox w lb A0 A1 A2 A3 A4 A5 q0 q1 q2 q3 q4 q5 l) :
    Calls Try.prog 96 #[.pointer (some ⟨lb, 0, none⟩), .pointer (some ⟨sb, 0, none⟩)] w fun e w' => e = .returned (.bool (givB l ts)) ∧ Below w.heap.size w w' := by
  have c0 := cellOf h 0; have c1 := cellOf h 1; have c2 := cellOf h 2; have c3 := cellOf h 3; have c4 := cellOf h 4; have c5 := cellOf h 5
  have d0 := cellOf hr 0
  have hlb := box_lt h
  have hlr := box_lt hr
  have HL := hide hl
  have HV := hide hv
  clear h hr hl hv
  go_enter Try.func96, Try.ntmps96
  go_wp2_with (go_at_call 93; refine (given_any As qs ts A0 A1 A2 A3 A4 A5 q0 q1 q2 q3 q4 q5 l _ hs hm HL.out HV.out).mono ?_; rintro e w1 ⟨rfl, hB1⟩)
  go_ret
  exact ⟨rfl, hB1⟩
set_option maxRecDepth 100000 in
set_option maxHeartbeats 1000000 in
theorem joined2_any (t : Nat) (As : Option Addr) (qs : Nat) (S : List Nat) (B sb : Nat) (w : World) (c : Bool) (hm : S.length ≤ maxLen) (hv : Nods w B (.slice As S.length qs) S) (hr : w.heap[sb]? = some (.cells #[.slice As S.length qs] 41 (0, 0))) (hc : decide (t ∈ S) = c) :
    Calls Try.prog 98 #[.int .i64 t, .pointer (some ⟨sb, 0, none⟩)] w fun e w' => e = .returned (.bool c) ∧ Below w.heap.size w w' := by
  have d0 := cellOf hr 0
  have hlr := box_lt hr
  have HV := hide hv
  have HC := hide hc
  clear hr hv hc
  go_enter Try.func98, Try.ntmps98
  go_wp2_with (go_at_call 99; refine (containsN_any S t _ _ _ _ hm HV.out HC.out).mono ?_; rintro e w1 ⟨rfl, rfl⟩)
  go_ret
  exact ⟨rfl, Below.refl _ _⟩
set_option maxRecDepth 100000 in
set_option maxHeartbeats 1000000 in
theorem joined3_any (t : Nat) (As : Option Addr) (qs : Nat) (S : List Nat) (B sb : Nat) (w : World) (c : Bool) (hm : S.length ≤ maxLen) (hv : Nods w B (.slice As S.length qs) S) (hr : w.heap[sb]? = some (.cells #[.slice As S.length qs] 41 (0, 0))) (hc : decide (t ∈ S) = c) :
    Calls Try.prog 100 #[.int .i64 t, .pointer (some ⟨sb, 0, none⟩)] w fun e w' => e = .returned (.bool (!c)) ∧ Below w.heap.size w w' := by
  have d0 := cellOf hr 0
  have hlr := box_lt hr
  have HV := hide hv
  have HC := hide hc
  clear hr hv hc
  go_enter Try.func100, Try.ntmps100
  go_wp2_with (go_at_call 99; refine (containsN_any S t _ _ _ _ hm HV.out HC.out).mono ?_; rintro e w1 ⟨rfl, rfl⟩)
  go_ret
  exact ⟨rfl, Below.refl _ _⟩
set_option maxRecDepth 100000 in
set_option maxHeartbeats 4000000 in
theorem Joined_any (As : Option Addr) (qs : Nat) (ts : List Int) (A0 A1 A2 A3 A4 A5 : Option Addr) (q0 q1 q2 q3 q4 q5 : Nat) (l : Lo) (w : World) (hs : SizedL l) (hm : ts.length ≤ maxLen) (h : LoA w w.heap.size A0 A1 A2 A3 A4 A5 q0 q1 q2 q3 q4 q5 l) (hv : Ints w w.heap.size (.slice As ts.length qs) ts) :
    Calls Try.prog 30 #[.agg #[.slice A0 l.m.opts.length q0, .slice A1 l.m.rules.length q1, .slice A2 l.ss.length q2, .slice A3 l.us.length q3, .slice A4 l.ps.length q4, .slice A5 l.ws.length q5], .slice As ts.length qs] w (FilP (joiN l ts) (givE l ts) w) := by
  have H := hide h
  have HS := hide hs
  have HV := hide hv
  obtain ⟨z, hz⟩ : ∃ z, givE l ts = z := ⟨_, rfl⟩
  obtain ⟨n1, hn1⟩ : ∃ z, joiN l ts = z := ⟨_, rfl⟩
  rw [hz, hn1]
  have HZ := hide hz
  clear h hs hv
  go_enter Try.func30, Try.ntmps30
  go_upto_region 1 with (fail)
  generalize hw0 : World.alloc _ _ = w0
  obtain ⟨hb0, hb1, hB0, hs0⟩ := alloc2 hw0
  have c0 := cellOf hb0 0; have c1 := cellOf hb0 1; have c2 := cellOf hb0 2; have c3 := cellOf hb0 3; have c4 := cellOf hb0 4; have c5 := cellOf hb0 5
  have hlb := box_lt hb0
  have hhv := have_joined (.pointer (some ⟨w.heap.size, 0, none⟩)) (.pointer (some ⟨w.heap.size + 1, 0, none⟩)) (givB l ts) A0 A1 A2 A3 A4 A5 q0 q1 q2 q3 q4 q5 l w0 HS.out (H.out.up hB0) (fun _ W hW => joined1_any As qs ts A0 A1 A2 A3 A4 A5 q0 q1 q2 q3 q4 q5 l _ _ W HS.out hm ((H.out.up hB0).up hW) (Ints.up (Ints.up HV.out hB0) hW) (box_to hb1 hW) (LoBox.to hb0 hW))
  rw [show havE l (givB l ts) = z from HZ.out] at hhv
  have HHV := hide hhv
  have HB0 := hide hB0
  have HL0 : Hid (LoBox w0 w.heap.size A0 A1 A2 A3 A4 A5 q0 q1 q2 q3 q4 q5 l) := hb0
  have HR0 := hide hb1
  clear hw0 hb0 hb1 hB0 hs0 hhv
  by_cases hz0 : z = 0
  case neg =>
    rw [joi_err (by rw [hz]; exact hz0)] at hn1
    subst hn1
    have hz1 : (z != 0) = true := by simpa using hz0
    clear hz hz0
    go_wp2_with (go_at_call 82; refine HHV.out.mono ?_; rintro e w1 ⟨rfl, hB1⟩; have HB1 := hide (Below.to HB0.out hB1 (Nat.le_refl _)); clear hB1)
    go_ret2
    exact ⟨rfl, HB1.out⟩
  case pos =>
  subst hz0
  obtain ⟨ok, l1, l2, hin⟩ := givE_ok hz
  obtain ⟨T, hT⟩ : ∃ T, ts.map Int.toNat = T := ⟨_, rfl⟩
  obtain ⟨f, hf⟩ : ∃ f : Nat → Int, joiT l T = f := ⟨_, rfl⟩
  have hfa : ∀ k, f k = if (ts.any (sdA l k)) && (ts.any (sdB l k)) then runLen l k else 0 := fun k => by
    obtain ⟨h1, h2⟩ := joi_any l k ts
    rw [hT] at h1 h2
    rw [← hf]
    unfold joiT
    rw [h1, h2]
  have hTm : ∀ t ∈ T, t < l.ss.length := fun t ht => by
    rw [← hT] at ht
    obtain ⟨x, hx, rfl⟩ := List.mem_map.1 ht
    have := hin x hx
    omega
  have hfr : ∀ m, m ≤ l.us.length → 0 ≤ sumN f m ∧ sumN f m ≤ (m : Int) * 1000000 := fun m hm => by rw [← hf]; exact joi_range ok T m hm
  have hn1' : sumN f l.us.length = n1 := by rw [← hn1]; unfold joiN; rw [if_pos hz, hT, joi_is ok hTm, hf]
  have OK := hide ok
  have HIN := hide hin
  have HFA := hide hfa
  have HFR := hide hfr
  have HN1 := hide hn1'
  have hs40 := ok.s40
  have hu40 := ok.u40
  clear hz hn1 ok hin hT hf hfa hTm hfr hn1'
  go_wp2_with (go_at_call 82; refine HHV.out.mono ?_; rintro e w1 ⟨rfl, hB1⟩; have d0 := cellOf (HL0.out.to hB1) 0; have d1 := cellOf (HL0.out.to hB1) 1; have d2 := cellOf (HL0.out.to hB1) 2; have d3 := cellOf (HL0.out.to hB1) 3; have d4 := cellOf (HL0.out.to hB1) 4; have d5 := cellOf (HL0.out.to hB1) 5; have ld := box_lt (HL0.out.to hB1); have HL1 := hide (HL0.out.to hB1); have HR1 := hide (box_to HR0.out hB1); have HB1 := hide (Below.to HB0.out hB1 (Nat.le_refl _)); clear hB1 c0 c1 c2 c3 c4 c5 hlb)
  clear d0 d1 d2 d3 d4 d5 ld
  go_loopw [7, 8, 9, 10, 11, 12, 22] (fun o _ _ _ _ _ i wr => ∃ (k : Nat) (s : Int), i = .int .i64 k ∧ o = .int .i64 s ∧ k ≤ l.us.length ∧ Hid (sumN f k = s) ∧ Hid (Below w1.heap.size w1 wr)) (fun _ _ _ _ _ _ i _ => l.us.length - (intOf i).toNat)
  case atStart => exact ⟨0, 0, rfl, rfl, Nat.zero_le _, rfl, Below.refl _ _⟩
  case round =>
    obtain ⟨k, s, rfl, rfl, hk, HSU, HBr⟩ := hrel
    by_cases hkl : k < l.us.length
    · have hBw := Below.to HB1.out HBr.out (Nat.le_refl _)
      obtain ⟨bu, offu, r, HRU, rfl, hbu, hq3, e0, e1, e2, e3⟩ := (H.out.up hBw).ru hkl
      have hrin := OK.out.runsIn r (by rw [← HRU.out]; exact getD_mem3 hkl)
      obtain ⟨ra, rb, rl, rr⟩ := r
      obtain ⟨a1, a2, b1, b2⟩ := hrin
      simp only at a1 a2 b1 b2 e0 e1 e2 e3
      obtain ⟨ka, rfl⟩ := Int.eq_ofNat_of_zero_le a1
      obtain ⟨kb, rfl⟩ := Int.eq_ofNat_of_zero_le b1
      have hrs : l.rs.getD k (0, 0) = (ka, kb) := by rw [rs_getD l hkl, HRU.out]; simp
      have hlen := OK.out.len hkl
      have hrl : runLen l k = rl := by unfold runLen; rw [HRU.out]
      rw [hrl] at hlen
      have hnew : sumN f (k + 1) = s + f k := by show sumN f k + f k = _; rw [HSU.out]
      have hsr := HFR.out k hk
      rw [HSU.out] at hsr
      have hsl : 0 ≤ s ∧ s ≤ 40000000 := by omega
      have lbu : bu < wr.heap.size := hbu
      have ik : (k : Int) < (l.us.length : Int) := by omega
      have iq : (l.us.length : Int) ≤ (q3 : Int) := by omega
      have HRS := hide hrs
      have HRL := hide hrl
      have HNEW := hide hnew
      clear hrs hrl hnew hsr hBw a1 b1
      have hal : ka < l.ss.length := by omega
      clear a2 b2
      go_upto_region 8 with (fail)
      generalize hw2 : World.alloc _ _ = w2
      obtain ⟨hb2, hB2, hs2⟩ := alloc1 hw2
      have HB2 := hide (Below.to HBr.out hB2 (Nat.le_refl _))
      have x0 := cellOf hb2 0; have x1 := cellOf hb2 1; have x2 := cellOf hb2 2; have x3 := cellOf hb2 3
      have lx := box_lt hb2
      have HX2 := hide hb2
      have d0 := cellOf (HL1.out.to HB2.out) 0; have d1 := cellOf (HL1.out.to HB2.out) 1; have d2 := cellOf (HL1.out.to HB2.out) 2; have d3 := cellOf (HL1.out.to HB2.out) 3; have d4 := cellOf (HL1.out.to HB2.out) 4; have d5 := cellOf (HL1.out.to HB2.out) 5
      have ld := box_lt (HL1.out.to HB2.out)
      have HH2 := hide (H.out.up (Below.to HB1.out HB2.out (Nat.le_refl _)))
      clear hw2 hb2 hB2 hs2 e0 e1 e2 e3 lbu
      go_upto_region 9 with (go_at_call 62; refine (reached_any _ _ _ _ _ _ _ _ _ _ _ _ l ka k _ HH2.out OK.out.runsIn hal hs40 hu40).mono ?_; rintro e w3 ⟨v3, rfl, hn3, hB3⟩; have HX3 := hide (box_to HX2.out hB3); rw [show stR l.rs (k : Nat) ka l.ss.length = sideL l k from by unfold sideL; rw [HRS.out]] at hn3; obtain ⟨As3, qs3, hv3⟩ := Sl.form hn3; subst hv3; have HN3 := hide hn3; have HB3 := hide (Below.to HB2.out hB3 (Nat.le_refl _)); clear hn3 hB3 d0 d1 d2 d3 d4 d5 ld x0 x1 x2 x3 lx)
      generalize hw4 : World.alloc _ _ = w4
      obtain ⟨hb4, hB4, hs4⟩ := alloc1 hw4
      obtain ⟨sb, hsb⟩ : ∃ sb, w3.heap.size = sb := ⟨_, rfl⟩
      rw [hsb] at hb4
      rw [hsb]
      have HN4 := hide (HN3.out.up hB4)
      have HB4 := hide (Below.to HB3.out hB4 (Nat.le_refl _))
      have hx4 := box_to HX3.out hB4
      have x0 := cellOf hx4 0; have x1 := cellOf hx4 1; have x2 := cellOf hx4 2; have x3 := cellOf hx4 3
      have lx := box_lt hx4
      have HX4 := hide hx4
      have hr4 := box_to HR1.out HB4.out
      have y0 := cellOf hr4 0
      have ly := box_lt hr4
      have HR4 := hide hr4
      have hSl : (sideL l k).length ≤ maxLen := by
        have h1 := stR_len (rs := l.rs) (w := (k : Nat)) (s := ka) (n := l.ss.length) hal OK.out.tree.lt l.ss.length
        have h2 : (sideL l k).length ≤ l.ss.length := by unfold sideL; rw [HRS.out]; exact h1
        unfold maxLen; omega
      obtain ⟨y1, hy1⟩ : ∃ y, ts.any (sdA l k) = y := ⟨_, rfl⟩
      obtain ⟨y2, hy2⟩ : ∃ y, ts.any (sdB l k) = y := ⟨_, rfl⟩
      have hts4 := Ints.up HV.out (Below.to HB1.out HB4.out (Nat.le_refl _))
      have hhe : ∀ W, Below w4.heap.size w4 W → Calls Try.prog 97 #[.slice As ts.length qs, .func (.func 98) #[] #[.pointer (some ⟨sb, 0, none⟩)]] W fun e w' => e = .returned (.bool y1) ∧ Below W.heap.size W w' := fun W hW => by
        have h1 := contains_here (sdA l k) (.pointer (some ⟨sb, 0, none⟩)) _ ts W hm (Ints.up hts4 hW) (fun i x W' hi hx hW' => by
          have h2 := HIN.out x (by rw [← hx]; exact getD_mem3 hi)
          obtain ⟨u, rfl⟩ := Int.eq_ofNat_of_zero_le h2.1
          have hW2 := Below.to hW hW' (Nat.le_refl _)
          exact joined2_any u As3 qs3 (sideL l k) _ _ W' _ hSl (HN4.out.below hW2) (box_to hb4 hW2) (by unfold sdA; rw [Int.toNat_natCast]))
        rw [hy1] at h1
        exact h1
      have hth : ∀ W, Below w4.heap.size w4 W → Calls Try.prog 97 #[.slice As ts.length qs, .func (.func 100) #[] #[.pointer (some ⟨sb, 0, none⟩)]] W fun e w' => e = .returned (.bool y2) ∧ Below W.heap.size W w' := fun W hW => by
        have h1 := contains_there (sdB l k) (.pointer (some ⟨sb, 0, none⟩)) _ ts W hm (Ints.up hts4 hW) (fun i x W' hi hx hW' => by
          have h2 := HIN.out x (by rw [← hx]; exact getD_mem3 hi)
          obtain ⟨u, rfl⟩ := Int.eq_ofNat_of_zero_le h2.1
          have hW2 := Below.to hW hW' (Nat.le_refl _)
          have h3 := joined3_any u As3 qs3 (sideL l k) _ _ W' _ hSl (HN4.out.below hW2) (box_to hb4 hW2) rfl
          have h4 : sdB l k (u : Nat) = !decide (u ∈ sideL l k) := by unfold sdB; rw [Int.toNat_natCast]
          rw [h4]
          exact h3)
        rw [hy2] at h1
        exact h1
      have hfk : f k = if (y1 && y2) = true then rl else 0 := by rw [HFA.out, hy1, hy2, HRL.out]
      have HFK := hide hfk
      have HHE := hide hhe
      have HTH := hide hth
      clear hw4 hb4 hB4 hs4 hsb hx4 hr4 hSl hy1 hy2 hts4 hhe hth hfk
      go_upto_region 10 with (go_at_call 97; refine (HHE.out _ (Below.refl _ _)).mono ?_; rintro e w5 ⟨rfl, hB5⟩; have HW5 := hide hB5; have hx5 := box_to HX4.out hB5; have z0 := cellOf hx5 0; have z1 := cellOf hx5 1; have z2 := cellOf hx5 2; have z3 := cellOf hx5 3; have lz := box_lt hx5; have HX5 := hide hx5; have hr5 := box_to HR4.out hB5; have q0' := cellOf hr5 0; have lq := box_lt hr5; have HB5 := hide (Below.to HB4.out hB5 (Nat.le_refl _)); clear hB5 hx5 hr5 x0 x1 x2 x3 lx y0 ly)
      go_upto_region 11 with (go_at_call 97; refine (HTH.out _ HW5.out).mono ?_; rintro e w6 ⟨rfl, hB6⟩; have hx6 := box_to HX5.out hB6; have x0 := cellOf hx6 0; have x1 := cellOf hx6 1; have x2 := cellOf hx6 2; have x3 := cellOf hx6 3; have lx := box_lt hx6; have HB6 := hide (Below.to HB5.out hB6 (Nat.le_refl _)); clear hB6 hx6 z0 z1 z2 z3 lz q0' lq)
      cases y1 with
      | false =>
        have hnew : sumN f (k + 1) = s := by rw [HNEW.out, HFK.out]; simp
        have HN' := hide hnew
        clear hnew
        go_wp2_with fail
        go_roundw
        case rel => exact ⟨k + 1, s, by go_num, rfl, by omega, HN'.out, HB6.out⟩
        case measure => simp [intOf]; omega
      | true =>
        cases y2 with
        | false =>
          have hnew : sumN f (k + 1) = s := by rw [HNEW.out, HFK.out]; simp
          have HN' := hide hnew
          clear hnew
          go_wp2_with fail
          go_roundw
          case rel => exact ⟨k + 1, s, by go_num, rfl, by omega, HN'.out, HB6.out⟩
          case measure => simp [intOf]; omega
        | true =>
          have hnew : sumN f (k + 1) = s + rl := by rw [HNEW.out, HFK.out]; simp
          have HN' := hide hnew
          clear hnew
          go_wp2_with fail
          go_roundw
          case rel => exact ⟨k + 1, s + rl, by go_num, by go_num, by omega, HN'.out, HB6.out⟩
          case measure => simp [intOf]; omega
    · have hke : k = l.us.length := by omega
      subst hke
      have hfin : n1 = s := by rw [← HN1.out, HSU.out]
      subst hfin
      go_wp2_with fail
      go_ret2
      exact ⟨rfl, Below.to HB1.out HBr.out (Nat.le_refl _)⟩
end Go.Proofs.Ytmabfnddedffoaa
/- Meets and Implies as the elder program has them: walks. -/
namespace Go.Proofs.Ytmabfnddedffoaa
open Go.RowKit
set_option linter.unusedVariables false
set_option linter.unusedSimpArgs false
/-- Those of the buildable variants in which the first k formulas hold. -/
def whereK (m : Mo) (l : List (List Int)) (k : Nat) : List (List Bool) := (l.take k).foldl whereF (allM m)
end Go.Proofs.Ytmabfnddedffoaa
/- Wires that share a pin; clashes, both: walks. -/
namespace Go.Proofs.Ytmabfnddedffoaa
open Go.RowKit
set_option linter.unusedVariables false
set_option linter.unusedSimpArgs false
def pinB (a b c d : Int) : Bool := a == c && b == d
def sharB (x y : Wi) : Bool := pinB x.fp x.fc y.fp y.fc || pinB x.fp x.fc y.tp y.tc || pinB x.tp x.tc y.fp y.fc || pinB x.tp x.tc y.tp y.tc
/-! lists of pairs of numbers -/
def prsL (K : List (Nat × Nat)) : List Value := K.flatMap fun p => [.int .i64 (p.1 : Nat), .int .i64 (p.2 : Nat)]
theorem prsL_snoc (K : List (Nat × Nat)) (a b : Nat) : prsL (K ++ [(a, b)]) = prsL K ++ [.int .i64 a, .int .i64 b] := by simp [prsL]
def prF (p : Nat × Nat) (j : Nat) : Value := match j with
  | 0 => .int .i64 (p.1 : Nat)
  | _ => .int .i64 (p.2 : Nat)
/-- A list of pairs of numbers in memory. -/
def Prs (w : World) (B : Nat) (v : Value) (K : List (Nat × Nat)) : Prop := Sl w B 2 v K.length (fun i j => prF (K.getD i (0, 0)) j)
/-- A list of pairs of the call's own. -/
structure ClS (w0 wr : World) (ty : Nat) (v : Value) (K : List (Nat × Nat)) : Prop where
  below : Below w0.heap.size w0 wr
  own : wr.ownsRow w0.heap.size ty 2 v K.length (prsL K)
section
variable {w0 wr w' : World} {ty : Nat} {v v1 : Value} {K : List (Nat × Nat)} {a b : Nat} {o : Obj}
theorem ClS.start (w0 : World) (ty : Nat) : ClS w0 w0 ty (.slice none 0 0) [] := ⟨Below.refl _ _, World.ownsRow_nil _ _ _ _⟩
theorem ClS.to (h : ClS w0 wr ty v K) (hb : Below wr.heap.size wr w') : ClS w0 w' ty v K := ⟨Below.to h.below hb (Nat.le_refl _), owns_below h.own hb⟩
theorem ClS.push (h : ClS w0 wr ty v K) (hown : w'.ownsRow w0.heap.size ty 2 v1 (K.length + 1) (prsL K ++ [.int .i64 (a : Nat), .int .i64 (b : Nat)])) (hg : (wr.alloc o).grownBy w' v.ownBlock) : ClS w0 w' ty v1 (K ++ [(a, b)]) :=
  ⟨own_low h.below h.own (Nat.le_refl _) hg, by rw [List.length_append, List.length_singleton, prsL_snoc]; exact hown⟩
theorem ClS.box {g t : Nat} {C : Array Value} (h : ClS w0 wr ty v K) (hb : wr.heap[g]? = some (.cells C t (0, 0))) (hne : ty ≠ t) (hg : (wr.alloc o).grownBy w' v.ownBlock) : w'.heap[g]? = some (.cells C t (0, 0)) :=
  (hg.block g (by have := box_lt hb; simp; omega) (fun e => ownsNot h.own hb hne e.symm)).trans (box_to hb ((Below.refl _ _).alloc (Nat.le_refl _) _))
end
theorem SizedL.form {l : Lo} (h : SizedL l) {i : Nat} (hi : i < l.ws.length) : (l.ws.getD i Wi.o).form.length ≤ maxLen := (h.wn _ (getD_mem3 hi)).2
/-! the clashes -/
def claB (l : Lo) (i k : Nat) : Bool := sharB (l.ws.getD i Wi.o) (l.ws.getD k Wi.o) && meeB l.m [(l.ws.getD i Wi.o).form, (l.ws.getD k Wi.o).form]
/-- The clashes of wire i with those up to k. -/
def claI (l : Lo) (i k : Nat) : List (Nat × Nat) := ((List.range k).filter fun j => decide (i < j) && claB l i j).map fun j => (i, j)
def claO (l : Lo) (i : Nat) : List (Nat × Nat) := (List.range i).flatMap fun j => claI l j l.ws.length
def claE (l : Lo) : List (Nat × Nat) := if l.err = 0 then claO l l.ws.length else []
/-- A list of pairs and an error. -/
def PrsP (K : List (Nat × Nat)) (er : Int) (w : World) (e : Ending) (w' : World) : Prop := ∃ v, e = .returned (.tuple #[v, .int .i64 er]) ∧ Prs w' w'.heap.size v K ∧ Below w.heap.size w w'
end Go.Proofs.Ytmabfnddedffoaa

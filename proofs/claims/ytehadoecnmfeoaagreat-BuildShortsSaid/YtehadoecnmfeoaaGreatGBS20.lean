/- Part 20 of this claim's texts: walks and plain laws. -/
import Derived.Test.YtehadoecnmfeoaaGreatRows
import Derived.Test.YtehadoecnmfeoaaGreatGBS19
import Derived.Test.YtehadoecnmfeoaaGreatGBS18
import Derived.Laws.EntriesVeiled
import Derived.Deep.DeepMust
import Derived.Deep.RegionHeld3
import Derived.Deep.DrawnRows
import Derived.Test.YtehadoecnmfeoaaGreatGBS3
set_option linter.unusedVariables false
set_option linter.unusedSimpArgs false
set_option linter.unusedSectionVars false
namespace Go.Proofs.YtehadoecnmfeoaaGreat
open Go.RowKit
set_option maxRecDepth 100000 in
theorem bwithin_any (n lo hi : Int) (w : World) (b : Bool) (hb : btw n lo hi = b) : Calls Tryz.prog 72 #[.int .i64 n, .int .i64 lo, .int .i64 hi] w fun e w' => e = .returned (.bool b) ∧ w = w' := by
 subst hb
 by_cases h1 : lo ≤ n
 ·
  have hr : btw n lo hi = decide (n ≤ hi) := by simp [btw, h1]
  have HR := hide hr
  have h1' : decide (lo ≤ n) = true := decide_eq_true h1
  clear hr
  by_cases h2 : n ≤ hi
  ·
   go_enter Tryz.func72, Tryz.ntmps72
   go_wp2
   go_ret
   exact ⟨ret_bool (by rw [HR.out]; simp [h2]), rfl⟩
  ·
   go_enter Tryz.func72, Tryz.ntmps72
   go_wp2
   go_ret
   exact ⟨ret_bool (by rw [HR.out]; simp [h2]), rfl⟩
 ·
  have hr : btw n lo hi = false := by simp [btw, h1]
  have HR := hide hr
  clear hr
  go_enter Tryz.func72, Tryz.ntmps72
  go_wp2
  go_ret
  exact ⟨ret_bool (by rw [HR.out]), rfl⟩
set_option maxRecDepth 100000 in
theorem piece_any (x len : Int) (b : Nat) (w : World) (h : w.heap[b]? = some (.cells #[.int .i64 len] 3 (0, 0))) :
  Calls Tryz.prog 117 #[.int .i64 x, .pointer (some ⟨b, 0, none⟩)] w fun e w' => e = .returned (.bool (!btw x 1 len)) ∧ Below w.heap.size w w' := by
 have c0 := cellOf h 0
 have hl := box_lt h
 obtain ⟨z, hz⟩ : ∃ z, btw x 1 len = z := ⟨_, rfl⟩
 rw [hz]
 have HZ := hide hz
 clear h hz
 go_enter Tryz.func117, Tryz.ntmps117
 go_wp2_with (go_at_call 72; refine (bwithin_any _ _ _ _ _ HZ.out).mono ?_; rintro e w1 ⟨rfl, rfl⟩)
 go_ret
 exact ⟨rfl, Below.refl _ _⟩
theorem Ints.form7 {w : World} {B : Nat} {v : Value} {l : List Int} (h : Ints w B v l) : ∃ A cap, v = .slice A l.length cap := Sl.form h
set_option maxRecDepth 100000 in
theorem index_piece (p : Int → Bool) (c0 : Value) (v : Value) (gs : List Int) (w : World) (hm : gs.length ≤ maxLen) (h : Ints w w.heap.size v gs)
  (hf : ∀ (i : Nat) (x : Int)  (W : World), i < gs.length → gs.getD i 0 = x → Below w.heap.size w W → Calls Tryz.prog 117 #[.int .i64 x, c0] W fun e w' => e = .returned (.bool (p x)) ∧ Below W.heap.size W w') :
  Calls Tryz.prog 157 #[v, .func (.func 117) #[] #[c0]] w fun e w' => e = .returned (.int .i64 (idxI p gs)) ∧ Below w.heap.size w w' := by
 unfold maxLen at hm
 obtain ⟨A, cap, rfl⟩ := Ints.form7 h
 have H := hide h; clear h
 have HF := hide hf; clear hf
 go_enter Tryz.func157, Tryz.ntmps157
 go_wp2
 go_loopw [5, 8] (fun _ i wr => ∃ k : Nat, k ≤ gs.length ∧ i = .int .i64 k ∧ Hid (∀ j, j < k → p (gs.getD j 0) = false) ∧ Below w.heap.size w wr) (fun _ i _ => gs.length - (intOf i).toNat)
 case atStart => exact ⟨0, Nat.zero_le _, rfl, fun j hj => by omega, Below.refl _ _⟩
 case round =>
  obtain ⟨k, hk, rfl, hz, hB⟩ := hrel
  by_cases hlt : k < gs.length
  ·
   obtain ⟨b, off, x, HX, rfl, hbb, hq, e0⟩ := Ints.at7 (H.out.below hB) hlt
   have hf := fun W (hW : Below w.heap.size w W) => HF.out k x  W hlt HX.out hW
   have HF2 := hide hf
   have HB := hide hB
   clear hf
   by_cases hp : p x = true
   ·
    have HP := hide hp
    clear hp
    go_wp2_with (go_at_call 117; refine (HF2.out _ hB).mono ?_; rw [HP.out]; rintro e w1 ⟨rfl, hB1⟩)
    go_ret
    exact ⟨ret_int (idxI_at p 0 gs k hz.out hlt (by rw [HX.out]; exact HP.out)).symm, Below.to HB.out hB1 (Nat.le_refl _)⟩
   ·
    have hp' : p x = false := by simpa using hp
    have HP := hide hp'
    clear hp hp'
    go_wp2_with (go_at_call 117; refine (HF2.out _ hB).mono ?_; rw [HP.out]; rintro e w1 ⟨rfl, hB1⟩)
    go_roundw
    case rel => exact ⟨k + 1, by omega, by go_num, fun j hj => by
      rcases Nat.lt_or_ge j k with h | h
      ·
       exact hz.out j h
      ·
       rw [show j = k from by omega, HX.out]; exact HP.out, Below.to HB.out hB1 (Nat.le_refl _)⟩
    case measure => simp [intOf]; omega
  ·
   go_wp2
   go_ret
   exact ⟨ret_int (idxI_none p 0 gs (fun j hj => hz.out j (by omega))).symm, hB⟩
set_option maxRecDepth 100000 in
theorem contains_piece (p : Int → Bool) (c0 : Value) (v : Value) (gs : List Int) (w : World) (hm : gs.length ≤ maxLen) (h : Ints w w.heap.size v gs)
  (hf : ∀ (i : Nat) (x : Int)  (W : World), i < gs.length → gs.getD i 0 = x → Below w.heap.size w W → Calls Tryz.prog 117 #[.int .i64 x, c0] W fun e w' => e = .returned (.bool (p x)) ∧ Below W.heap.size W w') :
  Calls Tryz.prog 70 #[v, .func (.func 117) #[] #[c0]] w fun e w' => e = .returned (.bool (gs.any p)) ∧ Below w.heap.size w w' := by
 have hc := index_piece p c0 v gs w hm h hf
 have he := idxI_any p gs
 have hlo := idxI_lo p gs
 have hhi := idxI_hi p gs
 obtain ⟨z, hz⟩ : ∃ z, idxI p gs = z := ⟨_, rfl⟩
 rw [hz] at hc he hlo hhi
 obtain ⟨A, cap, rfl⟩ := Ints.form7 h
 have HC := hide hc
 have HE := hide he
 unfold maxLen at hm
 have hz2 : z ≤ 9223372036854775807 := by omega
 clear hc he hz h hf
 go_enter Tryz.func70, Tryz.ntmps70
 go_wp2_with (go_at_call 157; refine HC.out.mono ?_; rintro e w1 ⟨rfl, hB1⟩)
 go_ret
 exact ⟨ret_bool HE.out, hB1⟩

def RunsIn (l : Lo) : Prop := ∀ x ∈ l.us, 0 ≤ x.a ∧ x.a < l.ss.length ∧ 0 ≤ x.b ∧ x.b < l.ss.length
theorem RunsIn.rs {l : Lo} (h : RunsIn l) : ∀ k, k < l.rs.length → (l.rs.getD k (0, 0)).1 < l.ss.length ∧ (l.rs.getD k (0, 0)).2 < l.ss.length := by
 intro k hk
 rw [rs_len] at hk
 rw [rs_getD l hk]
 have h1 := h (l.us.getD k Ru.o) (by rw [List.getD_eq_getElem?_getD, List.getElem?_eq_getElem hk]; exact List.getElem_mem hk)
 constructor <;> simp only <;> omega
theorem getD_mem3 {α : Type} {l : List α} {z : α} {k : Nat} (h : k < l.length) : l.getD k z ∈ l := by
 rw [List.getD_eq_getElem?_getD, List.getElem?_eq_getElem h]
 exact List.getElem_mem h
theorem stR_next {rs : List (Nat × Nat)} {w : Int} {s k x : Nat} {S : List Nat} (hS : stR rs w s k = S) (hx : S.getD k 0 = x) (hk : k < S.length) : stR rs w s (k + 1) = scanR rs w x S rs.length := by
 subst hS
 subst hx
 show (if k < (stR rs w s k).length then _ else _) = _
 rw [if_pos hk]
theorem Nods.at {w : World} {B : Nat} {A : Option Addr} {m q : Nat} {S : List Nat} (h : Nods w B (.slice A m q) S) {k : Nat} (hk : k < S.length) : ∃ b off, A = some ⟨b, off, none⟩ ∧ b < B ∧ m = S.length ∧ w.cell? ⟨b, off + k, none⟩ = some (.int .i64 (S.getD k 0 : Nat)) := by
 obtain ⟨h1, _, b, off, h2, h3, h4⟩ := sl_at h hk
 have h5 := h4 0 (by omega)
 rw [Nat.mul_one, Nat.add_zero] at h5
 exact ⟨b, off, h2, h3, h1, h5⟩
theorem stepA_no {w : Int} {x k a b : Nat} {out : List Nat} (h : (k : Int) = w ∨ a ≠ x ∨ b ∈ out) : stepA w x out k a b = out := by
 unfold stepA
 rw [if_neg]
 rintro ⟨h1, h2, h3⟩
 rcases h with h | h | h
 ·
  exact h1 h
 ·
  exact h h2
 ·
  exact h3 h
theorem stepA_yes {w : Int} {x k a b : Nat} {out : List Nat} (h1 : (k : Int) ≠ w) (h2 : a = x) (h3 : b ∉ out) : stepA w x out k a b = out ++ [b] := by
 unfold stepA
 rw [if_pos ⟨h1, h2, h3⟩]
theorem idx22_0 (a b c d : Int) (w : World) : Sem.run Tryz.prog (Instr.index 242 (.agg #[.int .i64 a, .int .i64 b, .int .i64 c, .int .i64 d]) (.int .i64 0)) w = .ok (.agg #[.int .i64 a, .int .i64 b]) w := by kernel_rfl
theorem idx22_1 (a b c d : Int) (w : World) : Sem.run Tryz.prog (Instr.index 242 (.agg #[.int .i64 a, .int .i64 b, .int .i64 c, .int .i64 d]) (.int .i64 1)) w = .ok (.agg #[.int .i64 c, .int .i64 d]) w := by kernel_rfl
theorem Nods.cap {w : World} {B : Nat} {A : Option Addr} {m q : Nat} {S : List Nat} (h : Nods w B (.slice A m q) S) : S.length ≤ q := by
 obtain ⟨A', b, off, cap, h1, h2, _⟩ := h
 injection h1 with e1 e2 e3
 omega
theorem stepA_len (w : Int) (x : Nat) (out : List Nat) (k a b : Nat) : (stepA w x out k a b).length ≤ out.length + 1 := by
 unfold stepA
 split <;> simp
theorem scanR_len {l : Lo} {wo : Int} {s k x j : Nat} {S : List Nat} (hl : S.length ≤ 40) (hr : ∀ k, k < l.rs.length → (l.rs.getD k (0, 0)).1 < l.ss.length ∧ (l.rs.getD k (0, 0)).2 < l.ss.length) (hs : s < l.ss.length) (hS : stR l.rs wo s k = S) (hx : S.getD k 0 = x) (hk : k < S.length) (hj : j ≤ l.rs.length) (hn : l.ss.length ≤ 40) : (scanR l.rs wo x S j).length ≤ 40 := by
 have h1 := (scanR_pre' l.rs wo x S hj).length_le
 rw [← stR_next hS hx hk] at h1
 have h2 := stR_len (w := wo) hs hr (k + 1)
 omega
theorem done0 {wo : Int} {x j ka kb : Nat} {S T T' : List Nat} (he : stepA wo x T j ka kb = T') (h : (0 = 0 → T = S) ∧ (0 = 1 → T = stepA wo x S j ka kb) ∧ (0 = 2 → T = stepR wo x S j (ka, kb))) : (0 + 1 = 0 → T' = S) ∧ (0 + 1 = 1 → T' = stepA wo x S j ka kb) ∧ (0 + 1 = 2 → T' = stepR wo x S j (ka, kb)) :=
 ⟨fun q => by omega, fun _ => by rw [← he, h.1 rfl], fun q => by omega⟩
theorem done1 {wo : Int} {x j ka kb : Nat} {S T T' : List Nat} (he : stepA wo x T j kb ka = T') (h : (1 = 0 → T = S) ∧ (1 = 1 → T = stepA wo x S j ka kb) ∧ (1 = 2 → T = stepR wo x S j (ka, kb))) : (1 + 1 = 0 → T' = S) ∧ (1 + 1 = 1 → T' = stepA wo x S j ka kb) ∧ (1 + 1 = 2 → T' = stepR wo x S j (ka, kb)) :=
 ⟨fun q => by omega, fun q => by omega, fun _ => by rw [← he, h.2.1 rfl]; rfl⟩
theorem own_one {w : World} {b B : Nat} {x : Value} {ty : Nat} (hb : w.heap[b]? = some (.cells #[x] ty (0, 0))) (hB : B ≤ b) : w.ownsRow B ty 1 (.slice (some ⟨b, 0, none⟩) 1 1) 1 [x] :=
 ⟨rfl, .inr ⟨b, 1, #[x], rfl, hB, hb, Nat.le_refl _, by unfold maxLen; omega, rfl, rfl⟩⟩
set_option maxRecDepth 100000 in
set_option maxHeartbeats 8000000 in
theorem reached_any (A0 A1 A2 A3 A4 A5 : Option Addr) (q0 q1 q2 q3 q4 q5 : Nat) (l : Lo) (s : Nat) (wo : Int) (w : World) (h : LoA w w.heap.size A0 A1 A2 A3 A4 A5 q0 q1 q2 q3 q4 q5 l) (hr : RunsIn l) (hs : s < l.ss.length) (hn : l.ss.length ≤ 40) (hu : l.us.length ≤ 40) :
  Calls Tryz.prog 139 #[.agg #[.slice A0 l.m.opts.length q0, .slice A1 l.m.rules.length q1, .slice A2 l.ss.length q2, .slice A3 l.us.length q3, .slice A4 l.ps.length q4, .slice A5 l.ws.length q5], .int .i64 s, .int .i64 wo] w fun e w' => ∃ v, e = .returned v ∧ Nods w' w'.heap.size v (stR l.rs wo s l.ss.length) ∧ Below w.heap.size w w' := by
 obtain ⟨i0, hi0, iz0, iz1, iz2⟩ := info_parts infoInt
 have H := hide h
 have HR := hide hr
 clear h hr
 go_enter Tryz.func139, Tryz.ntmps139
 go_upto_region 2 with (fail)
 generalize hw0 : World.alloc _ _ = w0
 obtain ⟨hb0, hb1, hB0, hs0⟩ := alloc2 hw0
 have HB : Hid (w.heap.size + 1 ≤ w0.heap.size) := by show _ ≤ _; omega
 have R0 : Hid (ReaS w w0 (w.heap.size + 1) w.heap.size A0 A1 A2 A3 A4 A5 q0 q1 q2 q3 q4 q5 l (.slice (some ⟨w.heap.size + 1, 0, none⟩) 1 1) [s]) := ReaS.mk' hB0 hb0 (own_one hb1 (Nat.le_refl _)) ⟨by omega, by omega⟩
 clear hw0 hb0 hb1 hB0 hs0
 go_wp2_with fail
 go_loopw [7, 8, 9, 10, 12] (fun o i _ _ _ wr => ∃ (k : Nat) (A : Option Addr) (cap : Nat) (S : List Nat), i = .int .i64 k ∧ o = .slice A S.length cap ∧ k ≤ S.length ∧ Hid (stR l.rs wo s k = S) ∧ Hid (ReaS w wr (w.heap.size + 1) w.heap.size A0 A1 A2 A3 A4 A5 q0 q1 q2 q3 q4 q5 l (.slice A S.length cap) S)) (fun _ i _ _ _ _ => l.ss.length - (intOf i).toNat)
 case atStart => exact ⟨0, _, _, [s], rfl, rfl, Nat.zero_le _, rfl, R0.out⟩
 case round =>
  obtain ⟨k, A, cap, S, rfl, rfl, hk, HS, R⟩ := hrel
  have hless : S.length ≤ l.ss.length := by
   have := stR_len (rs := l.rs) (w := wo) (i := k) hs HR.out.rs
   rwa [HS.out] at this
  have hlen : S.length ≤ 40 := by omega
  by_cases hlt : k < S.length
  ·
   obtain ⟨wk, hwk⟩ : ∃ wk : World, wk = wr := ⟨_, rfl⟩
   subst hwk
   have x3 := cellOf R.out.box 3
   have hlb := box_lt R.out.box
   obtain ⟨x, hx⟩ : ∃ x, S.getD k 0 = x := ⟨_, rfl⟩
   have HX := hide hx
   clear hx
   go_wp2_with fail
   clear x3
   go_loopw [7, 9, 10, 12, 24] (fun o _ _ _ i wr => ∃ (j : Nat) (A : Option Addr) (cap : Nat) (S' : List Nat), i = .int .i64 j ∧ o = .slice A S'.length cap ∧ j ≤ l.us.length ∧ Hid (scanR l.rs wo x S j = S') ∧ Hid (ReaS w wr (w.heap.size + 1) w.heap.size A0 A1 A2 A3 A4 A5 q0 q1 q2 q3 q4 q5 l (.slice A S'.length cap) S')) (fun _ _ _ _ i _ => l.us.length - (intOf i).toNat)
   case atStart => exact ⟨0, _, _, S, rfl, rfl, Nat.zero_le _, rfl, R.out⟩
   case round =>
    obtain ⟨j, A', cap', S', rfl, rfl, hj, HS', R'⟩ := hrel
    by_cases hjl : j < l.us.length
    ·
     obtain ⟨bu, offu, r, HRU, rfl, hbu, hq3, e0, e1, e2, e3⟩ := (H.out.below R'.out.below).ru hjl
     have hrin := HR.out r (by rw [← HRU.out]; exact getD_mem3 hjl)
     obtain ⟨ra, rb, rl, rr⟩ := r
     obtain ⟨a1, a2, b1, b2⟩ := hrin
     simp only at a1 a2 b1 b2 e0 e1 e2 e3
     obtain ⟨ka, rfl⟩ := Int.eq_ofNat_of_zero_le a1
     obtain ⟨kb, rfl⟩ := Int.eq_ofNat_of_zero_le b1
     have hrs : l.rs.getD j (0, 0) = (ka, kb) := by rw [rs_getD l hjl, HRU.out]; simp
     have HRS := hide hrs
     have lbu : bu < wr.heap.size := Nat.lt_of_lt_of_le hbu R'.out.below.size
     have ij : (j : Int) < (l.us.length : Int) := by omega
     have iq : (l.us.length : Int) ≤ (q3 : Int) := by omega
     clear hrs a1 a2 b1 b2
     go_wp2_with fail
     generalize hw1 : World.alloc _ _ = w1
     obtain ⟨hb1, hB1, hs1⟩ := alloc1 hw1
     have R1 := hide (R'.out.to hB1)
     clear hw1 hb1 hB1 hs1 e0 e1 e2 e3
     go_loopw [7, 12, 40] (fun o _ i wr => ∃ (p : Nat) (A : Option Addr) (cap : Nat) (T : List Nat), i = .int .i64 p ∧ o = .slice A T.length cap ∧ p ≤ 2 ∧ Hid ((p = 0 → T = S') ∧ (p = 1 → T = stepA wo x S' j ka kb) ∧ (p = 2 → T = stepR wo x S' j (ka, kb))) ∧ Hid (ReaS w wr (w.heap.size + 1) w.heap.size A0 A1 A2 (some ⟨bu, offu, none⟩) A4 A5 q0 q1 q2 q3 q4 q5 l (.slice A T.length cap) T)) (fun _ _ i _ => 2 - (intOf i).toNat)
     case atStart => exact ⟨0, _, _, S', rfl, rfl, by omega, ⟨fun _ => rfl, fun h => by omega, fun h => by omega⟩, R1.out⟩
     case round =>
      obtain ⟨p, A2', cap2, T, rfl, rfl, hp, HT, R2⟩ := hrel
      rcases (by omega : p = 0 ∨ p = 1 ∨ p = 2) with rfl | rfl | rfl
      ·
       have hix := fun w => idx22_0 ka kb kb ka w
       go_upto_region 11 with (fail)
       generalize hw2 : World.alloc _ _ = w2
       obtain ⟨hb2, hB2, hs2⟩ := alloc1 hw2
       have R3 := hide (R2.out.to hB2)
       have hpr : S <+: T := by
        rw [HT.out.1 rfl, ← HS'.out]
        exact scanR_pre ..
       have hTk : T.getD k 0 = x := (pre_getD hpr hlt).trans HX.out
       have hkT : k < T.length := Nat.lt_of_lt_of_le hlt hpr.length_le
       have hTl : T.length ≤ 42 := by
        have h1 := stepA_len wo x S' j ka kb
        have h2 := scanR_len hlen HR.out.rs hs HS.out HX.out hlt (show j ≤ l.rs.length by rw [rs_len]; omega) hn
        rw [HS'.out] at h2
        rw [HT.out.1 rfl]
        omega
       obtain ⟨bt, ot, rfl, hbt, _, ct⟩ := R3.out.nd.at hkT
       rw [hTk] at ct
       have y0 := cellOf hb2 0
       have y1 := cellOf hb2 1
       have lb2 := box_lt hb2
       have ik0 : (0 : Int) ≤ (k : Int) := by omega
       have ik : (k : Int) < (T.length : Int) := by omega
       have hTcap : (T.length : Int) ≤ (cap2 : Int) := by have := Nods.cap R3.out.nd; omega
       clear hw2 hb2 hB2 hs2 hTk hix
       by_cases hjw : (j : Int) = wo
       ·
        have g1 : ((j : Int) != wo) = false := by simpa using hjw
        have HJ := hide hjw
        clear hjw
        refine wp_region_held_drew (S := (fun w' => Below w2.heap.size w2 w')) (by kernel_rfl) ?_ (fun hHeld => ?_)
        ·
         try dsimp only
         exact zP
        refine zT 0 rfl ?_
        refine zT 1 rfl ?_
        refine zT 2 rfl ?_
        refine zT 3 rfl ?_
        refine zS 4 rfl ?_
        refine zS 5 rfl ?_
        refine zS 6 rfl ?_
        refine zS 7 rfl ?_
        refine zS 8 rfl ?_
        refine zS 9 rfl ?_
        refine zS 10 rfl ?_
        refine zT 11 rfl ?_
        refine zT 12 rfl ?_
        refine zS 13 rfl ?_
        refine zS 14 rfl ?_
        refine zS 15 rfl ?_
        refine zS 16 rfl ?_
        refine zS 17 rfl ?_
        refine zT 18 rfl ?_
        refine wpAnyH_done (by kernel_rfl) ?_ _
        go_wp2_with fail
        go_roundw
        case rel => exact ⟨0 + 1, _, _, T, by go_num, rfl, by omega, done0 (stepA_no (.inl HJ.out)) HT.out, R3.out.to hHeld⟩
        case measure => simp [intOf]
       ·
        have g1 : ((j : Int) != wo) = true := by simpa using hjw
        have HJ := hide hjw
        clear hjw
        by_cases hax : ka = x
        ·
         subst hax
         have g2 : ((ka : Int) == (ka : Int)) = true := by simp
         cases hct : decide (kb ∈ T) with
         | true =>
          have HCT := hide hct
          have hm : kb ∈ T := by simpa using hct
          have HM := hide hm
          clear hct hm
          refine wp_region_held_drew (S := (fun w' => Below w2.heap.size w2 w')) (by kernel_rfl) ?_ (fun hHeld => ?_)
          ·
           try dsimp only
           exact zP
          refine zT 0 rfl ?_
          refine zT 1 rfl ?_
          refine zT 2 rfl ?_
          refine zT 3 rfl ?_
          refine zT 4 rfl ?_
          refine zT 5 rfl ?_
          refine zT 6 rfl ?_
          refine zT 7 rfl ?_
          refine zT 8 rfl ?_
          refine zT 9 rfl ?_
          refine zT 10 rfl ?_
          refine zT 11 rfl ?_
          refine zT 12 rfl ?_
          refine zT 13 rfl ?_
          refine zT 14 rfl ?_
          refine zT 15 rfl ?_
          refine wpAnyH_ready (rs := [16]) (by kernel_rfl) (by simp) ?_
          refine AllReadyH.cons rfl (fun K hK => ?_) AllReadyH.nil
          go_simp
          ((go_at_call 123; refine (containsN_any T kb _ _ _ _ (by unfold maxLen; omega) (Nods.below R3.out.nd (by assumption)) HCT.out).mono ?_; rintro e w4 ⟨rfl, rfl⟩))
          (try dsimp only)
          refine hK.out _ _ zP fun hNext => ?_; clear hK K hHeld; have hHeld := hNext; clear hNext; (try dsimp only at hHeld); try simp only [zX]
          refine zT 17 rfl ?_
          refine zT 18 rfl ?_
          refine wpAnyH_done (by kernel_rfl) ?_ _
          go_wp2_with fail
          go_roundw
          case rel => exact ⟨0 + 1, _, _, T, by go_num, rfl, by omega, done0 (stepA_no (.inr (.inr HM.out))) HT.out, R3.out.to hHeld⟩
          case measure => simp [intOf]
         | false =>
          have HCT := hide hct
          have hm : kb ∉ T := by simpa using hct
          have HM := hide hm
          clear hct hm
          refine wp_region_held_drew (S := (fun w' => Below w2.heap.size w2 w')) (by kernel_rfl) ?_ (fun hHeld => ?_)
          ·
           try dsimp only
           exact zP
          refine zT 0 rfl ?_
          refine zT 1 rfl ?_
          refine zT 2 rfl ?_
          refine zT 3 rfl ?_
          refine zT 4 rfl ?_
          refine zT 5 rfl ?_
          refine zT 6 rfl ?_
          refine zT 7 rfl ?_
          refine zT 8 rfl ?_
          refine zT 9 rfl ?_
          refine zT 10 rfl ?_
          refine zT 11 rfl ?_
          refine zT 12 rfl ?_
          refine zT 13 rfl ?_
          refine zT 14 rfl ?_
          refine zT 15 rfl ?_
          refine wpAnyH_ready (rs := [16]) (by kernel_rfl) (by simp) ?_
          refine AllReadyH.cons rfl (fun K hK => ?_) AllReadyH.nil
          go_simp
          ((go_at_call 123; refine (containsN_any T kb _ _ _ _ (by unfold maxLen; omega) (Nods.below R3.out.nd (by assumption)) HCT.out).mono ?_; rintro e w4 ⟨rfl, rfl⟩))
          (try dsimp only)
          refine hK.out _ _ zP fun hNext => ?_; clear hK K hHeld; have hHeld := hNext; clear hNext; (try dsimp only at hHeld); try simp only [zX]
          refine zT 17 rfl ?_
          refine zT 18 rfl ?_
          refine wpAnyH_done (by kernel_rfl) ?_ _
          have R4 := hide (R3.out.to hHeld)
          have z1 := (hHeld.cell (p := ⟨wr.heap.size, 1, none⟩) lb2).trans y1
          have lb3 : wr.heap.size < w2.drew.heap.size := Nat.lt_of_lt_of_le lb2 hHeld.size
          clear ct y0 y1 hHeld lb2
          generalize hw4 : w2.drew = w4 at R4 z1 lb3 ⊢
          have hBw := R4.out.lt.2
          clear hw4
          go_wp2_with (at_builtin; go_must (refine wpList_append_own_at _ rfl (.tmp 62) (.tmp 65) _ rfl (w.heap.size + 1) 3 i0 _ 1 8 Tryz.underlying45 hi0 iz0 iz1 iz2 rfl (by omega) _ _ _ rfl ((R4.out.own).alloc _) ⟨w4.heap.size, 0, none⟩ 1 1 [.int .i64 (kb : Nat)] rfl rfl (World.news_of_block (heap_alloc_new w4 _)) (by simp [Value.oneCell']) (by have h1 := hTl; unfold maxLen; omega) (by have h1 := hTl; omega) (by have h1 := hBw; simp; omega) ?_); intro v1 w3 hown1 hg1 _ hat1; obtain ⟨A6, cap6, hv6⟩ := owns_form hown1; subst hv6; have R5 := hide (R4.out.push hown1 hg1); clear hown1 hg1 hat1 z1)
          go_roundw
          case rel => exact ⟨0 + 1, A6, cap6, T ++ [kb], by go_num, by rw [List.length_append, List.length_singleton], by omega, done0 (stepA_yes HJ.out rfl HM.out) HT.out, by rw [List.length_append, List.length_singleton]; exact R5.out⟩
          case measure => simp [intOf]
        ·
         have g2 : ((ka : Int) == (x : Int)) = false := by simp; omega
         have HAX := hide hax
         clear hax
         refine wp_region_held_drew (S := (fun w' => Below w2.heap.size w2 w')) (by kernel_rfl) ?_ (fun hHeld => ?_)
         ·
          try dsimp only
          exact zP
         refine zT 0 rfl ?_
         refine zT 1 rfl ?_
         refine zT 2 rfl ?_
         refine zT 3 rfl ?_
         refine zT 4 rfl ?_
         refine zT 5 rfl ?_
         refine zT 6 rfl ?_
         refine zT 7 rfl ?_
         refine zT 8 rfl ?_
         refine zT 9 rfl ?_
         refine zT 10 rfl ?_
         refine zT 11 rfl ?_
         refine zT 12 rfl ?_
         refine zS 13 rfl ?_
         refine zS 14 rfl ?_
         refine zS 15 rfl ?_
         refine zS 16 rfl ?_
         refine zS 17 rfl ?_
         refine zT 18 rfl ?_
         refine wpAnyH_done (by kernel_rfl) ?_ _
         go_wp2_with fail
         go_roundw
         case rel => exact ⟨0 + 1, _, _, T, by go_num, rfl, by omega, done0 (stepA_no (.inr (.inl HAX.out))) HT.out, R3.out.to hHeld⟩
         case measure => simp [intOf]
      ·
       have hix := fun w => idx22_1 ka kb kb ka w
       go_upto_region 11 with (fail)
       generalize hw2 : World.alloc _ _ = w2
       obtain ⟨hb2, hB2, hs2⟩ := alloc1 hw2
       have R3 := hide (R2.out.to hB2)
       have hpr : S <+: T := by
        rw [HT.out.2.1 rfl, ← HS'.out]
        exact (scanR_pre ..).trans (stepA_pre ..)
       have hTk : T.getD k 0 = x := (pre_getD hpr hlt).trans HX.out
       have hkT : k < T.length := Nat.lt_of_lt_of_le hlt hpr.length_le
       have hTl : T.length ≤ 42 := by
        have h1 := stepA_len wo x S' j ka kb
        have h2 := scanR_len hlen HR.out.rs hs HS.out HX.out hlt (show j ≤ l.rs.length by rw [rs_len]; omega) hn
        rw [HS'.out] at h2
        rw [HT.out.2.1 rfl]
        omega
       obtain ⟨bt, ot, rfl, hbt, _, ct⟩ := R3.out.nd.at hkT
       rw [hTk] at ct
       have y0 := cellOf hb2 0
       have y1 := cellOf hb2 1
       have lb2 := box_lt hb2
       have ik0 : (0 : Int) ≤ (k : Int) := by omega
       have ik : (k : Int) < (T.length : Int) := by omega
       have hTcap : (T.length : Int) ≤ (cap2 : Int) := by have := Nods.cap R3.out.nd; omega
       clear hw2 hb2 hB2 hs2 hTk hix
       by_cases hjw : (j : Int) = wo
       ·
        have g1 : ((j : Int) != wo) = false := by simpa using hjw
        have HJ := hide hjw
        clear hjw
        refine wp_region_held_drew (S := (fun w' => Below w2.heap.size w2 w')) (by kernel_rfl) ?_ (fun hHeld => ?_)
        ·
         try dsimp only
         exact zP
        refine zT 0 rfl ?_
        refine zT 1 rfl ?_
        refine zT 2 rfl ?_
        refine zT 3 rfl ?_
        refine zS 4 rfl ?_
        refine zS 5 rfl ?_
        refine zS 6 rfl ?_
        refine zS 7 rfl ?_
        refine zS 8 rfl ?_
        refine zS 9 rfl ?_
        refine zS 10 rfl ?_
        refine zT 11 rfl ?_
        refine zT 12 rfl ?_
        refine zS 13 rfl ?_
        refine zS 14 rfl ?_
        refine zS 15 rfl ?_
        refine zS 16 rfl ?_
        refine zS 17 rfl ?_
        refine zT 18 rfl ?_
        refine wpAnyH_done (by kernel_rfl) ?_ _
        go_wp2_with fail
        go_roundw
        case rel => exact ⟨1 + 1, _, _, T, by go_num, rfl, by omega, done1 (stepA_no (.inl HJ.out)) HT.out, R3.out.to hHeld⟩
        case measure => simp [intOf]
       ·
        have g1 : ((j : Int) != wo) = true := by simpa using hjw
        have HJ := hide hjw
        clear hjw
        by_cases hax : kb = x
        ·
         subst hax
         have g2 : ((kb : Int) == (kb : Int)) = true := by simp
         cases hct : decide (ka ∈ T) with
         | true =>
          have HCT := hide hct
          have hm : ka ∈ T := by simpa using hct
          have HM := hide hm
          clear hct hm
          refine wp_region_held_drew (S := (fun w' => Below w2.heap.size w2 w')) (by kernel_rfl) ?_ (fun hHeld => ?_)
          ·
           try dsimp only
           exact zP
          refine zT 0 rfl ?_
          refine zT 1 rfl ?_
          refine zT 2 rfl ?_
          refine zT 3 rfl ?_
          refine zT 4 rfl ?_
          refine zT 5 rfl ?_
          refine zT 6 rfl ?_
          refine zT 7 rfl ?_
          refine zT 8 rfl ?_
          refine zT 9 rfl ?_
          refine zT 10 rfl ?_
          refine zT 11 rfl ?_
          refine zT 12 rfl ?_
          refine zT 13 rfl ?_
          refine zT 14 rfl ?_
          refine zT 15 rfl ?_
          refine wpAnyH_ready (rs := [16]) (by kernel_rfl) (by simp) ?_
          refine AllReadyH.cons rfl (fun K hK => ?_) AllReadyH.nil
          go_simp
          ((go_at_call 123; refine (containsN_any T ka _ _ _ _ (by unfold maxLen; omega) (Nods.below R3.out.nd (by assumption)) HCT.out).mono ?_; rintro e w4 ⟨rfl, rfl⟩))
          (try dsimp only)
          refine hK.out _ _ zP fun hNext => ?_; clear hK K hHeld; have hHeld := hNext; clear hNext; (try dsimp only at hHeld); try simp only [zX]
          refine zT 17 rfl ?_
          refine zT 18 rfl ?_
          refine wpAnyH_done (by kernel_rfl) ?_ _
          go_wp2_with fail
          go_roundw
          case rel => exact ⟨1 + 1, _, _, T, by go_num, rfl, by omega, done1 (stepA_no (.inr (.inr HM.out))) HT.out, R3.out.to hHeld⟩
          case measure => simp [intOf]
         | false =>
          have HCT := hide hct
          have hm : ka ∉ T := by simpa using hct
          have HM := hide hm
          clear hct hm
          refine wp_region_held_drew (S := (fun w' => Below w2.heap.size w2 w')) (by kernel_rfl) ?_ (fun hHeld => ?_)
          ·
           try dsimp only
           exact zP
          refine zT 0 rfl ?_
          refine zT 1 rfl ?_
          refine zT 2 rfl ?_
          refine zT 3 rfl ?_
          refine zT 4 rfl ?_
          refine zT 5 rfl ?_
          refine zT 6 rfl ?_
          refine zT 7 rfl ?_
          refine zT 8 rfl ?_
          refine zT 9 rfl ?_
          refine zT 10 rfl ?_
          refine zT 11 rfl ?_
          refine zT 12 rfl ?_
          refine zT 13 rfl ?_
          refine zT 14 rfl ?_
          refine zT 15 rfl ?_
          refine wpAnyH_ready (rs := [16]) (by kernel_rfl) (by simp) ?_
          refine AllReadyH.cons rfl (fun K hK => ?_) AllReadyH.nil
          go_simp
          ((go_at_call 123; refine (containsN_any T ka _ _ _ _ (by unfold maxLen; omega) (Nods.below R3.out.nd (by assumption)) HCT.out).mono ?_; rintro e w4 ⟨rfl, rfl⟩))
          (try dsimp only)
          refine hK.out _ _ zP fun hNext => ?_; clear hK K hHeld; have hHeld := hNext; clear hNext; (try dsimp only at hHeld); try simp only [zX]
          refine zT 17 rfl ?_
          refine zT 18 rfl ?_
          refine wpAnyH_done (by kernel_rfl) ?_ _
          have R4 := hide (R3.out.to hHeld)
          have z1 := (hHeld.cell (p := ⟨wr.heap.size, 1, none⟩) lb2).trans y1
          have lb3 : wr.heap.size < w2.drew.heap.size := Nat.lt_of_lt_of_le lb2 hHeld.size
          clear ct y0 y1 hHeld lb2
          generalize hw4 : w2.drew = w4 at R4 z1 lb3 ⊢
          have hBw := R4.out.lt.2
          clear hw4
          go_wp2_with (at_builtin; go_must (refine wpList_append_own_at _ rfl (.tmp 62) (.tmp 65) _ rfl (w.heap.size + 1) 3 i0 _ 1 8 Tryz.underlying45 hi0 iz0 iz1 iz2 rfl (by omega) _ _ _ rfl ((R4.out.own).alloc _) ⟨w4.heap.size, 0, none⟩ 1 1 [.int .i64 (ka : Nat)] rfl rfl (World.news_of_block (heap_alloc_new w4 _)) (by simp [Value.oneCell']) (by have h1 := hTl; unfold maxLen; omega) (by have h1 := hTl; omega) (by have h1 := hBw; simp; omega) ?_); intro v1 w3 hown1 hg1 _ hat1; obtain ⟨A6, cap6, hv6⟩ := owns_form hown1; subst hv6; have R5 := hide (R4.out.push hown1 hg1); clear hown1 hg1 hat1 z1)
          go_roundw
          case rel => exact ⟨1 + 1, A6, cap6, T ++ [ka], by go_num, by rw [List.length_append, List.length_singleton], by omega, done1 (stepA_yes HJ.out rfl HM.out) HT.out, by rw [List.length_append, List.length_singleton]; exact R5.out⟩
          case measure => simp [intOf]
        ·
         have g2 : ((kb : Int) == (x : Int)) = false := by simp; omega
         have HAX := hide hax
         clear hax
         refine wp_region_held_drew (S := (fun w' => Below w2.heap.size w2 w')) (by kernel_rfl) ?_ (fun hHeld => ?_)
         ·
          try dsimp only
          exact zP
         refine zT 0 rfl ?_
         refine zT 1 rfl ?_
         refine zT 2 rfl ?_
         refine zT 3 rfl ?_
         refine zT 4 rfl ?_
         refine zT 5 rfl ?_
         refine zT 6 rfl ?_
         refine zT 7 rfl ?_
         refine zT 8 rfl ?_
         refine zT 9 rfl ?_
         refine zT 10 rfl ?_
         refine zT 11 rfl ?_
         refine zT 12 rfl ?_
         refine zS 13 rfl ?_
         refine zS 14 rfl ?_
         refine zS 15 rfl ?_
         refine zS 16 rfl ?_
         refine zS 17 rfl ?_
         refine zT 18 rfl ?_
         refine wpAnyH_done (by kernel_rfl) ?_ _
         go_wp2_with fail
         go_roundw
         case rel => exact ⟨1 + 1, _, _, T, by go_num, rfl, by omega, done1 (stepA_no (.inr (.inl HAX.out))) HT.out, R3.out.to hHeld⟩
         case measure => simp [intOf]
      ·
       go_wp2_with fail
       go_roundw
       case rel => exact ⟨j + 1, _, _, T, by go_num, rfl, by omega, by show stepR wo x (scanR l.rs wo x S j) j (l.rs.getD j (0, 0)) = T; rw [HS'.out, HRS.out]; exact (HT.out.2.2 rfl).symm, R2.out⟩
       case measure => simp [intOf]; omega
    ·
     have hje : j = l.us.length := by omega
     subst hje
     go_wp2_with fail
     go_roundw
     case rel => exact ⟨k + 1, _, _, S', by go_num, rfl, by have := (scanR_pre l.rs wo x S l.us.length).length_le; rw [HS'.out] at this; omega, by show stR l.rs wo s (k + 1) = S'; rw [stR_next HS.out HX.out hlt, rs_len]; exact HS'.out, R'.out⟩
     case measure => simp [intOf]; omega
  ·
   have hke : k = S.length := by omega
   subst hke
   have hend := stR_end (rs := l.rs) (w := wo) (i := S.length) hs HR.out.rs (by rw [HS.out]; exact Nat.le_refl _) (by rw [HS.out]; exact Nat.le_refl _)
   rw [HS.out] at hend
   have HE := hide hend
   clear hend
   go_wp2_with fail
   go_ret
   exact ⟨_, rfl, by rw [← HE.out]; exact R.out.nd, R.out.below⟩
end Go.Proofs.YtehadoecnmfeoaaGreat

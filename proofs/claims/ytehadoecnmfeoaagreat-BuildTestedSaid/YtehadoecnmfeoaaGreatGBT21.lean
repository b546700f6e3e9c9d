/- Part 21 of this claim's texts: walks and plain laws. -/
import Derived.Test.YtehadoecnmfeoaaGreatRows
import Derived.Test.YtehadoecnmfeoaaGreatGBT19
import Derived.Test.YtehadoecnmfeoaaGreatGBT20
import Derived.Deep.RegionHeld3
import Derived.Deep.DrawnRows
import Derived.Test.YtehadoecnmfeoaaGreatGBT3
/- Names of plugs and wires that occur twice: walks. -/
namespace Go.Proofs.YtehadoecnmfeoaaGreat
open Go.RowKit
set_option linter.unusedVariables false
set_option linter.unusedSimpArgs false
theorem Pls.form {w : World} {B : Nat} {v : Value} {l : List Pl} (h : Pls w B v l) : ∃ A cap, v = .slice A l.length cap := Sl.form h
theorem Pls.below {w w' : World} {B : Nat} {v : Value} {l : List Pl} (h : Pls w B v l) (hb : Below B w w') : Pls w' B v l := Sl.below h hb
theorem Wis.form {w : World} {B : Nat} {v : Value} {l : List Wi} (h : Wis w B v l) : ∃ A cap, v = .slice A l.length cap := by
  obtain ⟨fv, h1, _⟩ := h
  exact Sl.form h1
theorem Pls.at {w : World} {B : Nat} {A : Option Addr} {n q : Nat} {l : List Pl} (h : Pls w B (.slice A n q) l) {k : Nat} (hk : k < l.length) : ∃ b off x, Hid (l.getD k Pl.o = x) ∧ A = some ⟨b, off, none⟩ ∧ b < B ∧ l.length ≤ q ∧
    w.cell? ⟨b, off + k * 3, none⟩ = some (.string x.name) ∧ w.cell? ⟨b, off + k * 3 + 1, none⟩ = some (.int .i64 x.spot) ∧ w.cell? ⟨b, off + k * 3 + 2, none⟩ = some (.int .i64 x.cav) := by
  obtain ⟨h1, h2, b, off, h3, h4, h5⟩ := sl_at h hk
  exact ⟨b, off, _, rfl, h3, h4, h1 ▸ h2, h5 0 (by omega), h5 1 (by omega), h5 2 (by omega)⟩
theorem Wis.at {w : World} {B : Nat} {A : Option Addr} {n q : Nat} {l : List Wi} (h : Wis w B (.slice A n q) l) {k : Nat} (hk : k < l.length) : ∃ b off x Af qf, Hid (l.getD k Wi.o = x) ∧ A = some ⟨b, off, none⟩ ∧ b < B ∧ l.length ≤ q ∧ Hid (Ints w B (.slice Af x.form.length qf) x.form) ∧
    w.cell? ⟨b, off + k * 7, none⟩ = some (.string x.name) ∧ w.cell? ⟨b, off + k * 7 + 1, none⟩ = some (.int .i64 x.fp) ∧ w.cell? ⟨b, off + k * 7 + 2, none⟩ = some (.int .i64 x.fc) ∧ w.cell? ⟨b, off + k * 7 + 3, none⟩ = some (.int .i64 x.tp) ∧
    w.cell? ⟨b, off + k * 7 + 4, none⟩ = some (.int .i64 x.tc) ∧ w.cell? ⟨b, off + k * 7 + 5, none⟩ = some (.int .i64 x.size) ∧ w.cell? ⟨b, off + k * 7 + 6, none⟩ = some (.slice Af x.form.length qf) := by
  obtain ⟨fv, hs, hf⟩ := h
  obtain ⟨h1, h2, b, off, h3, h4, h5⟩ := sl_at hs hk
  have h6 := hf k hk
  obtain ⟨Af, qf, e⟩ := Sl.form h6
  rw [e] at h6
  have h7 := h5 6 (by omega)
  rw [show wiC (l.getD k Wi.o) (fv k) 6 = fv k from rfl, e] at h7
  exact ⟨b, off, _, Af, qf, rfl, h3, h4, h1 ▸ h2, h6, h5 0 (by omega), h5 1 (by omega), h5 2 (by omega), h5 3 (by omega), h5 4 (by omega), h5 5 (by omega), h7⟩
theorem sl_take {w : World} {B sz n : Nat} {A : Option Addr} {m q : Nat} {f : Nat → Nat → Value} (h : Sl w B sz (.slice A m q) n f) {k : Nat} (hk : k ≤ n) : Sl w B sz (.slice A k q) k f := by
  obtain ⟨A', b, off, cap, h1, h2, h3, h4⟩ := h
  injection h1 with e1 e2 e3
  subst e1 e2 e3
  refine ⟨A, b, off, q, rfl, by omega, ?_, fun i j hi hj => h4 i j (by omega) hj⟩
  rcases h3 with h3 | h3
  · exact .inl h3
  · exact .inr (by omega)
theorem take_getD' {α : Type} {l : List α} {z : α} {k i : Nat} (hi : i < k) : (l.take k).getD i z = l.getD i z := by
  simp [List.getD_eq_getElem?_getD, List.getElem?_take, hi]
theorem Pls.take {w : World} {B : Nat} {A : Option Addr} {n q : Nat} {l : List Pl} (h : Pls w B (.slice A n q) l) {k : Nat} (hk : k ≤ l.length) : Pls w B (.slice A k q) (l.take k) := by
  have h1 := sl_take h hk
  have hl : (l.take k).length = k := by simp; omega
  unfold Pls
  rw [hl]
  exact Sl.congr h1 fun i j hi hj => by rw [take_getD' hi]
theorem Wis.take {w : World} {B : Nat} {A : Option Addr} {n q : Nat} {l : List Wi} (h : Wis w B (.slice A n q) l) {k : Nat} (hk : k ≤ l.length) : Wis w B (.slice A k q) (l.take k) := by
  obtain ⟨fv, hs, hf⟩ := h
  have h1 := sl_take hs hk
  have hl : (l.take k).length = k := by simp; omega
  refine ⟨fv, ?_, fun i hi => ?_⟩
  · rw [hl]
    exact Sl.congr h1 fun i j hi hj => by rw [take_getD' hi]
  · rw [hl] at hi
    rw [take_getD' hi]
    exact hf i (by omega)
set_option maxRecDepth 100000 in
theorem index_plugs (p : Pl → Bool) (c0 : Value) (v : Value) (gs : List Pl) (w : World) (hm : gs.length ≤ maxLen) (h : Pls w w.heap.size v gs)
    (hf : ∀ (i : Nat) (x : Pl)  (W : World), i < gs.length → gs.getD i Pl.o = x → Below w.heap.size w W → Calls Tryz.prog 143 #[.agg #[.string x.name, .int .i64 x.spot, .int .i64 x.cav], c0] W fun e w' => e = .returned (.bool (p x)) ∧ Below W.heap.size W w') :
    Calls Tryz.prog 199 #[v, .func (.func 143) #[] #[c0]] w fun e w' => e = .returned (.int .i64 (idxI p gs)) ∧ Below w.heap.size w w' := by
  unfold maxLen at hm
  obtain ⟨A, cap, rfl⟩ := Pls.form h
  have H := hide h; clear h
  have HF := hide hf; clear hf
  go_enter Tryz.func199, Tryz.ntmps199
  go_wp2
  go_loopw [5, 8] (fun _ i wr => ∃ k : Nat, k ≤ gs.length ∧ i = .int .i64 k ∧ Hid (∀ j, j < k → p (gs.getD j Pl.o) = false) ∧ Below w.heap.size w wr) (fun _ i _ => gs.length - (intOf i).toNat)
  case atStart => exact ⟨0, Nat.zero_le _, rfl, fun j hj => by omega, Below.refl _ _⟩
  case round =>
    obtain ⟨k, hk, rfl, hz, hB⟩ := hrel
    by_cases hlt : k < gs.length
    · obtain ⟨b, off, x, HX, rfl, hbb, hq, e0, e1, e2⟩ := Pls.at (H.out.below hB) hlt
      have hf := fun W (hW : Below w.heap.size w W) => HF.out k x  W hlt HX.out hW
      have HF2 := hide hf
      have HB := hide hB
      clear hf
      by_cases hp : p x = true
      · have HP := hide hp
        clear hp
        go_wp2_with (go_at_call 143; refine (HF2.out _ hB).mono ?_; rw [HP.out]; rintro e w1 ⟨rfl, hB1⟩)
        go_ret
        exact ⟨ret_int (idxI_at p Pl.o gs k hz.out hlt (by rw [HX.out]; exact HP.out)).symm, Below.to HB.out hB1 (Nat.le_refl _)⟩
      · have hp' : p x = false := by simpa using hp
        have HP := hide hp'
        clear hp hp'
        go_wp2_with (go_at_call 143; refine (HF2.out _ hB).mono ?_; rw [HP.out]; rintro e w1 ⟨rfl, hB1⟩)
        go_roundw
        case rel => exact ⟨k + 1, by omega, by go_num, fun j hj => by
            rcases Nat.lt_or_ge j k with h | h
            · exact hz.out j h
            · rw [show j = k from by omega, HX.out]; exact HP.out, Below.to HB.out hB1 (Nat.le_refl _)⟩
        case measure => simp [intOf]; omega
    · go_wp2
      go_ret
      exact ⟨ret_int (idxI_none p Pl.o gs (fun j hj => hz.out j (by omega))).symm, hB⟩
set_option maxRecDepth 100000 in
theorem contains_plugs (p : Pl → Bool) (c0 : Value) (v : Value) (gs : List Pl) (w : World) (hm : gs.length ≤ maxLen) (h : Pls w w.heap.size v gs)
    (hf : ∀ (i : Nat) (x : Pl)  (W : World), i < gs.length → gs.getD i Pl.o = x → Below w.heap.size w W → Calls Tryz.prog 143 #[.agg #[.string x.name, .int .i64 x.spot, .int .i64 x.cav], c0] W fun e w' => e = .returned (.bool (p x)) ∧ Below W.heap.size W w') :
    Calls Tryz.prog 142 #[v, .func (.func 143) #[] #[c0]] w fun e w' => e = .returned (.bool (gs.any p)) ∧ Below w.heap.size w w' := by
  have hc := index_plugs p c0 v gs w hm h hf
  have he := idxI_any p gs
  have hlo := idxI_lo p gs
  have hhi := idxI_hi p gs
  obtain ⟨z, hz⟩ : ∃ z, idxI p gs = z := ⟨_, rfl⟩
  rw [hz] at hc he hlo hhi
  obtain ⟨A, cap, rfl⟩ := Pls.form h
  have HC := hide hc
  have HE := hide he
  unfold maxLen at hm
  have hz2 : z ≤ 9223372036854775807 := by omega
  clear hc he hz h hf
  go_enter Tryz.func142, Tryz.ntmps142
  go_wp2_with (go_at_call 199; refine HC.out.mono ?_; rintro e w1 ⟨rfl, hB1⟩)
  go_ret
  exact ⟨ret_bool HE.out, hB1⟩

set_option maxRecDepth 100000 in
theorem index_wires (p : Wi → Bool) (c0 : Value) (v : Value) (gs : List Wi) (w : World) (hm : gs.length ≤ maxLen) (h : Wis w w.heap.size v gs)
    (hf : ∀ (i : Nat) (x : Wi) (Af : Option Addr) (qf : Nat) (W : World), i < gs.length → gs.getD i Wi.o = x → Below w.heap.size w W → Calls Tryz.prog 149 #[.agg #[.string x.name, .int .i64 x.fp, .int .i64 x.fc, .int .i64 x.tp, .int .i64 x.tc, .int .i64 x.size, .slice Af x.form.length qf], c0] W fun e w' => e = .returned (.bool (p x)) ∧ Below W.heap.size W w') :
    Calls Tryz.prog 200 #[v, .func (.func 149) #[] #[c0]] w fun e w' => e = .returned (.int .i64 (idxI p gs)) ∧ Below w.heap.size w w' := by
  unfold maxLen at hm
  obtain ⟨A, cap, rfl⟩ := Wis.form h
  have H := hide h; clear h
  have HF := hide hf; clear hf
  go_enter Tryz.func200, Tryz.ntmps200
  go_wp2
  go_loopw [5, 8] (fun _ i wr => ∃ k : Nat, k ≤ gs.length ∧ i = .int .i64 k ∧ Hid (∀ j, j < k → p (gs.getD j Wi.o) = false) ∧ Below w.heap.size w wr) (fun _ i _ => gs.length - (intOf i).toNat)
  case atStart => exact ⟨0, Nat.zero_le _, rfl, fun j hj => by omega, Below.refl _ _⟩
  case round =>
    obtain ⟨k, hk, rfl, hz, hB⟩ := hrel
    by_cases hlt : k < gs.length
    · obtain ⟨b, off, x, Af, qf, HX, rfl, hbb, hq, HFO, e0, e1, e2, e3, e4, e5, e6⟩ := Wis.at (H.out.below hB) hlt
      have hf := fun W (hW : Below w.heap.size w W) => HF.out k x Af qf W hlt HX.out hW
      have HF2 := hide hf
      have HB := hide hB
      clear hf
      by_cases hp : p x = true
      · have HP := hide hp
        clear hp
        go_wp2_with (go_at_call 149; refine (HF2.out _ hB).mono ?_; rw [HP.out]; rintro e w1 ⟨rfl, hB1⟩)
        go_ret
        exact ⟨ret_int (idxI_at p Wi.o gs k hz.out hlt (by rw [HX.out]; exact HP.out)).symm, Below.to HB.out hB1 (Nat.le_refl _)⟩
      · have hp' : p x = false := by simpa using hp
        have HP := hide hp'
        clear hp hp'
        go_wp2_with (go_at_call 149; refine (HF2.out _ hB).mono ?_; rw [HP.out]; rintro e w1 ⟨rfl, hB1⟩)
        go_roundw
        case rel => exact ⟨k + 1, by omega, by go_num, fun j hj => by
            rcases Nat.lt_or_ge j k with h | h
            · exact hz.out j h
            · rw [show j = k from by omega, HX.out]; exact HP.out, Below.to HB.out hB1 (Nat.le_refl _)⟩
        case measure => simp [intOf]; omega
    · go_wp2
      go_ret
      exact ⟨ret_int (idxI_none p Wi.o gs (fun j hj => hz.out j (by omega))).symm, hB⟩
set_option maxRecDepth 100000 in
theorem contains_wires (p : Wi → Bool) (c0 : Value) (v : Value) (gs : List Wi) (w : World) (hm : gs.length ≤ maxLen) (h : Wis w w.heap.size v gs)
    (hf : ∀ (i : Nat) (x : Wi) (Af : Option Addr) (qf : Nat) (W : World), i < gs.length → gs.getD i Wi.o = x → Below w.heap.size w W → Calls Tryz.prog 149 #[.agg #[.string x.name, .int .i64 x.fp, .int .i64 x.fc, .int .i64 x.tp, .int .i64 x.tc, .int .i64 x.size, .slice Af x.form.length qf], c0] W fun e w' => e = .returned (.bool (p x)) ∧ Below W.heap.size W w') :
    Calls Tryz.prog 148 #[v, .func (.func 149) #[] #[c0]] w fun e w' => e = .returned (.bool (gs.any p)) ∧ Below w.heap.size w w' := by
  have hc := index_wires p c0 v gs w hm h hf
  have he := idxI_any p gs
  have hlo := idxI_lo p gs
  have hhi := idxI_hi p gs
  obtain ⟨z, hz⟩ : ∃ z, idxI p gs = z := ⟨_, rfl⟩
  rw [hz] at hc he hlo hhi
  obtain ⟨A, cap, rfl⟩ := Wis.form h
  have HC := hide hc
  have HE := hide he
  unfold maxLen at hm
  have hz2 : z ≤ 9223372036854775807 := by omega
  clear hc he hz h hf
  go_enter Tryz.func148, Tryz.ntmps148
  go_wp2_with (go_at_call 200; refine HC.out.mono ?_; rintro e w1 ⟨rfl, hB1⟩)
  go_ret
  exact ⟨ret_bool HE.out, hB1⟩

set_option maxRecDepth 100000 in
theorem samePl_any (q x : Pl) (pb : Nat) (w : World) (h : w.heap[pb]? = some (.cells #[.string x.name, .int .i64 x.spot, .int .i64 x.cav] 159 (0, 0))) :
    Calls Tryz.prog 143 #[.agg #[.string q.name, .int .i64 q.spot, .int .i64 q.cav], .pointer (some ⟨pb, 0, none⟩)] w fun e w' => e = .returned (.bool (bytes q.name == bytes x.name)) ∧ Below w.heap.size w w' := by
  have c0 := cellOf h 0
  have hlb := box_lt h
  have hr : (bytes q.name == bytes x.name) = (q.name.toList == x.name.toList) := by unfold bytes; rw [ByteArray.toList_eq, ByteArray.toList_eq]
  rw [hr]
  clear h hr
  go_enter Tryz.func143, Tryz.ntmps143
  go_wp2_with fail
  go_ret
  exact ⟨rfl, (by repeat (first | exact Below.refl _ _ | assumption | refine Below.drew ?_ | refine Below.drewN ?_ _ | refine Below.allocT ?_ (Nat.le_refl _) _ | refine Below.setCell ?_ (by simp <;> omega) _ | refine Below.to ?_ (by assumption) (Nat.le_refl _)))⟩
set_option maxRecDepth 100000 in
theorem sameWi_any (q x : Wi) (Af Ag : Option Addr) (qf qg n m : Nat) (pb : Nat) (w : World) (h : w.heap[pb]? = some (.cells #[.string x.name, .int .i64 x.fp, .int .i64 x.fc, .int .i64 x.tp, .int .i64 x.tc, .int .i64 x.size, .slice Ag n qg] 76 (0, 0))) :
    Calls Tryz.prog 149 #[.agg #[.string q.name, .int .i64 q.fp, .int .i64 q.fc, .int .i64 q.tp, .int .i64 q.tc, .int .i64 q.size, .slice Af m qf], .pointer (some ⟨pb, 0, none⟩)] w fun e w' => e = .returned (.bool (bytes q.name == bytes x.name)) ∧ Below w.heap.size w w' := by
  have c0 := cellOf h 0
  have hlb := box_lt h
  have hr : (bytes q.name == bytes x.name) = (q.name.toList == x.name.toList) := by unfold bytes; rw [ByteArray.toList_eq, ByteArray.toList_eq]
  rw [hr]
  clear h hr
  go_enter Tryz.func149, Tryz.ntmps149
  go_wp2_with fail
  go_ret
  exact ⟨rfl, (by repeat (first | exact Below.refl _ _ | assumption | refine Below.drew ?_ | refine Below.drewN ?_ _ | refine Below.allocT ?_ (Nat.le_refl _) _ | refine Below.setCell ?_ (by simp <;> omega) _ | refine Below.to ?_ (by assumption) (Nat.le_refl _)))⟩
end Go.Proofs.YtehadoecnmfeoaaGreat
/- The checks of a plug, a pin and a wire: walks. -/
namespace Go.Proofs.YtehadoecnmfeoaaGreat
open Go.RowKit
set_option linter.unusedVariables false
set_option linter.unusedSimpArgs false
theorem sl_cap {w : World} {B sz n : Nat} {A : Option Addr} {m q : Nat} {f : Nat → Nat → Value} (h : Sl w B sz (.slice A m q) n f) : m = n ∧ n ≤ q := by
  obtain ⟨A', b, off, cap, h1, h2, _⟩ := h
  injection h1 with e1 e2 e3
  subst e2 e3
  exact ⟨rfl, h2⟩
set_option maxRecDepth 100000 in
set_option maxHeartbeats 8000000 in
theorem ckPlug_any (i : Nat) (x : Pl) (A0 A1 A2 A3 A4 A5 : Option Addr) (q0 q1 q2 q3 q4 q5 : Nat) (l : Lo) (lb sb : Nat) (w : World) (hi : i < l.ps.length) (hx : l.ps.getD i Pl.o = x) (hsz : x.name.size ≤ maxLen) (hm : l.ss.length ≤ maxLen) (hp : l.ps.length ≤ maxLen) (hL : LoBox w lb A0 A1 A2 A3 A4 A5 q0 q1 q2 q3 q4 q5 l) (hS : FnBox w sb 135 #[.pointer (some ⟨lb, 0, none⟩)] 114) (h : LoA w w.heap.size A0 A1 A2 A3 A4 A5 q0 q1 q2 q3 q4 q5 l) :
    Calls Tryz.prog 141 #[.int .i64 i, .agg #[.string x.name, .int .i64 x.spot, .int .i64 x.cav], .pointer (some ⟨lb, 0, none⟩), .pointer (some ⟨sb, 0, none⟩)] w fun e w' => e = .returned (.int .i64 (mustE (plOk l i) 62)) ∧ Below w.heap.size w w' := by
  have H := hide h
  have HL0 := hide hL
  have HSB := hide hS
  clear h hL hS
  cases hN : lowB (bytes x.name) with
  | false =>
    have hr : plOk l i = false := by unfold plOk; rw [hx]; rw [hN]; simp
    rw [hr]
    clear hr
    have HN := hide hN
    clear hN
    go_enter Tryz.func141, Tryz.ntmps141
    go_upto_region 1 with (fail)
    generalize hw0 : World.alloc _ _ = w0
    obtain ⟨hb0, hB0, hs0⟩ := alloc1 hw0
    have HP := hide hb0
    have HB0 := hide hB0
    have HL := hide (HL0.out.to hB0)
    have HS0 := hide (HSB.out.to hB0)
    have c0 := cellOf HL.out 4
    have hlb := box_lt HL.out
    have hct := contains_plugs (fun q => bytes q.name == bytes x.name) (.pointer (some ⟨w.heap.size, 0, none⟩)) (.slice A4 i q4) (l.ps.take i) w0 (by simp; omega) (Pls.take (H.out.up hB0).p (by omega)) (fun j y W _ _ hW => samePl_any y x _ W (box_to hb0 hW))
    have HCT := hide hct
    have hiq : (i : Int) ≤ (q4 : Int) := by have := sl_cap (H.out.up hB0).p; omega
    have hiq2 : (i : Int) ≤ (l.ps.length : Int) := by omega
    clear hb0 hB0 hs0 hw0 hct
    go_wp2_with (first | (go_at_call 142; refine HCT.out.mono ?_; rintro e w1 ⟨rfl, hB1⟩; have y0 := cellOf (HL.out.to hB1) 0; have y1 := cellOf (HL.out.to hB1) 1; have y2 := cellOf (HL.out.to hB1) 2; have y3 := cellOf (HL.out.to hB1) 3; have y4 := cellOf (HL.out.to hB1) 4; have y5 := cellOf (HL.out.to hB1) 5; have z0 := cellOf (box_to HP.out hB1) 0; have z1 := cellOf (box_to HP.out hB1) 1; have z2 := cellOf (box_to HP.out hB1) 2; have s0 := cellOf (HS0.out.to hB1) 0; have ly := box_lt (HL.out.to hB1); have lz := box_lt (box_to HP.out hB1); have ls := box_lt (HS0.out.to hB1); have HB1 := hide (Below.to HB0.out hB1 (Nat.le_refl _)); have HL1 := hide (HL.out.to hB1); clear hB1 c0) | (go_at_call 144; refine (low_any _ _ hsz).mono ?_; rw [show lowB x.name.data.toList = _ from HN.out]; rintro e w3 ⟨rfl, rfl⟩) | (go_at_call 134; refine (must_any _ _ _).mono ?_; rintro e w9 ⟨rfl, rfl⟩))
    go_ret
    exact ⟨rfl, HB1.out⟩
  | true =>
    cases hT : (l.ps.take i).any (fun q => bytes q.name == bytes x.name) with
    | true =>
      have hr : plOk l i = false := by unfold plOk; rw [hx]; rw [hN, hT]; simp
      rw [hr]
      clear hr
      have HN := hide hN
      have HT := hide hT
      clear hN hT
      go_enter Tryz.func141, Tryz.ntmps141
      go_upto_region 1 with (fail)
      generalize hw0 : World.alloc _ _ = w0
      obtain ⟨hb0, hB0, hs0⟩ := alloc1 hw0
      have HP := hide hb0
      have HB0 := hide hB0
      have HL := hide (HL0.out.to hB0)
      have HS0 := hide (HSB.out.to hB0)
      have c0 := cellOf HL.out 4
      have hlb := box_lt HL.out
      have hct := contains_plugs (fun q => bytes q.name == bytes x.name) (.pointer (some ⟨w.heap.size, 0, none⟩)) (.slice A4 i q4) (l.ps.take i) w0 (by simp; omega) (Pls.take (H.out.up hB0).p (by omega)) (fun j y W _ _ hW => samePl_any y x _ W (box_to hb0 hW))
      have HCT := hide hct
      have hiq : (i : Int) ≤ (q4 : Int) := by have := sl_cap (H.out.up hB0).p; omega
      have hiq2 : (i : Int) ≤ (l.ps.length : Int) := by omega
      clear hb0 hB0 hs0 hw0 hct
      go_wp2_with (first | (go_at_call 142; refine HCT.out.mono ?_; rw [HT.out]; rintro e w1 ⟨rfl, hB1⟩; have y0 := cellOf (HL.out.to hB1) 0; have y1 := cellOf (HL.out.to hB1) 1; have y2 := cellOf (HL.out.to hB1) 2; have y3 := cellOf (HL.out.to hB1) 3; have y4 := cellOf (HL.out.to hB1) 4; have y5 := cellOf (HL.out.to hB1) 5; have z0 := cellOf (box_to HP.out hB1) 0; have z1 := cellOf (box_to HP.out hB1) 1; have z2 := cellOf (box_to HP.out hB1) 2; have s0 := cellOf (HS0.out.to hB1) 0; have ly := box_lt (HL.out.to hB1); have lz := box_lt (box_to HP.out hB1); have ls := box_lt (HS0.out.to hB1); have HB1 := hide (Below.to HB0.out hB1 (Nat.le_refl _)); have HL1 := hide (HL.out.to hB1); clear hB1 c0) | (go_at_call 144; refine (low_any _ _ hsz).mono ?_; rw [show lowB x.name.data.toList = _ from HN.out]; rintro e w3 ⟨rfl, rfl⟩) | (go_at_call 134; refine (must_any _ _ _).mono ?_; rintro e w9 ⟨rfl, rfl⟩))
      go_ret
      exact ⟨rfl, HB1.out⟩
    | false =>
      cases hS : btw x.spot 0 ((l.ss.length : Int) - 1) with
      | false =>
        have hr : plOk l i = false := by unfold plOk; rw [hx]; rw [hN, hT, hS]; simp
        rw [hr]
        clear hr
        have HN := hide hN
        have HT := hide hT
        have HS := hide hS
        clear hN hT hS
        go_enter Tryz.func141, Tryz.ntmps141
        go_upto_region 1 with (fail)
        generalize hw0 : World.alloc _ _ = w0
        obtain ⟨hb0, hB0, hs0⟩ := alloc1 hw0
        have HP := hide hb0
        have HB0 := hide hB0
        have HL := hide (HL0.out.to hB0)
        have HS0 := hide (HSB.out.to hB0)
        have c0 := cellOf HL.out 4
        have hlb := box_lt HL.out
        have hct := contains_plugs (fun q => bytes q.name == bytes x.name) (.pointer (some ⟨w.heap.size, 0, none⟩)) (.slice A4 i q4) (l.ps.take i) w0 (by simp; omega) (Pls.take (H.out.up hB0).p (by omega)) (fun j y W _ _ hW => samePl_any y x _ W (box_to hb0 hW))
        have HCT := hide hct
        have hiq : (i : Int) ≤ (q4 : Int) := by have := sl_cap (H.out.up hB0).p; omega
        have hiq2 : (i : Int) ≤ (l.ps.length : Int) := by omega
        clear hb0 hB0 hs0 hw0 hct
        go_wp2_with (first | (go_at_call 142; refine HCT.out.mono ?_; rw [HT.out]; rintro e w1 ⟨rfl, hB1⟩; have y0 := cellOf (HL.out.to hB1) 0; have y1 := cellOf (HL.out.to hB1) 1; have y2 := cellOf (HL.out.to hB1) 2; have y3 := cellOf (HL.out.to hB1) 3; have y4 := cellOf (HL.out.to hB1) 4; have y5 := cellOf (HL.out.to hB1) 5; have z0 := cellOf (box_to HP.out hB1) 0; have z1 := cellOf (box_to HP.out hB1) 1; have z2 := cellOf (box_to HP.out hB1) 2; have s0 := cellOf (HS0.out.to hB1) 0; have ly := box_lt (HL.out.to hB1); have lz := box_lt (box_to HP.out hB1); have ls := box_lt (HS0.out.to hB1); have HB1 := hide (Below.to HB0.out hB1 (Nat.le_refl _)); have HL1 := hide (HL.out.to hB1); clear hB1 c0) | (go_at_call 144; refine (low_any _ _ hsz).mono ?_; rw [show lowB x.name.data.toList = _ from HN.out]; rintro e w3 ⟨rfl, rfl⟩) | (go_at_call 135; refine (spotN_any _ _ _ _ _ _ _ _ _ _ _ _ _ l lb _ hm HL1.out _ HS.out).mono ?_; rintro e w4 ⟨rfl, rfl⟩) | (go_at_call 134; refine (must_any _ _ _).mono ?_; rintro e w9 ⟨rfl, rfl⟩))
        go_ret
        exact ⟨rfl, HB1.out⟩
      | true =>
        cases hC : btw x.cav 1 40 with
        | false =>
          have hr : plOk l i = false := by unfold plOk; rw [hx]; rw [hN, hT, hS, hC]; simp
          rw [hr]
          clear hr
          have HN := hide hN
          have HT := hide hT
          have HS := hide hS
          have HC := hide hC
          clear hN hT hS hC
          go_enter Tryz.func141, Tryz.ntmps141
          go_upto_region 1 with (fail)
          generalize hw0 : World.alloc _ _ = w0
          obtain ⟨hb0, hB0, hs0⟩ := alloc1 hw0
          have HP := hide hb0
          have HB0 := hide hB0
          have HL := hide (HL0.out.to hB0)
          have HS0 := hide (HSB.out.to hB0)
          have c0 := cellOf HL.out 4
          have hlb := box_lt HL.out
          have hct := contains_plugs (fun q => bytes q.name == bytes x.name) (.pointer (some ⟨w.heap.size, 0, none⟩)) (.slice A4 i q4) (l.ps.take i) w0 (by simp; omega) (Pls.take (H.out.up hB0).p (by omega)) (fun j y W _ _ hW => samePl_any y x _ W (box_to hb0 hW))
          have HCT := hide hct
          have hiq : (i : Int) ≤ (q4 : Int) := by have := sl_cap (H.out.up hB0).p; omega
          have hiq2 : (i : Int) ≤ (l.ps.length : Int) := by omega
          clear hb0 hB0 hs0 hw0 hct
          go_wp2_with (first | (go_at_call 142; refine HCT.out.mono ?_; rw [HT.out]; rintro e w1 ⟨rfl, hB1⟩; have y0 := cellOf (HL.out.to hB1) 0; have y1 := cellOf (HL.out.to hB1) 1; have y2 := cellOf (HL.out.to hB1) 2; have y3 := cellOf (HL.out.to hB1) 3; have y4 := cellOf (HL.out.to hB1) 4; have y5 := cellOf (HL.out.to hB1) 5; have z0 := cellOf (box_to HP.out hB1) 0; have z1 := cellOf (box_to HP.out hB1) 1; have z2 := cellOf (box_to HP.out hB1) 2; have s0 := cellOf (HS0.out.to hB1) 0; have ly := box_lt (HL.out.to hB1); have lz := box_lt (box_to HP.out hB1); have ls := box_lt (HS0.out.to hB1); have HB1 := hide (Below.to HB0.out hB1 (Nat.le_refl _)); have HL1 := hide (HL.out.to hB1); clear hB1 c0) | (go_at_call 144; refine (low_any _ _ hsz).mono ?_; rw [show lowB x.name.data.toList = _ from HN.out]; rintro e w3 ⟨rfl, rfl⟩) | (go_at_call 135; refine (spotN_any _ _ _ _ _ _ _ _ _ _ _ _ _ l lb _ hm HL1.out _ HS.out).mono ?_; rintro e w4 ⟨rfl, rfl⟩) | (go_at_call 106; refine (withinB_any _ _ _ _ _ HC.out).mono ?_; rintro e w5 ⟨rfl, rfl⟩) | (go_at_call 134; refine (must_any _ _ _).mono ?_; rintro e w9 ⟨rfl, rfl⟩))
          go_ret
          exact ⟨rfl, HB1.out⟩
        | true =>
          have hr : plOk l i = true := by unfold plOk; rw [hx]; rw [hN, hT, hS, hC]; rfl
          rw [hr]
          clear hr
          have HN := hide hN
          have HT := hide hT
          have HS := hide hS
          have HC := hide hC
          clear hN hT hS hC
          go_enter Tryz.func141, Tryz.ntmps141
          go_upto_region 1 with (fail)
          generalize hw0 : World.alloc _ _ = w0
          obtain ⟨hb0, hB0, hs0⟩ := alloc1 hw0
          have HP := hide hb0
          have HB0 := hide hB0
          have HL := hide (HL0.out.to hB0)
          have HS0 := hide (HSB.out.to hB0)
          have c0 := cellOf HL.out 4
          have hlb := box_lt HL.out
          have hct := contains_plugs (fun q => bytes q.name == bytes x.name) (.pointer (some ⟨w.heap.size, 0, none⟩)) (.slice A4 i q4) (l.ps.take i) w0 (by simp; omega) (Pls.take (H.out.up hB0).p (by omega)) (fun j y W _ _ hW => samePl_any y x _ W (box_to hb0 hW))
          have HCT := hide hct
          have hiq : (i : Int) ≤ (q4 : Int) := by have := sl_cap (H.out.up hB0).p; omega
          have hiq2 : (i : Int) ≤ (l.ps.length : Int) := by omega
          clear hb0 hB0 hs0 hw0 hct
          go_wp2_with (first | (go_at_call 142; refine HCT.out.mono ?_; rw [HT.out]; rintro e w1 ⟨rfl, hB1⟩; have y0 := cellOf (HL.out.to hB1) 0; have y1 := cellOf (HL.out.to hB1) 1; have y2 := cellOf (HL.out.to hB1) 2; have y3 := cellOf (HL.out.to hB1) 3; have y4 := cellOf (HL.out.to hB1) 4; have y5 := cellOf (HL.out.to hB1) 5; have z0 := cellOf (box_to HP.out hB1) 0; have z1 := cellOf (box_to HP.out hB1) 1; have z2 := cellOf (box_to HP.out hB1) 2; have s0 := cellOf (HS0.out.to hB1) 0; have ly := box_lt (HL.out.to hB1); have lz := box_lt (box_to HP.out hB1); have ls := box_lt (HS0.out.to hB1); have HB1 := hide (Below.to HB0.out hB1 (Nat.le_refl _)); have HL1 := hide (HL.out.to hB1); clear hB1 c0) | (go_at_call 144; refine (low_any _ _ hsz).mono ?_; rw [show lowB x.name.data.toList = _ from HN.out]; rintro e w3 ⟨rfl, rfl⟩) | (go_at_call 135; refine (spotN_any _ _ _ _ _ _ _ _ _ _ _ _ _ l lb _ hm HL1.out _ HS.out).mono ?_; rintro e w4 ⟨rfl, rfl⟩) | (go_at_call 106; refine (withinB_any _ _ _ _ _ HC.out).mono ?_; rintro e w5 ⟨rfl, rfl⟩) | (go_at_call 134; refine (must_any _ _ _).mono ?_; rintro e w9 ⟨rfl, rfl⟩))
          go_ret
          exact ⟨rfl, HB1.out⟩
end Go.Proofs.YtehadoecnmfeoaaGreat
/- The checks of a plug, a pin and a wire: walks. -/
namespace Go.Proofs.YtehadoecnmfeoaaGreat
open Go.RowKit
set_option linter.unusedVariables false
set_option linter.unusedSimpArgs false
theorem plOk_cav {l : Lo} {k : Nat} (h : plOk l k = true) : 1 ≤ (l.ps.getD k Pl.o).cav ∧ (l.ps.getD k Pl.o).cav ≤ 40 := by
  unfold plOk at h
  simp only [Bool.and_eq_true, btw_iff] at h
  exact h.2
set_option maxRecDepth 100000 in
set_option maxHeartbeats 1000000 in
theorem pin_any (p c : Int) (A0 A1 A2 A3 A4 A5 : Option Addr) (q0 q1 q2 q3 q4 q5 : Nat) (l : Lo) (lb : Nat) (w : World) (hp : l.ps.length ≤ maxLen) (hL : LoBox w lb A0 A1 A2 A3 A4 A5 q0 q1 q2 q3 q4 q5 l) (h : LoA w w.heap.size A0 A1 A2 A3 A4 A5 q0 q1 q2 q3 q4 q5 l) (hok : ∀ k, k < l.ps.length → plOk l k = true) :
    Calls Tryz.prog 145 #[.agg #[.int .i64 p, .int .i64 c], .pointer (some ⟨lb, 0, none⟩)] w fun e w' => e = .returned (.bool (pinOk l p c)) ∧ Below w.heap.size w w' := by
  have H := hide h
  have HL0 := hide hL
  have HOK := hide hok
  unfold maxLen at hp
  have hwp : IntKind.i64.wrap ((l.ps.length : Int) - 1) = (l.ps.length : Int) - 1 := IntWalk.i64_in _ (by omega)
  clear h hL hok
  cases hb : btw p 0 ((l.ps.length : Int) - 1) with
  | false =>
    have hr : pinOk l p c = false := by unfold pinOk; rw [hb]; rfl
    rw [hr]
    have HB := hide hb
    clear hr hb
    go_enter Tryz.func145, Tryz.ntmps145
    go_upto_region 1 with (fail)
    generalize hw0 : World.alloc _ _ = w0
    obtain ⟨hb0, hB0, hs0⟩ := alloc1 hw0
    have HL := hide (HL0.out.to hB0)
    have HB0 := hide hB0
    have c0 := cellOf hb0 0
    have c1 := cellOf hb0 1
    have d4 := cellOf HL.out 4
    have l0 := box_lt hb0
    have l1 := box_lt HL.out
    clear hw0 hb0 hB0 hs0
    refine wp_region_held_drew (S := (fun w' => Below w0.heap.size w0 w')) (by kernel_rfl) ?_ (fun hHeld => ?_)
    · try dsimp only
      exact (by repeat (first | exact Below.refl _ _ | assumption | refine Below.drew ?_ | refine Below.drewN ?_ _ | refine Below.allocT ?_ (Nat.le_refl _) _ | refine Below.setCell ?_ (by simp <;> omega) _ | refine Below.to ?_ (by assumption) (Nat.le_refl _)))
    refine zT 0 rfl ?_
    refine zT 1 rfl ?_
    refine zT 2 rfl ?_
    refine zT 3 rfl ?_
    refine zT 4 rfl ?_
    refine zT 5 rfl ?_
    refine wpAnyH_ready (rs := [6]) (by kernel_rfl) (by simp) ?_
    refine AllReadyH.cons rfl (fun K hK => ?_) AllReadyH.nil
    go_simp
    ((go_at_call 106; refine (withinB_any _ _ _ _ _ HB.out).mono ?_; rintro e w5 ⟨rfl, rfl⟩))
    (try dsimp only)
    refine hK.out _ _ ?_ (fun hNext => ?_)
    · try dsimp only
      exact (by repeat (first | exact Below.refl _ _ | assumption | refine Below.drew ?_ | refine Below.drewN ?_ _ | refine Below.allocT ?_ (Nat.le_refl _) _ | refine Below.setCell ?_ (by simp <;> omega) _ | refine Below.to ?_ (by assumption) (Nat.le_refl _)))
    clear hK K hHeld
    have hHeld := hNext
    clear hNext
    (try dsimp only at hHeld)
    try simp only [zX]
    refine zT 7 rfl ?_
    refine zS 8 rfl ?_
    refine zS 9 rfl ?_
    refine zS 10 rfl ?_
    refine zS 11 rfl ?_
    refine zS 12 rfl ?_
    refine zS 13 rfl ?_
    refine zS 14 rfl ?_
    refine zS 15 rfl ?_
    refine zS 16 rfl ?_
    refine zS 17 rfl ?_
    refine zS 18 rfl ?_
    refine zT 19 rfl ?_
    refine zT 20 rfl ?_
    refine wpAnyH_done (by kernel_rfl) ?_ _
    go_wp2_with fail
    go_ret
    exact ⟨rfl, Below.to HB0.out hHeld (Nat.le_refl _)⟩
  | true =>
    obtain ⟨p1, p2⟩ := btw_iff.1 hb
    obtain ⟨k, rfl⟩ := Int.eq_ofNat_of_zero_le p1
    have hk : k < l.ps.length := by omega
    obtain ⟨b, off, x, HX, rfl, hbb, hq, e0, e1, e2⟩ := H.out.pl hk
    have hcav := plOk_cav (HOK.out k hk)
    rw [HX.out] at hcav
    have hr : pinOk l k c = btw c 0 (x.cav - 1) := by unfold pinOk; rw [hb, Int.toNat_natCast, HX.out]; rfl
    obtain ⟨z, hz⟩ : ∃ z, btw c 0 (x.cav - 1) = z := ⟨_, rfl⟩
    rw [hr, hz]
    have HB := hide hb
    have HZ := hide hz
    have ik : (k : Int) < (l.ps.length : Int) := by omega
    have iq : (l.ps.length : Int) ≤ (q4 : Int) := by omega
    obtain ⟨v1, v2⟩ := hcav
    have hwc : IntKind.i64.wrap (x.cav - 1) = x.cav - 1 := IntWalk.i64_in _ (by omega)
    clear hr hb hz p2
    go_enter Tryz.func145, Tryz.ntmps145
    go_upto_region 1 with (fail)
    generalize hw0 : World.alloc _ _ = w0
    obtain ⟨hb0, hB0, hs0⟩ := alloc1 hw0
    have HL := hide (HL0.out.to hB0)
    have HB0 := hide hB0
    have c0 := cellOf hb0 0
    have c1 := cellOf hb0 1
    have d4 := cellOf HL.out 4
    have l0 := box_lt hb0
    have l1 := box_lt HL.out
    have l2 : b < w0.heap.size := by omega
    have g2 := (hB0.cell (p := ⟨b, off + k * 3 + 2, none⟩) hbb).trans e2
    clear hw0 hb0 hB0 hs0 e0 e1 e2
    refine wp_region_held_drew (S := (fun w' => Below w0.heap.size w0 w')) (by kernel_rfl) ?_ (fun hHeld => ?_)
    · try dsimp only
      exact (by repeat (first | exact Below.refl _ _ | assumption | refine Below.drew ?_ | refine Below.drewN ?_ _ | refine Below.allocT ?_ (Nat.le_refl _) _ | refine Below.setCell ?_ (by simp <;> omega) _ | refine Below.to ?_ (by assumption) (Nat.le_refl _)))
    refine zT 0 rfl ?_
    refine zT 1 rfl ?_
    refine zT 2 rfl ?_
    refine zT 3 rfl ?_
    refine zT 4 rfl ?_
    refine zT 5 rfl ?_
    refine wpAnyH_ready (rs := [6]) (by kernel_rfl) (by simp) ?_
    refine AllReadyH.cons rfl (fun K hK => ?_) AllReadyH.nil
    go_simp
    ((go_at_call 106; refine (withinB_any _ _ _ _ _ (by first | exact HB.out | exact HZ.out)).mono ?_; rintro e w5 ⟨rfl, rfl⟩))
    (try dsimp only)
    refine hK.out _ _ ?_ (fun hNext => ?_)
    · try dsimp only
      exact (by repeat (first | exact Below.refl _ _ | assumption | refine Below.drew ?_ | refine Below.drewN ?_ _ | refine Below.allocT ?_ (Nat.le_refl _) _ | refine Below.setCell ?_ (by simp <;> omega) _ | refine Below.to ?_ (by assumption) (Nat.le_refl _)))
    clear hK K hHeld
    have hHeld := hNext
    clear hNext
    (try dsimp only at hHeld)
    try simp only [zX]
    refine zT 7 rfl ?_
    refine zT 8 rfl ?_
    refine zT 9 rfl ?_
    refine zT 10 rfl ?_
    refine zT 11 rfl ?_
    refine zT 12 rfl ?_
    refine zT 13 rfl ?_
    refine zT 14 rfl ?_
    refine zT 15 rfl ?_
    refine zT 16 rfl ?_
    refine zT 17 rfl ?_
    refine wpAnyH_ready (rs := [18]) (by kernel_rfl) (by simp) ?_
    refine AllReadyH.cons rfl (fun K hK => ?_) AllReadyH.nil
    go_simp
    ((go_at_call 106; refine (withinB_any _ _ _ _ _ (by first | exact HB.out | exact HZ.out)).mono ?_; rintro e w5 ⟨rfl, rfl⟩))
    (try dsimp only)
    refine hK.out _ _ ?_ (fun hNext => ?_)
    · try dsimp only
      exact (by repeat (first | exact Below.refl _ _ | assumption | refine Below.drew ?_ | refine Below.drewN ?_ _ | refine Below.allocT ?_ (Nat.le_refl _) _ | refine Below.setCell ?_ (by simp <;> omega) _ | refine Below.to ?_ (by assumption) (Nat.le_refl _)))
    clear hK K hHeld
    have hHeld := hNext
    clear hNext
    (try dsimp only at hHeld)
    try simp only [zX]
    refine zT 19 rfl ?_
    refine zT 20 rfl ?_
    refine wpAnyH_done (by kernel_rfl) ?_ _
    go_wp2_with fail
    go_ret
    exact ⟨rfl, Below.to HB0.out hHeld (Nat.le_refl _)⟩
end Go.Proofs.YtehadoecnmfeoaaGreat

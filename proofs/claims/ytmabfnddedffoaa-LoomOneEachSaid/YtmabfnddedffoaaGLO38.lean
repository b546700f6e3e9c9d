/- Part 38 of this claim's texts: walks and plain laws. -/
import Derived.Test.YtmabfnddedffoaaRows
import Derived.Test.YtmabfnddedffoaaGLO37
import Derived.Test.YtmabfnddedffoaaGLO36
import Derived.Carry
import Derived.Deep.DeepMust
import Derived.Deep.RegionHeld3
import Derived.Deep.DrawnRows
/- The program's measure of all distances: walk. -/
namespace Go.Proofs.Ytmabfnddedffoaa
open Go.RowKit
open Go.Maps (Keyed)
set_option linter.unusedVariables false
set_option linter.unusedSimpArgs false
theorem map_not6 {w : World} {α : Type} {k e b n : Nat} {enc : α → Value} {m : α → Option Int} {g t : Nat} {C : Array Value} (h : MapIs Try.prog w k e b n enc m) (hg : w.heap[g]? = some (.cells C t (0, 0))) : b ≠ g := by
  intro e
  obtain ⟨es, c, h1⟩ := h.obj
  rw [e, hg] at h1
  cases h1
/-- A pair of spots, as a key. -/
def prV (p : Nat × Nat) : Value := .agg #[.int .i64 (p.1 : Nat), .int .i64 (p.2 : Nat)]
theorem prV_inj (a b : Nat × Nat) (h : prV a = prV b) : a = b := by
  unfold prV at h
  injection h with h
  injection h with h
  injection h with h1 h
  injection h with h2 h
  injection h1 with _ h1
  injection h2 with _ h2
  obtain ⟨a1, a2⟩ := a
  obtain ⟨b1, b2⟩ := b
  simp only at h1 h2
  obtain rfl : a1 = b1 := by omega
  obtain rfl : a2 = b2 := by omega
  rfl
theorem prKey (a b : Nat) (ha : I63 (a : Int)) (hb : I63 (b : Int)) : ∃ l, keyOf Try.prog 123 (prV (a, b)) = some l := by
  obtain ⟨d, hd⟩ : ∃ d, Try.prog.types.size = d + 2 := ⟨Try.prog.types.size - 2, by kernel_rfl⟩
  have h5 : Try.prog.cellsOf 3 = 1 := by kernel_rfl
  have h4 : Try.prog.cellsOf 123 = 2 := by kernel_rfl
  have h1 : Try.prog.keyType 123 = true := by kernel_rfl
  have h2 : (Value.agg #[.int .i64 (a : Nat), .int .i64 (b : Nat)]).formed Try.prog 123 = true := by kernel_rfl
  have hr : List.range 2 = [0, 1] := rfl
  unfold keyOf prV
  rw [Try.underlying123]
  simp only [h1, h2, Bool.and_self, if_true]
  rw [show Try.prog.types.size + 1 = d + 1 + 1 + 1 by omega]
  simp [Program.keyLits, Try.underlying123, Try.underlying3, h4, h5, wf63 ha, wf63 hb, Value.cells, hr]
theorem prLaw : Keyed Try.prog 123 := Keyed.of_law (deep_law_laid (P := Try.prog) (by kernel_rfl) (m := 3) (by decide) (of_decide_eq_true (by kernel_rfl)) (by kernel_rfl) (by kernel_rfl))
/-- The measure at work. -/
structure MeaS (w wr : World) (bm : Nat) (A0 A1 A2 A3 A4 A5 : Option Addr) (q0 q1 q2 q3 q4 q5 : Nat) (l : Lo) (i : Nat) (D : List Nat) : Prop where
  box : LoBox wr w.heap.size A0 A1 A2 A3 A4 A5 q0 q1 q2 q3 q4 q5 l
  map : MapIs Try.prog wr 123 3 bm (41 * i + D.length) prV (meaM l i D)
  below : Below w.heap.size w wr
  ne : w.heap.size < bm
section
variable {w a b : World} {bm : Nat} {A0 A1 A2 A3 A4 A5 : Option Addr} {q0 q1 q2 q3 q4 q5 : Nat} {l : Lo} {i : Nat} {D : List Nat}
theorem MeaS.to (h : MeaS w a bm A0 A1 A2 A3 A4 A5 q0 q1 q2 q3 q4 q5 l i D) (hb : Below a.heap.size a b) : MeaS w b bm A0 A1 A2 A3 A4 A5 q0 q1 q2 q3 q4 q5 l i D :=
  ⟨LoBox.to h.box hb, h.map.same (hb.block bm h.map.lt), Below.to h.below hb (Nat.le_refl _), h.ne⟩
theorem MeaS.self (h : MeaS w a bm A0 A1 A2 A3 A4 A5 q0 q1 q2 q3 q4 q5 l i []) (hm : MapIs Try.prog b 123 3 bm (41 * i + 0 + 1) prV (putM (meaM l i []) (i, i) 0)) (hg : a.grownBy b (some bm)) : MeaS w b bm A0 A1 A2 A3 A4 A5 q0 q1 q2 q3 q4 q5 l i [i] := by
  refine ⟨(hg.block _ (box_lt h.box) (fun e => by injection e with e; have := h.ne; omega)).trans h.box, ?_, Below.grown h.below hg (by have := h.below.size; omega) (fun k hk => by injection hk with hk; have := h.ne; omega), h.ne⟩
  rw [meaM_self] at hm
  exact hm
theorem MeaS.put {t : Nat} {x : Int} (h : MeaS w a bm A0 A1 A2 A3 A4 A5 q0 q1 q2 q3 q4 q5 l i D) (hx : distN l.rs (runLen l) i t = x) (hm : MapIs Try.prog b 123 3 bm (41 * i + D.length + 1) prV (putM (meaM l i D) (i, t) x)) (hg : a.grownBy b (some bm)) : MeaS w b bm A0 A1 A2 A3 A4 A5 q0 q1 q2 q3 q4 q5 l i (D ++ [t]) := by
  refine ⟨(hg.block _ (box_lt h.box) (fun e => by injection e with e; have := h.ne; omega)).trans h.box, ?_, Below.grown h.below hg (by have := h.below.size; omega) (fun k hk => by injection hk with hk; have := h.ne; omega), h.ne⟩
  rw [meaM_put l i t D x hx] at hm
  rw [List.length_append, List.length_singleton]
  exact hm
theorem MeaS.row (h : MeaS w a bm A0 A1 A2 A3 A4 A5 q0 q1 q2 q3 q4 q5 l i D) (hD : ∀ b, b ∈ D ↔ b < l.ss.length) (hl : D.length ≤ 41) : MeaS w a bm A0 A1 A2 A3 A4 A5 q0 q1 q2 q3 q4 q5 l (i + 1) [] := by
  refine ⟨h.box, ?_, h.below, h.ne⟩
  have h1 := h.map.mono (n' := 41 * (i + 1) + ([] : List Nat).length) (by simp; omega)
  rw [meaM_next l i D hD] at h1
  exact h1
theorem MeaS.keep {br ty : Nat} {cs : Array Value} (h : MeaS w a bm A0 A1 A2 A3 A4 A5 q0 q1 q2 q3 q4 q5 l i D) (hr : a.heap[br]? = some (.cells cs ty (0, 0))) (hg : a.grownBy b (some bm)) : b.heap[br]? = some (.cells cs ty (0, 0)) :=
  (hg.block _ (box_lt hr) (fun e => by injection e with e; exact map_not6 h.map hr e.symm)).trans hr
set_option maxRecDepth 100000 in
/-- What a look-up gives. -/
theorem MeaS.look (h : MeaS w a bm A0 A1 A2 A3 A4 A5 q0 q1 q2 q3 q4 q5 l i D) (x y : Nat) (hx : x ≤ 1000) (hy : y ≤ 1000) :
    (Instr.lookup 121 (.map (some bm)) (.agg #[.int .i64 (x : Nat), .int .i64 (y : Nat)]) true).run Try.prog a = .ok (.tuple #[.int .i64 ((meaM l i D (x, y)).getD 0), .bool (meaM l i D (x, y)).isSome]) a := by
  obtain ⟨kl, hk⟩ := prKey x y (by unfold I63; omega) (by unfold I63; omega)
  exact h.map.look prLaw Try.underlying121 Try.underlying3 (zInt a) hk
set_option maxRecDepth 100000 in
theorem MeaS.look1 (h : MeaS w a bm A0 A1 A2 A3 A4 A5 q0 q1 q2 q3 q4 q5 l i D) (x y : Nat) (hx : x ≤ 1000) (hy : y ≤ 1000) :
    (Instr.lookup 121 (.map (some bm)) (.agg #[.int .i64 (x : Nat), .int .i64 (y : Nat)]) false).run Try.prog a = .ok (.int .i64 ((meaM l i D (x, y)).getD 0)) a := by
  obtain ⟨kl, hk⟩ := prKey x y (by unfold I63; omega) (by unfold I63; omega)
  exact h.map.look1 prLaw Try.underlying121 Try.underlying3 (zInt a) hk
end
set_option maxRecDepth 100000 in
set_option maxHeartbeats 1000000 in
theorem knows_any {w0 w : World} {bm : Nat} {A0 A1 A2 A3 A4 A5 : Option Addr} {q0 q1 q2 q3 q4 q5 : Nat} {l : Lo} {i : Nat} {D : List Nat} (h : MeaS w0 w bm A0 A1 A2 A3 A4 A5 q0 q1 q2 q3 q4 q5 l i D) (x y : Nat) (hx : x ≤ 1000) (hy : y ≤ 1000) (b : Bool) (hb : (meaM l i D (x, y)).isSome = b) :
    Calls Try.prog 142 #[.map (some bm), .int .i64 x, .int .i64 y] w fun e w' => e = .returned (.bool b) ∧ w = w' := by
  have hlk := h.look x y hx hy
  obtain ⟨z, hz⟩ : ∃ z, (meaM l i D (x, y)).getD 0 = z := ⟨_, rfl⟩
  rw [hb, hz] at hlk
  clear h hz hb
  go_enter Try.func142, Try.ntmps142
  go_wp2_with fail
  go_ret
  exact ⟨rfl, rfl⟩
set_option maxRecDepth 100000 in
theorem sizeInt6 (w : World) : (sizeOf 3).run Try.prog w = .ok 1 w := by kernel_rfl
/-- What a slice of numbers from k on gives. -/
def slcI (A : Option Addr) (n cap k : Nat) : Value := sliced A k n cap 1
set_option maxRecDepth 100000 in
theorem slc_int (A : Option Addr) (n cap k : Nat) (hk : k ≤ n) (i : Int) (hi : i = k) (W : World) : (Instr.slice 41 (.slice A n cap) (some (.int .i64 i)) none none).run Try.prog W = .ok (slcI A n cap k) W := by
  subst hi
  have h := run_slice_l (P := Try.prog) W 41 A n cap Try.underlying41 .i64 (k : Int) (by omega) (by omega)
  rw [h]
  have he : Try.prog.elem 41 = 3 := by kernel_rfl
  rw [he, sizeInt6, Int.toNat_natCast]
  rfl
theorem Nods.drop {w : World} {B n cap : Nat} {A : Option Addr} {l : List Nat} {k : Nat} (h : Nods w B (.slice A n cap) l) (hk : k ≤ l.length) : Nods w B (slcI A n cap k) (l.drop k) := by
  obtain ⟨A1, b1, off1, cap1, hv, hn, hA, hc⟩ := h
  injection hv with e1 e2 e3
  subst e1 e2 e3
  unfold slcI sliced
  split
  · rename_i hck
    have h0 : l.drop k = [] := List.drop_eq_nil_of_le (by omega)
    rw [h0, show l.length - k = 0 by omega, show cap - k = 0 by omega]
    exact ⟨A, b1, off1, 0, rfl, Nat.le_refl _, .inr rfl, fun i j hi hj => by simp at hi⟩
  · refine ⟨A.map (·.add (k * 1)), b1, off1 + k, cap - k, by rw [List.length_drop], by rw [List.length_drop]; omega, ?_, fun i j hi hj => ?_⟩
    · rcases hA with ⟨hA, hb⟩ | hA
      · subst hA
        refine .inl ⟨?_, hb⟩
        simp only [Option.map_some, Nat.mul_one]
        congr 1
        unfold Addr.add
        split
        · rename_i h0; rw [h0]; rfl
        · rfl
      · exact .inr (by rw [List.length_drop]; omega)
    · rw [List.length_drop] at hi
      have h1 := hc (k + i) j (by omega) hj
      rw [show off1 + k + (i * 1 + j) = off1 + ((k + i) * 1 + j) by omega, h1]
      simp [List.getD_eq_getElem?_getD]
theorem take_snoc2 {L : List Nat} {p t : Nat} (hp : p + 1 < L.length) (ht : L.getD (p + 1) 0 = t) : L.take (p + 1 + 1) = L.take (p + 1) ++ [t] := by rw [take_snoc hp, ht]
theorem Nods.mapped {a b : World} {B bm : Nat} {v : Value} {S : List Nat} (h : Nods a B v S) (hm : ∃ es c, a.heap[bm]? = some (.map es c)) (hg : a.grownBy b (some bm)) (hB : B ≤ a.heap.size) : Nods b B v S := by
  obtain ⟨A, b1, off, cap, h1, h2, h3, h4⟩ := h
  obtain ⟨es, c, hm⟩ := hm
  refine ⟨A, b1, off, cap, h1, h2, h3, fun i j hi hj => ?_⟩
  have h5 := h4 i j hi hj
  have hb1 : b1 < a.heap.size := by
    rcases h3 with h3 | h3
    · omega
    · omega
  refine (World.cell?_of_block (hg.block b1 hb1 (fun e => ?_))).trans h5
  injection e with e
  rw [e] at h5
  simp [World.cell?, hm] at h5
-- GEN
set_option maxRecDepth 100000 in
set_option maxHeartbeats 8000000 in
theorem measure_any (A0 A1 A2 A3 A4 A5 : Option Addr) (q0 q1 q2 q3 q4 q5 : Nat) (l : Lo) (w : World) (h : LoA w w.heap.size A0 A1 A2 A3 A4 A5 q0 q1 q2 q3 q4 q5 l) (ok : LoOk l) :
    Calls Try.prog 94 #[.agg #[.slice A0 l.m.opts.length q0, .slice A1 l.m.rules.length q1, .slice A2 l.ss.length q2, .slice A3 l.us.length q3, .slice A4 l.ps.length q4, .slice A5 l.ws.length q5]] w fun e w' => ∃ bm, e = .returned (.map (some bm)) ∧ MeaS w w' bm A0 A1 A2 A3 A4 A5 q0 q1 q2 q3 q4 q5 l l.ss.length [] := by
  have H := hide h
  have OK := hide ok
  have hs40 := ok.s40
  have hu40 := ok.u40
  clear h ok
  have hmm := @run_makeMap Try.prog
  go_enter Try.func94, Try.ntmps94
  go_upto_region 2 with (fail)
  generalize hw0 : World.alloc _ _ = w0
  obtain ⟨bm, hbm⟩ : ∃ bm, w.heap.size + 1 = bm := ⟨_, rfl⟩
  have hm0 : Hid (MeaS w w0 bm A0 A1 A2 A3 A4 A5 q0 q1 q2 q3 q4 q5 l 0 []) := by
    subst hw0 hbm
    refine ⟨?_, ?_, (by repeat (first | exact Below.refl _ _ | assumption | refine Below.drew ?_ | refine Below.drewN ?_ _ | refine Below.allocT ?_ (Nat.le_refl _) _ | refine Below.setCell ?_ (by simp <;> omega) _ | refine Below.to ?_ (by assumption) (Nat.le_refl _))), by omega⟩
    · unfold LoBox
      rw [heap_old _ _ _ (by simp), heap_new _ _ _ rfl]
    · rw [meaM_start]
      have h1 := MapIs.made Try.prog (w.alloc (.cells #[.slice A0 l.m.opts.length q0, .slice A1 l.m.rules.length q1, .slice A2 l.ss.length q2, .slice A3 l.us.length q3, .slice A4 l.ps.length q4, .slice A5 l.ws.length q5] 31 (0, 0))) 123 3 prV
      have e1 : (w.alloc (.cells #[.slice A0 l.m.opts.length q0, .slice A1 l.m.rules.length q1, .slice A2 l.ss.length q2, .slice A3 l.us.length q3, .slice A4 l.ps.length q4, .slice A5 l.ws.length q5] 31 (0, 0))).heap.size = w.heap.size + 1 := by simp
      rw [e1] at h1
      exact h1
  rw [hbm]
  clear hw0 hbm hmm
  have c0 := cellOf hm0.out.box 0; have c1 := cellOf hm0.out.box 1; have c2 := cellOf hm0.out.box 2; have c3 := cellOf hm0.out.box 3; have c4 := cellOf hm0.out.box 4; have c5 := cellOf hm0.out.box 5
  have hlb := box_lt hm0.out.box
  go_wp2_with fail
  clear c0 c1 c2 c3 c4 c5 hlb
  go_loopw [4, 6, 8, 10, 11, 12, 17] (fun _ _ _ _ _ _ i wr => ∃ k : Nat, i = .int .i64 k ∧ k ≤ l.ss.length ∧ Hid (MeaS w wr bm A0 A1 A2 A3 A4 A5 q0 q1 q2 q3 q4 q5 l k [])) (fun _ _ _ _ _ _ i _ => l.ss.length - (intOf i).toNat)
  case atStart => exact ⟨0, rfl, Nat.zero_le _, hm0.out⟩
  case round =>
    obtain ⟨k, rfl, hk, HM⟩ := hrel
    by_cases hkl : k < l.ss.length
    · have ik : (k : Int) < (l.ss.length : Int) := by omega
      obtain ⟨kl, hkl2⟩ := prKey k k (by unfold I63; omega) (by unfold I63; omega)
      have HKL := hide hkl2
      have hcn : 41 * k + 0 < maxLen := by unfold maxLen; omega
      clear hkl2
      go_upto_region 6 with (at_mapUpdate; go_must (refine wpList_put _ rfl _ _ _ 121 rfl HM.out.map prLaw Try.underlying121 Try.underlying3 prV_inj hcn (k, k) ⟨_, HKL.out⟩ 0 (by decide) rfl rfl rfl ?_); intro w1 hm1 hg1; have HM1 := hide (HM.out.self hm1 hg1); clear hm1 hg1)
      obtain ⟨O, hO⟩ : ∃ O, outL l k = O := ⟨_, rfl⟩
      obtain ⟨L, hL⟩ : ∃ L, O.drop 1 = L := ⟨_, rfl⟩
      have hOl : O.length = l.ss.length := by rw [← hO]; exact OK.out.out_len hkl
      have hLl : L.length + 1 = O.length := by rw [← hL, List.length_drop]; omega
      have hO1 : O.take 1 = [k] := by
        have h1 := OK.out.out_first k
        rw [hO] at h1
        cases O with
        | nil => simp at hLl
        | cons a t =>
          simp only [List.getD_cons_zero] at h1
          simp [h1]
      have hLg : ∀ p, L.getD p 0 = O.getD (p + 1) 0 := fun p => by rw [← hL]; simp [List.getD_eq_getElem?_getD, Nat.add_comm]
      have HO := hide hO
      have HL := hide hL
      have HLG := hide hLg
      have HO1 := hide hO1
      have c0 := cellOf HM1.out.box 0; have c1 := cellOf HM1.out.box 1; have c2 := cellOf HM1.out.box 2; have c3 := cellOf HM1.out.box 3; have c4 := cellOf HM1.out.box 4; have c5 := cellOf HM1.out.box 5
      have hlb := box_lt HM1.out.box
      have HOL := hide hOl
      have HLL := hide hLl
      have hol1 : 1 ≤ O.length := by omega
      have hol2 : O.length ≤ 40 := by omega
      clear hO hL hLg hO1 hOl hLl
      go_wp2_with (go_at_call 62; go_must (refine (reached_any A0 A1 A2 A3 A4 A5 q0 q1 q2 q3 q4 q5 l k (-1) _ (H.out.up HM1.out.below) OK.out.runsIn hkl hs40 hu40).mono ?_); rintro e w2 ⟨v2, rfl, hn2, hB2⟩; rw [show stR l.rs (-1) k l.ss.length = O from HO.out] at hn2; obtain ⟨Ao, qo, hv2⟩ := Sl.form hn2; subst hv2; have hnd := hn2.drop (k := 1) (by omega); rw [HL.out] at hnd; have hsl := fun W => slc_int Ao O.length qo 1 (by omega) 1 rfl W; obtain ⟨Ad, qd, hsv⟩ := Sl.form hnd; rw [hsv] at hnd hsl; have HND := hide hnd; have HM2 := hide (HM1.out.to hB2); clear hn2 hB2 hnd hsv c0 c1 c2 c3 c4 c5 hlb)
      clear hsl
      go_loopw [6, 8, 10, 11, 12, 29] (fun _ _ _ _ _ i wr => ∃ p : Nat, i = .int .i64 p ∧ p ≤ L.length ∧ Hid (MeaS w wr bm A0 A1 A2 A3 A4 A5 q0 q1 q2 q3 q4 q5 l k (O.take (p + 1))) ∧ Hid (Nods wr w2.heap.size (.slice Ad L.length qd) L) ∧ Hid (w2.heap.size ≤ wr.heap.size)) (fun _ _ _ _ _ i _ => L.length - (intOf i).toNat)
      case atStart => exact ⟨0, rfl, Nat.zero_le _, by rw [HO1.out]; exact HM2.out, HND.out, Nat.le_refl _⟩
      case round =>
        obtain ⟨p, rfl, hp, HM3, HN3, HSZ3⟩ := hrel
        by_cases hpl : p < L.length
        · have hpo : p + 1 < O.length := by have := HLL.out; omega
          have hll2 : L.length ≤ 40 := by have := HLL.out; omega
          obtain ⟨wp, hwp⟩ : ∃ wp : World, wp = wr := ⟨_, rfl⟩
          subst hwp
          obtain ⟨bt, ot, rfl, hbt, _, ct⟩ := HN3.out.at hpl
          have hqt := Nods.cap HN3.out
          obtain ⟨t, ht⟩ : ∃ t, L.getD p 0 = t := ⟨_, rfl⟩
          rw [ht] at ct
          have ht2 : O.getD (p + 1) 0 = t := by rw [← HLG.out]; exact ht
          obtain ⟨D, hD⟩ : ∃ D, O.take (p + 1) = D := ⟨_, rfl⟩
          have hDt : O.take (p + 1 + 1) = D ++ [t] := by rw [← hD]; exact take_snoc2 (by omega) ht2
          have htn : t ∉ D := by
            rw [← hD, ← HO.out]
            exact OK.out.out_not (by rw [HO.out]; omega) (by rw [HO.out]; exact ht2)
          have hts : t < l.ss.length := by
            refine (OK.out.out_mem hkl t).1 ?_
            rw [HO.out, ← ht2]
            exact getD_mem3 (by omega)
          have HT := hide ht2
          have HD := hide hD
          have HDT := hide hDt
          have HTN := hide htn
          rw [hD] at HM3
          have lbt : bt < wp.heap.size := Nat.lt_of_lt_of_le hbt HSZ3.out
          have ip : (p : Int) < (L.length : Int) := by omega
          have iqt : (L.length : Int) ≤ (qd : Int) := by omega
          have c0 := cellOf HM3.out.box 0; have c1 := cellOf HM3.out.box 1; have c2 := cellOf HM3.out.box 2; have c3 := cellOf HM3.out.box 3; have c4 := cellOf HM3.out.box 4; have c5 := cellOf HM3.out.box 5
          have hlb := box_lt HM3.out.box
          clear hqt ht ht2 hD hDt htn
          go_wp2_with fail
          clear c0 c1 c2 c3 c4 c5 hlb ct lbt
          go_loopw [8, 10, 11, 12, 36] (fun _ _ _ _ i wr => ∃ (j : Nat) (D' : List Nat), i = .int .i64 j ∧ j ≤ l.us.length ∧ Hid (KnR l D t j D') ∧ Hid (MeaS w wr bm A0 A1 A2 A3 A4 A5 q0 q1 q2 q3 q4 q5 l k D') ∧ Hid (Nods wr w2.heap.size (.slice (some ⟨bt, ot, none⟩) L.length qd) L) ∧ Hid (w2.heap.size ≤ wr.heap.size)) (fun _ _ _ _ i _ => l.us.length - (intOf i).toNat)
          case atStart => exact ⟨0, D, rfl, Nat.zero_le _, KnR.start l D t, HM3.out, HN3.out, HSZ3.out⟩
          case round =>
            clear HM3 HN3 HSZ3
            obtain ⟨j, D', rfl, hj, HK3, HM3, HN3, HSZ3⟩ := hrel
            by_cases hjl : j < l.us.length
            · obtain ⟨bu, offu, r, HRU, rfl, hbu, hq3, e0, e1, e2, e3⟩ := (H.out.below HM3.out.below).ru hjl
              have hrin := OK.out.runsIn r (by rw [← HRU.out]; exact getD_mem3 hjl)
              obtain ⟨ra, rb, rl, rr⟩ := r
              obtain ⟨a1, a2, b1, b2⟩ := hrin
              simp only at a1 a2 b1 b2 e0 e1 e2 e3
              obtain ⟨ka, rfl⟩ := Int.eq_ofNat_of_zero_le a1
              obtain ⟨kb, rfl⟩ := Int.eq_ofNat_of_zero_le b1
              have hrs : l.rs.getD j (0, 0) = (ka, kb) := by rw [rs_getD l hjl, HRU.out]; simp
              have HRS := hide hrs
              have lbu : bu < wr.heap.size := Nat.lt_of_lt_of_le hbu HM3.out.below.size
              have ij : (j : Int) < (l.us.length : Int) := by omega
              have iq : (l.us.length : Int) ≤ (q3 : Int) := by omega
              have ika : ka ≤ 1000 := by omega
              have ikb : kb ≤ 1000 := by omega
              clear hrs a1 a2 b1 b2
              go_wp2_with fail
              generalize hw1 : World.alloc _ _ = w1
              obtain ⟨hb1, hB1, hs1⟩ := alloc1 hw1
              obtain ⟨br, hbr⟩ : ∃ br, wr.heap.size = br := ⟨_, rfl⟩
              rw [hbr] at hb1
              rw [hbr]
              have HM1' := hide (HM3.out.to hB1)
              have HN1' := hide (HN3.out.below (hB1.mono HSZ3.out))
              have HSZ1' := hide (Nat.le_trans HSZ3.out hB1.size)
              have HR1 := hide hb1
              have HKJ := hide HK3.out
              clear hw1 hb1 hB1 hs1 e0 e1 e2 e3 hbr lbu HM3 HN3 HSZ3 HK3
              go_loopw [10, 11, 12, 51] (fun _ _ _ i wr => ∃ (q : Nat) (D' : List Nat), i = .int .i64 q ∧ q ≤ 2 ∧ Hid (KnW l D t j ka kb q D') ∧ Hid (MeaS w wr bm A0 A1 A2 (some ⟨bu, offu, none⟩) A4 A5 q0 q1 q2 q3 q4 q5 l k D') ∧ Hid (Nods wr w2.heap.size (.slice (some ⟨bt, ot, none⟩) L.length qd) L) ∧ Hid (wr.heap[br]? = some (.cells #[.int .i64 ka, .int .i64 kb, .int .i64 rl, .int .i64 rr] 85 (0, 0))) ∧ Hid (w2.heap.size ≤ wr.heap.size)) (fun _ _ _ i _ => 2 - (intOf i).toNat)
              case atStart => exact ⟨0, D', rfl, by omega, KnW.start HKJ.out, HM1'.out, HN1'.out, HR1.out, HSZ1'.out⟩
              case round =>
                clear HM1' HN1' HSZ1' HR1 HKJ
                clear D'
                obtain ⟨q, D', rfl, hq, HK3, HM3, HN3, HR3, HSZ3⟩ := hrel
                rcases (by omega : q = 0 ∨ q = 1 ∨ q = 2) with rfl | rfl | rfl
                · have hix := fun w => idx22_0 ka kb kb ka w
                  go_upto_region 15 with (fail)
                  generalize hw2 : World.alloc _ _ = w4
                  obtain ⟨hb2, hB2, hs2⟩ := alloc1 hw2
                  have HM4 := hide (HM3.out.to hB2)
                  have HR4 := hide (box_to HR3.out hB2)
                  have HN4 := hide (HN3.out.below (hB2.mono HSZ3.out))
                  have HSZ4 := hide (Nat.le_trans HSZ3.out hB2.size)
                  have y0 := cellOf hb2 0
                  have y1 := cellOf hb2 1
                  have lb2 := box_lt hb2
                  have r2 := cellOf HR4.out 2
                  have lr := box_lt HR4.out
                  have hlk := HM4.out.look k ka (by omega) (by omega)
                  clear hw2 hb2 hB2 hs2 hix
                  by_cases hka : ka ∈ D'
                  case neg =>
                    rw [meaM_out _ _ _ _ hka] at hlk
                    simp only [Option.getD_none, Option.isSome_none] at hlk
                    have HKA := hide hka
                    clear hka
                    go_wp2_with fail
                    clear hlk
                    go_roundw
                    case rel => exact ⟨0 + 1, D', by go_num, by omega, (KnW.skip0 HK3.out (.inl HKA.out) HTN.out), HM4.out, HN4.out, HR4.out, HSZ4.out⟩
                    case measure => simp [intOf]
                  case pos =>
                    rw [meaM_in _ _ _ _ hka] at hlk
                    simp only [Option.getD_some, Option.isSome_some] at hlk
                    have hkD : ka ∈ D ∨ t ∈ D' := by
                      rcases HK3.out.1.1 with e | e
                      · exact .inl (e ▸ hka)
                      · exact .inr (by rw [e]; simp)
                    have hxd := OK.out.dist (x := k) (z := ka)
                    obtain ⟨x, hx⟩ : ∃ x, distN l.rs (runLen l) k ka = x := ⟨_, rfl⟩
                    rw [hx] at hlk hxd
                    have HX := hide hx
                    have HKD := hide hkD
                    clear hka hx hkD
                    by_cases hbt : kb = t
                    case neg =>
                      have g2 : ((kb : Int) == (t : Int)) = false := by simp; omega
                      have HBT := hide hbt
                      clear hbt
                      go_wp2_with fail
                      clear hlk
                      go_roundw
                      case rel => exact ⟨0 + 1, D', by go_num, by omega, (KnW.skip0 HK3.out (.inr (.inl HBT.out)) HTN.out), HM4.out, HN4.out, HR4.out, HSZ4.out⟩
                      case measure => simp [intOf]
                    case pos =>
                      subst hbt
                      have g2 : ((kb : Int) == (kb : Int)) = true := by simp
                      by_cases htD : kb ∈ D'
                      case pos =>
                        have hkn := fun W (hW : MeaS w W bm A0 A1 A2 (some ⟨bu, offu, none⟩) A4 A5 q0 q1 q2 q3 q4 q5 l k D') => knows_any hW k kb (by omega) (by omega) true (by rw [meaM_in _ _ _ _ htD]; rfl)
                        have HKN := hide hkn
                        have HTD := hide htD
                        clear hkn htD
                        go_wp2_with (go_at_call 142; refine (HKN.out _ HM4.out).mono ?_; rintro e w5 ⟨rfl, rfl⟩)
                        clear hlk
                        go_roundw
                        case rel => exact ⟨0 + 1, D', by go_num, by omega, (KnW.skip0 HK3.out (.inr (.inr HTD.out)) HTN.out), HM4.out, HN4.out, HR4.out, HSZ4.out⟩
                        case measure => simp [intOf]
                      case neg =>
                        have hkn := fun W (hW : MeaS w W bm A0 A1 A2 (some ⟨bu, offu, none⟩) A4 A5 q0 q1 q2 q3 q4 q5 l k D') => knows_any hW k kb (by omega) (by omega) false (by rw [meaM_out _ _ _ _ htD]; rfl)
                        have hD' : D' = D := by
                          rcases HK3.out.1.1 with e | e
                          · exact e
                          · exact absurd (by rw [e]; simp) htD
                        have hDl : D'.length ≤ 41 := by rw [hD', ← HD.out, List.length_take]; omega
                        have hkD2 : ka ∈ D := HKD.out.resolve_right htD
                        have hds : distN l.rs (runLen l) k kb = x + rl := by
                          rw [OK.out.out_step (p := p) (by rw [HO.out]; omega) (by rw [HO.out]; exact HT.out) (by rw [HO.out, HD.out]; exact hkD2) (by rw [rs_len]; exact hjl) (.inl HRS.out), HX.out]
                          congr 1
                          unfold runLen
                          rw [HRU.out]
                        have hlen := OK.out.len hjl
                        have hrl : 1 ≤ rl ∧ rl ≤ 1000000 := by
                          have e : runLen l j = rl := by unfold runLen; rw [HRU.out]
                          rw [e] at hlen
                          exact hlen
                        obtain ⟨kl5, hkl5⟩ := prKey k kb (by unfold I63; omega) (by unfold I63; omega)
                        have HKL5 := hide hkl5
                        have hz63 : (Lit.int .i64 (x + rl)).wf = true := wf63 (by unfold I63; omega)
                        have hwr : IntKind.i64.wrap (x + rl) = x + rl := IntWalk.i64_in _ (by omega)
                        have hcn : 41 * k + D'.length < maxLen := by unfold maxLen; omega
                        have HKN := hide hkn
                        have HDS := hide hds
                        have HD2 := hide hD'
                        clear hkn htD hD' hDl hkD2 hds hlen hkl5
                        go_wp2_with (first | (go_at_call 142; refine (HKN.out _ HM4.out).mono ?_; rintro e w5 ⟨rfl, rfl⟩) | (at_mapUpdate; go_must (refine wpList_put _ rfl _ _ _ 121 rfl HM4.out.map prLaw Try.underlying121 Try.underlying3 prV_inj hcn (k, kb) ⟨_, HKL5.out⟩ (x + rl) hz63 rfl rfl rfl ?_); intro w5 hm5 hg5; have HM5 := hide (HM4.out.put HDS.out hm5 hg5); have HR5 := hide (HM4.out.keep HR4.out hg5); have HN5 := hide (HN4.out.mapped HM4.out.map.obj hg5 HSZ4.out); have HSZ5 := hide (Nat.le_trans HSZ4.out hg5.size); clear hm5 hg5))
                        clear hlk
                        go_roundw
                        case rel => exact ⟨0 + 1, (D' ++ [kb]), by go_num, by omega, (by rw [HD2.out]; exact KnW.all), HM5.out, HN5.out, HR5.out, HSZ5.out⟩
                        case measure => simp [intOf]
                · have hix := fun w => idx22_1 ka kb kb ka w
                  go_upto_region 15 with (fail)
                  generalize hw2 : World.alloc _ _ = w4
                  obtain ⟨hb2, hB2, hs2⟩ := alloc1 hw2
                  have HM4 := hide (HM3.out.to hB2)
                  have HR4 := hide (box_to HR3.out hB2)
                  have HN4 := hide (HN3.out.below (hB2.mono HSZ3.out))
                  have HSZ4 := hide (Nat.le_trans HSZ3.out hB2.size)
                  have y0 := cellOf hb2 0
                  have y1 := cellOf hb2 1
                  have lb2 := box_lt hb2
                  have r2 := cellOf HR4.out 2
                  have lr := box_lt HR4.out
                  have hlk := HM4.out.look k kb (by omega) (by omega)
                  clear hw2 hb2 hB2 hs2 hix
                  by_cases hka : kb ∈ D'
                  case neg =>
                    rw [meaM_out _ _ _ _ hka] at hlk
                    simp only [Option.getD_none, Option.isSome_none] at hlk
                    have HKA := hide hka
                    clear hka
                    go_wp2_with fail
                    clear hlk
                    go_roundw
                    case rel => exact ⟨1 + 1, D', by go_num, by omega, (KnW.skip1 HK3.out (.inl HKA.out) HTN.out), HM4.out, HN4.out, HR4.out, HSZ4.out⟩
                    case measure => simp [intOf]
                  case pos =>
                    rw [meaM_in _ _ _ _ hka] at hlk
                    simp only [Option.getD_some, Option.isSome_some] at hlk
                    have hkD : kb ∈ D ∨ t ∈ D' := by
                      rcases HK3.out.1.1 with e | e
                      · exact .inl (e ▸ hka)
                      · exact .inr (by rw [e]; simp)
                    have hxd := OK.out.dist (x := k) (z := kb)
                    obtain ⟨x, hx⟩ : ∃ x, distN l.rs (runLen l) k kb = x := ⟨_, rfl⟩
                    rw [hx] at hlk hxd
                    have HX := hide hx
                    have HKD := hide hkD
                    clear hka hx hkD
                    by_cases hbt : ka = t
                    case neg =>
                      have g2 : ((ka : Int) == (t : Int)) = false := by simp; omega
                      have HBT := hide hbt
                      clear hbt
                      go_wp2_with fail
                      clear hlk
                      go_roundw
                      case rel => exact ⟨1 + 1, D', by go_num, by omega, (KnW.skip1 HK3.out (.inr (.inl HBT.out)) HTN.out), HM4.out, HN4.out, HR4.out, HSZ4.out⟩
                      case measure => simp [intOf]
                    case pos =>
                      subst hbt
                      have g2 : ((ka : Int) == (ka : Int)) = true := by simp
                      by_cases htD : ka ∈ D'
                      case pos =>
                        have hkn := fun W (hW : MeaS w W bm A0 A1 A2 (some ⟨bu, offu, none⟩) A4 A5 q0 q1 q2 q3 q4 q5 l k D') => knows_any hW k ka (by omega) (by omega) true (by rw [meaM_in _ _ _ _ htD]; rfl)
                        have HKN := hide hkn
                        have HTD := hide htD
                        clear hkn htD
                        go_wp2_with (go_at_call 142; refine (HKN.out _ HM4.out).mono ?_; rintro e w5 ⟨rfl, rfl⟩)
                        clear hlk
                        go_roundw
                        case rel => exact ⟨1 + 1, D', by go_num, by omega, (KnW.skip1 HK3.out (.inr (.inr HTD.out)) HTN.out), HM4.out, HN4.out, HR4.out, HSZ4.out⟩
                        case measure => simp [intOf]
                      case neg =>
                        have hkn := fun W (hW : MeaS w W bm A0 A1 A2 (some ⟨bu, offu, none⟩) A4 A5 q0 q1 q2 q3 q4 q5 l k D') => knows_any hW k ka (by omega) (by omega) false (by rw [meaM_out _ _ _ _ htD]; rfl)
                        have hD' : D' = D := by
                          rcases HK3.out.1.1 with e | e
                          · exact e
                          · exact absurd (by rw [e]; simp) htD
                        have hDl : D'.length ≤ 41 := by rw [hD', ← HD.out, List.length_take]; omega
                        have hkD2 : kb ∈ D := HKD.out.resolve_right htD
                        have hds : distN l.rs (runLen l) k ka = x + rl := by
                          rw [OK.out.out_step (p := p) (by rw [HO.out]; omega) (by rw [HO.out]; exact HT.out) (by rw [HO.out, HD.out]; exact hkD2) (by rw [rs_len]; exact hjl) (.inr HRS.out), HX.out]
                          congr 1
                          unfold runLen
                          rw [HRU.out]
                        have hlen := OK.out.len hjl
                        have hrl : 1 ≤ rl ∧ rl ≤ 1000000 := by
                          have e : runLen l j = rl := by unfold runLen; rw [HRU.out]
                          rw [e] at hlen
                          exact hlen
                        obtain ⟨kl5, hkl5⟩ := prKey k ka (by unfold I63; omega) (by unfold I63; omega)
                        have HKL5 := hide hkl5
                        have hz63 : (Lit.int .i64 (x + rl)).wf = true := wf63 (by unfold I63; omega)
                        have hwr : IntKind.i64.wrap (x + rl) = x + rl := IntWalk.i64_in _ (by omega)
                        have hcn : 41 * k + D'.length < maxLen := by unfold maxLen; omega
                        have HKN := hide hkn
                        have HDS := hide hds
                        have HD2 := hide hD'
                        clear hkn htD hD' hDl hkD2 hds hlen hkl5
                        go_wp2_with (first | (go_at_call 142; refine (HKN.out _ HM4.out).mono ?_; rintro e w5 ⟨rfl, rfl⟩) | (at_mapUpdate; go_must (refine wpList_put _ rfl _ _ _ 121 rfl HM4.out.map prLaw Try.underlying121 Try.underlying3 prV_inj hcn (k, ka) ⟨_, HKL5.out⟩ (x + rl) hz63 rfl rfl rfl ?_); intro w5 hm5 hg5; have HM5 := hide (HM4.out.put HDS.out hm5 hg5); have HR5 := hide (HM4.out.keep HR4.out hg5); have HN5 := hide (HN4.out.mapped HM4.out.map.obj hg5 HSZ4.out); have HSZ5 := hide (Nat.le_trans HSZ4.out hg5.size); clear hm5 hg5))
                        clear hlk
                        go_roundw
                        case rel => exact ⟨1 + 1, (D' ++ [ka]), by go_num, by omega, (by rw [HD2.out]; exact KnW.all), HM5.out, HN5.out, HR5.out, HSZ5.out⟩
                        case measure => simp [intOf]
                · go_wp2_with fail
                  go_roundw
                  case rel => exact ⟨j + 1, D', by go_num, by omega, KnW.next HK3.out HRS.out, HM3.out, HN3.out, HSZ3.out⟩
                  case measure => simp [intOf]; omega
            · have hje : j = l.us.length := by omega
              subst hje
              have hfin : D' = D ++ [t] := by
                obtain ⟨x, k1, hx, hk1, hi1⟩ := OK.out.out_some (i := k) (p := p) (t := t) (by rw [HO.out]; omega) (by rw [HO.out]; exact HT.out)
                rw [HO.out, HD.out] at hx
                rw [rs_len] at hk1
                exact HK3.out.2 k1 x hk1 hx hi1
              subst hfin
              go_wp2_with fail
              go_roundw
              case rel => exact ⟨p + 1, by go_num, by omega, by rw [HDT.out]; exact HM3.out, HN3.out, HSZ3.out⟩
              case measure => simp [intOf]; omega
        · have hpe : p = L.length := by omega
          subst hpe
          have hrow := HM3.out
          rw [List.take_of_length_le (by have := HLL.out; omega)] at hrow
          have hrow2 := hrow.row (fun b => by rw [← HO.out]; exact OK.out.out_mem hkl b) (by omega)
          have HROW := hide hrow2
          clear hrow hrow2
          go_wp2_with fail
          go_roundw
          case rel => exact ⟨k + 1, by go_num, by omega, HROW.out⟩
          case measure => simp [intOf]; omega
    · have hke : k = l.ss.length := by omega
      subst hke
      go_wp2_with fail
      go_ret
      exact ⟨bm, rfl, HM.out⟩
end Go.Proofs.Ytmabfnddedffoaa

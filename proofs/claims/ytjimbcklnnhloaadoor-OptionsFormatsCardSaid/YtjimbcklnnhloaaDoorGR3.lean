/- Part 3 of this claim's texts: walks and plain laws. -/
import Derived.Test.YtjimbcklnnhloaaDoorRows
import Derived.Test.YtjimbcklnnhloaaDoorGR0
import Derived.Test.YtjimbcklnnhloaaDoorGR2
import Derived.Laws.MakeOwn
import Derived.ProofKit
import Derived.Lib.SmallJoins
import Derived.Deep.Slices
import Derived.Deep.Fields
import Derived.ChangeSame
import Derived.Below
import Derived.WalkLawsBesides
import Derived.Test.YtjimbcklnnhloaaDoorGR1
import Derived.Deep.CutBlock
import Derived.Deep.DeepMust
import Derived.Lib.Builder
import Derived.Lib.AppendStr
import Derived.Lib.UnsafeStr
import Derived.Laws.Externs
import Derived.Deep.RegionHeld3
import Derived.Deep.DrawnRows
import Derived.IntWalk
/- Most: walk. -/
namespace Go.Proofs.YtjimbcklnnhloaaDoor
open Go.RowKit
open Go.Maps (Keyed)
set_option linter.unusedVariables false
set_option linter.unusedSimpArgs false
theorem Stk.push {B : Nat} {w w1 : World} {F : Fo} {A : Option Addr} {n cap m : Nat} {S : List Nat} {v1 : Value} {o : Obj} (h : Stk B w F (.slice A n cap) S) (hF : FoAt w F) (hown : w1.ownsRow B 3 1 v1 (S.length + 1) ((S.map fun (n : Nat) => Value.int .i64 n) ++ [.int .i64 (m : Nat)])) (hg : (w.alloc o).grownBy w1 (Value.slice A n cap).ownBlock)
    (hat : v1.ownBlock = (Value.slice A n cap).ownBlock ∨ v1.ownBlock = some (w.alloc o).heap.size) : Stk B w1 F v1 (S ++ [m]) ∧ Keeps (fun i => (Value.slice A n cap).ownBlock = some i) w w1 := by
  refine ⟨⟨?_, fun b hb hs => ?_⟩, Keeps.trans ((Keeps.refl _ w).alloc _) (Keeps.of_grown hg (fun k hk => hk)) (fun _ _ h => h)⟩
  · rw [List.length_append, List.length_singleton, List.map_append]; exact hown
  · rcases hat with e | e
    · exact h.2 b (by rw [← hb, e]) hs
    · rw [hb] at e
      injection e with e
      have := hF.slt hs
      simp at e
      omega
def Bols (w : World) (B : Nat) (v : Value) (l : List Bool) : Prop := Sl w B 1 v l.length (fun i _ => .bool (l.getD i false))
/-- A variant being made: the first choices, and then none. -/
def VarAt (w : World) (b N : Nat) (l : List Bool) : Prop := w.heap[b]? = some (.cells ((l ++ List.replicate (N - l.length) false).map Value.bool).toArray 4 (0, 0))
theorem VarAt.cell {w : World} {b N : Nat} {l : List Bool} (h : VarAt w b N l) (hl : l.length < N) : w.cell? ⟨b, l.length, none⟩ = some (.bool false) := by
  rw [cellOf h]
  simp only [List.getElem?_toArray, List.getElem?_map]
  rw [List.getElem?_append_right (Nat.le_refl _), Nat.sub_self, List.getElem?_replicate, if_pos (by omega)]
  rfl
theorem VarAt.set {w : World} {b N : Nat} {l : List Bool} (h : VarAt w b N l) (hl : l.length < N) (x : Bool) : VarAt (w.setCell ⟨b, l.length, none⟩ (.bool x)) b N (l ++ [x]) := by
  unfold VarAt
  rw [setCellOf h]
  congr 2
  rw [List.setIfInBounds_toArray]
  congr 1
  have e : N - l.length = (N - (l ++ [x]).length) + 1 := by simp; omega
  rw [e, List.replicate_succ]
  simp
theorem VarAt.bols {w : World} {b : Nat} {l : List Bool} (h : VarAt w b l.length l) : Bols w w.heap.size (.slice (some ⟨b, 0, none⟩) l.length l.length) l :=
  ⟨_, b, 0, _, rfl, Nat.le_refl _, .inl ⟨rfl, box_lt h⟩, fun i j hi hj => by
    obtain rfl : j = 0 := by omega
    rw [Nat.mul_one, Nat.add_zero, Nat.zero_add, cellOf h]
    simp [hi]⟩
theorem made_bools (N : Nat) : madeCells #[.bool false] N = (((List.replicate N false).map Value.bool).toArray) := by
  apply Array.ext
  · simp [madeCells]
  · intro i h1 h2
    simp [madeCells, Nat.mod_one]
theorem infoBool : (Tryd.prog.info? 4).map (fun i => (i.zero, i.size, i.bytes)) = some (some (.bool false), 1, 1) := by kernel_rfl
/-- What Most gives where nothing is wrong. -/
def MostR (m : Mo) (l : List (List Int)) (ws : List Int) (w : World) (e : Ending) (w' : World) : Prop :=
  ∃ v x, e = .returned (.tuple #[.int .i64 (bestF m l ws), v, .int .i64 0]) ∧ (exts m.opts.length []).find? (fun y => valF m l ws y == bestF m l ws) = some x ∧ x.length = m.opts.length ∧ Bols w' w'.heap.size v x ∧ Below w.heap.size w w'
theorem fsum_bd (v : Nat → Bool) : ∀ (a : List (List Int)) (ws : List Int), (∀ x ∈ ws, -1000000 ≤ x ∧ x ≤ 1000000) → -1000000 * (a.length : Int) ≤ fsum v a ws ∧ fsum v a ws ≤ 1000000 * (a.length : Int)
  | [], ws, _ => by cases ws <;> simp [fsum]
  | n :: a, [], _ => by simp [fsum]; omega
  | n :: a, x :: ws, h => by
    have h1 := fsum_bd v a ws fun y hy => h y (by simp [hy])
    have h2 := h x (by simp)
    simp only [fsum, List.length_cons]
    split <;> omega
theorem bestF_big {m : Mo} {l : List (List Int)} {ws : List Int} (hw : ∀ x ∈ ws, -1000000 ≤ x ∧ x ≤ 1000000) (hl : l.length ≤ 1000) (hs : satM m (fun _ => true) ≠ []) : leastI < bestF m l ws := by
  obtain ⟨x, hx⟩ := List.exists_mem_of_ne_nil _ hs
  unfold satM at hx
  rw [List.mem_filter] at hx
  have h1 := maxL_mem ((exts m.opts.length []).map (valF m l ws)) (valF m l ws x) (List.mem_map.2 ⟨x, hx.1, rfl⟩)
  have h2 : valF m l ws x = fsum (vf x) l ws := by
    unfold valF; rw [if_pos]; simpa using hx.2
  have h3 := fsum_bd (vf x) l ws hw
  unfold bestF
  unfold leastI at *
  omega
theorem WgAt.setOther {w : World} {F : Fo} {wp : Nat} {wsv : Value} {ws : List Int} {kb cnt : Nat} {m : SmL → Option Int} (h : WgAt w F wp wsv ws kb cnt m) {p : Addr} {u : Value} (h1 : p.block ≠ wp) (h2 : p.block ≠ kb) (h3 : ¬ SF F p.block) (hw : Ints (w.setCell p u) (w.setCell p u).heap.size wsv ws) : WgAt (w.setCell p u) F wp wsv ws kb cnt m :=
  ⟨(Below.heap_setCell _ _ _ _ (fun e => h1 e.symm)).trans h.box, h.fo.same (fun k hk => Below.heap_setCell _ _ _ _ (fun e => h3 (e ▸ hk))), hw, h.map.same (Below.heap_setCell _ _ _ _ (fun e => h2 e.symm)), h.ok, h.nS⟩
theorem Nods.setBool {w : World} {B b N k : Nat} {v : Value} {ns : List Nat} {ls : List Bool} {u : Value} (h : Nods w B v ns) (hv : VarAt w b N ls) : Nods (w.setCell ⟨b, k, none⟩ u) B v ns := by
  obtain ⟨A, b0, off, cap, h1, h2, h3, h4⟩ := h
  refine ⟨A, b0, off, cap, h1, h2, h3, fun i j hi hj => ?_⟩
  rw [← h4 i j hi hj]
  have hne : b0 ≠ b := by
    intro e
    have h5 := h4 i j hi hj
    rw [e, cellOf hv] at h5
    simp only [List.getElem?_toArray, List.getElem?_map] at h5
    generalize (ls ++ List.replicate (N - ls.length) false)[off + (i * 1 + j)]? = q at h5
    cases q with
    | none => simp at h5
    | some x => simp at h5
  exact World.cell?_of_block (Below.heap_setCell _ _ _ _ hne)
theorem VarAt.below {w w' : World} {b N : Nat} {ls : List Bool} (h : VarAt w b N ls) (hb : Below w.heap.size w w') : VarAt w' b N ls := box_to h hb
set_option maxRecDepth 100000 in
set_option maxHeartbeats 16000000 in
theorem Most_ok (m : Mo) (l : List (List Int)) (ws : List Int) (ov rv lv wv : Value) (w : World) (hs : SizedM m) (hl : Sized l) (h : MoAt w w.heap.size ov rv m) (hf : Forms w w.heap.size lv l) (hws : Ints w w.heap.size wv ws) (he : m.errF l = 0) (hN : m.opts.length ≤ 12) (hl200 : l.length ≤ 200) (hlw : ws.length = l.length) (hw : ∀ x ∈ ws, -1000000 ≤ x ∧ x ≤ 1000000) (hsat : satM m (fun _ => true) ≠ []) :
    Calls Tryd.prog 13 #[.agg #[ov, rv], lv, wv] w (MostR m l ws w) := by
  have hmm := @run_makeMap Tryd.prog
  obtain ⟨i0, hi0, iz0, iz1, iz2⟩ := info_parts infoInt
  obtain ⟨i1, hi1, jz0, jz1, jz2⟩ := info_parts infoBool
  obtain ⟨A, cap, hov⟩ := Sl.form h.o
  obtain ⟨Ar, capr, hrv⟩ := h.r.form
  have H := hide h
  have HF := hide hf
  have HS := hide hs
  have HL := hide hl
  have HW := hide hw
  have HSAT := hide hsat
  have HOK := hide (Mo.okF he)
  have HE := hide he
  have HWS := hide hws
  have HLW : Hid (ws.length = l.length) := hlw
  obtain ⟨fvs, ⟨Al, bl, offl, capl, rfl, hncl, hAl, hcl⟩, hfi⟩ := hf
  obtain ⟨Aw, bw, offw, capw, rfl, hncw, hAw, hcw⟩ := hws
  have HAL := hide hAl
  have HCL := hide hcl
  have HFI := hide hfi
  have HAW := hide hAw
  have HCW := hide hcw
  have hz1 : ¬ (200 : Int) < (l.length : Int) := by omega
  have hz2 : ((ws.length : Int) != (l.length : Int)) = false := by rw [hlw]; simp
  have hz3 : (l.length : Int) ≤ 200 := by omega
  have hz4 : (ws.length : Int) ≤ 200 := by omega
  subst hov hrv
  clear h hs hl hw hsat he hlw hAl hcl hfi hAw hcw
  go_enter Tryd.func13, Tryd.ntmps13
  go_upto_region 1 with (fail)
  generalize hw0 : World.alloc _ _ = w0
  obtain ⟨hb0, hB0, hs0⟩ := alloc1 hw0
  clear hw0
  have c0 := cellOf hb0 0
  have c1 := cellOf hb0 1
  have HX0 : Hid (MoBox w0 w.heap.size (.slice A m.opts.length cap) (.slice Ar m.rules.length capr)) := hb0
  have HB0 := hide hB0
  have hck := CheckModel_any m (.slice A m.opts.length cap) (.slice Ar m.rules.length capr) w0 HS.out (H.out.up hB0)
  rw [HOK.out.1] at hck
  have HCK := hide hck
  clear hb0 hB0 hs0 hck
  go_wp2_with (go_at_call 15; refine HCK.out.mono ?_; rintro e w1 ⟨rfl, hB1⟩; have hbx := box_to HX0.out hB1; have d0 := cellOf hbx 0; have d1 := cellOf hbx 1; have HB1 : Hid (Below w.heap.size w w1) := Below.to HB0.out hB1 (Nat.le_refl _); clear hbx hB1 c0 c1)
  have hbe := begin_ok m l (.slice A m.opts.length cap) (.slice Ar m.rules.length capr) (.slice Al l.length capl) w1 HS.out HL.out (H.out.up HB1.out) (HF.out.up HB1.out) HE.out hN
  have HBE := hide hbe
  clear hbe
  refine HBE.out.mono ?_
  rintro e w2 ⟨F, n, rfl, r1⟩
  have R1 : Hid (BegR m w w2 F n) := r1.of HB1.out
  have hn0 : n ≠ 0 := by
    intro e
    subst e
    apply HSAT.out
    rw [← satM_node (ks := F.ks) (n := 0) r1.N (fun v => by rw [r1.ev v, Bool.and_true]), sat_zero]
  have hn1 : ((n : Int) == 0) = false := by simp; omega
  have hnl := r1.lt
  clear r1 hn0 d0 d1
  go_wp2_with fail
  go_loop [44] (fun i => ∃ k : Nat, k ≤ ws.length ∧ i = .int .i64 k) (fun i => ws.length - (intOf i).toNat)
  case atStart => exact ⟨0, Nat.zero_le _, rfl⟩
  case round =>
    obtain ⟨k, hk, rfl⟩ := hrel
    by_cases hkl : k < ws.length
    · obtain ⟨rfl, hbb⟩ : Aw = some ⟨bw, offw, none⟩ ∧ bw < w.heap.size := by
        rcases HAW.out with h | h
        · exact h
        · omega
      obtain ⟨x, hx⟩ : ∃ x, ws.getD k 0 = x := ⟨_, rfl⟩
      have hxb := HW.out x (by rw [← hx]; exact getD_mem hkl)
      have c0 : w2.cell? ⟨bw, offw + k, none⟩ = some (.int .i64 x) := by
        have h1 := HCW.out k 0 hkl (by omega)
        rw [Nat.mul_one, Nat.add_zero, hx] at h1
        exact (R1.out.below.cell (p := ⟨bw, offw + k, none⟩) hbb).trans h1
      have hx1 : ¬ x < -1000000 := by omega
      have hx2 : ¬ (1000000 : Int) < x := by omega
      clear hx hxb
      go_wp2_with fail
      go_round
      case rel => exact ⟨k + 1, by omega, by go_num⟩
      case measure => simp [intOf]; omega
    · clear hk
      go_wp2_with fail
      generalize hw0 : World.alloc _ _ = w3
      obtain ⟨hb0, hB0, hs0⟩ := alloc1 hw0
      clear hw0
      have HR3 : Hid (OpR 0 w2 F w3 F) := R1.out.op.then_below hB0
      have hst : Stk w2.heap.size w3 F (.slice (some ⟨w2.heap.size, 0, none⟩) 1 1) [n] := ⟨⟨rfl, .inr ⟨w2.heap.size, 1, _, rfl, Nat.le_refl _, hb0, Nat.le_refl _, by unfold maxLen; omega, rfl, rfl⟩⟩, fun b hb hsf => by
        have := R1.out.here.slt hsf
        simp [Value.ownBlock] at hb
        omega⟩
      have HST := hide hst
      have hB2 : Below w.heap.size w w2 := R1.out.below
      have HB2 := hide hB2
      have h2 := R1.out.here.wf.two
      clear hb0 hB0 hs0 hst hB2
      go_loopw [14, 61] (fun nv i wr => ∃ (k : Nat) (S : List Nat) (F1 : Fo), k ≤ l.length ∧ S.length = k + 1 ∧ i = .int .i64 k ∧ Hid (Stk w2.heap.size wr F1 nv S) ∧ Hid (OpR (100 * k) w2 F wr F1) ∧ Hid (∀ x ∈ S, x < F1.ks.length) ∧ Hid (∀ v, ev F1.ks v (S.getD 0 0) = allF v m.rules) ∧ Hid (∀ v i, i < k → ev F1.ks v (S.getD (i + 1) 0) = evF1 v (l.getD i []))) (fun _ i _ => l.length - (intOf i).toNat)
      case atStart => exact ⟨0, [n], F, Nat.zero_le _, rfl, rfl, HST.out, HR3.out, (fun x hx => by simp at hx; rw [hx]; exact hnl : ∀ x ∈ [n], x < F.ks.length), (fun v => by simpa using R1.out.ev v : ∀ v, ev F.ks v ([n].getD 0 0) = allF v m.rules), (fun v i hi => absurd hi (by omega) : ∀ v i, i < 0 → ev F.ks v ([n].getD (i + 1) 0) = evF1 v (l.getD i []))⟩
      case round =>
        obtain ⟨k, S, F1, hk, hSl, rfl, hS, hop, hSm, hev0, hevs⟩ := hrel
        have hbw := hop.out.low R1.out
        by_cases hkl : k < l.length
        · obtain ⟨rfl, hbb⟩ : Al = some ⟨bl, offl, none⟩ ∧ bl < w.heap.size := by
            rcases HAL.out with h | h
            · exact h
            · omega
          obtain ⟨f, hfe⟩ : ∃ f, l.getD k [] = f := ⟨_, rfl⟩
          have hfm : f ∈ l := by rw [← hfe]; exact getD_mem hkl
          have hfv := HOK.out.2 f hfm
          have hin : Ints w w.heap.size (fvs k) f := by have := HFI.out k hkl; rwa [hfe] at this
          obtain ⟨Af, capf, hff⟩ := Sl.form hin
          have c0 : wr.cell? ⟨bl, offl + k, none⟩ = some (.slice Af f.length capf) := by
            have h1 := HCL.out k 0 hkl (by omega)
            rw [Nat.mul_one, Nat.add_zero, hff] at h1
            exact (hbw.cell (p := ⟨bl, offl + k, none⟩) hbb).trans h1
          obtain ⟨A1, cap1, rfl, hcap1, hcap2⟩ := hS.out.shape
          have hgr := grow_beg R1.out hN hop.out (by omega) hin hfv
          rw [hff] at hgr
          have HGR := hide hgr
          have HFE := hide hfe
          have HSL : Hid (S.length = k + 1) := hSl
          have hS300 : S.length ≤ 300 := by omega
          clear hbw hfe hfm hfv hin hff hgr hSl
          go_wp2_with (first | (go_at_call 30; refine HGR.out.mono ?_; rintro e w4 ⟨g, F2, rfl, r1, r2, hg, r4⟩; have R2 := hide r1; have R3 := hide r2; have R4 := hide r4; have hs4 := hS.out.step r2.st; have HS4 := hide hs4; have hsz4 := r1.st.keep.size; clear r1 r2 r4 hs4) | (at_builtin; go_must (refine wpList_append_own_at _ rfl (.tmp 65) (.tmp 69) _ rfl w2.heap.size 3 i0 _ 1 8 Tryd.underlying27 hi0 iz0 iz1 iz2 rfl (by omega) _ _ _ rfl (HS4.out.1.alloc _) ⟨w4.heap.size, 0, none⟩ 1 1 [.int .i64 (g : Nat)] rfl rfl (World.news_of_block (heap_alloc_new w4 _)) (by simp [Value.oneCell']) (by unfold maxLen; omega) (by omega) (by simp; omega) ?_); intro v1 w5 hown1 hg1 _ hat1; have HP := hide (HS4.out.push R2.out.st.here hown1 hg1 hat1); clear hown1 hg1 hat1))
          go_roundw
          case rel =>
            refine ⟨k + 1, S ++ [g], F2, by omega, by have := HSL.out; simp; omega, by go_num, HP.out.1, ?_, fun x hx => ?_, fun v => ?_, fun v i hi => ?_⟩
            · exact (R2.out.mono (l := 100 * (k + 1)) (by omega)).own HP.out.2 (fun i hi => (HS4.out.1.lt i hi).1) (fun i hs hi => HS4.out.2 i hi hs)
            · rcases List.mem_append.1 hx with h1 | h1
              · have := hSm.out x h1
                have := R3.out.st.le
                omega
              · rw [List.mem_singleton] at h1
                rw [h1]; exact hg
            · have hS0 : 0 < S.length := by have := HSL.out; omega
              rw [List.getD_eq_getElem?_getD, List.getElem?_append_left hS0, ← List.getD_eq_getElem?_getD, R3.out.st.ev hop.out.st.here.wf (hSm.out _ (getD_mem hS0))]
              exact hev0.out v
            · have hSk := HSL.out
              rcases Nat.lt_or_ge i k with h1 | h1
              · have hSi : i + 1 < S.length := by omega
                rw [List.getD_eq_getElem?_getD, List.getElem?_append_left hSi, ← List.getD_eq_getElem?_getD, R3.out.st.ev hop.out.st.here.wf (hSm.out _ (getD_mem hSi))]
                exact hevs.out v i h1
              · obtain rfl : i = k := by omega
                rw [List.getD_eq_getElem?_getD, List.getElem?_append_right (by omega), show i + 1 - S.length = 0 by omega]
                simp only [List.getElem?_cons_zero, Option.getD_some]
                rw [R4.out v, HFE.out]
          case measure => simp [intOf]; omega
        · obtain rfl : k = l.length := by omega
          obtain ⟨A1, cap1, rfl, hcap1, hcap2⟩ := hS.out.shape
          obtain ⟨wo, hwo⟩ : ∃ wo : World, wo = wr := ⟨_, rfl⟩
          subst hwo
          have hN1 : F1.N = m.opts.length := hop.out.st.N.trans R1.out.N
          obtain ⟨s0, sr, hSe⟩ : ∃ s0 sr, S = s0 :: sr := by
            match S, hSl with
            | [], hSl => simp at hSl
            | s0 :: sr, _ => exact ⟨s0, sr, rfl⟩
          have hval : ∀ x, valI F1.ks (vf x) S ws = valF m l ws x := fun x => by
            have q0 := hev0.out (vf x)
            have q1 := hevs.out (vf x)
            subst hSe
            simp only [List.getD_cons_zero, List.getD_cons_succ] at q0 q1
            have q2 : sr.length = l.length := by simpa using hSl
            exact valI_valF q0 q2 (fun i hi => q1 i (by omega))
          have hbest : bestK F1.ks F1.N S ws [] = bestF m l ws := by
            unfold bestK bestF
            rw [hN1]
            congr 1
            exact List.map_congr_left fun x _ => hval x
          have hbig := bestF_big (m := m) HW.out (show l.length ≤ 1000 by omega) HSAT.out
          have hbd := bestK_bd (ks := F1.ks) (N := F1.N) (nodes := S) HW.out (show S.length ≤ 1000 by omega) []
          obtain ⟨M, hM⟩ : ∃ M, bestF m l ws = M := ⟨_, rfl⟩
          rw [hM] at hbest hbig
          rw [hbest] at hbd
          have HVAL := hide hval
          have HBEST := hide hbest
          have HBIG := hide hbig
          have HM := hide hM
          have HN1 := hide hN1
          have HSL : Hid (S.length = l.length + 1) := hSl
          have hnods : Nods wo wo.heap.size (.slice A1 S.length cap1) S := Nods.of_own hS.out.1
          have HNODS := hide hnods
          have HBW := hide hbw
          have hslt : ∀ b, SF F1 b → b < wo.heap.size := fun b hb => hop.out.st.here.slt hb
          have HSLT := hide hslt
          have hS300 : S.length ≤ 300 := by omega
          obtain ⟨hbd1, hbd2⟩ := hbd
          unfold leastI at hbd1
          clear hk hval hbest hbig hM hN1 hSl hnods hbw hslt hSe
          go_wp2_with fail
          generalize hw4 : World.alloc _ _ = w4
          obtain ⟨hb0, hb1, hB4, hs4⟩ := alloc2 hw4
          clear hw4
          have hwg : WgAt w4 F1 (wo.heap.size + 1) (.slice Aw ws.length capw) ws wo.heap.size 0 (fun _ => none) :=
            ⟨by rw [hop.out.st.p]; exact hb1, hop.out.st.here.below hB4, Sl.more (Ints.below HWS.out (Below.to HBW.out hB4 (Nat.le_refl _))) (by have := HBW.out.size; omega), ⟨.map [], ⟨#[], 0, hb0, ⟨by simp, MapKept.stamped_empty 0, by simp⟩, Nat.le_refl _, rfl⟩, fun a l _ => ⟨fun _ => rfl, fun x h => (by cases h)⟩⟩, fun a x h => (by cases h), fun e => by have := HSLT.out _ e; omega⟩
          have hp13 : 2 ^ (F1.N + 1) ≤ 2 ^ 13 := Nat.pow_le_pow_right (by omega) (by rw [HN1.out]; omega)
          have hbt := best_any F1 (wo.heap.size + 1) _ ws wo.heap.size HW.out (by omega) F1.N S _ w4 (fun _ => none) 0 hwg (by have := HSL.out; have := HLW.out; omega) hSm.out (by omega) (HNODS.out.up hB4) (by omega)
          rw [HBEST.out] at hbt
          have HBT := hide hbt
          have HP13 := hide hp13
          have HB4 : Hid (Below w.heap.size w w4) := Below.to HBW.out hB4 (Nat.le_refl _)
          have HS4 : Hid (wo.heap.size + 2 = w4.heap.size) := hs4.symm
          have HN4 : Hid (Nods w4 w4.heap.size (.slice A1 S.length cap1) S) := HNODS.out.up hB4
          have HWG4 := hide hwg
          clear hb0 hb1 hB4 hs4 hwg hp13 hbt
          refine HBT.out.mono ?_
          rintro e w5 ⟨m5, cnt5, rfl, r5⟩
          have R5 := hide r5
          have d0 := r5.here.fo.cellN
          rw [hop.out.st.p] at d0
          have hB5 : Below w.heap.size w w5 := HB4.out.trans (r5.keep.below (by have := HB4.out.size; omega) (fun k hk => by have := HBW.out.size; omega))
          have HB5 := hide hB5
          have HN5 : Hid (Nods w5 w5.heap.size (.slice A1 S.length cap1) S) := Sl.more (Sl.keep HN4.out (r5.cells HWG4.out)) r5.keep.size
          have hN13 : F1.N ≤ 12 := by rw [HN1.out]; exact hN
          have hmk : ∀ W : World, (Instr.makeSlice 40 (.int .i64 F1.N) (.int .i64 F1.N)).run Tryd.prog W = .ok (.slice (some ⟨W.heap.size, 0, none⟩) F1.N F1.N) (W.alloc (.cells (madeCells #[.bool false] (F1.N * 1)) 4)) := fun W => by
            have h1 := run_make (P := Tryd.prog) W 40 4 i1 (.bool false) Tryd.underlying40 hi1 jz0 .i64 .i64 F1.N F1.N (by omega) (Int.le_refl _) (by rw [jz2]; omega) (by omega)
            rw [jz1] at h1
            simpa [Value.cells] using h1
          clear r5 hB5
          go_wp2_with fail
          generalize hw0 : World.alloc _ _ = w6
          obtain ⟨hb0, hB0, hs0⟩ := alloc1 hw0
          clear hw0
          have hva : VarAt w6 w5.heap.size F1.N [] := by
            unfold VarAt
            rw [hb0, made_bools]
            rfl
          have HVA := hide hva
          have HB6 : Hid (Below w.heap.size w w6) := Below.to HB5.out hB0 (Nat.le_refl _)
          have HWG6 := hide (R5.out.here.below hB0)
          have HN6 : Hid (Nods w6 w6.heap.size (.slice A1 S.length cap1) S) := HN5.out.up hB0
          have hsz5 : wo.heap.size + 2 ≤ w5.heap.size := by have := R5.out.keep.size; have := HS4.out; omega
          have hcnt5 := R5.out.cnt
          clear hb0 hB0 hs0 hva hmk d0
          go_loopw [14, 87] (fun nv i wq => ∃ (k : Nat) (ls : List Bool) (ns : List Nat) (cnt : Nat) (mm : SmL → Option Int), k ≤ F1.N ∧ ls.length = k ∧ i = .int .i64 k ∧ Hid (Pick F1.ks F1.N ws S M ls ns) ∧ Hid (WgAt wq F1 (wo.heap.size + 1) (.slice Aw ws.length capw) ws wo.heap.size cnt mm) ∧ cnt ≤ (k + 1) * 8192 ∧ Hid (Nods wq wq.heap.size nv ns) ∧ Hid (VarAt wq w5.heap.size F1.N ls) ∧ Hid (Below w.heap.size w wq)) (fun _ i _ => F1.N - (intOf i).toNat)
          case atStart => exact ⟨0, [], S, cnt5, m5, Nat.zero_le _, rfl, rfl, Pick.start hSm.out HBEST.out, HWG6.out, by have := HP13.out; omega, HN6.out, HVA.out, HB6.out⟩
          case round =>
            obtain ⟨k, ls, ns, cnt, mm, hk, hls, rfl, hP, hWG, hcnt, hNn, hV, hBq⟩ := hrel
            obtain ⟨A7, cap7, hA7⟩ := Sl.form hNn.out
            subst hA7
            have hPl := hP.out.len
            have hsz : wo.heap.size + 2 ≤ w5.heap.size := hsz5
            have hvl : w5.heap.size < wr.heap.size := box_lt hV.out
            by_cases hkl : k < F1.N
            · have hcq : cnt + 2 ^ (F1.N + 1) ≤ 1073741824 := by
                have h1 := HP13.out
                have h2 : (k + 1) * 8192 ≤ 13 * 8192 := Nat.mul_le_mul_right _ (by omega)
                omega
              have hlsN : ls.length < F1.N := by omega
              have hahead := hP.out.ahead hop.out.st.here.wf hlsN false
              rw [hls] at hahead
              obtain ⟨a, ha⟩ : ∃ a, bestK F1.ks F1.N S ws (ls ++ [false]) = a := ⟨_, rfl⟩
              obtain ⟨b, hb⟩ : ∃ b, decide (a < M) = b := ⟨_, rfl⟩
              rw [ha] at hahead
              have hnx := hP.out.next hop.out.st.here.wf hlsN HBIG.out (b := b) (by rw [ha, hb])
              rw [hls] at hnx
              have hsta := step_any F1 (wo.heap.size + 1) _ ws wo.heap.size cnt mm ns k false _ wr hWG.out (by omega) hP.out.lt hNn.out
              have HSTA := hide hsta
              have HAH := hide hahead
              have HNX := hide hnx
              have HCQ := hide hcq
              have HLS : Hid (ls.length = k) := hls
              have HPL : Hid (ns.length = S.length) := hPl
              have HCNT := hide hcnt
              have v0 : wr.cell? ⟨w5.heap.size, k, none⟩ = some (.bool false) := by rw [← hls]; exact hV.out.cell hlsN
              have j1 : (k : Int) < (F1.N : Int) := by omega
              clear hcq hlsN hahead ha hnx hsta hls hPl hcnt
              go_wp2_with fail
              refine HSTA.out.mono ?_
              rintro e w7 ⟨v7, rfl, hn7, hB7⟩
              obtain ⟨A8, cap8, rfl⟩ := Sl.form hn7
              rw [List.length_map] at hn7 ⊢
              have hwg7 := hWG.out.below hB7
              have hV7 := hV.out.below hB7
              have hbt := best_any F1 (wo.heap.size + 1) _ ws wo.heap.size HW.out (by omega) F1.N (ns.map fun n => brK F1.ks n k false) _ w7 mm cnt hwg7 (by rw [List.length_map]; have := HPL.out; have := HSL.out; have := HLW.out; omega) (fun n hn => by
                rw [List.mem_map] at hn
                obtain ⟨x, hx, rfl⟩ := hn
                exact brK_lt hop.out.st.here.wf (hP.out.lt x hx) hkl) (by omega) hn7 HCQ.out
              rw [HAH.out] at hbt
              have HBT7 := hide hbt
              have HB7 := hide hB7
              have HV7 := hide hV7
              have HWG7 := hide hwg7
              have HN7 : Hid (Nods w7 w7.heap.size (.slice A7 ns.length cap7) ns) := hNn.out.up hB7
              have HBq7 : Hid (Below w.heap.size w w7) := Below.to hBq.out hB7 (Nat.le_refl _)
              clear hn7 hwg7 hV7 hbt hB7
              go_wp2_with fail
              refine HBT7.out.mono ?_
              rintro e w8 ⟨m8, cnt8, rfl, r8⟩
              have hV8 : VarAt w8 w5.heap.size F1.N ls := (r8.keep.block _ (box_lt HV7.out) (by omega)).trans HV7.out
              have HV8 := hide hV8
              have R8 := hide r8
              have HN8 : Hid (Nods w8 w8.heap.size (.slice A7 ns.length cap7) ns) := Sl.more (Sl.keep HN7.out (r8.cells HWG7.out)) r8.keep.size
              have HB8 : Hid (Below w.heap.size w w8) := HBq7.out.trans (r8.keep.below (by have := HBq7.out.size; omega) (fun k hk => by have := HBW.out.size; omega))
              have x0 : w8.cell? ⟨w5.heap.size, k, none⟩ = some (.bool false) := by rw [← HLS.out]; exact hV8.cell (by rw [HLS.out]; exact hkl)
              have x1 : w8.frozen? ⟨w5.heap.size, k, none⟩ = false := unfrozenOf hV8 _
              clear r8 hV8 v0
              go_wp2_with fail
              generalize hw9 : World.setCell _ _ _ = w9
              have hV9 : VarAt w9 w5.heap.size F1.N (ls ++ [b]) := by
                rw [← hw9]
                have h1 := HV8.out.set (by rw [HLS.out]; exact hkl) b
                rw [HLS.out] at h1
                exact h1
              have hs9 : w9.heap.size = w8.heap.size := by rw [← hw9]; simp [World.setCell]
              have hB9 : Below w.heap.size w w9 := by
                rw [← hw9]
                exact HB8.out.setCell (show w.heap.size ≤ w5.heap.size from HB5.out.size) _
              have hN9 : Nods w9 w9.heap.size (.slice A7 ns.length cap7) ns := by
                rw [hs9, ← hw9]
                exact HN8.out.setBool HV8.out
              have hWG9 : WgAt w9 F1 (wo.heap.size + 1) (.slice Aw ws.length capw) ws wo.heap.size cnt8 m8 := by
                have hi9 : Ints w9 w9.heap.size (.slice Aw ws.length capw) ws := Sl.more (Ints.below HWS.out hB9) hB9.size
                rw [← hw9] at hi9 ⊢
                exact R8.out.here.setOther (show w5.heap.size ≠ wo.heap.size + 1 by omega) (show w5.heap.size ≠ wo.heap.size by omega) (fun e => by have := HSLT.out _ e; simp at this; omega) hi9
              have HV9 := hide hV9
              have HB9 := hide hB9
              clear hw9 hs9 hV9 hB9 x0 x1
              refine (step_any F1 (wo.heap.size + 1) _ ws wo.heap.size cnt8 m8 ns k b _ w9 hWG9 (by have := HPL.out; omega) hP.out.lt hN9).mono ?_
              rintro e w10 ⟨v10, rfl, hn10, hB10⟩
              obtain ⟨A10, cap10, hA10⟩ := Sl.form hn10
              subst hA10
              rw [List.length_map] at hn10 ⊢
              have HN10 := hide hn10
              have HWG10 := hide (hWG9.below hB10)
              have HV10 := hide (HV9.out.below hB10)
              have HB10 : Hid (Below w.heap.size w w10) := Below.to HB9.out hB10 (Nat.le_refl _)
              clear hn10 hB10 hWG9 hN9
              go_wp2_with fail
              go_roundw
              case rel =>
                exact ⟨k + 1, ls ++ [b], _, cnt8, m8, by omega, by simp [HLS.out], by go_num, HNX.out, HWG10.out, by have h1 := R8.out.cnt; have h2 := HP13.out; have h3 := HCNT.out; omega, HN10.out, HV10.out, HB10.out⟩
              case measure => simp [intOf]; omega
            · obtain rfl : k = F1.N := by omega
              have hfin := hP.out.finish hls HBIG.out
              have hb := VarAt.bols (l := ls) (by rw [hls]; exact hV.out)
              rw [hls] at hb
              have HFIN := hide hfin
              have HBO := hide hb
              have HLS : Hid (ls.length = F1.N) := hls
              clear hfin hb hls hkl hk
              go_wp2_with fail
              go_ret3
              refine ⟨_, ls, ?_, ?_, ?_, HBO.out, hBq.out⟩
              · rw [HM.out]; rfl
              · have h1 := HFIN.out
                rw [HN1.out] at h1
                rw [HM.out, ← h1]
                congr 1
                funext x
                rw [HVAL.out x]
              · rw [HLS.out, HN1.out]
end Go.Proofs.YtjimbcklnnhloaaDoor
/- The model of the examples; equal variants: walks. -/
namespace Go.Proofs.YtjimbcklnnhloaaDoor
open Go.RowKit
set_option linter.unusedVariables false
set_option linter.unusedSimpArgs false
theorem results_cell1 {P : Program} {fn : Func} {p : Tmp} {ty : TypeId} (h : fn.results = #[.cell p ty]) (tmps : Array Value) (w : World) :
    (results fn tmps).run P w = ((asAddr (tmps.getD p undef)).run P w).andThen fun a w₁ => (loadVar ty a).run P w₁ := by
  simp only [results, h]
  simp [Sem.run_bind, Result.andThen]
  try (congr; done)
theorem sl_box {w : World} {b B n t : Nat} {C : Array Value} {f : Nat → Nat → Value} (hb : w.heap[b]? = some (.cells C t (0, 0))) (hB : b < B) (h : ∀ i, i < n → C[i]? = some (f i 0)) : Sl w B 1 (.slice (some ⟨b, 0, none⟩) n n) n f :=
  ⟨_, b, 0, n, rfl, Nat.le_refl _, .inl ⟨rfl, hB⟩, fun i j hi hj => by
    obtain rfl : j = 0 := by omega
    rw [Nat.mul_one, Nat.add_zero, Nat.zero_add, cellOf hb]
    exact h i hi⟩
theorem ints_box {w : World} {b B t : Nat} {l : List Int} (hb : w.heap[b]? = some (.cells (l.map (Value.int .i64)).toArray t (0, 0))) (hB : b < B) : Ints w B (.slice (some ⟨b, 0, none⟩) l.length l.length) l :=
  sl_box hb hB fun i hi => by simp [hi]
theorem names_box {w : World} {b B t : Nat} {l : List ByteArray} (hb : w.heap[b]? = some (.cells (l.map Value.string).toArray t (0, 0))) (hB : b < B) : Names w B (.slice (some ⟨b, 0, none⟩) l.length l.length) l :=
  sl_box hb hB fun i hi => by simp [hi]
theorem bols_box {w : World} {b B t : Nat} {l : List Bool} (hb : w.heap[b]? = some (.cells (l.map Value.bool).toArray t (0, 0))) (hB : b < B) : Bols w B (.slice (some ⟨b, 0, none⟩) l.length l.length) l :=
  sl_box hb hB fun i hi => by simp [hi]
theorem alloc5 {w w0 : World} {o p q r s : Obj} (h : ((((w.alloc o).alloc p).alloc q).alloc r).alloc s = w0) : w0.heap[w.heap.size]? = some o ∧ w0.heap[w.heap.size + 1]? = some p ∧ w0.heap[w.heap.size + 2]? = some q ∧ w0.heap[w.heap.size + 3]? = some r ∧ w0.heap[w.heap.size + 4]? = some s ∧ Below w.heap.size w w0 ∧ w0.heap.size = w.heap.size + 5 := by
  subst h
  obtain ⟨h0, h1, h2, h3, h4, h5⟩ := alloc4 (rfl : (((w.alloc o).alloc p).alloc q).alloc r = _)
  refine ⟨?_, ?_, ?_, ?_, ?_, Below.allocT h4 (Nat.le_refl _) _, by simp⟩
  · rw [heap_old _ _ _ (by omega)]; exact h0
  · rw [heap_old _ _ _ (by omega)]; exact h1
  · rw [heap_old _ _ _ (by omega)]; exact h2
  · rw [heap_old _ _ _ (by omega)]; exact h3
  · exact heap_new _ _ _ (by omega)
/-- The model of the examples. -/
def exM : Mo := ⟨[⟨#[116, 111, 119]⟩, ⟨#[104, 101, 97, 116]⟩, ⟨#[108, 101, 100]⟩], [[-5, 1, 2], [-3, -4, 0, 2]]⟩
theorem exM_sized : SizedM exM := ⟨by unfold maxLen exM; simp, fun x hx => by
  unfold exM at hx
  simp at hx
  rcases hx with rfl | rfl | rfl <;> (unfold maxLen; decide), ⟨by unfold maxLen exM; simp, fun f hf => by
  unfold exM at hf
  simp at hf
  rcases hf with rfl | rfl <;> (unfold maxLen; decide)⟩⟩
theorem exM_err : exM.err = 0 := by kernel_rfl
set_option maxRecDepth 100000 in
theorem Example_any (w : World) :
    Calls Tryd.prog 12 #[] w fun e w' => ∃ ov rv, e = .returned (.agg #[ov, rv]) ∧ MoAt w' w'.heap.size ov rv exM ∧ Below w.heap.size w w' := by
  go_enter Tryd.func12, Tryd.ntmps12
  go_wp2
  generalize hw0 : World.alloc _ _ = w0
  obtain ⟨h0, h1, h2, h3, h4, hB, hs⟩ := alloc5 hw0
  have e0 := cellOf h0 0
  have e1 := cellOf h0 1
  have hm : MoAt w0 w0.heap.size (.slice (some ⟨w.heap.size + 1, 0, none⟩) 3 3) (.slice (some ⟨w.heap.size + 1 + 1 + 1 + 1, 0, none⟩) 2 2) exM := by
    refine ⟨names_box (l := exM.opts) (t := 9) h1 (by omega), fun i => if i = 0 then .slice (some ⟨w.heap.size + 2, 0, none⟩) 3 3 else .slice (some ⟨w.heap.size + 3, 0, none⟩) 4 4, sl_box h4 (by omega) ?_, ?_⟩
    · intro i hi
      have hi2 : i < 2 := hi
      rcases (by omega : i = 0 ∨ i = 1) with rfl | rfl <;> rfl
    · intro i hi
      have hi2 : i < 2 := hi
      rcases (by omega : i = 0 ∨ i = 1) with rfl | rfl
      · exact ints_box (l := [-5, 1, 2]) h2 (by omega)
      · exact ints_box (l := [-3, -4, 0, 2]) h3 (by omega)
  clear hw0 h0 h1 h2 h3 h4 hs
  refine bodyPost_ret (v := .agg #[.slice (some ⟨w.heap.size + 1, 0, none⟩) 3 3, .slice (some ⟨w.heap.size + 1 + 1 + 1 + 1, 0, none⟩) 2 2]) ?_ rfl ⟨_, _, rfl, hm, hB⟩
  rw [results_cell1 rfl]
  go_simp
set_option maxRecDepth 100000 in
set_option maxHeartbeats 1000000 in
theorem SameVariant_any (a b : List Bool) (u v : Value) (w : World) (ha : Bols w w.heap.size u a) (hb : Bols w w.heap.size v b) (hal : a.length ≤ 1000) (hbl : b.length ≤ maxLen) :
    Calls Tryd.prog 14 #[u, v] w fun e w' => e = .returned (.bool (decide (a = b))) ∧ Below w.heap.size w w' := by
  obtain ⟨A, b0, off, cap, rfl, hnc, hA, hc⟩ := ha
  obtain ⟨A', b1, off1, cap1, rfl, hnc1, hA1, hc1⟩ := hb
  unfold maxLen at hbl
  by_cases hl : a.length = b.length
  · have hl1 : ((a.length : Int) != (b.length : Int)) = false := by simp [hl]
    have HL := hide hl
    have HC := hide hc
    have HC1 := hide hc1
    have HA := hide hA
    have HA1 := hide hA1
    clear hl hc hc1 hA hA1
    go_enter Tryd.func14, Tryd.ntmps14
    go_wp2
    go_loopw [5] (fun i wr => ∃ k : Nat, k ≤ a.length ∧ i = .int .i64 k ∧ Hid (∀ j, j < k → a.getD j false = b.getD j false) ∧ Below w.heap.size w wr) (fun i _ => a.length - (intOf i).toNat)
    case atStart => exact ⟨0, Nat.zero_le _, rfl, fun j hj => by omega, Below.refl _ _⟩
    case round =>
      obtain ⟨k, hk, rfl, hall, hB⟩ := hrel
      by_cases hkl : k < a.length
      · have hkb : k < b.length := by have := HL.out; omega
        obtain ⟨rfl, hbb⟩ : A = some ⟨b0, off, none⟩ ∧ b0 < w.heap.size := by
          rcases HA.out with h | h
          · exact h
          · omega
        obtain ⟨rfl, hbb1⟩ : A' = some ⟨b1, off1, none⟩ ∧ b1 < w.heap.size := by
          rcases HA1.out with h | h
          · exact h
          · omega
        obtain ⟨x, hx⟩ : ∃ x, a.getD k false = x := ⟨_, rfl⟩
        obtain ⟨y, hy⟩ : ∃ y, b.getD k false = y := ⟨_, rfl⟩
        have c0 : wr.cell? ⟨b0, off + k, none⟩ = some (.bool x) := by
          have h1 := HC.out k 0 hkl (by omega)
          rw [Nat.mul_one, Nat.add_zero, hx] at h1
          exact (hB.cell (p := ⟨b0, off + k, none⟩) hbb).trans h1
        have c1 : wr.cell? ⟨b1, off1 + k, none⟩ = some (.bool y) := by
          have h1 := HC1.out k 0 hkb (by omega)
          rw [Nat.mul_one, Nat.add_zero, hy] at h1
          exact (hB.cell (p := ⟨b1, off1 + k, none⟩) hbb1).trans h1
        have hsz := hB.size
        have l0 : b0 < wr.heap.size := by omega
        have l1 : b1 < wr.heap.size := by omega
        have j0 : (0 : Int) ≤ (k : Int) := by omega
        have j1 : (k : Int) < (a.length : Int) := by omega
        have j2 : (k : Int) < (b.length : Int) := by omega
        have HXY := hide (And.intro hx hy)
        clear hx hy
        by_cases hxy : x = y
        · have hne : (!(x == y)) = false := by simp [hxy]
          have HE := hide hxy
          clear hxy
          go_wp2_with fail
          refine wp_region_held_drew (S := (fun w' => Below wr.heap.size wr w')) (by kernel_rfl) ?_ (fun hHeld => ?_)
          · try dsimp only
            exact (by repeat (first | exact Below.refl _ _ | assumption | refine Below.drew ?_ | refine Below.drewN ?_ _ | refine Below.allocT ?_ (Nat.le_refl _) _ | refine Below.setCell ?_ (by simp <;> omega) _ | refine Below.to ?_ (by assumption) (Nat.le_refl _)))
          refine wpAnyH_take (i := 0) (v := ?v1_0) rfl (by kernel_rfl) (by kernel_rfl) (by kernel_rfl) (fun _ _ _ h => h) (Or.inl ⟨by rfl, ?y1_0⟩) (by assumption) ?r1_0
          case' y1_0 => (intro w hSw; (try dsimp only at hSw); (try have hlS := HLK.out _ hSw); obtain ⟨hcS, hfS⟩ := bcell hSw; clear hSw; go_simp; try with_reducible rfl)
          try simp only [Act.put, List.getElem_toArray, List.getElem_cons_succ, List.getElem_cons_zero, List.setIfInBounds_toArray, List.set_cons_zero, List.set_cons_succ]
          refine wpAnyH_take (i := 1) (v := ?v1_1) rfl (by kernel_rfl) (by kernel_rfl) (by kernel_rfl) (fun _ _ _ h => h) (Or.inl ⟨by rfl, ?y1_1⟩) (by assumption) ?r1_1
          case' y1_1 => (intro w hSw; (try dsimp only at hSw); (try have hlS := HLK.out _ hSw); obtain ⟨hcS, hfS⟩ := bcell hSw; clear hSw; go_simp; try with_reducible rfl)
          try simp only [Act.put, List.getElem_toArray, List.getElem_cons_succ, List.getElem_cons_zero, List.setIfInBounds_toArray, List.set_cons_zero, List.set_cons_succ]
          refine wpAnyH_take (i := 2) (v := ?v1_2) rfl (by kernel_rfl) (by kernel_rfl) (by kernel_rfl) (fun _ _ _ h => h) (Or.inl ⟨by rfl, ?y1_2⟩) (by assumption) ?r1_2
          case' y1_2 => (intro w hSw; (try dsimp only at hSw); (try have hlS := HLK.out _ hSw); obtain ⟨hcS, hfS⟩ := bcell hSw; clear hSw; go_simp; try with_reducible rfl)
          try simp only [Act.put, List.getElem_toArray, List.getElem_cons_succ, List.getElem_cons_zero, List.setIfInBounds_toArray, List.set_cons_zero, List.set_cons_succ]
          refine wpAnyH_take (i := 3) (v := ?v1_3) rfl (by kernel_rfl) (by kernel_rfl) (by kernel_rfl) (fun _ _ _ h => h) (Or.inl ⟨by rfl, ?y1_3⟩) (by assumption) ?r1_3
          case' y1_3 => (intro w hSw; (try dsimp only at hSw); (try have hlS := HLK.out _ hSw); obtain ⟨hcS, hfS⟩ := bcell hSw; clear hSw; go_simp; try with_reducible rfl)
          try simp only [Act.put, List.getElem_toArray, List.getElem_cons_succ, List.getElem_cons_zero, List.setIfInBounds_toArray, List.set_cons_zero, List.set_cons_succ]
          refine wpAnyH_take (i := 4) (v := ?v1_4) rfl (by kernel_rfl) (by kernel_rfl) (by kernel_rfl) (fun _ _ _ h => h) (Or.inl ⟨by rfl, ?y1_4⟩) (by assumption) ?r1_4
          case' y1_4 => (intro w hSw; (try dsimp only at hSw); (try have hlS := HLK.out _ hSw); obtain ⟨hcS, hfS⟩ := bcell hSw; clear hSw; go_simp; try with_reducible rfl)
          try simp only [Act.put, List.getElem_toArray, List.getElem_cons_succ, List.getElem_cons_zero, List.setIfInBounds_toArray, List.set_cons_zero, List.set_cons_succ]
          refine wpAnyH_take (i := 5) (v := ?v1_5) rfl (by kernel_rfl) (by kernel_rfl) (by kernel_rfl) (fun _ _ _ h => h) (Or.inl ⟨by rfl, ?y1_5⟩) (by assumption) ?r1_5
          case' y1_5 => (intro w hSw; (try dsimp only at hSw); (try have hlS := HLK.out _ hSw); obtain ⟨hcS, hfS⟩ := bcell hSw; clear hSw; go_simp; try with_reducible rfl)
          try simp only [Act.put, List.getElem_toArray, List.getElem_cons_succ, List.getElem_cons_zero, List.setIfInBounds_toArray, List.set_cons_zero, List.set_cons_succ]
          refine wpAnyH_take (i := 6) (v := ?v1_6) rfl (by kernel_rfl) (by kernel_rfl) (by kernel_rfl) (fun _ _ _ h => h) (Or.inl ⟨by rfl, ?y1_6⟩) (by assumption) ?r1_6
          case' y1_6 => (intro w hSw; (try dsimp only at hSw); (try have hlS := HLK.out _ hSw); obtain ⟨hcS, hfS⟩ := bcell hSw; clear hSw; go_simp; try with_reducible rfl)
          try simp only [Act.put, List.getElem_toArray, List.getElem_cons_succ, List.getElem_cons_zero, List.setIfInBounds_toArray, List.set_cons_zero, List.set_cons_succ]
          refine wpAnyH_take (i := 7) (v := ?v1_7) rfl (by kernel_rfl) (by kernel_rfl) (by kernel_rfl) (fun _ _ _ h => h) (Or.inl ⟨by rfl, ?y1_7⟩) (by assumption) ?r1_7
          case' y1_7 => (intro w hSw; (try dsimp only at hSw); (try have hlS := HLK.out _ hSw); obtain ⟨hcS, hfS⟩ := bcell hSw; clear hSw; go_simp; try with_reducible rfl)
          try simp only [Act.put, List.getElem_toArray, List.getElem_cons_succ, List.getElem_cons_zero, List.setIfInBounds_toArray, List.set_cons_zero, List.set_cons_succ]
          refine wpAnyH_take (i := 8) (v := ?v1_8) rfl (by kernel_rfl) (by kernel_rfl) (by kernel_rfl) (fun _ _ _ h => h) (Or.inl ⟨by rfl, ?y1_8⟩) (by assumption) ?r1_8
          case' y1_8 => (intro w hSw; (try dsimp only at hSw); (try have hlS := HLK.out _ hSw); obtain ⟨hcS, hfS⟩ := bcell hSw; clear hSw; go_simp; try with_reducible rfl)
          try simp only [Act.put, List.getElem_toArray, List.getElem_cons_succ, List.getElem_cons_zero, List.setIfInBounds_toArray, List.set_cons_zero, List.set_cons_succ]
          refine wpAnyH_done (by kernel_rfl) ?_ _
          go_wp2_with fail
          go_roundw
          case rel => exact ⟨k + 1, by omega, by go_num, fun j hj => by
              rcases Nat.lt_or_ge j k with h | h
              · exact hall.out j h
              · rw [show j = k from by omega, HXY.out.1, HXY.out.2, HE.out], Below.to hB hHeld (Nat.le_refl _)⟩
          case measure => simp [intOf]; omega
        · have hne : (!(x == y)) = true := by simpa using hxy
          have HE := hide hxy
          clear hxy
          go_wp2_with fail
          refine wp_region_held_drew (S := (fun w' => Below wr.heap.size wr w')) (by kernel_rfl) ?_ (fun hHeld => ?_)
          · try dsimp only
            exact (by repeat (first | exact Below.refl _ _ | assumption | refine Below.drew ?_ | refine Below.drewN ?_ _ | refine Below.allocT ?_ (Nat.le_refl _) _ | refine Below.setCell ?_ (by simp <;> omega) _ | refine Below.to ?_ (by assumption) (Nat.le_refl _)))
          refine wpAnyH_take (i := 0) (v := ?v2_0) rfl (by kernel_rfl) (by kernel_rfl) (by kernel_rfl) (fun _ _ _ h => h) (Or.inl ⟨by rfl, ?y2_0⟩) (by assumption) ?r2_0
          case' y2_0 => (intro w hSw; (try dsimp only at hSw); (try have hlS := HLK.out _ hSw); obtain ⟨hcS, hfS⟩ := bcell hSw; clear hSw; go_simp; try with_reducible rfl)
          try simp only [Act.put, List.getElem_toArray, List.getElem_cons_succ, List.getElem_cons_zero, List.setIfInBounds_toArray, List.set_cons_zero, List.set_cons_succ]
          refine wpAnyH_take (i := 1) (v := ?v2_1) rfl (by kernel_rfl) (by kernel_rfl) (by kernel_rfl) (fun _ _ _ h => h) (Or.inl ⟨by rfl, ?y2_1⟩) (by assumption) ?r2_1
          case' y2_1 => (intro w hSw; (try dsimp only at hSw); (try have hlS := HLK.out _ hSw); obtain ⟨hcS, hfS⟩ := bcell hSw; clear hSw; go_simp; try with_reducible rfl)
          try simp only [Act.put, List.getElem_toArray, List.getElem_cons_succ, List.getElem_cons_zero, List.setIfInBounds_toArray, List.set_cons_zero, List.set_cons_succ]
          refine wpAnyH_take (i := 2) (v := ?v2_2) rfl (by kernel_rfl) (by kernel_rfl) (by kernel_rfl) (fun _ _ _ h => h) (Or.inl ⟨by rfl, ?y2_2⟩) (by assumption) ?r2_2
          case' y2_2 => (intro w hSw; (try dsimp only at hSw); (try have hlS := HLK.out _ hSw); obtain ⟨hcS, hfS⟩ := bcell hSw; clear hSw; go_simp; try with_reducible rfl)
          try simp only [Act.put, List.getElem_toArray, List.getElem_cons_succ, List.getElem_cons_zero, List.setIfInBounds_toArray, List.set_cons_zero, List.set_cons_succ]
          refine wpAnyH_take (i := 3) (v := ?v2_3) rfl (by kernel_rfl) (by kernel_rfl) (by kernel_rfl) (fun _ _ _ h => h) (Or.inl ⟨by rfl, ?y2_3⟩) (by assumption) ?r2_3
          case' y2_3 => (intro w hSw; (try dsimp only at hSw); (try have hlS := HLK.out _ hSw); obtain ⟨hcS, hfS⟩ := bcell hSw; clear hSw; go_simp; try with_reducible rfl)
          try simp only [Act.put, List.getElem_toArray, List.getElem_cons_succ, List.getElem_cons_zero, List.setIfInBounds_toArray, List.set_cons_zero, List.set_cons_succ]
          refine wpAnyH_take (i := 4) (v := ?v2_4) rfl (by kernel_rfl) (by kernel_rfl) (by kernel_rfl) (fun _ _ _ h => h) (Or.inl ⟨by rfl, ?y2_4⟩) (by assumption) ?r2_4
          case' y2_4 => (intro w hSw; (try dsimp only at hSw); (try have hlS := HLK.out _ hSw); obtain ⟨hcS, hfS⟩ := bcell hSw; clear hSw; go_simp; try with_reducible rfl)
          try simp only [Act.put, List.getElem_toArray, List.getElem_cons_succ, List.getElem_cons_zero, List.setIfInBounds_toArray, List.set_cons_zero, List.set_cons_succ]
          refine wpAnyH_take (i := 5) (v := ?v2_5) rfl (by kernel_rfl) (by kernel_rfl) (by kernel_rfl) (fun _ _ _ h => h) (Or.inl ⟨by rfl, ?y2_5⟩) (by assumption) ?r2_5
          case' y2_5 => (intro w hSw; (try dsimp only at hSw); (try have hlS := HLK.out _ hSw); obtain ⟨hcS, hfS⟩ := bcell hSw; clear hSw; go_simp; try with_reducible rfl)
          try simp only [Act.put, List.getElem_toArray, List.getElem_cons_succ, List.getElem_cons_zero, List.setIfInBounds_toArray, List.set_cons_zero, List.set_cons_succ]
          refine wpAnyH_take (i := 6) (v := ?v2_6) rfl (by kernel_rfl) (by kernel_rfl) (by kernel_rfl) (fun _ _ _ h => h) (Or.inl ⟨by rfl, ?y2_6⟩) (by assumption) ?r2_6
          case' y2_6 => (intro w hSw; (try dsimp only at hSw); (try have hlS := HLK.out _ hSw); obtain ⟨hcS, hfS⟩ := bcell hSw; clear hSw; go_simp; try with_reducible rfl)
          try simp only [Act.put, List.getElem_toArray, List.getElem_cons_succ, List.getElem_cons_zero, List.setIfInBounds_toArray, List.set_cons_zero, List.set_cons_succ]
          refine wpAnyH_take (i := 7) (v := ?v2_7) rfl (by kernel_rfl) (by kernel_rfl) (by kernel_rfl) (fun _ _ _ h => h) (Or.inl ⟨by rfl, ?y2_7⟩) (by assumption) ?r2_7
          case' y2_7 => (intro w hSw; (try dsimp only at hSw); (try have hlS := HLK.out _ hSw); obtain ⟨hcS, hfS⟩ := bcell hSw; clear hSw; go_simp; try with_reducible rfl)
          try simp only [Act.put, List.getElem_toArray, List.getElem_cons_succ, List.getElem_cons_zero, List.setIfInBounds_toArray, List.set_cons_zero, List.set_cons_succ]
          refine wpAnyH_take (i := 8) (v := ?v2_8) rfl (by kernel_rfl) (by kernel_rfl) (by kernel_rfl) (fun _ _ _ h => h) (Or.inl ⟨by rfl, ?y2_8⟩) (by assumption) ?r2_8
          case' y2_8 => (intro w hSw; (try dsimp only at hSw); (try have hlS := HLK.out _ hSw); obtain ⟨hcS, hfS⟩ := bcell hSw; clear hSw; go_simp; try with_reducible rfl)
          try simp only [Act.put, List.getElem_toArray, List.getElem_cons_succ, List.getElem_cons_zero, List.setIfInBounds_toArray, List.set_cons_zero, List.set_cons_succ]
          refine wpAnyH_done (by kernel_rfl) ?_ _
          go_wp2_with fail
          go_ret
          refine ⟨ret_bool (Eq.symm (decide_eq_false fun e => HE.out ?_)), (by repeat (first | exact Below.refl _ _ | assumption | refine Below.drew ?_ | refine Below.drewN ?_ _ | refine Below.allocT ?_ (Nat.le_refl _) _ | refine Below.setCell ?_ (by simp <;> omega) _ | refine Below.to ?_ (by assumption) (Nat.le_refl _)))⟩
          rw [← HXY.out.1, ← HXY.out.2, e]
      · obtain rfl : k = a.length := by omega
        go_wp2
        go_ret
        refine ⟨ret_bool (Eq.symm (decide_eq_true ?_)), hB⟩
        apply List.ext_getElem HL.out
        intro i h1 h2
        have := hall.out i h1
        simpa [List.getD_eq_getElem?_getD, h1, h2] using this
  · have hl1 : ((a.length : Int) != (b.length : Int)) = true := by simp; omega
    have HL := hide hl
    clear hl hc hc1 hA hA1
    go_enter Tryd.func14, Tryd.ntmps14
    go_wp2
    go_ret
    exact ⟨ret_bool (Eq.symm (decide_eq_false fun e => HL.out (by rw [e]))), (by repeat (first | exact Below.refl _ _ | assumption | refine Below.drew ?_ | refine Below.drewN ?_ _ | refine Below.allocT ?_ (Nat.le_refl _) _ | refine Below.setCell ?_ (by simp <;> omega) _ | refine Below.to ?_ (by assumption) (Nat.le_refl _)))⟩
end Go.Proofs.YtjimbcklnnhloaaDoor
/- The examples of the laws: walk. -/
namespace Go.Proofs.YtjimbcklnnhloaaDoor
open Go.RowKit
set_option linter.unusedVariables false
set_option linter.unusedSimpArgs false
theorem exM_err1 : exM.errF [[-1]] = 0 := by kernel_rfl
theorem exM_err3 : exM.errF [[1], [2], [0]] = 0 := by kernel_rfl
theorem exM_four : (satM exM fun v => evF1 v [-1]).length = 4 := by kernel_rfl
theorem exM_all : (satM exM fun _ => true).length = 4 := by kernel_rfl
theorem exM_sat : satM exM (fun _ => true) ≠ [] := by
  intro e
  have h := exM_all
  rw [e] at h
  cases h
theorem exM_five : bestF exM [[1], [2], [0]] [3, 2, 2] = 5 := by kernel_rfl
theorem exM_find : (exts exM.opts.length []).find? (fun y => valF exM [[1], [2], [0]] [3, 2, 2] y == bestF exM [[1], [2], [0]] [3, 2, 2]) = some [false, true, true] := by kernel_rfl
set_option maxRecDepth 100000 in
set_option maxHeartbeats 2000000 in
theorem works_any (w : World) :
    Calls Tryd.prog 5 #[] w fun e w' => e = .returned (.bool true) ∧ Below w.heap.size w w' := by
  go_enter Tryd.func5, Tryd.ntmps5
  go_upto_region 2 with (first
    | (go_at_call 12; refine (Example_any w).mono ?_; rintro e w1 ⟨ov, rv, rfl, hm1, hB1⟩; have HM1 := hide hm1; clear hm1)
    | (go_at_call 11; refine (Count_ok exM [-1] _ _ _ _ exM_sized (by unfold maxLen; decide) (HM1.out.up (Below.allocT (Below.refl _ _) (Nat.le_refl _) _)) (ints_box (l := [-1]) (heap_new _ _ _ rfl) (by simp)) exM_err1 (by decide)).mono ?_; rw [exM_four]; rintro e w2 ⟨rfl, hB2⟩; have HB2 : Hid (Below w.heap.size w w2) := (by repeat (first | exact Below.refl _ _ | assumption | refine Below.drew ?_ | refine Below.drewN ?_ _ | refine Below.allocT ?_ (Nat.le_refl _) _ | refine Below.setCell ?_ (by simp <;> omega) _ | refine Below.to ?_ (by assumption) (Nat.le_refl _))); clear hB1 hB2 HM1))
  go_upto_region 3 with (first
    | (go_at_call 12; refine (Example_any w2).mono ?_; rintro e w3 ⟨ov3, rv3, rfl, hm3, hB3⟩; have HM3 := hide hm3; clear hm3)
    | (go_at_call 13; generalize hw0 : World.alloc _ _ = w0; obtain ⟨h0, h1, h2, h3, h4, hB4, hs4⟩ := alloc5 hw0; clear hw0; refine (Most_ok exM [[1], [2], [0]] [3, 2, 2] _ _ _ _ w0 exM_sized ⟨by unfold maxLen; decide, by unfold maxLen; decide⟩ (HM3.out.up hB4) ⟨fun i => .slice (some ⟨w3.heap.size + i, 0, none⟩) 1 1, sl_box h3 (by omega) ?_, ?_⟩ (ints_box (l := [3, 2, 2]) h4 (by omega)) exM_err3 (by decide) (by decide) rfl (by decide) exM_sat).mono ?_))
  · intro i hi
    have hi3 : i < 3 := hi
    rcases (by omega : i = 0 ∨ i = 1 ∨ i = 2) with rfl | rfl | rfl <;> rfl
  · intro i hi
    have hi3 : i < 3 := hi
    rcases (by omega : i = 0 ∨ i = 1 ∨ i = 2) with rfl | rfl | rfl
    · exact ints_box (l := [1]) h0 (by omega)
    · exact ints_box (l := [2]) h1 (by omega)
    · exact ints_box (l := [0]) h2 (by omega)
  · unfold MostR
    rw [exM_find, exM_five]
    rintro e w4 ⟨v4, x4, rfl, hx4, hl4, hb4, hB5⟩
    injection hx4 with hx4
    subst hx4
    have HB4 := hide hb4
    have HBX : Hid (Below w.heap.size w w4) := Below.to HB2.out (Below.to (Below.to (Below.refl _ _) hB3 (Nat.le_refl _)) (Below.to hB4 hB5 (Nat.le_refl _)) (Nat.le_refl _)) (Nat.le_refl _)
    clear h0 h1 h2 h3 h4 hB4 hs4 HM3 hB3 hB5 hb4 hl4 HB2
    go_wp2_with (go_at_call 14; refine (SameVariant_any [false, true, true] [false, true, true] _ _ _ (Sl.up HB4.out (Below.allocT (Below.refl _ _) (Nat.le_refl _) _)) (bols_box (l := [false, true, true]) (heap_new _ _ _ rfl) (by simp)) (by decide) (by unfold maxLen; decide)).mono ?_; rintro e w5 ⟨rfl, hB6⟩)
    go_ret
    exact ⟨rfl, Below.to (Below.allocT HBX.out (Nat.le_refl _) _) hB6 (Nat.le_refl _)⟩
end Go.Proofs.YtjimbcklnnhloaaDoor
/- Lemmas for the frame of a law, as the guide's pages lay them for copying, and some of my own: no condition. -/
namespace Go.Proofs.YtjimbcklnnhloaaDoor
open Go.Joins Go.ChangeShapes Go.WideShapes Go.ChangeAt Go.RowKit Go.Deep

section
variable {H : Type} {enc : TypeId × Value → H} {P : Program}
theorem post_of_below {f : Func} {s : ChangeSpec} {apart fresh handsOn again : Bool} {W W' : World} {args : Array Value} {v : Value} {ds gs : List (DataW H)} {before pa pv : List MemPlace}
    (hW : DataW.Whole enc P f.params.toList s.vars apart W args.toList ds gs before)
    (hres : ∀ (b : Nat) (sp : Nat → Bool) (hd : Bool), DataW.TrodAll enc P W' b sp hd f.resultTypes.toList (v.resultList f.resultTypes.size) (s.fn H (ds ++ gs)).results [])
    (hargs : ∀ sp : Nat → Bool, (∀ p ∈ before, sp p.block = true) → DataW.TrodAll enc P W' 0 sp true f.params.toList args.toList (s.fn H (ds ++ gs)).args pa)
    (hvars : ∀ sp : Nat → Bool, (∀ p ∈ before, sp p.block = true) → DataW.TrodVars enc P W' sp s.vars (s.fn H (ds ++ gs)).vars pv)
    (hps : before = pa ++ pv) (hb : Below W.heap.size W W')
    (hok : ∀ (j : Nat) (t : TypeId) (r : Value), f.resultTypes[j]? = some t → (v.resultList f.resultTypes.size)[j]? = some r → Value.okWide P W' .any 0 t r) :
    s.post enc P f apart fresh handsOn again W args v W' := by
  have hlt : ∀ p ∈ before, p.block < W.heap.size := fun p hp => hW.lt p hp
  have hold : ∀ p ∈ before, (fun b => decide (b < W.heap.size)) p.block = true := fun p hp => by simpa using hlt p hp
  refine ⟨ds, gs, before, [], pa, pv, hW, hres _ _ _, hargs _ hold, hvars _ hold, World.keptBut_mono (fun p hp => ⟨hp, ?_⟩) (hb.frame (· ∈ before)), fun _ => ?_⟩
  · rw [hps, List.mem_append] at hp
    exact Or.inr hp
  · obtain ⟨_, _, _, _, _, hz, hn⟩ := hW
    refine ⟨hok, _, _, ([] ++ pa) ++ pv, ⟨[] ++ pa, pv, trodAll_append (hargs _ (fun _ _ => rfl)) (hres _ _ _), hvars _ (fun _ _ => rfl), rfl, ?_, ?_⟩, ?_⟩
    · intro b off hp
      have hin : MemPlace.cell b off ∈ before := by rw [hps]; simpa using hp
      rw [hb.frozen (hlt _ hin)]
      exact hz b off hin
    · intro ha
      have := hn ha
      rw [hps] at this
      simpa using this
    · intro p hp _
      rw [hps]
      simpa using hp

/-- Arguments read as they did, where nothing below the old heap has changed. -/
theorem trodAll_stays (hl : laidOutB P = true) {W W' : World} (hb : Below W.heap.size W W') (sp : Nat → Bool) : ∀ (ts : List TypeId) (vs : List Value) (ds : List (DataW H)) (ps : List MemPlace),
    (∀ t ∈ ts, P.readableRec t = true ∧ t < P.types.size) → DataW.TrodAll enc P W 0 (fun _ => true) true ts vs ds ps → (∀ x ∈ ps, x.block < W.heap.size) → (∀ x ∈ ps, sp x.block = true) → DataW.TrodAll enc P W' 0 sp true ts vs ds ps
  | [], [], [], _, _, h, _, _ => h
  | t :: ts, v :: vs, d :: ds, ps, hr, ⟨p, q, h1, h2, hp⟩, hlt, hsp => by
    subst hp
    refine ⟨p, q, ?_, trodAll_stays hl hb sp ts vs ds q (fun t' ht => hr t' (List.mem_cons_of_mem _ ht)) h2 (fun x hx => hlt x (List.mem_append_right _ hx)) (fun x hx => hsp x (List.mem_append_right _ hx)), rfl⟩
    have h := hr t (List.mem_cons_self ..)
    exact WideElems.Trod_stays hl h.1 h.2 h1 (fun x hx => hb.same (hlt x (List.mem_append_left _ hx))) (fun x hx => hsp x (List.mem_append_left _ hx))
end

section
variable {H : Type} {enc : TypeId × Value → H} {P : Program} {w : World} {base : Nat} {spare : Nat → Bool} {held : Bool}
theorem open_slice_fields {t e : TypeId} {fs : Array Field} {fuel : Nat} {cs : List Value} {x : DataW H × List MemPlace} (ht : P.underlying t = some (.slice e)) (he : P.underlying e = some (.struct fs))
    (hone : oneCellFields P fs = true) (hC : P.cellsOf e = fs.size) (h : DataW.trod enc P w base spare held fuel t cs = some x) :
    (cs = [.slice none 0 0] ∧ x = (.nil, [])) ∨
    ∃ (a : Addr) (len cap m : Nat) (D : Nat → DataW H) (Pl : Nat → List MemPlace), cs = [.slice (some a) len cap] ∧ base ≤ a.block ∧ len ≤ cap ∧ cap ≤ maxLen ∧ m = (if spare a.block then cap else len) ∧
      x = (.slice ((List.range len).map D) ((List.range (m - len)).map fun j => D (len + j)), MemPlace.row a (m * fs.size) ++ (List.range m).flatMap Pl) ∧
      ∀ i, i < m → ∃ (ys : List (DataW H × List MemPlace)) (n : Nat), D i = .agg (ys.map (·.1)) ∧ Pl i = ys.flatMap (·.2) ∧ ys.length = fs.size ∧
        ∀ (j : Nat) (f : Field), fs[j]? = some f → ∃ (v : Value) (y : DataW H × List MemPlace), w.cell? (a.add (i * fs.size + j)) = some v ∧ ys[j]? = some y ∧ DataW.trod enc P w base spare held n f.type [v] = some y := by
  rcases open_slice ht h with h0 | ⟨a, len, cap, m, n, D, Pl, hcs, hb, hl, hm, hmm, hx, hi⟩
  · exact .inl h0
  · refine .inr ⟨a, len, cap, m, D, Pl, hcs, hb, hl, hm, hmm, by rw [hC] at hx; exact hx, fun i him => ?_⟩
    obtain ⟨cs', hc, ht'⟩ := hi i him
    rw [hC] at hc
    obtain ⟨ys, n', hn', hy, hlen, hyl, hf⟩ := DataW.trod_struct he ht'
    obtain ⟨_, hcl, hat⟩ := World.cells?_some hc
    simp only [Prod.mk.injEq] at hy
    refine ⟨ys, n', hy.1, hy.2, hyl, fun j f hj => ?_⟩
    obtain ⟨ho, hk⟩ := hone_of hone j f hj
    have hjl : j < fs.size := (Array.getElem?_eq_some_iff.1 hj).1
    have hcell := hat j hjl
    have hv : cs'[j]? = some (cs'[j]'(by omega)) := List.getElem?_eq_getElem (by omega)
    have h1 := hf j f hj
    rw [ho, hk] at h1
    have hone' : (cs'.drop j).take 1 = [cs'[j]'(by omega)] := by
      rw [List.drop_eq_getElem_cons (by omega)]
      rfl
    rw [hone'] at h1
    have hys : ys[j]? = some (ys[j]'(by omega)) := List.getElem?_eq_getElem (by omega)
    refine ⟨_, _, ?_, hys, h1.trans hys⟩
    rw [← Go.Deep.add_add, hcell, hv]

theorem open_agg5 {r : Reach} {b0 : Nat} {t : TypeId} {f0 f1 f2 f3 f4 : Field} {v : Value} {d : DataW H} {p : List MemPlace} (hs : P.underlying t = some (.struct #[f0, f1, f2, f3, f4])) (hone : oneCellFields P #[f0, f1, f2, f3, f4] = true) (hC : P.cellsOf t = 5)
    (hv : Value.okWide P w r b0 t v) (h : DataW.Trod enc P w base spare held t v d p) :
    ∃ (v0 v1 v2 v3 v4 : Value) (y0 y1 y2 y3 y4 : DataW H × List MemPlace) (n : Nat), v = .agg #[v0, v1, v2, v3, v4] ∧ d = .agg [y0.1, y1.1, y2.1, y3.1, y4.1] ∧ p = y0.2 ++ (y1.2 ++ (y2.2 ++ (y3.2 ++ y4.2))) ∧
      DataW.trod enc P w base spare held n f0.type [v0] = some y0 ∧ DataW.trod enc P w base spare held n f1.type [v1] = some y1 ∧ DataW.trod enc P w base spare held n f2.type [v2] = some y2 ∧ DataW.trod enc P w base spare held n f3.type [v3] = some y3 ∧ DataW.trod enc P w base spare held n f4.type [v4] = some y4 := by
  obtain ⟨cs, rfl, hsz⟩ := okWide_struct hs hv
  obtain ⟨l⟩ := cs
  match l, hsz.trans hC with
  | [c0, c1, c2, c3, c4], _ =>
    obtain ⟨fuel, hf⟩ := h
    obtain ⟨xs, n, _, hx, _, hlen, hg⟩ := DataW.trod_struct hs hf
    obtain ⟨o0, k0⟩ := hone_of hone 0 f0 rfl
    obtain ⟨o1, k1⟩ := hone_of hone 1 f1 rfl
    obtain ⟨o2, k2⟩ := hone_of hone 2 f2 rfl
    obtain ⟨o3, k3⟩ := hone_of hone 3 f3 rfl
    obtain ⟨o4, k4⟩ := hone_of hone 4 f4 rfl
    match xs, hlen with
    | [y0, y1, y2, y3, y4], _ =>
      simp only [Prod.mk.injEq] at hx
      exact ⟨c0, c1, c2, c3, c4, y0, y1, y2, y3, y4, n, rfl, by simpa using hx.1, by simpa using hx.2, by simpa [Value.cells, o0, k0] using hg 0 f0 rfl, by simpa [Value.cells, o1, k1] using hg 1 f1 rfl, by simpa [Value.cells, o2, k2] using hg 2 f2 rfl, by simpa [Value.cells, o3, k3] using hg 3 f3 rfl, by simpa [Value.cells, o4, k4] using hg 4 f4 rfl⟩
end
end Go.Proofs.YtjimbcklnnhloaaDoor
/- A slice argument opened, whatever its elements are: each element by a law of its own. No condition. -/
namespace Go.Proofs.YtjimbcklnnhloaaDoor
open Go.Joins Go.ChangeShapes Go.WideShapes Go.ChangeAt Go.RowKit Go.Deep

theorem choose_upto {α : Type} (z : α) {n : Nat} {Q : Nat → α → Prop} (h : ∀ i, i < n → ∃ x, Q i x) : ∃ xs : List α, xs.length = n ∧ ∀ i, i < n → Q i (xs.getD i z) := by
  induction n with
  | zero => exact ⟨[], rfl, fun i hi => absurd hi (by omega)⟩
  | succ n ih =>
    obtain ⟨xs, hl, hx⟩ := ih fun i hi => h i (by omega)
    obtain ⟨y, hy⟩ := h n (by omega)
    refine ⟨xs ++ [y], by simp [hl], fun i hi => ?_⟩
    rcases Nat.lt_or_ge i n with h1 | h1
    · have := hx i h1
      rw [List.getD_eq_getElem?_getD, List.getElem?_append_left (by omega), ← List.getD_eq_getElem?_getD]
      exact this
    · have he : i = n := by omega
      subst he
      rw [List.getD_eq_getElem?_getD, List.getElem?_append_right (by omega), hl]
      simpa using hy

section
variable {H : Type} {enc : TypeId × Value → H} {P : Program} {w : World} {base : Nat} {spare : Nat → Bool} {held : Bool}
theorem addr_of_cell {a : Addr} {u : Value} (h : w.cell? (a.add 0) = some u) : a.spot = none ∧ a.block < w.heap.size := by
  have h' : w.cell? a = some u := h
  unfold World.cell? at h'
  cases hh : w.heap[a.block]? with
  | none => rw [hh] at h'; cases h'
  | some o =>
    refine ⟨?_, (Array.getElem?_eq_some_iff.1 hh).1⟩
    rw [hh] at h'
    cases o with
    | cells c t f =>
      simp only at h'
      cases hsp : a.spot with
      | none => rfl
      | some q => rw [if_pos (by simp [hsp])] at h'; cases h'
    | _ => cases h'
theorem cell_of_add {a : Addr} {m : Nat} {u : Value} (hs : a.spot = none) (h : w.cell? (a.add m) = some u) : w.cell? ⟨a.block, a.off + m, none⟩ = some u := by
  obtain ⟨b, o, s⟩ := a
  simp only at hs
  subst hs
  unfold Addr.add at h
  split at h
  · rename_i h0
    rw [h0]; exact h
  · exact h

theorem open_rows {α : Type} (z : α) (F : α → Nat → Value) (R : α → Prop) {t e : TypeId} {sz n : Nat} {c : Value} {y : DataW H × List MemPlace} (ht : P.underlying t = some (.slice e)) (hC : P.cellsOf e = sz) (hsz : 0 < sz)
    (hopen : ∀ (n : Nat) (cs' : List Value) (y : DataW H × List MemPlace), cs'.length = sz → DataW.trod enc P w base spare held n e cs' = some y → ∃ x : α, (∀ j, j < sz → cs'[j]? = some (F x j)) ∧ R x)
    (h : DataW.trod enc P w base spare held n t [c] = some y) :
    ∃ xs : List α, Sl w w.heap.size sz c xs.length (fun i j => F (xs.getD i z) j) ∧ xs.length ≤ maxLen ∧ ∀ i, i < xs.length → R (xs.getD i z) := by
  rcases open_slice ht h with ⟨hcs, _⟩ | ⟨a, len, cap, m, n', D, Pl, hcs, _, hl, hm, hmm, _, hel⟩
  · simp at hcs
    subst hcs
    exact ⟨[], Sl.nil _ _ _ _, by simp, fun i hi => absurd hi (by simp)⟩
  · simp at hcs
    subst hcs
    have hlm : len ≤ m := by rw [hmm]; split <;> omega
    have hx : ∀ i, i < len → ∃ x : α, (∀ j, j < sz → w.cell? (a.add (i * sz + j)) = some (F x j)) ∧ R x := by
      intro i hi
      obtain ⟨cs', hc, ht'⟩ := hel i (by omega)
      rw [hC] at hc
      obtain ⟨_, hcl, hat⟩ := World.cells?_some hc
      obtain ⟨x, hx, hr⟩ := hopen _ _ _ hcl ht'
      refine ⟨x, fun j hj => ?_, hr⟩
      rw [← Go.Deep.add_add, hat j hj]
      exact hx j hj
    obtain ⟨xs, hlen, hxs⟩ := choose_upto z hx
    refine ⟨xs, ?_, by omega, fun i hi => (hxs i (by omega)).2⟩
    rw [hlen]
    rcases Nat.eq_zero_or_pos len with h0 | h0
    · exact ⟨_, 0, 0, _, rfl, hl, .inr h0, fun i j hi => absurd hi (by omega)⟩
    · have h1 := (hxs 0 h0).1 0 hsz
      rw [Nat.zero_mul] at h1
      obtain ⟨hs, hb⟩ := addr_of_cell h1
      exact ⟨_, a.block, a.off, _, rfl, hl, .inl ⟨by rw [← hs], hb⟩, fun i j hi hj => cell_of_add hs ((hxs i hi).1 j hj)⟩
end
end Go.Proofs.YtjimbcklnnhloaaDoor
/- The arguments of the laws about options, opened: no condition. -/
namespace Go.Proofs.YtjimbcklnnhloaaDoor
open Go.Joins Go.ChangeShapes Go.WideShapes Go.ChangeAt Go.RowKit Go.Deep
set_option maxRecDepth 100000
set_option linter.unusedVariables false
set_option linter.unusedSimpArgs false
section
variable {H : Type} {enc : TypeId × Value → H} {W : World} {base b0 : Nat} {r : Reach} {spare : Nat → Bool} {held : Bool} {v : Value} {d : DataW H} {p : List MemPlace}
def I64 (n : Int) : Prop := -9223372036854775808 ≤ n ∧ n ≤ 9223372036854775807
theorem I64.of {n : Int} (h : (Lit.int .i64 n).wf = true) : I64 n := by
  simp [Lit.wf, IntKind.min, IntKind.max, IntKind.signed, IntKind.bits] at h
  exact ⟨by omega, by omega⟩
theorem int_cell {n : Nat} {c : Value} {y : DataW H × List MemPlace} (h : DataW.trod enc Tryd.prog W base spare held n 3 [c] = some y) : ∃ a, c = .int .i64 a ∧ I64 a := by
  obtain ⟨a, e0, _, wa⟩ := DataW.trod_int Tryd.underlying3 h
  simp at e0
  exact ⟨a, e0, I64.of wa⟩
theorem cellsInt : Tryd.prog.cellsOf 3 = 1 := by kernel_rfl
theorem cellsStr : Tryd.prog.cellsOf 9 = 1 := by kernel_rfl
theorem cellsFo : Tryd.prog.cellsOf 28 = 1 := by kernel_rfl
theorem ints_cell {t n : Nat} {c : Value} {y : DataW H × List MemPlace} (ht : Tryd.prog.underlying t = some (.slice 3)) (h : DataW.trod enc Tryd.prog W base spare held n t [c] = some y) :
    ∃ f : List Int, Ints W W.heap.size c f ∧ f.length ≤ maxLen ∧ ∀ x ∈ f, I64 x := by
  obtain ⟨xs, hsl, hl, hR⟩ := open_rows (α := Int) 0 (fun x _ => .int .i64 x) I64 ht cellsInt (by omega) (by
    intro n cs' y hlen ht
    match cs', hlen with
    | [c0], _ =>
      obtain ⟨a, rfl, ha⟩ := int_cell ht
      refine ⟨a, fun j hj => ?_, ha⟩
      match j, hj with
      | 0, _ => rfl) h
  refine ⟨xs, hsl, hl, fun x hx => ?_⟩
  obtain ⟨i, hi, rfl⟩ := List.mem_iff_getElem.1 hx
  have := hR i hi
  rwa [List.getD_eq_getElem?_getD, List.getElem?_eq_getElem hi, Option.getD_some] at this
theorem strs_cell {t n : Nat} {c : Value} {y : DataW H × List MemPlace} (ht : Tryd.prog.underlying t = some (.slice 9)) (h : DataW.trod enc Tryd.prog W base spare held n t [c] = some y) :
    ∃ f : List ByteArray, Names W W.heap.size c f ∧ f.length ≤ maxLen ∧ ∀ x ∈ f, x.size ≤ maxLen := by
  obtain ⟨xs, hsl, hl, hR⟩ := open_rows (α := ByteArray) ByteArray.empty (fun x _ => .string x) (fun x => x.size ≤ maxLen) ht cellsStr (by omega) (by
    intro n cs' y hlen ht
    match cs', hlen with
    | [c0], _ =>
      obtain ⟨s, h1, _, h3⟩ := DataW.trod_string Tryd.underlying9 ht
      simp at h1
      subst h1
      refine ⟨s, fun j hj => ?_, h3⟩
      match j, hj with
      | 0, _ => rfl) h
  refine ⟨xs, hsl, hl, fun x hx => ?_⟩
  obtain ⟨i, hi, rfl⟩ := List.mem_iff_getElem.1 hx
  have := hR i hi
  rwa [List.getD_eq_getElem?_getD, List.getElem?_eq_getElem hi, Option.getD_some] at this
theorem forms_cell {t n : Nat} {c : Value} {y : DataW H × List MemPlace} (ht : Tryd.prog.underlying t = some (.slice 28)) (h : DataW.trod enc Tryd.prog W base spare held n t [c] = some y) :
    ∃ fs : List (List Int), Forms W W.heap.size c fs ∧ Sized fs := by
  obtain ⟨xs, hsl, hl, hR⟩ := open_rows (α := List Int × Value) ([], .slice none 0 0) (fun x _ => x.2) (fun x => Ints W W.heap.size x.2 x.1 ∧ x.1.length ≤ maxLen) ht cellsFo (by omega) (by
    intro n cs' y hlen ht
    match cs', hlen with
    | [c0], _ =>
      obtain ⟨f, hf, hfl, _⟩ := ints_cell Tryd.underlying28 ht
      refine ⟨(f, c0), fun j hj => ?_, hf, hfl⟩
      match j, hj with
      | 0, _ => rfl) h
  have hg : ∀ i, i < xs.length → (xs.map (·.1)).getD i [] = (xs.getD i ([], .slice none 0 0)).1 := fun i hi => by simp [hi]
  refine ⟨xs.map (·.1), ⟨fun i => (xs.getD i ([], .slice none 0 0)).2, ?_, fun i hi => ?_⟩, by simpa using hl, fun f hf => ?_⟩
  · rw [List.length_map]
    exact hsl
  · rw [List.length_map] at hi
    rw [hg i hi]
    exact (hR i hi).1
  · obtain ⟨x, hx, rfl⟩ := List.mem_map.1 hf
    obtain ⟨i, hi, rfl⟩ := List.mem_iff_getElem.1 hx
    have := (hR i hi).2
    rwa [List.getD_eq_getElem?_getD, List.getElem?_eq_getElem hi, Option.getD_some] at this
theorem open_model (hv : Value.okWide Tryd.prog W r b0 25 v) (h : DataW.Trod enc Tryd.prog W base spare held 25 v d p) :
    ∃ (ov rv : Value) (m : Mo), v = .agg #[ov, rv] ∧ MoAt W W.heap.size ov rv m ∧ SizedM m := by
  obtain ⟨c0, c1, y0, y1, n, rfl, _, _, hy0, hy1⟩ := open_agg2 Tryd.underlying25 (by kernel_rfl) (by kernel_rfl) hv h
  obtain ⟨os, ho, hol, hos⟩ := strs_cell Tryd.underlying22 hy0
  obtain ⟨fs, hf, hfs⟩ := forms_cell Tryd.underlying23 hy1
  exact ⟨c0, c1, ⟨os, fs⟩, rfl, ⟨ho, hf⟩, ⟨hol, hos, hfs⟩⟩
theorem open_formula {t : Nat} (ht : Tryd.prog.underlying t = some (.slice 3)) (hv : Value.okWide Tryd.prog W r b0 t v) (h : DataW.Trod enc Tryd.prog W base spare held t v d p) :
    ∃ f : List Int, Ints W W.heap.size v f ∧ f.length ≤ maxLen ∧ ∀ x ∈ f, I64 x := by
  obtain ⟨a0, len, cap, rfl⟩ := okWide_slice ht hv
  obtain ⟨fuel, hf⟩ := h
  exact ints_cell ht hf
theorem open_forms {t : Nat} (ht : Tryd.prog.underlying t = some (.slice 28)) (hv : Value.okWide Tryd.prog W r b0 t v) (h : DataW.Trod enc Tryd.prog W base spare held t v d p) :
    ∃ fs : List (List Int), Forms W W.heap.size v fs ∧ Sized fs := by
  obtain ⟨a0, len, cap, rfl⟩ := okWide_slice ht hv
  obtain ⟨fuel, hf⟩ := h
  exact forms_cell ht hf
end
end Go.Proofs.YtjimbcklnnhloaaDoor
/- The text of a formula, and how a text is read: plain laws. -/
namespace Go.Proofs.YtjimbcklnnhloaaDoor
set_option linter.unusedVariables false
/-- A term. -/
inductive Tm where
  | opt (i : Nat)
  | yes
  | no
  | not (t : Tm)
  | bin (k : Nat) (a b : Tm)
def Tm.enc : Tm → List Int
  | .opt i => [(i : Int)]
  | .yes => [-1]
  | .no => [-2]
  | .not t => -3 :: t.enc
  | .bin k a b => (-4 - (k : Int)) :: (a.enc ++ b.enc)
def Tm.ok (N : Nat) : Tm → Prop
  | .opt i => i < N
  | .yes => True
  | .no => True
  | .not t => t.ok N
  | .bin k a b => k < 3 ∧ a.ok N ∧ b.ok N
/-- The sign of an operator with two operands. -/
def sgnT (k : Nat) : UInt8 := if k = 0 then 38 else if k = 1 then 124 else 61
def sigT (c : UInt8) : Option Nat := if c = 38 then some 0 else if c = 124 then some 1 else if c = 61 then some 2 else none
def Tm.txt (ns : List (List UInt8)) : Tm → List UInt8
  | .opt i => ns.getD i []
  | .yes => [121, 101, 115]
  | .no => [110, 111]
  | .not t => 33 :: t.txt ns
  | .bin k a b => 40 :: (a.txt ns ++ (32 :: sgnT k :: 32 :: (b.txt ns ++ [41])))
/-- The number of a name, -1: it is none of them. -/
def numN (ns : List (List UInt8)) (t : List UInt8) : Int := if ns.contains t then (ns.idxOf t : Nat) else -1
/-- What the reader of a name leaves: the rest of the text, the numbers, whether the name is strange. -/
def nameR (ns : List (List UInt8)) (l : List UInt8) : Option (List UInt8 × List Int × Bool) :=
  if l.take (wordN l) = [121, 101, 115] then some (l.drop (wordN l), [-1], false)
  else if l.take (wordN l) = [110, 111] then some (l.drop (wordN l), [-2], false)
  else if namedB (l.take (wordN l)) = true then some (l.drop (wordN l), [numN ns (l.take (wordN l))], decide (numN ns (l.take (wordN l)) < 0))
  else none
/-- The byte that has to come. -/
def needR (c : UInt8) : List UInt8 → Option (List UInt8)
  | [] => none
  | d :: r => if d = c then some r else none
def signR : List UInt8 → Option (List UInt8 × Nat)
  | [] => none
  | d :: r => (sigT d).map fun k => (r, k)
def termR (ns : List (List UInt8)) : Nat → List UInt8 → Option (List UInt8 × List Int × Bool)
  | 0, _ => none
  | _ + 1, [] => none
  | n + 1, c :: r =>
    if c = 33 then (termR ns n r).map fun x => (x.1, -3 :: x.2.1, x.2.2)
    else if c = 40 then
      (termR ns n r).bind fun x => (needR 32 x.1).bind fun r1 => (signR r1).bind fun y => (needR 32 y.1).bind fun r2 => (termR ns n r2).bind fun z => (needR 41 z.1).map fun r3 => (r3, (-4 - (y.2 : Int)) :: (x.2.1 ++ z.2.1), x.2.2 || z.2.2)
    else nameR ns (c :: r)
theorem terms_of {N : Nat} : ∀ (f : List Int) (w : Nat), vld N w f = true → ∃ ts : List Tm, ts.length = w ∧ (∀ t ∈ ts, t.ok N) ∧ f = (ts.map Tm.enc).flatten
  | [], 0, _ => ⟨[], rfl, by simp, rfl⟩
  | [], w + 1, h => by simp [vld] at h
  | o :: r, 0, h => by simp [vld] at h
  | o :: r, w + 1, h => by
    simp only [vld, Bool.and_eq_true, decide_eq_true_eq] at h
    obtain ⟨ts, hl, hok, hf⟩ := terms_of r _ h.2
    obtain ⟨⟨h1, h2⟩, _⟩ := h
    by_cases a0 : 0 ≤ o
    · have : arO o = 0 := by unfold arO; rw [if_neg (by omega), if_neg (by omega)]
      rw [this] at hl
      refine ⟨.opt o.toNat :: ts, by simp; omega, ?_, ?_⟩
      · intro t ht
        rcases List.mem_cons.1 ht with rfl | q
        · show o.toNat < N; omega
        · exact hok t q
      · rw [List.map_cons, List.flatten_cons, ← hf]
        show o :: r = [((o.toNat : Nat) : Int)] ++ r
        rw [Int.toNat_of_nonneg a0]; rfl
    · by_cases a1 : o = -1
      · subst a1
        refine ⟨.yes :: ts, by simpa [arO] using hl, ?_, by rw [List.map_cons, List.flatten_cons, ← hf]; rfl⟩
        intro t ht
        rcases List.mem_cons.1 ht with rfl | q
        · trivial
        · exact hok t q
      · by_cases a2 : o = -2
        · subst a2
          refine ⟨.no :: ts, by simpa [arO] using hl, ?_, by rw [List.map_cons, List.flatten_cons, ← hf]; rfl⟩
          intro t ht
          rcases List.mem_cons.1 ht with rfl | q
          · trivial
          · exact hok t q
        · by_cases a3 : o = -3
          · subst a3
            match ts, hl with
            | [], hl => simp [arO] at hl
            | t1 :: ts, hl =>
              refine ⟨.not t1 :: ts, by simp [arO] at hl ⊢; omega, ?_, ?_⟩
              · intro t ht
                rcases List.mem_cons.1 ht with rfl | q
                · exact hok t1 (by simp)
                · exact hok t (by simp [q])
              · rw [List.map_cons, List.flatten_cons, hf]; rfl
          · have ha : arO o = 2 := by unfold arO; rw [if_neg a3, if_pos (by omega)]
            rw [ha] at hl
            match ts, hl with
            | [], hl => simp at hl
            | [t1], hl => simp at hl
            | t1 :: t2 :: ts, hl =>
              refine ⟨.bin (-4 - o).toNat t1 t2 :: ts, by simp at hl ⊢; omega, ?_, ?_⟩
              · intro t ht
                rcases List.mem_cons.1 ht with rfl | q
                · exact ⟨by omega, hok t1 (by simp), hok t2 (by simp)⟩
                · exact hok t (by simp [q])
              · rw [List.map_cons, List.flatten_cons, hf]
                show o :: (t1.enc ++ (t2.enc ++ (ts.map Tm.enc).flatten)) = (-4 - (((-4 - o).toNat : Nat) : Int)) :: (t1.enc ++ t2.enc) ++ (ts.map Tm.enc).flatten
                rw [show (-4 - (((-4 - o).toNat : Nat) : Int)) = o by omega]
                simp
/-- A valid formula is a term. -/
theorem term_of {N : Nat} {f : List Int} (h : validF N f = true) : ∃ t : Tm, t.ok N ∧ f = t.enc := by
  simp only [validF, Bool.and_eq_true, decide_eq_true_eq] at h
  obtain ⟨ts, hl, hok, hf⟩ := terms_of f 1 h.1
  match ts, hl with
  | [t], _ => exact ⟨t, hok t (by simp), by simpa using hf⟩
theorem namesB_get : ∀ (seen l : List (List UInt8)), namesB seen l = true → ∀ i, i < l.length → namedB (l.getD i []) = true ∧ l.idxOf (l.getD i []) = i ∧ seen.contains (l.getD i []) = false
  | seen, [], _, i, hi => by simp at hi
  | seen, n :: r, h, i, hi => by
    simp only [namesB, Bool.and_eq_true, Bool.not_eq_true'] at h
    match i, hi with
    | 0, _ => exact ⟨h.1.1, by simp, by simpa using h.1.2⟩
    | i + 1, hi =>
      have ih := namesB_get (seen ++ [n]) r h.2 i (by simpa using hi)
      have h3 := ih.2.2
      simp only [List.contains_eq_mem, List.mem_append, List.mem_singleton, decide_eq_false_iff_not, not_or] at h3
      rw [List.getD_cons_succ]
      refine ⟨ih.1, ?_, by simpa using h3.1⟩
      rw [List.idxOf_cons]
      have : (n == r.getD i []) = false := by rw [beq_eq_false_iff_ne]; exact fun e => h3.2 e.symm
      rw [this, ih.2.1]; rfl
theorem wordN_app : ∀ (a b : List UInt8), wordN a = a.length → alN (b.getD 0 0) = false → wordN (a ++ b) = a.length
  | [], [], _, _ => rfl
  | [], c :: b, _, h => by
    simp only [List.getD_cons_zero] at h
    simp [wordN, h]
  | x :: a, b, h, h2 => by
    have hle := wordN_le a
    simp only [wordN, List.length_cons] at h
    split at h
    · rename_i hx
      have := wordN_app a b (by omega) h2
      rw [List.cons_append, wordN, if_pos hx, this, List.length_cons]
    · omega
theorem sig_sgn {k : Nat} (h : k < 3) : sigT (sgnT k) = some k := by
  obtain rfl | rfl | rfl : k = 0 ∨ k = 1 ∨ k = 2 := by omega
  all_goals rfl
/-- The text of a term reads back as the term. -/
theorem read_txt {ns : List (List UInt8)} (hns : namesB [] ns = true) : ∀ (t : Tm), t.ok ns.length → ∀ (rest : List UInt8), alN (rest.getD 0 0) = false → ∀ n, (t.txt ns ++ rest).length ≤ n → termR ns n (t.txt ns ++ rest) = some (rest, t.enc, false)
  | .opt i, hok, rest, hr, n, hn => by
    have hg := namesB_get [] ns hns i hok
    obtain ⟨nm, hnm⟩ : ∃ x, ns.getD i [] = x := ⟨_, rfl⟩
    have ht : Tm.txt ns (.opt i) = nm := hnm
    rw [hnm] at hg
    rw [ht] at hn ⊢
    obtain ⟨g1, g2, _⟩ := hg
    have gg := g1
    simp only [namedB, Bool.and_eq_true, decide_eq_true_eq] at gg
    obtain ⟨⟨⟨⟨⟨k1, k2⟩, k3⟩, k4⟩, k5⟩, k6⟩ := gg
    have hw := wordN_app nm rest k6 hr
    have hc : ns.contains nm = true := by
      have : nm ∈ ns := by rw [← hnm, List.getD_eq_getElem?_getD, List.getElem?_eq_getElem hok]; exact List.getElem_mem _
      simpa using this
    have hnum : numN ns nm = (i : Int) := by unfold numN; rw [if_pos hc, g2]
    match nm, n with
    | [], _ => simp at k1
    | c :: q, 0 => simp at hn
    | c :: q, n + 1 =>
      simp only [List.getD_cons_zero, smN, Bool.and_eq_true, decide_eq_true_eq] at k3
      have c1 : c ≠ 33 := by rintro rfl; exact absurd k3.1 (by decide)
      have c2 : c ≠ 40 := by rintro rfl; exact absurd k3.1 (by decide)
      rw [List.cons_append, termR, if_neg c1, if_neg c2, ← List.cons_append]
      unfold nameR
      rw [hw, List.take_left, List.drop_left, if_neg k4, if_neg k5, if_pos g1, hnum]
      simp [Tm.enc]
  | .yes, _, rest, hr, n, hn => by
    match n with
    | 0 => simp [Tm.txt] at hn
    | n + 1 =>
      have hw := wordN_app [121, 101, 115] rest (by decide) hr
      show termR ns (n + 1) (121 :: ([101, 115] ++ rest)) = _
      rw [termR, if_neg (by decide), if_neg (by decide)]
      show nameR ns ([121, 101, 115] ++ rest) = _
      unfold nameR
      rw [hw, List.take_left, List.drop_left, if_pos rfl]
      rfl
  | .no, _, rest, hr, n, hn => by
    match n with
    | 0 => simp [Tm.txt] at hn
    | n + 1 =>
      have hw := wordN_app [110, 111] rest (by decide) hr
      show termR ns (n + 1) (110 :: ([111] ++ rest)) = _
      rw [termR, if_neg (by decide), if_neg (by decide)]
      show nameR ns ([110, 111] ++ rest) = _
      unfold nameR
      rw [hw, List.take_left, List.drop_left, if_neg (by decide), if_pos rfl]
      rfl
  | .not t, hok, rest, hr, n, hn => by
    match n with
    | 0 => simp [Tm.txt] at hn
    | n + 1 =>
      have ih := read_txt hns t hok rest hr n (by simp [Tm.txt] at hn ⊢; omega)
      show termR ns (n + 1) (33 :: (t.txt ns ++ rest)) = _
      rw [termR, if_pos rfl, ih]
      rfl
  | .bin k a b, hok, rest, hr, n, hn => by
    match n with
    | 0 => simp [Tm.txt] at hn
    | n + 1 =>
      simp only [Tm.txt, List.cons_append, List.length_cons, List.length_append, List.append_assoc, List.length_nil] at hn
      have ih1 := read_txt hns a hok.2.1 (32 :: sgnT k :: 32 :: (b.txt ns ++ (41 :: rest))) rfl n (by simp; omega)
      have ih2 := read_txt hns b hok.2.2 (41 :: rest) rfl n (by simp; omega)
      have e : Tm.txt ns (.bin k a b) ++ rest = 40 :: (a.txt ns ++ (32 :: sgnT k :: 32 :: (b.txt ns ++ (41 :: rest)))) := by simp [Tm.txt]
      rw [e, termR, if_neg (by decide), if_pos rfl, ih1]
      simp only [Option.bind_some, needR, signR, sig_sgn hok.1, Option.map_some, if_true, ih2]
      rfl
theorem needR_len {c : UInt8} {p q : List UInt8} (h : needR c p = some q) : q.length < p.length := by
  match p with
  | [] => simp [needR] at h
  | d :: p => simp only [needR] at h; split at h <;> simp at h; subst h; simp
theorem signR_len {p : List UInt8} {z : List UInt8 × Nat} (h : signR p = some z) : z.1.length < p.length := by
  match p with
  | [] => simp [signR] at h
  | d :: p => simp only [signR, Option.map_eq_some_iff] at h; obtain ⟨k, _, rfl⟩ := h; simp
/-- What is left is no longer than the text. -/
theorem termR_rest {ns : List (List UInt8)} : ∀ (n : Nat) (l : List UInt8) (x : List UInt8 × List Int × Bool), termR ns n l = some x → x.1.length ≤ l.length
  | 0, l, x, h => by simp [termR] at h
  | n + 1, [], x, h => by simp [termR] at h
  | n + 1, c :: r, x, h => by
    rw [termR] at h
    split at h
    · rw [Option.map_eq_some_iff] at h
      obtain ⟨y, hy, rfl⟩ := h
      have := termR_rest n r y hy
      simp; omega
    · split at h
      · simp only [Option.bind_eq_some_iff, Option.map_eq_some_iff] at h
        obtain ⟨y, hy, r1, h1, z, hz, r2, h2, u, hu, r3, h3, rfl⟩ := h
        have a1 := termR_rest n r y hy
        have a3 := needR_len h1
        have a4 := signR_len hz
        have a5 := needR_len h2
        have a6 := termR_rest n r2 u hu
        have a7 := needR_len h3
        simp; omega
      · unfold nameR at h
        split at h
        · simp at h; subst h; simp
        · split at h
          · simp at h; subst h; simp
          · split at h
            · simp at h; subst h; simp
            · simp at h
/-- More fuel reads the same. -/
theorem termR_more {ns : List (List UInt8)} : ∀ (n : Nat) (l : List UInt8) (k : Nat), l.length ≤ n → n ≤ k → termR ns k l = termR ns n l
  | 0, [], 0, _, _ => rfl
  | 0, [], k + 1, _, _ => rfl
  | 0, c :: r, k, h, _ => by simp at h
  | n + 1, l, 0, h, hk => by omega
  | n + 1, [], k + 1, _, _ => rfl
  | n + 1, c :: r, k + 1, h, hk => by
    have e1 := termR_more (ns := ns) n r k (by simpa using h) (by omega)
    rw [termR, termR, e1]
    split
    · rfl
    · split
      · cases ht : termR ns n r with
        | none => rfl
        | some x =>
          have h0 := termR_rest n r x ht
          simp only [Option.bind_some]
          cases h1 : needR 32 x.1 with
          | none => rfl
          | some r1 =>
            simp only [Option.bind_some]
            cases h2 : signR r1 with
            | none => rfl
            | some y =>
              simp only [Option.bind_some]
              cases h3 : needR 32 y.1 with
              | none => rfl
              | some r2 =>
                have a1 := needR_len h1
                have a2 := signR_len h2
                have a3 := needR_len h3
                simp only [Option.bind_some]
                rw [termR_more n r2 k (by simp at h; omega) (by omega)]
      · rfl
/-- The reader of a whole text. -/
def readR (ns : List (List UInt8)) (l : List UInt8) : Option (List Int × Bool) := (termR ns l.length l).bind fun x => if x.1 = [] then some (x.2.1, x.2.2) else none
/-- The text of a valid formula reads back. -/
theorem read_back {ns : List (List UInt8)} (hns : namesB [] ns = true) {t : Tm} (hok : t.ok ns.length) : readR ns (t.txt ns) = some (t.enc, false) := by
  have := read_txt hns t hok [] rfl (t.txt ns).length (by simp)
  rw [List.append_nil] at this
  unfold readR
  rw [this]; rfl
/-- The number of a name: the first place, and the last. -/
theorem numN_first (ns : List (List UInt8)) (t : List UInt8) : numN ns t = -1 ∨ (0 ≤ numN ns t ∧ numN ns t < ns.length ∧ ns.getD (numN ns t).toNat [] = t) := by
  unfold numN
  split
  · rename_i h
    have hm : t ∈ ns := by simpa using h
    have hl := List.idxOf_lt_length_iff.2 hm
    refine .inr ⟨by omega, by omega, ?_⟩
    rw [Int.toNat_natCast, List.getD_eq_getElem?_getD, List.getElem?_eq_getElem hl]
    simp
  · exact .inl rfl
theorem numN_not {ns : List (List UInt8)} {t : List UInt8} (h : ∀ i, i < ns.length → ns.getD i [] ≠ t) : numN ns t = -1 := by
  rcases numN_first ns t with q | ⟨q1, q2, q3⟩
  · exact q
  · exact absurd q3 (h _ (by omega))
theorem numN_at {ns : List (List UInt8)} (hns : namesB [] ns = true) {t : List UInt8} {i : Nat} (hi : i < ns.length) (h : ns.getD i [] = t) : numN ns t = i := by
  have hg := (namesB_get [] ns hns i hi).2.1
  rw [h] at hg
  have hm : t ∈ ns := by rw [← h, List.getD_eq_getElem?_getD, List.getElem?_eq_getElem hi]; exact List.getElem_mem _
  unfold numN
  rw [if_pos (by simpa using hm), hg]
end Go.Proofs.YtjimbcklnnhloaaDoor
/- The reader of a formula: need: walk. -/
namespace Go.Proofs.YtjimbcklnnhloaaDoor
open Go.RowKit
set_option linter.unusedVariables false
set_option linter.unusedSimpArgs false
/-- The reader in its box. -/
def RdB (w : World) (b : Nat) (nv : Value) (s : ByteArray) (fv : Value) (st : Bool) : Prop := w.heap[b]? = some (.cells #[nv, .string s, fv, .bool st] 47 (0, 0))
/-- What a reader panics with. -/
def badP : List PanicEntry := [{ v := .iface 88 (.agg #[]), recovered := false }]
theorem str_full {s : ByteArray} (h : 0 < s.size) : ¬ s.toList = [] ∧ s.toList.isEmpty = false := by
  have : s.toList.length = s.size := by rw [ByteArray.toList_eq]; simp
  have h2 : ¬ s.toList = [] := fun e => by rw [e] at this; simp at this; omega
  exact ⟨h2, by simpa using h2⟩
theorem need_yes (b : Nat) (nv fv : Value) (s : ByteArray) (st : Bool) (c : UInt8) (w : World) (hs : s.size ≤ maxLen) (hb : RdB w b nv s fv st) (h0 : 0 < s.size) (hc : s[0] = c) :
    Calls Tryd.prog 56 #[.pointer (some ⟨b, 0, none⟩), .int .u8 (c.toNat : Nat)] w fun e w' => e = .returned (.tuple #[]) ∧ w' = w.setCell ⟨b, 1, none⟩ (.string (s.extract 1 s.size)) := by
  unfold maxLen at hs
  have c0 := cellOf hb 1
  have c1 := unfrozenOf hb 1
  have c2 := box_lt hb
  subst hc
  obtain ⟨z1, z2⟩ := str_full h0
  clear hb
  go_enter Tryd.func56, Tryd.ntmps56
  go_wp2
  go_end0
  exact ⟨rfl, rfl⟩
theorem need_no (b : Nat) (nv fv : Value) (s : ByteArray) (st : Bool) (c : UInt8) (w : World) (hs : s.size ≤ maxLen) (hb : RdB w b nv s fv st) (h0 : 0 < s.size) (hc : s[0] ≠ c) :
    Calls Tryd.prog 56 #[.pointer (some ⟨b, 0, none⟩), .int .u8 (c.toNat : Nat)] w fun e w' => e = .panicked badP ∧ w' = w := by
  unfold maxLen at hs
  have c0 := cellOf hb 1
  have c2 := box_lt hb
  obtain ⟨z1, z2⟩ := str_full h0
  have z3 : ((s[0].toNat : Int) != (c.toNat : Int)) = true := by
    rw [bne_iff_ne]
    exact fun e => hc (UInt8.toNat_inj.1 (by omega))
  clear hb
  go_enter Tryd.func56, Tryd.ntmps56
  go_wp2
  exact ⟨rfl, rfl, rfl⟩
theorem need_empty (b : Nat) (nv fv : Value) (s : ByteArray) (st : Bool) (c : UInt8) (w : World) (hb : RdB w b nv s fv st) (h0 : s.size = 0) :
    Calls Tryd.prog 56 #[.pointer (some ⟨b, 0, none⟩), .int .u8 (c.toNat : Nat)] w fun e w' => e = .panicked badP ∧ w' = w := by
  have z0 : s.toList = [] := by
    rw [ByteArray.toList_eq]
    exact List.eq_nil_of_length_eq_zero (by simpa using h0)
  have z1 : s.toList.isEmpty = true := by rw [z0]; rfl
  have c0 := cellOf hb 1
  have c2 := box_lt hb
  clear hb h0
  go_enter Tryd.func56, Tryd.ntmps56
  go_wp2
  exact ⟨rfl, rfl, rfl⟩
/-- need takes the byte that has to come, or it panics. -/
theorem need_any (b : Nat) (nv fv : Value) (s : ByteArray) (st : Bool) (c : UInt8) (w : World) (hs : s.size ≤ maxLen) (hb : RdB w b nv s fv st) :
    Calls Tryd.prog 56 #[.pointer (some ⟨b, 0, none⟩), .int .u8 (c.toNat : Nat)] w fun e w' =>
      match needR c s.data.toList with
      | none => e = .panicked badP ∧ w' = w
      | some r => e = .returned (.tuple #[]) ∧ (s.extract 1 s.size).data.toList = r ∧ w' = w.setCell ⟨b, 1, none⟩ (.string (s.extract 1 s.size)) := by
  by_cases h0 : 0 < s.size
  · have hd : s.data.toList = s[0] :: (s.extract 1 s.size).data.toList := by
      have h1 : s.data.toList = s.data.toList.take 1 ++ s.data.toList.drop 1 := (List.take_append_drop 1 _).symm
      have h2 : (s.extract 1 s.size).data.toList = s.data.toList.drop 1 := by
        rw [ByteArray.data_extract, Array.toList_extract, List.extract_eq_take_drop]
        exact List.take_of_length_le (by simp)
      have h3 : 0 < s.data.toList.length := by simpa using h0
      rw [h2]
      have h4 := List.drop_eq_getElem_cons h3
      rw [List.drop_zero] at h4
      exact h4
    rw [hd, needR]
    by_cases hc : s[0] = c
    · rw [if_pos hc]
      exact (need_yes b nv fv s st c w hs hb h0 hc).mono fun e w' h => ⟨h.1, rfl, h.2⟩
    · rw [if_neg hc]
      exact need_no b nv fv s st c w hs hb h0 hc
  · have he : s.data.toList = [] := List.eq_nil_of_length_eq_zero (by
      have : s.data.toList.length = s.size := by simp
      omega)
    rw [he]
    exact need_empty b nv fv s st c w hb (by omega)
end Go.Proofs.YtjimbcklnnhloaaDoor
/- The reader of a formula: a name: walk. -/
namespace Go.Proofs.YtjimbcklnnhloaaDoor
open Go.RowKit
set_option linter.unusedVariables false
set_option linter.unusedSimpArgs false
theorem owns_shape {w : World} {base e size n : Nat} {v : Value} {xs : List Value} (h : w.ownsRow base e size v n xs) : ∃ A cap, v = .slice A n cap := by
  rcases h.2 with ⟨h1, h2⟩ | ⟨g, cap, cur, h1, _⟩
  · exact ⟨none, 0, by rw [h1, h2]⟩
  · exact ⟨_, cap, h1⟩
/-- What a reader leaves as it was: all blocks below B but its own box, which has number b. -/
structure Bx (b B : Nat) (w w' : World) : Prop where
  low : Below b w w'
  mid : ∀ j, b < j → j < B → w'.heap[j]? = w.heap[j]?
theorem Bx.refl (b B : Nat) (w : World) : Bx b B w w := ⟨Below.refl _ _, fun _ _ _ => rfl⟩
theorem Bx.trans {b B : Nat} {w w1 w2 : World} (h : Bx b B w w1) (k : Bx b B w1 w2) : Bx b B w w2 := ⟨h.low.trans k.low, fun j h1 h2 => (k.mid j h1 h2).trans (h.mid j h1 h2)⟩
theorem Bx.of {b B : Nat} {w w' : World} (h : Below B w w') (hb : b < B) : Bx b B w w' := ⟨h.mono (Nat.le_of_lt hb), fun j _ h2 => h.block j h2⟩
theorem Bx.setCell {b B : Nat} (hb : b < B) {w w' : World} {i : Nat} (h : Bx b B w w') (u : Value) : Bx b B w (w'.setCell ⟨b, i, none⟩ u) := ⟨Below.setCell h.low (Nat.le_refl b) u, fun j h1 h2 => (heap_setCell_other w' ⟨b, i, none⟩ j u (fun e => by simp at e; omega)).trans (h.mid j h1 h2)⟩
theorem Bx.big {b B : Nat} {w w' : World} (h : Bx b B w w') (k : B ≤ w.heap.size) : B ≤ w'.heap.size := Nat.le_trans k h.low.size
/-- The numbers read so far: an own row behind the box. -/
def NumS (w : World) (B : Nat) (fv : Value) (xs : List Int) : Prop := w.ownsRow B 3 1 fv xs.length (xs.map fun n => Value.int .i64 n)
theorem str_take (s : ByteArray) (k : Nat) : (s.extract 0 k).data.toList = s.data.toList.take k := by
  rw [ByteArray.data_extract, Array.toList_extract, List.extract_eq_take_drop]
  simp
theorem str_drop (s : ByteArray) (k : Nat) : (s.extract k s.size).data.toList = s.data.toList.drop k := by
  rw [ByteArray.data_extract, Array.toList_extract, List.extract_eq_take_drop]
  exact List.take_of_length_le (by simp)
set_option maxRecDepth 100000 in
set_option maxHeartbeats 4000000 in
theorem name_yes (b B : Nat) (hbB : b < B) (nv fv : Value) (s : ByteArray) (st : Bool) (xs : List Int) (w : World) (hs : s.size ≤ maxLen) (hb : RdB w b nv s fv st) (hBw : B ≤ w.heap.size) (ho : NumS w B fv xs) (hl : xs.length ≤ 1000000) (hy : s.data.toList.take (wordN s.data.toList) = [121, 101, 115]) :
    Calls Tryd.prog 58 #[.pointer (some ⟨b, 0, none⟩)] w fun e w' => e = .returned (.tuple #[]) ∧ Bx b B w w' ∧ ∃ fv', RdB w' b nv (s.extract (wordN s.data.toList) s.size) fv' st ∧ NumS w' B fv' (xs ++ [-1]) := by
  obtain ⟨i0, hi0, hz0, hz1, hz2⟩ := info_parts infoInt
  obtain ⟨A, cap, hfv⟩ := owns_shape ho
  subst hfv
  have hkl := wordN_le s.data.toList
  have hlen : s.data.toList.length = s.size := by simp
  obtain ⟨k, hk⟩ : ∃ x, wordN s.data.toList = x := ⟨_, rfl⟩
  rw [hk] at hkl hy ⊢
  rw [← str_take] at hy
  rw [hlen] at hkl
  obtain ⟨y1, y2⟩ := str_eq hy
  have k1 : (k : Int) ≤ (s.size : Int) := by omega
  have k2 : (0 : Int) ≤ (k : Int) := by omega
  have HSZ := hide hs
  have HK := hide hk
  unfold maxLen at hs
  have c0 := cellOf hb 1
  have c2 := unfrozenOf hb 1
  have c3 := box_lt hb
  have HX := hide hb
  have HO := hide ho
  have HL := hide hl
  clear hb ho hlen hk hy hl
  go_enter Tryd.func58, Tryd.ntmps58
  go_upto_region 6 with (go_at_call 51; refine (word_any s _ HSZ.out).mono ?_; rw [HK.out]; rintro e w9 ⟨rfl, rfl⟩)
  have HX1 : Hid (RdB (w.setCell ⟨b, 1, none⟩ (.string (s.extract k s.size))) b nv (s.extract k s.size) (.slice A xs.length cap) st) := setCellOf (i := 1) HX.out _
  have HO1 : Hid (NumS (w.setCell ⟨b, 1, none⟩ (.string (s.extract k s.size))) B (.slice A xs.length cap) xs) := ownsRow_setCell_below HO.out hbB _
  have HB1 : Hid (Bx b B w (w.setCell ⟨b, 1, none⟩ (.string (s.extract k s.size)))) := hide ((show Bx b B w (w.setCell ⟨b, 1, none⟩ (.string (s.extract k s.size))) from Bx.setCell hbB (Bx.refl b B w) _))
  generalize (w.setCell ⟨b, 1, none⟩ (.string (s.extract k s.size))) = w1 at HX1 HO1 HB1 ⊢
  clear c0 c2 c3
  have d9 := HB1.out.big hBw
  have c0 := cellOf HX1.out 2
  have c2 := unfrozenOf HX1.out 2
  have c3 := box_lt HX1.out
  go_wp2_with (at_builtin; go_must (refine wpList_append_own_at _ rfl (.tmp 59) (.tmp 60) _ rfl (B) 3 i0 _ 1 8 Tryd.underlying27 hi0 hz0 hz1 hz2 rfl (by omega) _ _ _ rfl ((HO1.out).alloc _) ⟨w1.heap.size, 0, none⟩ 1 1 [.int .i64 (-1)] rfl rfl (World.news_of_block (heap_alloc_new w1 _)) (by simp [Value.oneCell']) (by have h1 := HL.out; unfold maxLen; omega) (by have h1 := HL.out; omega) (by have h1 := d9; simp; omega) ?_); intro v1 w3 hown1 hg1 _ hat1; obtain ⟨A1, cap1, hv1⟩ := owns_shape hown1; subst hv1; have HB3 : Hid (Below B w1 w3) := Below.grown ((Below.refl _ _).alloc d9 _) hg1 (by simp; omega) (fun j hj => (HO1.out.lt j hj).1); have HX3 : Hid (RdB w3 b nv (s.extract k s.size) (.slice A xs.length cap) st) := (HB3.out.block b hbB).trans HX1.out; have HO3 := hide hown1; have d0 := cellOf HX3.out 2; have d2 := unfrozenOf HX3.out 2; have d3 := box_lt HX3.out; clear hown1 hg1 hat1)
  go_end0
  refine ⟨rfl, ?_, _, setCellOf (i := 2) HX3.out _, ?_⟩
  · exact Bx.setCell hbB (Bx.trans HB1.out (Bx.of HB3.out hbB)) _
  · have := ownsRow_setCell_below HO3.out (a := ⟨b, 2, none⟩) hbB (.slice A1 (xs.length + 1) cap1)
    unfold NumS
    rw [List.length_append, List.map_append]
    exact this
--NO
set_option maxRecDepth 100000 in
set_option maxHeartbeats 4000000 in
theorem name_no (b B : Nat) (hbB : b < B) (nv fv : Value) (s : ByteArray) (st : Bool) (xs : List Int) (w : World) (hs : s.size ≤ maxLen) (hb : RdB w b nv s fv st) (hBw : B ≤ w.heap.size) (ho : NumS w B fv xs) (hl : xs.length ≤ 1000000) (hy : s.data.toList.take (wordN s.data.toList) = [110, 111]) :
    Calls Tryd.prog 58 #[.pointer (some ⟨b, 0, none⟩)] w fun e w' => e = .returned (.tuple #[]) ∧ Bx b B w w' ∧ ∃ fv', RdB w' b nv (s.extract (wordN s.data.toList) s.size) fv' st ∧ NumS w' B fv' (xs ++ [-2]) := by
  obtain ⟨i0, hi0, hz0, hz1, hz2⟩ := info_parts infoInt
  obtain ⟨A, cap, hfv⟩ := owns_shape ho
  subst hfv
  have hkl := wordN_le s.data.toList
  have hlen : s.data.toList.length = s.size := by simp
  obtain ⟨k, hk⟩ : ∃ x, wordN s.data.toList = x := ⟨_, rfl⟩
  rw [hk] at hkl hy ⊢
  rw [← str_take] at hy
  rw [hlen] at hkl
  have hx : (s.extract 0 k).data.toList ≠ [121, 101, 115] := by rw [hy]; decide
  obtain ⟨x1, x2⟩ := str_ne hx
  clear hx
  obtain ⟨y1, y2⟩ := str_eq hy
  have k1 : (k : Int) ≤ (s.size : Int) := by omega
  have k2 : (0 : Int) ≤ (k : Int) := by omega
  have HSZ := hide hs
  have HK := hide hk
  unfold maxLen at hs
  have c0 := cellOf hb 1
  have c2 := unfrozenOf hb 1
  have c3 := box_lt hb
  have HX := hide hb
  have HO := hide ho
  have HL := hide hl
  clear hb ho hlen hk hy hl
  go_enter Tryd.func58, Tryd.ntmps58
  go_upto_region 6 with (go_at_call 51; refine (word_any s _ HSZ.out).mono ?_; rw [HK.out]; rintro e w9 ⟨rfl, rfl⟩)
  have HX1 : Hid (RdB (w.setCell ⟨b, 1, none⟩ (.string (s.extract k s.size))) b nv (s.extract k s.size) (.slice A xs.length cap) st) := setCellOf (i := 1) HX.out _
  have HO1 : Hid (NumS (w.setCell ⟨b, 1, none⟩ (.string (s.extract k s.size))) B (.slice A xs.length cap) xs) := ownsRow_setCell_below HO.out hbB _
  have HB1 : Hid (Bx b B w (w.setCell ⟨b, 1, none⟩ (.string (s.extract k s.size)))) := hide ((show Bx b B w (w.setCell ⟨b, 1, none⟩ (.string (s.extract k s.size))) from Bx.setCell hbB (Bx.refl b B w) _))
  generalize (w.setCell ⟨b, 1, none⟩ (.string (s.extract k s.size))) = w1 at HX1 HO1 HB1 ⊢
  clear c0 c2 c3
  have d9 := HB1.out.big hBw
  have c0 := cellOf HX1.out 2
  have c2 := unfrozenOf HX1.out 2
  have c3 := box_lt HX1.out
  go_wp2_with (at_builtin; go_must (refine wpList_append_own_at _ rfl (.tmp 71) (.tmp 72) _ rfl (B) 3 i0 _ 1 8 Tryd.underlying27 hi0 hz0 hz1 hz2 rfl (by omega) _ _ _ rfl ((HO1.out).alloc _) ⟨w1.heap.size, 0, none⟩ 1 1 [.int .i64 (-2)] rfl rfl (World.news_of_block (heap_alloc_new w1 _)) (by simp [Value.oneCell']) (by have h1 := HL.out; unfold maxLen; omega) (by have h1 := HL.out; omega) (by have h1 := d9; simp; omega) ?_); intro v1 w3 hown1 hg1 _ hat1; obtain ⟨A1, cap1, hv1⟩ := owns_shape hown1; subst hv1; have HB3 : Hid (Below B w1 w3) := Below.grown ((Below.refl _ _).alloc d9 _) hg1 (by simp; omega) (fun j hj => (HO1.out.lt j hj).1); have HX3 : Hid (RdB w3 b nv (s.extract k s.size) (.slice A xs.length cap) st) := (HB3.out.block b hbB).trans HX1.out; have HO3 := hide hown1; have d0 := cellOf HX3.out 2; have d2 := unfrozenOf HX3.out 2; have d3 := box_lt HX3.out; clear hown1 hg1 hat1)
  go_end0
  refine ⟨rfl, ?_, _, setCellOf (i := 2) HX3.out _, ?_⟩
  · exact Bx.setCell hbB (Bx.trans HB1.out (Bx.of HB3.out hbB)) _
  · have := ownsRow_setCell_below HO3.out (a := ⟨b, 2, none⟩) hbB (.slice A1 (xs.length + 1) cap1)
    unfold NumS
    rw [List.length_append, List.map_append]
    exact this
set_option maxRecDepth 100000 in
set_option maxHeartbeats 4000000 in
theorem name_bad (b B : Nat) (hbB : b < B) (nv fv : Value) (s : ByteArray) (st : Bool) (xs : List Int) (w : World) (hs : s.size ≤ maxLen) (hb : RdB w b nv s fv st) (hBw : B ≤ w.heap.size) (ho : NumS w B fv xs) (hl : xs.length ≤ 1000000) (hx : s.data.toList.take (wordN s.data.toList) ≠ [121, 101, 115]) (hy : s.data.toList.take (wordN s.data.toList) ≠ [110, 111]) (hn : namedB (s.data.toList.take (wordN s.data.toList)) = false) :
    Calls Tryd.prog 58 #[.pointer (some ⟨b, 0, none⟩)] w fun e w' => e = .panicked badP ∧ Bx b B w w' := by
  obtain ⟨i0, hi0, hz0, hz1, hz2⟩ := info_parts infoInt
  obtain ⟨A, cap, hfv⟩ := owns_shape ho
  subst hfv
  have hkl := wordN_le s.data.toList
  have hlen : s.data.toList.length = s.size := by simp
  obtain ⟨k, hk⟩ : ∃ x, wordN s.data.toList = x := ⟨_, rfl⟩
  rw [hk] at hkl hx hy hn
  rw [← str_take] at hx hy hn
  rw [hlen] at hkl
  obtain ⟨x1, x2⟩ := str_ne hx
  obtain ⟨y1, y2⟩ := str_ne hy
  have hsz2 : (s.extract 0 k).size ≤ maxLen := by
    have : (s.extract 0 k).size = k := by simp; omega
    omega
  have HS2 := hide hsz2
  have HNM := hide hn
  clear hx hy hn hsz2
  have k1 : (k : Int) ≤ (s.size : Int) := by omega
  have k2 : (0 : Int) ≤ (k : Int) := by omega
  have HSZ := hide hs
  have HK := hide hk
  unfold maxLen at hs
  have c0 := cellOf hb 1
  have c2 := unfrozenOf hb 1
  have c3 := box_lt hb
  have HX := hide hb
  have HO := hide ho
  have HL := hide hl
  clear hb ho hlen hk hl
  go_enter Tryd.func58, Tryd.ntmps58
  go_upto_region 6 with (go_at_call 51; refine (word_any s _ HSZ.out).mono ?_; rw [HK.out]; rintro e w9 ⟨rfl, rfl⟩)
  have HX1 : Hid (RdB (w.setCell ⟨b, 1, none⟩ (.string (s.extract k s.size))) b nv (s.extract k s.size) (.slice A xs.length cap) st) := setCellOf (i := 1) HX.out _
  have HO1 : Hid (NumS (w.setCell ⟨b, 1, none⟩ (.string (s.extract k s.size))) B (.slice A xs.length cap) xs) := ownsRow_setCell_below HO.out hbB _
  have HB1 : Hid (Bx b B w (w.setCell ⟨b, 1, none⟩ (.string (s.extract k s.size)))) := hide ((show Bx b B w (w.setCell ⟨b, 1, none⟩ (.string (s.extract k s.size))) from Bx.setCell hbB (Bx.refl b B w) _))
  generalize (w.setCell ⟨b, 1, none⟩ (.string (s.extract k s.size))) = w1 at HX1 HO1 HB1 ⊢
  clear c0 c2 c3
  have d9 := HB1.out.big hBw
  have c0 := cellOf HX1.out 2
  have c2 := unfrozenOf HX1.out 2
  have c3 := box_lt HX1.out
  go_wp2_with (go_at_call 33; refine (named_any _ _ HS2.out).mono ?_; rw [HNM.out]; rintro e w9 ⟨rfl, rfl⟩)
  exact ⟨rfl, rfl, HB1.out⟩
set_option maxRecDepth 100000 in
set_option maxHeartbeats 4000000 in
theorem name_opt (b B : Nat) (hbB : b < B) (nv fv : Value) (s : ByteArray) (st : Bool) (xs : List Int) (w : World) (hs : s.size ≤ maxLen) (hb : RdB w b nv s fv st) (hBw : B ≤ w.heap.size) (ho : NumS w B fv xs) (hl : xs.length ≤ 1000000) (hx : s.data.toList.take (wordN s.data.toList) ≠ [121, 101, 115]) (hy : s.data.toList.take (wordN s.data.toList) ≠ [110, 111]) (hn : namedB (s.data.toList.take (wordN s.data.toList)) = true) (ns : List ByteArray) (hns : Names w b nv ns) (hnl : ns.length ≤ maxLen) (i : Int) (hi : idxI (fun x => x.toList == (s.extract 0 (wordN s.data.toList)).toList) ns = i) :
    Calls Tryd.prog 58 #[.pointer (some ⟨b, 0, none⟩)] w fun e w' => e = .returned (.tuple #[]) ∧ Bx b B w w' ∧ ∃ fv', RdB w' b nv (s.extract (wordN s.data.toList) s.size) fv' (st || decide (i < 0)) ∧ NumS w' B fv' (xs ++ [i]) := by
  obtain ⟨i0, hi0, hz0, hz1, hz2⟩ := info_parts infoInt
  obtain ⟨A, cap, hfv⟩ := owns_shape ho
  subst hfv
  have hkl := wordN_le s.data.toList
  have hlen : s.data.toList.length = s.size := by simp
  obtain ⟨k, hk⟩ : ∃ x, wordN s.data.toList = x := ⟨_, rfl⟩
  rw [hk] at hkl hx hy hn hi ⊢
  rw [← str_take] at hx hy hn
  rw [hlen] at hkl
  obtain ⟨x1, x2⟩ := str_ne hx
  obtain ⟨y1, y2⟩ := str_ne hy
  have hsz2 : (s.extract 0 k).size ≤ maxLen := by
    have : (s.extract 0 k).size = k := by simp; omega
    omega
  have HS2 := hide hsz2
  have HNM := hide hn
  clear hx hy hn hsz2
  have k1 : (k : Int) ≤ (s.size : Int) := by omega
  have k2 : (0 : Int) ≤ (k : Int) := by omega
  have HSZ := hide hs
  have HK := hide hk
  unfold maxLen at hs
  have c0 := cellOf hb 1
  have c2 := unfrozenOf hb 1
  have c3 := box_lt hb
  have HX := hide hb
  have HO := hide ho
  have HL := hide hl
  have HI := hide hi
  obtain ⟨sg, hsg⟩ : ∃ z, decide (i < 0) = z := ⟨_, rfl⟩
  rw [hsg]
  have HNS := hide hns
  have HNL := hide hnl
  clear hb ho hlen hk hl hi hns hnl
  go_enter Tryd.func58, Tryd.ntmps58
  go_upto_region 6 with (go_at_call 51; refine (word_any s _ HSZ.out).mono ?_; rw [HK.out]; rintro e w9 ⟨rfl, rfl⟩)
  have HX1 : Hid (RdB (w.setCell ⟨b, 1, none⟩ (.string (s.extract k s.size))) b nv (s.extract k s.size) (.slice A xs.length cap) st) := setCellOf (i := 1) HX.out _
  have HO1 : Hid (NumS (w.setCell ⟨b, 1, none⟩ (.string (s.extract k s.size))) B (.slice A xs.length cap) xs) := ownsRow_setCell_below HO.out hbB _
  have HB1 : Hid (Bx b B w (w.setCell ⟨b, 1, none⟩ (.string (s.extract k s.size)))) := hide ((show Bx b B w (w.setCell ⟨b, 1, none⟩ (.string (s.extract k s.size))) from Bx.setCell hbB (Bx.refl b B w) _))
  generalize (w.setCell ⟨b, 1, none⟩ (.string (s.extract k s.size))) = w1 at HX1 HO1 HB1 ⊢
  have HN1 : Hid (Names w1 b nv ns) := HNS.out.below HB1.out.low
  clear c0 c2 c3
  have d9 := HB1.out.big hBw
  have c0 := cellOf HX1.out 0
  have c1 := cellOf HX1.out 3
  have c2 := unfrozenOf HX1.out 3
  have c3 := box_lt HX1.out
  go_upto_region 4 with (first | (go_at_call 33; refine (named_any _ _ HS2.out).mono ?_; rw [HNM.out]; rintro e w9 ⟨rfl, rfl⟩) | (go_at_call 52; refine (indexS_any ns _ _ b _ HNL.out HN1.out).mono ?_; rw [HI.out]; rintro e w9 ⟨rfl, rfl⟩))
  have HX2 : Hid (RdB (w1.setCell ⟨b, 3, none⟩ (.bool (st || sg))) b nv (s.extract k s.size) (.slice A xs.length cap) (st || sg)) := setCellOf (i := 3) HX1.out _
  have HO2 : Hid (NumS (w1.setCell ⟨b, 3, none⟩ (.bool (st || sg))) B (.slice A xs.length cap) xs) := ownsRow_setCell_below HO1.out hbB _
  have HB2 := hide (show Bx b B w (w1.setCell ⟨b, 3, none⟩ (.bool (st || sg))) from Bx.setCell hbB HB1.out _)
  obtain ⟨w2, hw2⟩ : ∃ x, w1.setCell ⟨b, 3, none⟩ (.bool (st || sg)) = x := ⟨_, rfl⟩
  rw [hw2] at HX2 HO2 HB2
  have e0 := cellOf HX2.out 2
  have e2 := unfrozenOf HX2.out 2
  have e3 := box_lt HX2.out
  have d8 := HB2.out.big hBw
  clear d9
  have d9 := d8
  clear d8
  cases st <;> cases sg
  all_goals
    simp only [Bool.or_true, Bool.true_or, Bool.or_false, Bool.false_or] at hw2
    go_upto_region 5 with (fail)
    clear c0 c1 c2 c3 hw2
    go_wp2_with (at_builtin; go_must (refine wpList_append_own_at _ rfl (.tmp 46) (.tmp 48) _ rfl (B) 3 i0 _ 1 8 Tryd.underlying27 hi0 hz0 hz1 hz2 rfl (by omega) _ _ _ rfl ((HO2.out).alloc _) ⟨w2.heap.size, 0, none⟩ 1 1 [.int .i64 i] rfl rfl (World.news_of_block (heap_alloc_new w2 _)) (by simp [Value.oneCell']) (by have h1 := HL.out; unfold maxLen; omega) (by have h1 := HL.out; omega) (by have h1 := d9; simp; omega) ?_); intro v1 w3 hown1 hg1 _ hat1; obtain ⟨A1, cap1, hv1⟩ := owns_shape hown1; subst hv1; have HB3 : Hid (Below B w2 w3) := Below.grown ((Below.refl _ _).alloc d9 _) hg1 (by simp; omega) (fun j hj => (HO2.out.lt j hj).1); have HX3 : Hid (RdB w3 b nv (s.extract k s.size) (.slice A xs.length cap) _) := (HB3.out.block b hbB).trans HX2.out; have HO3 := hide hown1; have d0 := cellOf HX3.out 2; have d2 := unfrozenOf HX3.out 2; have d3 := box_lt HX3.out; clear hown1 hg1 hat1)
    go_end0
    refine ⟨rfl, ?_, _, setCellOf (i := 2) HX3.out _, ?_⟩
    · exact Bx.setCell hbB (Bx.trans HB2.out (Bx.of HB3.out hbB)) _
    · have := ownsRow_setCell_below HO3.out (a := ⟨b, 2, none⟩) hbB (.slice A1 (xs.length + 1) cap1)
      unfold NumS
      rw [List.length_append, List.map_append]
      exact this
end Go.Proofs.YtjimbcklnnhloaaDoor
/- A strings.Builder that the call made: its writers, with all other blocks as they were: walk. -/
namespace Go.Proofs.YtjimbcklnnhloaaDoor
open Go.RowKit
set_option linter.unusedVariables false
set_option linter.unusedSimpArgs false
/-- A builder in block b, which holds the bytes l; p: its first cell; its bytes lie from block B on. -/
def BldB (w : World) (b B : Nat) (p : Value) (l : List UInt8) : Prop := ∃ v, w.heap[b]? = some (.cells #[p, v] 55 (0, 0)) ∧ w.ownsRow B 5 1 v l.length (Lib.byteCells l)
def slfV (b : Nat) : Value := .pointer (some ⟨b, 0, none⟩)
set_option maxRecDepth 100000 in
theorem infoByte : (Tryd.prog.info? 5).map (fun i => (i.zero, i.size, i.bytes)) = some (some (.int .u8 0), 1, 1) := by kernel_rfl
theorem sizeBld : ∃ j, Tryd.prog.info? 55 = some j ∧ j.size = 2 := by
  have h : (Tryd.prog.info? 55).map (·.size) = some 2 := by kernel_rfl
  exact Option.map_eq_some_iff.1 h
set_option maxRecDepth 100000 in
theorem copyCheck_new (b : Nat) (v : Value) (w : World) (hb : w.heap[b]? = some (.cells #[.pointer none, v] 55 (0, 0))) :
    Calls Tryd.prog 42 #[.pointer (some ⟨b, 0, none⟩)] w fun e w' => e = .returned (.tuple #[]) ∧ w' = w.setCell ⟨b, 0, none⟩ (slfV b) := by
  obtain ⟨j, hj, hjs⟩ := sizeBld
  have hsh : w.shape? b = some (55, 2) := by simp [World.shape?, hb]
  have c0 := cellOf hb 0
  have c1 := unfrozenOf hb 0
  have c2 := box_lt hb
  clear hb
  go_enter Tryd.func42, Tryd.ntmps42
  go_wp2
  rw [Lib.run_to_unsafe w ⟨b, 0, none⟩ Tryd.underlying52 Tryd.underlying109 hj (by rw [hjs]; decide) hsh (Nat.zero_lt_succ 1)]
  simp only [Result.andThen]
  rw [Oper.upon_value]
  go_wp2
  rw [run_callFunc_extern Tryd.func60 (by kernel_rfl) (by kernel_rfl) (by kernel_rfl) (e := Extern.AbiNoEscape.same) (by kernel_rfl)]
  rw [Lib.run_noEscape]
  simp only [Result.andThen]
  rw [Oper.upon_value]
  go_wp2
  rw [Lib.run_from_unsafe w ⟨b, 0, none⟩ Tryd.underlying109 Tryd.underlying52 hj hsh (by kernel_rfl)]
  simp only [Result.andThen]
  rw [Oper.upon_value]
  go_wp2
  go_end0
  exact ⟨rfl, rfl⟩
set_option maxRecDepth 100000 in
theorem copyCheck_used (b : Nat) (v : Value) (w : World) (hb : w.heap[b]? = some (.cells #[slfV b, v] 55 (0, 0))) :
    Calls Tryd.prog 42 #[.pointer (some ⟨b, 0, none⟩)] w fun e w' => e = .returned (.tuple #[]) ∧ w' = w := by
  obtain ⟨j, hj, hjs⟩ := sizeBld
  have c0 : w.cell? ⟨b, 0, none⟩ = some (.pointer (some ⟨b, 0, none⟩)) := cellOf hb 0
  have hne : (binOp .neq 52 (.pointer (some ⟨b, 0, none⟩)) (.pointer (some ⟨b, 0, none⟩))).run Tryd.prog w = .ok (.bool false) w := Lib.run_neq_ptr_same w ⟨b, 0, none⟩ Tryd.underlying52 hj
  have c2 := box_lt hb
  clear hb
  go_enter Tryd.func42, Tryd.ntmps42
  go_wp2
  go_end0
  exact ⟨rfl, rfl⟩
theorem copyCheck_any (b B : Nat) (hbB : b < B) (p : Value) (hp : p = .pointer none ∨ p = slfV b) (l : List UInt8) (w : World) (hb : BldB w b B p l) :
    Calls Tryd.prog 42 #[.pointer (some ⟨b, 0, none⟩)] w fun e w' => e = .returned (.tuple #[]) ∧ BldB w' b B (slfV b) l ∧ Bx b w.heap.size w w' := by
  obtain ⟨v, hv, ho⟩ := hb
  rcases hp with rfl | rfl
  · refine (copyCheck_new b v w hv).mono ?_
    rintro e w' ⟨rfl, rfl⟩
    exact ⟨rfl, ⟨v, setCellOf (i := 0) hv _, ownsRow_setCell_below ho hbB _⟩, Bx.setCell (box_lt hv) (Bx.refl _ _ _) _⟩
  · refine (copyCheck_used b v w hv).mono ?_
    rintro e w' ⟨rfl, rfl⟩
    exact ⟨rfl, ⟨v, hv, ho⟩, Bx.refl _ _ _⟩
theorem bcells_len (l : List UInt8) : (Lib.byteCells l).length = l.length := Lib.byteCells_length l
theorem bcells_app (l k : List UInt8) : Lib.byteCells (l ++ k) = Lib.byteCells l ++ Lib.byteCells k := by simp [Lib.byteCells]
theorem Bx.trans' {b B B' : Nat} {w w1 w2 : World} (h : Bx b B' w w1) (hB : B ≤ B') (k : Bx b B w1 w2) : Bx b B w w2 := ⟨h.low.trans k.low, fun j h1 h2 => (k.mid j h1 h2).trans (h.mid j h1 (by omega))⟩
theorem bld_put {w : World} {b B : Nat} {p v v' : Value} {l : List UInt8} {n : Nat} (hbB : b < B) (hb : w.heap[b]? = some (.cells #[p, v] 55 (0, 0))) (ho : w.ownsRow B 5 1 v' n (Lib.byteCells l)) (hn : n = l.length) : BldB (w.setCell ⟨b, 1, none⟩ v') b B p l := by
  subst hn
  exact ⟨v', setCellOf (i := 1) hb v', ownsRow_setCell_below ho hbB _⟩
set_option maxRecDepth 100000 in
set_option maxHeartbeats 2000000 in
theorem writeString_any (b B : Nat) (hbB : b < B) (p : Value) (hp : p = .pointer none ∨ p = slfV b) (l : List UInt8) (s : ByteArray) (w : World) (hb : BldB w b B p l) (hBw : B ≤ w.heap.size) (hl : l.length + s.size ≤ 1000000) :
    Calls Tryd.prog 21 #[.pointer (some ⟨b, 0, none⟩), .string s] w fun e w' => e = .returned (.tuple #[.int .i64 s.size, .nilIface]) ∧ BldB w' b B (slfV b) (l ++ s.data.toList) ∧ Bx b B w w' := by
  obtain ⟨i0, hi, hz0, hz1, hz2⟩ := info_parts infoByte
  have hck := copyCheck_any b B hbB p hp l w hb
  have HCK := hide hck
  clear hck hp hb
  go_enter Tryd.func21, Tryd.ntmps21
  go_upto_region 2 with (go_at_call 42; refine HCK.out.mono ?_; rintro e w1 ⟨rfl, ⟨v, hv, ho⟩, hx⟩; have HV := hide hv; have HO := hide ho; have HX := hide hx; have c1 := cellOf hv 1; have c2 := box_lt hv; clear hx hv ho)
  have hlw := HX.out.low.size
  have HOL := HO.out
  rw [← bcells_len] at HOL
  go_wp2_with (at_builtin; refine Lib.wpList_append_own_string _ rfl _ _ 53 9 rfl B 5 i0 Tryd.underlying53 Tryd.underlying9 hi hz0 hz1 hz2 _ _ _ rfl HOL s rfl (by rw [bcells_len]; unfold maxLen; omega) (by rw [bcells_len]; omega) (by omega) ?_; intro v' w2 hown' hgrow _; have HOWN := hide hown'; have HGROW := hide hgrow; obtain ⟨A1, cap1, hv1⟩ := owns_shape hown'; subst hv1; have hB2 : Below B w1 w2 := Below.grown (Below.refl _ _) hgrow (by omega) (fun k hk => (HO.out.lt k hk).1); have HB2 := hide hB2; have hv2 := (hB2.block b hbB).trans HV.out; have HV2 := hide hv2; have d0 := cellOf hv2 1; have d1 := unfrozenOf hv2 1; have d2 := box_lt hv2; clear hown' hgrow hB2 hv2)
  go_ret2
  refine ⟨rfl, bld_put hbB HV2.out (n := (Lib.byteCells l).length + s.size) (by rw [bcells_app]; exact HOWN.out) (by rw [bcells_len, List.length_append]; simp), ?_⟩
  exact Bx.setCell hbB (Bx.trans' HX.out hBw (Bx.of HB2.out hbB)) _
set_option maxRecDepth 100000 in
set_option maxHeartbeats 2000000 in
theorem writeByte_any (b B : Nat) (hbB : b < B) (p : Value) (hp : p = .pointer none ∨ p = slfV b) (l : List UInt8) (c : UInt8) (w : World) (hb : BldB w b B p l) (hBw : B ≤ w.heap.size) (hl : l.length ≤ 1000000) :
    Calls Tryd.prog 22 #[.pointer (some ⟨b, 0, none⟩), .int .u8 (c.toNat : Nat)] w fun e w' => e = .returned .nilIface ∧ BldB w' b B (slfV b) (l ++ [c]) ∧ Bx b B w w' := by
  obtain ⟨i0, hi, hz0, hz1, hz2⟩ := info_parts infoByte
  have hck := copyCheck_any b B hbB p hp l w hb
  have HCK := hide hck
  clear hck hp hb
  go_enter Tryd.func22, Tryd.ntmps22
  go_upto_region 2 with (go_at_call 42; refine HCK.out.mono ?_; rintro e w1 ⟨rfl, ⟨v, hv, ho⟩, hx⟩; have HV := hide hv; have HO := hide ho; have HX := hide hx; have c1 := cellOf hv 1; have c2 := box_lt hv; clear hx hv ho)
  have hlw := HX.out.low.size
  have d9 : B ≤ w1.heap.size := by omega
  have HOL := HO.out
  rw [← bcells_len] at HOL
  have hbl : (Lib.byteCells l).length ≤ 1000000 := by rw [bcells_len]; exact hl
  go_wp2_with (at_builtin; go_must (refine wpList_append_own_at _ rfl (.tmp 11) (.tmp 13) _ rfl (B) 5 i0 _ 1 1 Tryd.underlying53 hi hz0 hz1 hz2 rfl (by omega) _ _ _ rfl ((HOL).alloc _) ⟨w1.heap.size, 0, none⟩ 1 1 [.int .u8 (c.toNat : Nat)] rfl rfl (World.news_of_block (heap_alloc_new w1 _)) (by simp [Value.oneCell']) (by have h1 := hbl; unfold maxLen; omega) (by have h1 := hbl; omega) (by have h1 := d9; simp; omega) ?_); intro v1 w3 hown1 hg1 _ hat1; have HOWN := hide hown1; obtain ⟨A1, cap1, hv1⟩ := owns_shape hown1; subst hv1; have hB2 : Below B w1 w3 := Below.grown ((Below.refl _ _).alloc d9 _) hg1 (by simp; omega) (fun k hk => (HO.out.lt k hk).1); have HB2 := hide hB2; have hv2 := (hB2.block b hbB).trans HV.out; have HV2 := hide hv2; have d0 := cellOf hv2 1; have d1 := unfrozenOf hv2 1; have d2 := box_lt hv2; clear hown1 hg1 hat1 hB2 hv2)
  go_ret
  refine ⟨rfl, bld_put hbB HV2.out (n := (Lib.byteCells l).length + 1) (by rw [bcells_app]; exact HOWN.out) (by rw [bcells_len, List.length_append]; rfl), ?_⟩
  exact Bx.setCell hbB (Bx.trans' HX.out hBw (Bx.of HB2.out hbB)) _
set_option maxRecDepth 100000 in
set_option maxHeartbeats 2000000 in
theorem write3_any (b B g : Nat) (hbB : b < B) (p : Value) (hp : p = .pointer none ∨ p = slfV b) (l k : List UInt8) (hk : k.length = 3) (w : World) (hb : BldB w b B p l) (hBw : B ≤ w.heap.size) (hl : l.length ≤ 1000000) (hg : w.heap[g]? = some (.cells (Lib.byteCells k).toArray 5 (0, 0))) :
    Calls Tryd.prog 23 #[.pointer (some ⟨b, 0, none⟩), .slice (some ⟨g, 0, none⟩) 3 3] w fun e w' => e = .returned (.tuple #[.int .i64 3, .nilIface]) ∧ BldB w' b B (slfV b) (l ++ k) ∧ Bx b B w w' := by
  obtain ⟨i0, hi, hz0, hz1, hz2⟩ := info_parts infoByte
  have hck := copyCheck_any b B hbB p hp l w hb
  have HCK := hide hck
  have HG := hide hg
  have hgb : g ≠ b := by
    rintro rfl
    obtain ⟨v, hv, _⟩ := hb
    rw [hv] at hg
    simp at hg
  have hgl := box_lt hg
  clear hck hp hb hg
  go_enter Tryd.func23, Tryd.ntmps23
  go_upto_region 2 with (go_at_call 42; refine HCK.out.mono ?_; rintro e w1 ⟨rfl, ⟨v, hv, ho⟩, hx⟩; have HV := hide hv; have HO := hide ho; have HX := hide hx; have c1 := cellOf hv 1; have c2 := box_lt hv; clear hx hv ho)
  have hlw := HX.out.low.size
  have d9 : B ≤ w1.heap.size := by omega
  have HOL := HO.out
  rw [← bcells_len] at HOL
  have hg1 : w1.heap[g]? = some (.cells (Lib.byteCells k).toArray 5 (0, 0)) := by
    rcases Nat.lt_or_ge g b with h | h
    · exact (HX.out.low.block g h).trans HG.out
    · exact (HX.out.mid g (by omega) hgl).trans HG.out
  have hn : ∀ j u, (Lib.byteCells k)[j]? = some u → w1.cell? ((⟨g, 0, none⟩ : Addr).add j) = some u := fun j u hj => by
    have : (⟨g, 0, none⟩ : Addr).add j = ⟨g, j, none⟩ := by
      unfold Addr.add
      split
      · rename_i h0; rw [h0]
      · rw [Nat.zero_add]
    rw [this, cellOf hg1 j]
    simpa using hj
  have HN := hide hn
  have HK := hide hk
  clear hn hk hg1
  go_wp2_with (at_builtin; refine wpList_append_own _ rfl _ _ 53 rfl B 5 i0 (.int .u8 0) 1 1 Tryd.underlying53 hi hz0 hz1 hz2 rfl (by decide) _ _ _ rfl HOL ⟨g, 0, none⟩ 3 3 (Lib.byteCells k) rfl (by rw [bcells_len]; exact HK.out) HN.out (by intro u hu; unfold Lib.byteCells at hu; rw [List.mem_map] at hu; obtain ⟨_, _, rfl⟩ := hu; rfl) (by rw [bcells_len]; unfold maxLen; omega) (by rw [bcells_len]; omega) (by omega) ?_; intro v' w2 hown' hgrow _; have HOWN := hide hown'; obtain ⟨A1, cap1, hv1⟩ := owns_shape hown'; subst hv1; have hB2 : Below B w1 w2 := Below.grown (Below.refl _ _) hgrow (by omega) (fun k hk => (HO.out.lt k hk).1); have HB2 := hide hB2; have hv2 := (hB2.block b hbB).trans HV.out; have HV2 := hide hv2; have d0 := cellOf hv2 1; have d1 := unfrozenOf hv2 1; have d2 := box_lt hv2; clear hown' hgrow hB2 hv2)
  go_ret2
  refine ⟨rfl, bld_put hbB HV2.out (n := (Lib.byteCells l).length + 3) (by rw [bcells_app]; exact HOWN.out) (by rw [bcells_len, List.length_append, HK.out]), ?_⟩
  exact Bx.setCell hbB (Bx.trans' HX.out hBw (Bx.of HB2.out hbB)) _
end Go.Proofs.YtjimbcklnnhloaaDoor
/- Plain laws of the text of a formula: how long it is. -/
namespace Go.Proofs.YtjimbcklnnhloaaDoor
set_option linter.unusedVariables false
/-- How many numbers a term has. -/
theorem Tm.enc_pos : ∀ t : Tm, 0 < t.enc.length
  | .opt i => by simp [Tm.enc]
  | .yes => by simp [Tm.enc]
  | .no => by simp [Tm.enc]
  | .not t => by simp [Tm.enc]
  | .bin k a b => by simp [Tm.enc]
/-- The text of a term has at most twelve bytes for each number. -/
theorem Tm.txt_le {ns : List (List UInt8)} (hns : ∀ i, i < ns.length → (ns.getD i []).length ≤ 8) : ∀ t : Tm, t.ok ns.length → (t.txt ns).length ≤ 12 * t.enc.length
  | .opt i, h => by
    have := hns i h
    simp only [Tm.txt, Tm.enc, List.length_singleton]
    omega
  | .yes, _ => by simp [Tm.txt, Tm.enc]
  | .no, _ => by simp [Tm.txt, Tm.enc]
  | .not t, h => by
    have := Tm.txt_le hns t h
    simp only [Tm.txt, Tm.enc, List.length_cons]
    omega
  | .bin k a b, h => by
    have h1 := Tm.txt_le hns a h.2.1
    have h2 := Tm.txt_le hns b h.2.2
    simp only [Tm.txt, Tm.enc, List.length_cons, List.length_append, List.length_nil]
    omega
theorem names_le {ns : List (List UInt8)} (h : namesB [] ns = true) : ∀ i, i < ns.length → (ns.getD i []).length ≤ 8 := fun i hi => by
  have h1 := (namesB_get [] ns h i hi).1
  simp only [namedB, Bool.and_eq_true, decide_eq_true_eq] at h1
  exact h1.1.1.1.1.2
end Go.Proofs.YtjimbcklnnhloaaDoor
/- The elder program's text of a term: walk. -/
namespace Go.Proofs.YtjimbcklnnhloaaDoor
open Go.RowKit
set_option linter.unusedVariables false
set_option linter.unusedSimpArgs false
theorem Ints.at0 {w : World} {B : Nat} {A : Option Addr} {b off n cap : Nat} {f : List Int} {x : Int} {r : List Int} {k : Nat} (hc : ∀ i j, i < f.length → j < 1 → w.cell? ⟨b, off + (i * 1 + j), none⟩ = some (.int .i64 (f.getD i 0))) (hd : f.drop k = x :: r) : w.cell? ⟨b, off + k, none⟩ = some (.int .i64 x) := by
  have hk : k < f.length := by
    have h1 := congrArg List.length hd
    rw [List.length_drop] at h1
    simp at h1
    omega
  have h1 := hc k 0 hk (by omega)
  have h2 : f.getD k 0 = x := by
    rw [List.drop_eq_getElem_cons hk] at hd
    injection hd with h3 _
    rw [List.getD_eq_getElem?_getD, List.getElem?_eq_getElem hk]
    exact h3
  rw [Nat.mul_one, Nat.add_zero, h2] at h1
  exact h1
theorem bytes_eq {a b : ByteArray} (h : a.data.toList = b.data.toList) : a = b := by
  cases a; cases b
  simp only at h
  rw [Array.toList_inj.1 h]
theorem ret_str2 {a b : ByteArray} {v : Value} (h : a.data.toList = b.data.toList) : Ending.returned (.tuple #[.string a, v]) = .returned (.tuple #[.string b, v]) := by rw [bytes_eq h]
/-- What the elder show leaves. -/
def ShoP (w : World) (t : List UInt8) (q : Nat) (e : Ending) (w' : World) : Prop := e = .returned (.tuple #[.string ⟨t.toArray⟩, .int .i64 (q : Nat)]) ∧ Below w.heap.size w w'
set_option maxRecDepth 100000 in
set_option maxHeartbeats 4000000 in
theorem show_opt (m : Mo) (f : List Int) (i p : Nat) (rest : List Int) (ov rv fv : Value) (w : World) (hs : SizedM m) (hl : f.length ≤ 100) (h : MoAt w w.heap.size ov rv m) (hf : Ints w w.heap.size fv f) (hi : i < m.opts.length) (hd : f.drop p = (i : Int) :: rest) :
    Calls Tryd.prog 26 #[.agg #[ov, rv], fv, .int .i64 p] w (ShoP w (m.names.getD i []) (p + 1)) := by
  obtain ⟨Ao, bo, offo, capo, hov, hnc, hAo, hco⟩ := h.o
  obtain ⟨Ar, capr, hrv⟩ := h.r.form
  obtain ⟨Af, bf, offf, capf, hfv, hncf, hAf, hcf⟩ := hf
  have hpl : p < f.length := by
    have h1 := congrArg List.length hd
    rw [List.length_drop] at h1
    simp at h1
    omega
  have c0 := Ints.at0 (B := 0) (A := none) (n := 0) (cap := 0) hcf hd
  obtain ⟨x, hx⟩ : ∃ x, m.opts.getD i ByteArray.empty = x := ⟨_, rfl⟩
  have c1 : w.cell? ⟨bo, offo + i, none⟩ = some (.string x) := by
    have h1 : w.cell? ⟨bo, offo + (i * 1 + 0), none⟩ = some (.string (m.opts.getD i ByteArray.empty)) := hco i 0 hi (by omega)
    rw [Nat.mul_one, Nat.add_zero, hx] at h1
    exact h1
  have hxs : m.names.getD i [] = x.data.toList := by rw [names_get, hx]
  have hxx : (⟨(m.names.getD i []).toArray⟩ : ByteArray) = x := by rw [hxs]
  obtain ⟨rfl, hb1⟩ : Ao = some ⟨bo, offo, none⟩ ∧ bo < w.heap.size := by
    rcases hAo with q | q
    · exact q
    · omega
  obtain ⟨rfl, hb2⟩ : Af = some ⟨bf, offf, none⟩ ∧ bf < w.heap.size := by
    rcases hAf with q | q
    · exact q
    · omega
  subst hov hrv hfv
  have j1 : (p : Int) < (f.length : Int) := by omega
  have j2 : (0 : Int) ≤ (p : Int) := by omega
  have j3 : (i : Int) < (m.opts.length : Int) := by omega
  have j4 : (0 : Int) ≤ (i : Int) := by omega
  have j5 : decide ((0 : Int) ≤ (i : Int)) = true := by simp
  have HS := hide hs
  have HXX := hide hxx
  have j6 : (p : Int) ≤ 100 := by omega
  unfold ShoP
  clear h hs hx hxs hxx hcf hco hd hAf hAo
  go_enter Tryd.func26, Tryd.ntmps26
  go_upto_region 2 with (fail)
  generalize hw0 : World.alloc _ _ = w0
  obtain ⟨hb0, hB0, hs0⟩ := alloc1 hw0
  clear hw0
  have HB0 := hide hB0
  have d0 := cellOf hb0 0
  have dl := box_lt hb0
  have e0 : w0.cell? ⟨bf, offf + p, none⟩ = some (.int .i64 (i : Nat)) := (hB0.cell (p := ⟨bf, offf + p, none⟩) hb2).trans c0
  have e1 : w0.cell? ⟨bo, offo + i, none⟩ = some (.string x) := (hB0.cell (p := ⟨bo, offo + i, none⟩) hb1).trans c1
  have hb3 : bf < w0.heap.size := by omega
  have hb4 : bo < w0.heap.size := by omega
  have wz : IntKind.i64.wrap ((p : Int) + 1) = (p : Int) + 1 := IntWalk.i64_in _ (by omega)
  clear c0 c1 hB0 hb0 hs0
  refine wp_region_held_drew (S := (fun w' => Below w0.heap.size w0 w')) (by kernel_rfl) ?_ (fun hHeld => ?_)
  · try dsimp only
    exact (by repeat (first | exact Below.refl _ _ | assumption | refine Below.drew ?_ | refine Below.drewN ?_ _ | refine Below.allocT ?_ (Nat.le_refl _) _ | refine Below.setCell ?_ (by simp <;> omega) _ | refine Below.to ?_ (by assumption) (Nat.le_refl _)))
  refine wpAnyH_take (i := 0) (v := ?v1_0) rfl (by kernel_rfl) (by kernel_rfl) (by kernel_rfl) (fun _ _ _ h => h) (Or.inl ⟨by rfl, ?y1_0⟩) (by assumption) ?r1_0
  case' y1_0 => (intro w hSw; (try dsimp only at hSw); (try have hlS := HLK.out _ hSw); obtain ⟨hcS, hfS⟩ := bcell hSw; clear hSw; go_simp; try with_reducible rfl)
  try simp only [Act.put, List.getElem_toArray, List.getElem_cons_succ, List.getElem_cons_zero, List.setIfInBounds_toArray, List.set_cons_zero, List.set_cons_succ]
  refine wpAnyH_take (i := 1) (v := ?v1_1) rfl (by kernel_rfl) (by kernel_rfl) (by kernel_rfl) (fun _ _ _ h => h) (Or.inl ⟨by rfl, ?y1_1⟩) (by assumption) ?r1_1
  case' y1_1 => (intro w hSw; (try dsimp only at hSw); (try have hlS := HLK.out _ hSw); obtain ⟨hcS, hfS⟩ := bcell hSw; clear hSw; go_simp; try with_reducible rfl)
  try simp only [Act.put, List.getElem_toArray, List.getElem_cons_succ, List.getElem_cons_zero, List.setIfInBounds_toArray, List.set_cons_zero, List.set_cons_succ]
  refine wpAnyH_take (i := 2) (v := ?v1_2) rfl (by kernel_rfl) (by kernel_rfl) (by kernel_rfl) (fun _ _ _ h => h) (Or.inl ⟨by rfl, ?y1_2⟩) (by assumption) ?r1_2
  case' y1_2 => (intro w hSw; (try dsimp only at hSw); (try have hlS := HLK.out _ hSw); obtain ⟨hcS, hfS⟩ := bcell hSw; clear hSw; go_simp; try with_reducible rfl)
  try simp only [Act.put, List.getElem_toArray, List.getElem_cons_succ, List.getElem_cons_zero, List.setIfInBounds_toArray, List.set_cons_zero, List.set_cons_succ]
  refine wpAnyH_take (i := 3) (v := ?v1_3) rfl (by kernel_rfl) (by kernel_rfl) (by kernel_rfl) (fun _ _ _ h => h) (Or.inl ⟨by rfl, ?y1_3⟩) (by assumption) ?r1_3
  case' y1_3 => (intro w hSw; (try dsimp only at hSw); (try have hlS := HLK.out _ hSw); obtain ⟨hcS, hfS⟩ := bcell hSw; clear hSw; go_simp; try with_reducible rfl)
  try simp only [Act.put, List.getElem_toArray, List.getElem_cons_succ, List.getElem_cons_zero, List.setIfInBounds_toArray, List.set_cons_zero, List.set_cons_succ]
  refine wpAnyH_take (i := 4) (v := ?v1_4) rfl (by kernel_rfl) (by kernel_rfl) (by kernel_rfl) (fun _ _ _ h => h) (Or.inl ⟨by rfl, ?y1_4⟩) (by assumption) ?r1_4
  case' y1_4 => (intro w hSw; (try dsimp only at hSw); (try have hlS := HLK.out _ hSw); obtain ⟨hcS, hfS⟩ := bcell hSw; clear hSw; go_simp; try with_reducible rfl)
  try simp only [Act.put, List.getElem_toArray, List.getElem_cons_succ, List.getElem_cons_zero, List.setIfInBounds_toArray, List.set_cons_zero, List.set_cons_succ]
  refine wpAnyH_take (i := 5) (v := ?v1_5) rfl (by kernel_rfl) (by kernel_rfl) (by kernel_rfl) (fun _ _ _ h => h) (Or.inl ⟨by rfl, ?y1_5⟩) (by assumption) ?r1_5
  case' y1_5 => (intro w hSw; (try dsimp only at hSw); (try have hlS := HLK.out _ hSw); obtain ⟨hcS, hfS⟩ := bcell hSw; clear hSw; go_simp; try with_reducible rfl)
  try simp only [Act.put, List.getElem_toArray, List.getElem_cons_succ, List.getElem_cons_zero, List.setIfInBounds_toArray, List.set_cons_zero, List.set_cons_succ]
  refine wpAnyH_take (i := 6) (v := ?v1_6) rfl (by kernel_rfl) (by kernel_rfl) (by kernel_rfl) (fun _ _ _ h => h) (Or.inl ⟨by rfl, ?y1_6⟩) (by assumption) ?r1_6
  case' y1_6 => (intro w hSw; (try dsimp only at hSw); (try have hlS := HLK.out _ hSw); obtain ⟨hcS, hfS⟩ := bcell hSw; clear hSw; go_simp; try with_reducible rfl)
  try simp only [Act.put, List.getElem_toArray, List.getElem_cons_succ, List.getElem_cons_zero, List.setIfInBounds_toArray, List.set_cons_zero, List.set_cons_succ]
  refine wpAnyH_take (i := 7) (v := ?v1_7) rfl (by kernel_rfl) (by kernel_rfl) (by kernel_rfl) (fun _ _ _ h => h) (Or.inl ⟨by rfl, ?y1_7⟩) (by assumption) ?r1_7
  case' y1_7 => (intro w hSw; (try dsimp only at hSw); (try have hlS := HLK.out _ hSw); obtain ⟨hcS, hfS⟩ := bcell hSw; clear hSw; go_simp; try with_reducible rfl)
  try simp only [Act.put, List.getElem_toArray, List.getElem_cons_succ, List.getElem_cons_zero, List.setIfInBounds_toArray, List.set_cons_zero, List.set_cons_succ]
  refine wpAnyH_take (i := 8) (v := ?v1_8) rfl (by kernel_rfl) (by kernel_rfl) (by kernel_rfl) (fun _ _ _ h => h) (Or.inl ⟨by rfl, ?y1_8⟩) (by assumption) ?r1_8
  case' y1_8 => (intro w hSw; (try dsimp only at hSw); (try have hlS := HLK.out _ hSw); obtain ⟨hcS, hfS⟩ := bcell hSw; clear hSw; go_simp; try with_reducible rfl)
  try simp only [Act.put, List.getElem_toArray, List.getElem_cons_succ, List.getElem_cons_zero, List.setIfInBounds_toArray, List.set_cons_zero, List.set_cons_succ]
  refine wpAnyH_take (i := 9) (v := ?v1_9) rfl (by kernel_rfl) (by kernel_rfl) (by kernel_rfl) (fun _ _ _ h => h) (Or.inl ⟨by rfl, ?y1_9⟩) (by assumption) ?r1_9
  case' y1_9 => (intro w hSw; (try dsimp only at hSw); (try have hlS := HLK.out _ hSw); obtain ⟨hcS, hfS⟩ := bcell hSw; clear hSw; go_simp; try with_reducible rfl)
  try simp only [Act.put, List.getElem_toArray, List.getElem_cons_succ, List.getElem_cons_zero, List.setIfInBounds_toArray, List.set_cons_zero, List.set_cons_succ]
  refine wpAnyH_take (i := 10) (v := ?v1_10) rfl (by kernel_rfl) (by kernel_rfl) (by kernel_rfl) (fun _ _ _ h => h) (Or.inl ⟨by rfl, ?y1_10⟩) (by assumption) ?r1_10
  case' y1_10 => (intro w hSw; (try dsimp only at hSw); (try have hlS := HLK.out _ hSw); obtain ⟨hcS, hfS⟩ := bcell hSw; clear hSw; go_simp; try with_reducible rfl)
  try simp only [Act.put, List.getElem_toArray, List.getElem_cons_succ, List.getElem_cons_zero, List.setIfInBounds_toArray, List.set_cons_zero, List.set_cons_succ]
  refine wpAnyH_take (i := 11) (v := ?v1_11) rfl (by kernel_rfl) (by kernel_rfl) (by kernel_rfl) (fun _ _ _ h => h) (Or.inl ⟨by rfl, ?y1_11⟩) (by assumption) ?r1_11
  case' y1_11 => (intro w hSw; (try dsimp only at hSw); (try have hlS := HLK.out _ hSw); obtain ⟨hcS, hfS⟩ := bcell hSw; clear hSw; go_simp; try with_reducible rfl)
  try simp only [Act.put, List.getElem_toArray, List.getElem_cons_succ, List.getElem_cons_zero, List.setIfInBounds_toArray, List.set_cons_zero, List.set_cons_succ]
  refine wpAnyH_done (by kernel_rfl) ?_ _
  clear wz
  go_wp2
  go_ret2
  rw [HXX.out]
  exact ⟨rfl, Below.to HB0.out hHeld (Nat.le_refl _)⟩
set_option maxRecDepth 100000 in
set_option maxHeartbeats 4000000 in
theorem show_yes (m : Mo) (f : List Int) (p : Nat) (rest : List Int) (ov rv fv : Value) (w : World) (hs : SizedM m) (hl : f.length ≤ 100) (h : MoAt w w.heap.size ov rv m) (hf : Ints w w.heap.size fv f) (hd : f.drop p = -1 :: rest) :
    Calls Tryd.prog 26 #[.agg #[ov, rv], fv, .int .i64 p] w (ShoP w [121, 101, 115] (p + 1)) := by
  obtain ⟨Ao, capo, hov⟩ := Sl.form h.o
  obtain ⟨Ar, capr, hrv⟩ := h.r.form
  have HF := hide hf
  obtain ⟨Af, bf, offf, capf, hfv, hncf, hAf, hcf⟩ := hf
  have hpl : p < f.length := by
    have h1 := congrArg List.length hd
    rw [List.length_drop] at h1
    simp at h1
    omega
  have c0 := Ints.at0 (B := 0) (A := none) (n := 0) (cap := 0) hcf hd
  obtain ⟨rfl, hb2⟩ : Af = some ⟨bf, offf, none⟩ ∧ bf < w.heap.size := by
    rcases hAf with q | q
    · exact q
    · omega
  have H := hide h
  have HS := hide hs
  subst hov hrv hfv
  have j1 : (p : Int) < (f.length : Int) := by omega
  have j2 : (0 : Int) ≤ (p : Int) := by omega
  have j6 : (p : Int) ≤ 100 := by omega
  clear h hs hcf hd hAf
  go_enter Tryd.func26, Tryd.ntmps26
  go_wp2
  go_ret2
  exact ⟨rfl, (by repeat (first | exact Below.refl _ _ | assumption | refine Below.drew ?_ | refine Below.drewN ?_ _ | refine Below.allocT ?_ (Nat.le_refl _) _ | refine Below.setCell ?_ (by simp <;> omega) _ | refine Below.to ?_ (by assumption) (Nat.le_refl _)))⟩
set_option maxRecDepth 100000 in
set_option maxHeartbeats 4000000 in
theorem show_no (m : Mo) (f : List Int) (p : Nat) (rest : List Int) (ov rv fv : Value) (w : World) (hs : SizedM m) (hl : f.length ≤ 100) (h : MoAt w w.heap.size ov rv m) (hf : Ints w w.heap.size fv f) (hd : f.drop p = -2 :: rest) :
    Calls Tryd.prog 26 #[.agg #[ov, rv], fv, .int .i64 p] w (ShoP w [110, 111] (p + 1)) := by
  obtain ⟨Ao, capo, hov⟩ := Sl.form h.o
  obtain ⟨Ar, capr, hrv⟩ := h.r.form
  have HF := hide hf
  obtain ⟨Af, bf, offf, capf, hfv, hncf, hAf, hcf⟩ := hf
  have hpl : p < f.length := by
    have h1 := congrArg List.length hd
    rw [List.length_drop] at h1
    simp at h1
    omega
  have c0 := Ints.at0 (B := 0) (A := none) (n := 0) (cap := 0) hcf hd
  obtain ⟨rfl, hb2⟩ : Af = some ⟨bf, offf, none⟩ ∧ bf < w.heap.size := by
    rcases hAf with q | q
    · exact q
    · omega
  have H := hide h
  have HS := hide hs
  subst hov hrv hfv
  have j1 : (p : Int) < (f.length : Int) := by omega
  have j2 : (0 : Int) ≤ (p : Int) := by omega
  have j6 : (p : Int) ≤ 100 := by omega
  clear h hs hcf hd hAf
  go_enter Tryd.func26, Tryd.ntmps26
  go_wp2
  go_ret2
  exact ⟨rfl, (by repeat (first | exact Below.refl _ _ | assumption | refine Below.drew ?_ | refine Below.drewN ?_ _ | refine Below.allocT ?_ (Nat.le_refl _) _ | refine Below.setCell ?_ (by simp <;> omega) _ | refine Below.to ?_ (by assumption) (Nat.le_refl _)))⟩
set_option maxRecDepth 100000 in
set_option maxHeartbeats 4000000 in
theorem show_not (m : Mo) (f : List Int) (p : Nat) (rest : List Int) (ov rv fv : Value) (w : World) (hs : SizedM m) (hl : f.length ≤ 100) (h : MoAt w w.heap.size ov rv m) (hf : Ints w w.heap.size fv f) (hd : f.drop p = -3 :: rest) (t : List UInt8) (q : Nat) (ht : t.length ≤ 10000)
    (hr : ∀ (w1 : World), Below w.heap.size w w1 → Calls Tryd.prog 26 #[.agg #[ov, rv], fv, .int .i64 ((p : Int) + 1)] w1 (ShoP w1 t q)) :
    Calls Tryd.prog 26 #[.agg #[ov, rv], fv, .int .i64 p] w (ShoP w (33 :: t) q) := by
  have HR := hide hr
  clear hr
  obtain ⟨Ao, capo, hov⟩ := Sl.form h.o
  obtain ⟨Ar, capr, hrv⟩ := h.r.form
  have HF := hide hf
  obtain ⟨Af, bf, offf, capf, hfv, hncf, hAf, hcf⟩ := hf
  have hpl : p < f.length := by
    have h1 := congrArg List.length hd
    rw [List.length_drop] at h1
    simp at h1
    omega
  have c0 := Ints.at0 (B := 0) (A := none) (n := 0) (cap := 0) hcf hd
  obtain ⟨rfl, hb2⟩ : Af = some ⟨bf, offf, none⟩ ∧ bf < w.heap.size := by
    rcases hAf with q | q
    · exact q
    · omega
  have H := hide h
  have HS := hide hs
  subst hov hrv hfv
  have j1 : (p : Int) < (f.length : Int) := by omega
  have j2 : (0 : Int) ≤ (p : Int) := by omega
  have j6 : (p : Int) ≤ 100 := by omega
  clear h hs hcf hd hAf
  go_enter Tryd.func26, Tryd.ntmps26
  go_upto_region 8 with (fail)
  generalize hw0 : World.alloc _ _ = w0
  obtain ⟨hb0, hB0, hs0⟩ := alloc1 hw0
  clear hw0
  have HB0 := hide hB0
  have d0 := cellOf hb0 0
  have d1 := cellOf hb0 1
  have dl := box_lt hb0
  have HC := hide (HR.out w0 hB0)
  have hts : (⟨t.toArray⟩ : ByteArray).size ≤ 10000 := by show t.toArray.size ≤ 10000; simpa using ht
  clear c0 hB0 hb0
  go_wp2_with (go_at_call 26; refine HC.out.mono ?_; rintro e w1 ⟨rfl, hB1⟩; have HB1 := hide hB1; clear hB1)
  go_ret2
  refine ⟨ret_str2 ?_, Below.to HB0.out HB1.out (Nat.le_refl _)⟩
  simp
set_option maxRecDepth 100000 in
set_option maxHeartbeats 4000000 in
theorem show_bin0 (m : Mo) (f : List Int) (p : Nat) (rest : List Int) (ov rv fv : Value) (w : World) (hs : SizedM m) (hl : f.length ≤ 100) (h : MoAt w w.heap.size ov rv m) (hf : Ints w w.heap.size fv f) (hd : f.drop p = -4 :: rest) (t t2 : List UInt8) (q q2 : Nat) (ht : t.length ≤ 10000) (ht2 : t2.length ≤ 10000)
    (hr : ∀ (w1 : World), Below w.heap.size w w1 → Calls Tryd.prog 26 #[.agg #[ov, rv], fv, .int .i64 ((p : Int) + 1)] w1 (ShoP w1 t q))
    (hr2 : ∀ (w1 : World), Below w.heap.size w w1 → Calls Tryd.prog 26 #[.agg #[ov, rv], fv, .int .i64 (q : Nat)] w1 (ShoP w1 t2 q2)) :
    Calls Tryd.prog 26 #[.agg #[ov, rv], fv, .int .i64 p] w (ShoP w (40 :: (t ++ (32 :: 38 :: 32 :: (t2 ++ [41])))) q2) := by
  have HR := hide hr
  have HR2 := hide hr2
  clear hr hr2
  obtain ⟨Ao, capo, hov⟩ := Sl.form h.o
  obtain ⟨Ar, capr, hrv⟩ := h.r.form
  have HF := hide hf
  obtain ⟨Af, bf, offf, capf, hfv, hncf, hAf, hcf⟩ := hf
  have hpl : p < f.length := by
    have h1 := congrArg List.length hd
    rw [List.length_drop] at h1
    simp at h1
    omega
  have c0 := Ints.at0 (B := 0) (A := none) (n := 0) (cap := 0) hcf hd
  obtain ⟨rfl, hb2⟩ : Af = some ⟨bf, offf, none⟩ ∧ bf < w.heap.size := by
    rcases hAf with q | q
    · exact q
    · omega
  have H := hide h
  have HS := hide hs
  subst hov hrv hfv
  have j1 : (p : Int) < (f.length : Int) := by omega
  have j2 : (0 : Int) ≤ (p : Int) := by omega
  have j6 : (p : Int) ≤ 100 := by omega
  clear h hs hcf hd hAf
  go_enter Tryd.func26, Tryd.ntmps26
  go_upto_region 10 with (fail)
  generalize hw0 : World.alloc _ _ = w0
  obtain ⟨hb0, hB0, hs0⟩ := alloc1 hw0
  clear hw0
  have HB0 := hide hB0
  have HX0 := hide hb0
  have d0 := cellOf hb0 0
  have d1 := cellOf hb0 1
  have dl := box_lt hb0
  have HC := hide (HR.out w0 hB0)
  have hts : (⟨t.toArray⟩ : ByteArray).size ≤ 10000 := by show t.toArray.size ≤ 10000; simpa using ht
  have hts2 : (⟨t2.toArray⟩ : ByteArray).size ≤ 10000 := by show t2.toArray.size ≤ 10000; simpa using ht2
  have e0 : w0.cell? ⟨bf, offf + p, none⟩ = some (.int .i64 (-4)) := (hB0.cell (p := ⟨bf, offf + p, none⟩) hb2).trans c0
  have HE0 := hide e0
  have hbf0 : bf < w0.heap.size := by omega
  clear c0 hB0 hb0 e0
  go_upto_region 11 with (go_at_call 26; refine HC.out.mono ?_; rintro e w1 ⟨rfl, hB1⟩; have HB1 := hide (Below.to HB0.out hB1 (Nat.le_refl _)); have HX1 := hide (box_to HX0.out hB1); have HE1 := hide ((hB1.cell (p := ⟨bf, offf + p, none⟩) hbf0).trans HE0.out); clear hB1 d0 d1 dl)
  have d0 := cellOf HX1.out 0
  have d1 := cellOf HX1.out 1
  have dl := box_lt HX1.out
  have HC2 := hide (HR2.out w1 HB1.out)
  have hbf1 : bf < w1.heap.size := by have := HB1.out.size; omega
  go_upto_region 12 with (go_at_call 26; refine HC2.out.mono ?_; rintro e w2 ⟨rfl, hB2⟩; have HB2 := hide (Below.to HB1.out hB2 (Nat.le_refl _)); have e2 := (hB2.cell (p := ⟨bf, offf + p, none⟩) hbf1).trans HE1.out; have e3 : bf < w2.heap.size := Nat.lt_of_lt_of_le hbf1 hB2.size; clear hB2 d0 d1 dl)
  go_wp2_with fail
  go_ret2
  refine ⟨ret_str2 ?_, HB2.out⟩
  simp
set_option maxRecDepth 100000 in
set_option maxHeartbeats 4000000 in
theorem show_bin1 (m : Mo) (f : List Int) (p : Nat) (rest : List Int) (ov rv fv : Value) (w : World) (hs : SizedM m) (hl : f.length ≤ 100) (h : MoAt w w.heap.size ov rv m) (hf : Ints w w.heap.size fv f) (hd : f.drop p = -5 :: rest) (t t2 : List UInt8) (q q2 : Nat) (ht : t.length ≤ 10000) (ht2 : t2.length ≤ 10000)
    (hr : ∀ (w1 : World), Below w.heap.size w w1 → Calls Tryd.prog 26 #[.agg #[ov, rv], fv, .int .i64 ((p : Int) + 1)] w1 (ShoP w1 t q))
    (hr2 : ∀ (w1 : World), Below w.heap.size w w1 → Calls Tryd.prog 26 #[.agg #[ov, rv], fv, .int .i64 (q : Nat)] w1 (ShoP w1 t2 q2)) :
    Calls Tryd.prog 26 #[.agg #[ov, rv], fv, .int .i64 p] w (ShoP w (40 :: (t ++ (32 :: 124 :: 32 :: (t2 ++ [41])))) q2) := by
  have HR := hide hr
  have HR2 := hide hr2
  clear hr hr2
  obtain ⟨Ao, capo, hov⟩ := Sl.form h.o
  obtain ⟨Ar, capr, hrv⟩ := h.r.form
  have HF := hide hf
  obtain ⟨Af, bf, offf, capf, hfv, hncf, hAf, hcf⟩ := hf
  have hpl : p < f.length := by
    have h1 := congrArg List.length hd
    rw [List.length_drop] at h1
    simp at h1
    omega
  have c0 := Ints.at0 (B := 0) (A := none) (n := 0) (cap := 0) hcf hd
  obtain ⟨rfl, hb2⟩ : Af = some ⟨bf, offf, none⟩ ∧ bf < w.heap.size := by
    rcases hAf with q | q
    · exact q
    · omega
  have H := hide h
  have HS := hide hs
  subst hov hrv hfv
  have j1 : (p : Int) < (f.length : Int) := by omega
  have j2 : (0 : Int) ≤ (p : Int) := by omega
  have j6 : (p : Int) ≤ 100 := by omega
  clear h hs hcf hd hAf
  go_enter Tryd.func26, Tryd.ntmps26
  go_upto_region 10 with (fail)
  generalize hw0 : World.alloc _ _ = w0
  obtain ⟨hb0, hB0, hs0⟩ := alloc1 hw0
  clear hw0
  have HB0 := hide hB0
  have HX0 := hide hb0
  have d0 := cellOf hb0 0
  have d1 := cellOf hb0 1
  have dl := box_lt hb0
  have HC := hide (HR.out w0 hB0)
  have hts : (⟨t.toArray⟩ : ByteArray).size ≤ 10000 := by show t.toArray.size ≤ 10000; simpa using ht
  have hts2 : (⟨t2.toArray⟩ : ByteArray).size ≤ 10000 := by show t2.toArray.size ≤ 10000; simpa using ht2
  have e0 : w0.cell? ⟨bf, offf + p, none⟩ = some (.int .i64 (-5)) := (hB0.cell (p := ⟨bf, offf + p, none⟩) hb2).trans c0
  have HE0 := hide e0
  have hbf0 : bf < w0.heap.size := by omega
  clear c0 hB0 hb0 e0
  go_upto_region 11 with (go_at_call 26; refine HC.out.mono ?_; rintro e w1 ⟨rfl, hB1⟩; have HB1 := hide (Below.to HB0.out hB1 (Nat.le_refl _)); have HX1 := hide (box_to HX0.out hB1); have HE1 := hide ((hB1.cell (p := ⟨bf, offf + p, none⟩) hbf0).trans HE0.out); clear hB1 d0 d1 dl)
  have d0 := cellOf HX1.out 0
  have d1 := cellOf HX1.out 1
  have dl := box_lt HX1.out
  have HC2 := hide (HR2.out w1 HB1.out)
  have hbf1 : bf < w1.heap.size := by have := HB1.out.size; omega
  go_upto_region 12 with (go_at_call 26; refine HC2.out.mono ?_; rintro e w2 ⟨rfl, hB2⟩; have HB2 := hide (Below.to HB1.out hB2 (Nat.le_refl _)); have e2 := (hB2.cell (p := ⟨bf, offf + p, none⟩) hbf1).trans HE1.out; have e3 : bf < w2.heap.size := Nat.lt_of_lt_of_le hbf1 hB2.size; clear hB2 d0 d1 dl)
  go_wp2_with fail
  go_ret2
  refine ⟨ret_str2 ?_, HB2.out⟩
  simp
set_option maxRecDepth 100000 in
set_option maxHeartbeats 4000000 in
theorem show_bin2 (m : Mo) (f : List Int) (p : Nat) (rest : List Int) (ov rv fv : Value) (w : World) (hs : SizedM m) (hl : f.length ≤ 100) (h : MoAt w w.heap.size ov rv m) (hf : Ints w w.heap.size fv f) (hd : f.drop p = -6 :: rest) (t t2 : List UInt8) (q q2 : Nat) (ht : t.length ≤ 10000) (ht2 : t2.length ≤ 10000)
    (hr : ∀ (w1 : World), Below w.heap.size w w1 → Calls Tryd.prog 26 #[.agg #[ov, rv], fv, .int .i64 ((p : Int) + 1)] w1 (ShoP w1 t q))
    (hr2 : ∀ (w1 : World), Below w.heap.size w w1 → Calls Tryd.prog 26 #[.agg #[ov, rv], fv, .int .i64 (q : Nat)] w1 (ShoP w1 t2 q2)) :
    Calls Tryd.prog 26 #[.agg #[ov, rv], fv, .int .i64 p] w (ShoP w (40 :: (t ++ (32 :: 61 :: 32 :: (t2 ++ [41])))) q2) := by
  have HR := hide hr
  have HR2 := hide hr2
  clear hr hr2
  obtain ⟨Ao, capo, hov⟩ := Sl.form h.o
  obtain ⟨Ar, capr, hrv⟩ := h.r.form
  have HF := hide hf
  obtain ⟨Af, bf, offf, capf, hfv, hncf, hAf, hcf⟩ := hf
  have hpl : p < f.length := by
    have h1 := congrArg List.length hd
    rw [List.length_drop] at h1
    simp at h1
    omega
  have c0 := Ints.at0 (B := 0) (A := none) (n := 0) (cap := 0) hcf hd
  obtain ⟨rfl, hb2⟩ : Af = some ⟨bf, offf, none⟩ ∧ bf < w.heap.size := by
    rcases hAf with q | q
    · exact q
    · omega
  have H := hide h
  have HS := hide hs
  subst hov hrv hfv
  have j1 : (p : Int) < (f.length : Int) := by omega
  have j2 : (0 : Int) ≤ (p : Int) := by omega
  have j6 : (p : Int) ≤ 100 := by omega
  clear h hs hcf hd hAf
  go_enter Tryd.func26, Tryd.ntmps26
  go_upto_region 10 with (fail)
  generalize hw0 : World.alloc _ _ = w0
  obtain ⟨hb0, hB0, hs0⟩ := alloc1 hw0
  clear hw0
  have HB0 := hide hB0
  have HX0 := hide hb0
  have d0 := cellOf hb0 0
  have d1 := cellOf hb0 1
  have dl := box_lt hb0
  have HC := hide (HR.out w0 hB0)
  have hts : (⟨t.toArray⟩ : ByteArray).size ≤ 10000 := by show t.toArray.size ≤ 10000; simpa using ht
  have hts2 : (⟨t2.toArray⟩ : ByteArray).size ≤ 10000 := by show t2.toArray.size ≤ 10000; simpa using ht2
  have e0 : w0.cell? ⟨bf, offf + p, none⟩ = some (.int .i64 (-6)) := (hB0.cell (p := ⟨bf, offf + p, none⟩) hb2).trans c0
  have HE0 := hide e0
  have hbf0 : bf < w0.heap.size := by omega
  clear c0 hB0 hb0 e0
  go_upto_region 11 with (go_at_call 26; refine HC.out.mono ?_; rintro e w1 ⟨rfl, hB1⟩; have HB1 := hide (Below.to HB0.out hB1 (Nat.le_refl _)); have HX1 := hide (box_to HX0.out hB1); have HE1 := hide ((hB1.cell (p := ⟨bf, offf + p, none⟩) hbf0).trans HE0.out); clear hB1 d0 d1 dl)
  have d0 := cellOf HX1.out 0
  have d1 := cellOf HX1.out 1
  have dl := box_lt HX1.out
  have HC2 := hide (HR2.out w1 HB1.out)
  have hbf1 : bf < w1.heap.size := by have := HB1.out.size; omega
  go_upto_region 12 with (go_at_call 26; refine HC2.out.mono ?_; rintro e w2 ⟨rfl, hB2⟩; have HB2 := hide (Below.to HB1.out hB2 (Nat.le_refl _)); have e2 := (hB2.cell (p := ⟨bf, offf + p, none⟩) hbf1).trans HE1.out; have e3 : bf < w2.heap.size := Nat.lt_of_lt_of_le hbf1 hB2.size; clear hB2 d0 d1 dl)
  go_wp2_with fail
  go_ret2
  refine ⟨ret_str2 ?_, HB2.out⟩
  simp
theorem drop_app {f a b : List Int} {p : Nat} (h : f.drop p = a ++ b) : f.drop (p + a.length) = b := by
  rw [← List.drop_drop, h, List.drop_left]
/-- The elder show gives the text of a term. -/
theorem show_any (m : Mo) (hs : SizedM m) (hn : ∀ i, i < m.names.length → (m.names.getD i []).length ≤ 8) (f : List Int) (hl : f.length ≤ 100) (ov rv fv : Value) : ∀ (t : Tm) (p : Nat) (rest : List Int) (w : World), t.ok m.names.length → f.drop p = t.enc ++ rest → MoAt w w.heap.size ov rv m → Ints w w.heap.size fv f →
    Calls Tryd.prog 26 #[.agg #[ov, rv], fv, .int .i64 (p : Nat)] w (ShoP w (t.txt m.names) (p + t.enc.length))
  | .opt i, p, rest, w, hok, hd, h, hf => show_opt m f i p rest ov rv fv w hs hl h hf (by have : i < m.names.length := hok; unfold Mo.names at this; simpa using this) hd
  | .yes, p, rest, w, hok, hd, h, hf => show_yes m f p rest ov rv fv w hs hl h hf hd
  | .no, p, rest, w, hok, hd, h, hf => show_no m f p rest ov rv fv w hs hl h hf hd
  | .not t, p, rest, w, hok, hd, h, hf => by
    have hd1 : f.drop (p + 1) = t.enc ++ rest := drop_app (a := [-3]) hd
    have hlen : t.enc.length ≤ 100 := by
      have h1 := congrArg List.length hd1
      rw [List.length_drop, List.length_append] at h1
      omega
    have ht := Tm.txt_le hn t hok
    have hq : p + (Tm.enc (.not t)).length = p + 1 + t.enc.length := by simp [Tm.enc]; omega
    rw [hq]
    exact show_not m f p (t.enc ++ rest) ov rv fv w hs hl h hf hd (t.txt m.names) _ (by omega) fun w1 hB => show_any m hs hn f hl ov rv fv t (p + 1) rest w1 hok hd1 (h.up hB) (hf.up hB)
  | .bin k a b, p, rest, w, hok, hd, h, hf => by
    obtain ⟨hk, hoa, hob⟩ := hok
    have hd0 : f.drop p = (-4 - (k : Int)) :: (a.enc ++ (b.enc ++ rest)) := by rw [hd]; simp [Tm.enc]
    have hd1 : f.drop (p + 1) = a.enc ++ (b.enc ++ rest) := drop_app (a := [-4 - (k : Int)]) hd0
    have hd2 : f.drop (p + 1 + a.enc.length) = b.enc ++ rest := drop_app hd1
    have hlen : a.enc.length + b.enc.length ≤ 100 := by
      have h1 := congrArg List.length hd1
      rw [List.length_drop, List.length_append, List.length_append] at h1
      omega
    have ha := Tm.txt_le hn a hoa
    have hb := Tm.txt_le hn b hob
    have hq : p + (Tm.enc (.bin k a b)).length = p + 1 + a.enc.length + b.enc.length := by simp [Tm.enc]; omega
    rw [hq]
    have r1 := fun w1 hB => show_any m hs hn f hl ov rv fv a (p + 1) (b.enc ++ rest) w1 hoa hd1 (h.up hB) (hf.up hB)
    have r2 := fun w1 hB => show_any m hs hn f hl ov rv fv b (p + 1 + a.enc.length) rest w1 hob hd2 (h.up hB) (hf.up hB)
    obtain rfl | rfl | rfl : k = 0 ∨ k = 1 ∨ k = 2 := by omega
    · exact show_bin0 m f p _ ov rv fv w hs hl h hf hd0 _ _ _ _ (by omega) (by omega) r1 r2
    · exact show_bin1 m f p _ ov rv fv w hs hl h hf hd0 _ _ _ _ (by omega) (by omega) r1 r2
    · exact show_bin2 m f p _ ov rv fv w hs hl h hf hd0 _ _ _ _ (by omega) (by omega) r1 r2
end Go.Proofs.YtjimbcklnnhloaaDoor

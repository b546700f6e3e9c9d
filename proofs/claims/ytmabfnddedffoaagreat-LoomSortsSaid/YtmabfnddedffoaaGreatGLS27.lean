/- Part 27 of this claim's texts: walks and plain laws. -/
import Derived.Test.YtmabfnddedffoaaGreatRows
import Derived.Test.YtmabfnddedffoaaGreatGLS26
import Derived.Test.YtmabfnddedffoaaGreatGLS24
import Derived.Deep.RegionHeld3
import Derived.Deep.DrawnRows
import Derived.BigQuiet
import Derived.WalkSpells
import Derived.Lib.SliceRun
import Derived.Test.YtmabfnddedffoaaGreatGLS3
/- Those of some variants in which a formula holds, as the elder program has them: walk. -/
namespace Go.Proofs.YtmabfnddedffoaaGreat
open Go.RowKit
set_option linter.unusedVariables false
set_option linter.unusedSimpArgs false
set_option maxRecDepth 100000 in
set_option maxHeartbeats 4000000 in
theorem Where_any (N : Nat) (L : List (List Bool)) (f : List Int) (av fv : Value) (w : World) (h : Vars w w.heap.size av L) (hf : Ints w w.heap.size fv f) (hN : ∀ x ∈ L, x.length = N) (hv : validF N f = true) (hL : L.length ≤ 5000) :
    Calls Tryz.prog 64 #[av, fv] w fun e w' => ∃ v, e = .returned v ∧ VStk (fun _ => False) w.heap.size w' v (whereF L f) ∧ Below w.heap.size w w' := by
  obtain ⟨i1, hi1, jz0, jz1, jz2⟩ := info_parts infoBools
  obtain ⟨rv, ⟨A, b0, off, cap, rfl, hnc, hA, hc⟩, hrow⟩ := h
  obtain ⟨Af, capf, hfv⟩ := Sl.form hf
  have HF := hide hf
  have HC := hide hc
  have HA := hide hA
  have HR := hide hrow
  have HN := hide hN
  have HV := hide hv
  subst hfv
  clear hf hc hA hrow hN hv
  go_enter Tryz.func64, Tryz.ntmps64
  go_wp2
  go_loopw [5, 6] (fun sv i wr => ∃ k : Nat, k ≤ L.length ∧ i = .int .i64 k ∧ Hid (VStk (fun _ => False) w.heap.size wr sv (whereF (L.take k) f)) ∧ Hid (Below w.heap.size w wr)) (fun _ i _ => L.length - (intOf i).toNat)
  case atStart => exact ⟨0, Nat.zero_le _, rfl, GStk.nil _ _, Below.refl _ _⟩
  case round =>
    obtain ⟨k, hk, rfl, hS, hB⟩ := hrel
    by_cases hlt : k < L.length
    · obtain ⟨rfl, hbb⟩ : A = some ⟨b0, off, none⟩ ∧ b0 < w.heap.size := by
        rcases HA.out with h | h
        · exact h
        · omega
      obtain ⟨x, hx⟩ : ∃ x, L.getD k [] = x := ⟨_, rfl⟩
      have hrw : Bols w w.heap.size (rv k) x := by have := HR.out k hlt; rwa [hx] at this
      have hxN : x.length = N := HN.out x (by rw [← hx]; exact getD_mem hlt)
      obtain ⟨Ax, capx, hxv⟩ := Sl.form hrw
      have c0 : wr.cell? ⟨b0, off + k, none⟩ = some (.slice Ax x.length capx) := by
        have h1 := HC.out k 0 hlt (by omega)
        rw [Nat.mul_one, Nat.add_zero, hxv] at h1
        exact (hB.out.cell (p := ⟨b0, off + k, none⟩) hbb).trans h1
      rw [hxv] at hrw
      have hsz := hB.out.size
      have hbr : b0 < wr.heap.size := by omega
      have htr := True_any f N x (.slice Af f.length capf) (.slice Ax x.length capx) w.heap.size wr (HF.out.below hB.out) (Sl.below hrw hB.out) hxN HV.out
      have hwl := Nat.le_trans (whereF_le (L.take k) f) (List.length_take_le k L)
      obtain ⟨A1, cap1, hA1, hcap1, hcap2⟩ := hS.out.form
      subst hA1
      obtain ⟨vs, hgs⟩ := hS.out
      have HGS := hide hgs
      have HX := hide hx
      have HRW := hide hrw
      have HSZ := hide hsz
      have HWL := hide hwl
      have gi0 : (k : Int) < (L.length : Int) := by omega
      have gi1 : (0 : Int) ≤ (k : Int) := by omega
      clear hx hrw hxv hxN hgs hsz hwl
      cases hal : evF1 (vf x) f with
      | true =>
        have hws := whereF_yes hlt (f := f) (by rw [HX.out]; exact hal)
        rw [HX.out] at hws
        rw [hal] at htr
        have HT := hide htr
        have HWS := hide hws
        clear hal hws htr
        go_wp2_with (first | (go_at_call 65; refine HT.out.mono ?_; rintro e w2 ⟨rfl, rfl⟩) | (at_builtin; go_must (refine wpList_append_own_at _ rfl (.tmp 19) (.tmp 24) _ rfl (w.heap.size) 32 i1 _ 1 24 Tryz.underlying101 hi1 jz0 jz1 jz2 rfl (by omega) _ _ _ rfl ((HGS.out.own).alloc _) ⟨wr.heap.size, 0, none⟩ 1 1 [.slice Ax x.length capx] rfl rfl (World.news_of_block (heap_alloc_new wr _)) (by simp [Value.oneCell']) (by have h1 := HWL.out; unfold maxLen; omega) (by have h1 := HWL.out; omega) (by have h1 := HSZ.out; simp; omega) ?_); intro v1 w3 hown1 hg1 _ hat1; have HOWN := hide hown1; have HG1 := hide hg1; have HAT := hide hat1; clear hown1 hg1 hat1))
        go_roundw
        case rel =>
          have hrr : Bols wr wr.heap.size (.slice Ax x.length capx) x := Sl.more (Sl.below HRW.out hB.out) HSZ.out
          have hp := HGS.out.push hrr (fun hl b hb => ⟨fun h => h, fun hc => by
            have h1 := HGS.out.own.lt b hc
            obtain ⟨b', _, _, _, hlt', hob⟩ := GRow.block (enc := Value.bool) (z := false) HRW.out hl
            rw [hob] at hb
            injection hb with hb
            omega⟩) (fun _ h => h.elim) HOWN.out HG1.out HAT.out
          have hlo : ∀ i, (Value.slice A1 (whereF (L.take k) f).length cap1).ownBlock = some i → w.heap.size ≤ i := fun i hi => (HGS.out.own.lt i hi).1
          exact ⟨k + 1, by omega, by go_num, by rw [HWS.out]; exact hp.1, hB.out.trans (hp.2.below HSZ.out (fun k hk => hlo k hk))⟩
        case measure => simp [intOf]; omega
      | false =>
        have hws := whereF_no hlt (f := f) (by rw [HX.out]; exact hal)
        rw [hal] at htr
        have HT := hide htr
        have HWS := hide hws
        clear hal hws htr
        go_wp2_with (first | (go_at_call 65; refine HT.out.mono ?_; rintro e w2 ⟨rfl, rfl⟩))
        go_roundw
        case rel => exact ⟨k + 1, by omega, by go_num, by rw [HWS.out]; exact ⟨vs, HGS.out⟩, hB.out⟩
        case measure => simp [intOf]; omega
    · obtain rfl : k = L.length := by omega
      have hs := hS.out
      rw [List.take_length] at hs
      obtain ⟨A1, cap1, hA1, hcap1, hcap2⟩ := hs.form
      have HSS := hide hs
      clear hs
      subst hA1
      go_wp2_with fail
      go_ret
      exact ⟨_, rfl, HSS.out, hB.out⟩
end Go.Proofs.YtmabfnddedffoaaGreat
/- Count and List as the elder program has them: walks. -/
namespace Go.Proofs.YtmabfnddedffoaaGreat
open Go.RowKit
set_option linter.unusedVariables false
set_option linter.unusedSimpArgs false
theorem allM_le4 {m : Mo} (h : m.opts.length ≤ 12) : (allM m).length ≤ 4096 := by
  have h1 := allM_le m
  have h2 : 2 ^ m.opts.length ≤ 2 ^ 12 := Nat.pow_le_pow_right (by omega) h
  omega
/-- What Count returns. -/
def cntE (m : Mo) (f : List Int) : Nat := if m.errF [f] ≠ 0 then 0 else (whereF (allM m) f).length
theorem cnt_err {m : Mo} {f : List Int} (h : m.errF [f] ≠ 0) : cntE m f = 0 := by unfold cntE; rw [if_pos h]
theorem cnt_ok {m : Mo} {f : List Int} (h : m.errF [f] = 0) : cntE m f = (whereF (allM m) f).length := by unfold cntE; rw [if_neg (by simp [h])]
end Go.Proofs.YtmabfnddedffoaaGreat
/- List as the elder program has it: walk. -/
namespace Go.Proofs.YtmabfnddedffoaaGreat
open Go.RowKit
set_option linter.unusedVariables false
set_option linter.unusedSimpArgs false
/-- What List returns. -/
def lisE (m : Mo) (f : List Int) (most : Int) : Int := if m.errF [f] ≠ 0 then m.errF [f] else if most < 1 ∨ 64 < most then 1 else 0
def lisL (m : Mo) (f : List Int) (most : Int) : List (List Bool) := if lisE m f most = 0 then (whereF (allM m) f).take most.toNat else []
/-- A list of variants and an error. -/
def ListP (L : List (List Bool)) (x : Int) (w : World) (e : Ending) (w' : World) : Prop := ∃ v, e = .returned (.tuple #[v, .int .i64 x]) ∧ Vars w' w'.heap.size v L ∧ Below w.heap.size w w'
theorem ListP.none (x : Int) {w w' : World} (h : Below w.heap.size w w') : ListP [] x w (.returned (.tuple #[.slice none 0 0, .int .i64 x])) w' := ⟨_, rfl, GRows.nil _ _, h⟩
end Go.Proofs.YtmabfnddedffoaaGreat
/- The model of the examples; equal variants: walks. -/
namespace Go.Proofs.YtmabfnddedffoaaGreat
open Go.RowKit
set_option linter.unusedVariables false
set_option linter.unusedSimpArgs false
theorem results_cell1 {P : Program} {fn : Func} {p : Tmp} {ty : TypeId} (h : fn.results = #[.cell p ty]) (tmps : Array Value) (w : World) :
    (results fn tmps).run P w = ((asAddr (tmps.getD p undef)).run P w).andThen fun a w₁ => (loadVar ty a).run P w₁ := by
  simp only [results, h]
  simp [Sem.run_bind, Result.andThen]
  try (congr; done)
theorem sl_box {w : World} {b B n t : Nat} {C : Array Value} {f : Nat → Nat → Value} (hb : w.heap[b]? = some (.cells C t (0, 0))) (hB : b < B) (h : ∀ i, i < n → C[i]? = some (f i 0)) : Sl w B 1 (.slice (some ⟨b, 0, none⟩) n n) n f :=
  ⟨_, b, 0, n, rfl, Nat.le_refl _, .inl ⟨rfl, hB⟩, fun i j hi hj => by
    obtain rfl : j = 0 := by omega
    rw [Nat.mul_one, Nat.add_zero, Nat.zero_add, cellOf hb]
    exact h i hi⟩
theorem ints_box {w : World} {b B t : Nat} {l : List Int} (hb : w.heap[b]? = some (.cells (l.map (Value.int .i64)).toArray t (0, 0))) (hB : b < B) : Ints w B (.slice (some ⟨b, 0, none⟩) l.length l.length) l :=
  sl_box hb hB fun i hi => by simp [hi]
theorem names_box {w : World} {b B t : Nat} {l : List ByteArray} (hb : w.heap[b]? = some (.cells (l.map Value.string).toArray t (0, 0))) (hB : b < B) : Names w B (.slice (some ⟨b, 0, none⟩) l.length l.length) l :=
  sl_box hb hB fun i hi => by simp [hi]
/-- The model of the examples. -/
def exM : Mo := ⟨[⟨#[116, 111, 119]⟩, ⟨#[104, 101, 97, 116]⟩, ⟨#[108, 101, 100]⟩], [[-5, 1, 2], [-3, -4, 0, 2]]⟩
end Go.Proofs.YtmabfnddedffoaaGreat
/- The examples of the laws: walk. -/
namespace Go.Proofs.YtmabfnddedffoaaGreat
open Go.RowKit
set_option linter.unusedVariables false
set_option linter.unusedSimpArgs false
end Go.Proofs.YtmabfnddedffoaaGreat
/- Whether two lists of variants are equal; a copy of a variant: walks. -/
namespace Go.Proofs.YtmabfnddedffoaaGreat
open Go.RowKit
set_option linter.unusedVariables false
set_option linter.unusedSimpArgs false
end Go.Proofs.YtmabfnddedffoaaGreat
/- A copy of a variant: walk. -/
namespace Go.Proofs.YtmabfnddedffoaaGreat
open Go.RowKit
set_option linter.unusedVariables false
set_option linter.unusedSimpArgs false
/-- A variant in its own block above block B. -/
theorem Bols.flat {w : World} {B n cap : Nat} {A : Option Addr} {l : List Bool} (h : Bols w B (.slice A n cap) l) : Reads w B 1 A l.length (l.map Value.bool) := by
  have h1 := Sl.form h
  obtain ⟨A', cap', he⟩ := h1
  injection he with e1 e2 e3
  subst e1 e2 e3
  have h2 := Sl.reads h (by omega)
  have e : Go.Proofs.YtmabfnddedffoaaGreat.flat l.length 1 (fun i _ => Value.bool (l.getD i false)) = l.map Value.bool := by
    apply List.ext_getElem
    · simp [flat_length]
    · intro i q1 q2
      have h3 := flat_get (n := l.length) (sz := 1) (f := fun i _ => Value.bool (l.getD i false)) (i := i) (j := 0) (by simpa using q2) (by omega)
      rw [Nat.mul_one, Nat.add_zero, List.getElem?_eq_getElem q1] at h3
      injection h3 with h3
      rw [h3]
      have q3 : i < l.length := by simpa using q2
      simp [q3]
  rwa [e] at h2
end Go.Proofs.YtmabfnddedffoaaGreat
/- The first variants in which a node holds: walk. -/
namespace Go.Proofs.YtmabfnddedffoaaGreat
open Go.RowKit
set_option linter.unusedVariables false
set_option linter.unusedSimpArgs false
/-- What list leaves. -/
def ListR (F : Fo) (B : Nat) (L' : List (List Bool)) (out : Value) (w : World) (e : Ending) (w' : World) : Prop :=
  ∃ v', e = .returned v' ∧ VStk (SF F) B w' v' L' ∧ Keeps (fun k => out.ownBlock = some k) w w' ∧ (v'.ownBlock = out.ownBlock ∨ ∀ k, v'.ownBlock = some k → w.heap.size ≤ k)
theorem ListR.same {F : Fo} {B : Nat} {L L' : List (List Bool)} {out : Value} {w w' : World} (h : VStk (SF F) B w out L) (hL : L' = L) (hb : Below w.heap.size w w') : ListR F B L' out w (.returned out) w' := by
  subst hL
  exact ⟨out, rfl, h.below hb, Keeps.of_below hb, .inl rfl⟩
/-- What has been listed when k of the two ways have been gone. -/
def lstK (ks : List Kn) (N n : Nat) (l : List Bool) (k : Nat) : List (List Bool) := if k = 0 then [] else if k = 1 then sat ks N n (l ++ [false]) else sat ks N n l
end Go.Proofs.YtmabfnddedffoaaGreat
/- List: walk. -/
namespace Go.Proofs.YtmabfnddedffoaaGreat
open Go.RowKit
set_option linter.unusedVariables false
set_option linter.unusedSimpArgs false
end Go.Proofs.YtmabfnddedffoaaGreat
/- How large a model is; Count in one: walks. -/
namespace Go.Proofs.YtmabfnddedffoaaGreat
open Go.RowKit
set_option linter.unusedVariables false
set_option linter.unusedSimpArgs false
/-- Whether a model has more than a statement looks at. -/
def largeB (m : Mo) : Bool := (decide (9 < m.opts.length) && decide (m.opts.length ≤ 40)) || (decide (12 < m.rules.length) && decide (m.rules.length ≤ 60))
theorem Count_any (m : Mo) (f : List Int) (ov rv fv : Value) (w : World) (hs : SizedM m) (hl : f.length ≤ maxLen) (h : MoAt w w.heap.size ov rv m) (hf : Ints w w.heap.size fv f) (hN : m.errF [f] = 0 → m.opts.length ≤ 12) :
    Calls Tryz.prog 16 #[.agg #[ov, rv], fv] w fun e w' => e = .returned (.tuple #[.int .i64 (cntE m f : Nat), .int .i64 (m.errF [f])]) ∧ Below w.heap.size w w' := by
  by_cases he : m.errF [f] = 0
  · refine (Count_ok m f ov rv fv w hs hl h hf he (hN he)).mono ?_
    rintro e w' ⟨rfl, hb⟩
    refine ⟨?_, hb⟩
    rw [cnt_ok he, he, whereF_sat]
  · refine (Count_err m f ov rv fv w hs hl h hf he).mono ?_
    rintro e w' ⟨rfl, hb⟩
    refine ⟨?_, hb⟩
    rw [cnt_err he]
    rfl
end Go.Proofs.YtmabfnddedffoaaGreat
/- The errors of a model and a list of formulas, as the elder program has them: walk. -/
namespace Go.Proofs.YtmabfnddedffoaaGreat
open Go.RowKit
set_option linter.unusedVariables false
set_option linter.unusedSimpArgs false
theorem rows_get {α : Type} {enc : α → Value} {z : α} {w : World} {B b off : Nat} {A : Option Addr} {L : List (List α)} {rv : Nat → Value} {k : Nat} (hA : A = some ⟨b, off, none⟩ ∧ b < B ∨ L.length = 0)
    (hc : ∀ i j, i < L.length → j < 1 → w.cell? ⟨b, off + (i * 1 + j), none⟩ = some (rv i)) (hr : ∀ i, i < L.length → GRow enc z w B (rv i) (L.getD i [])) (hk : k < L.length) :
    A = some ⟨b, off, none⟩ ∧ b < B ∧ ∃ Ax capx, w.cell? ⟨b, off + k, none⟩ = some (.slice Ax (L.getD k []).length capx) ∧ GRow enc z w B (.slice Ax (L.getD k []).length capx) (L.getD k []) := by
  rcases hA with ⟨h1, h2⟩ | h
  · have h3 := hr k hk
    obtain ⟨Ax, capx, hx⟩ := GRow.form h3
    have h4 := hc k 0 hk (by omega)
    rw [Nat.mul_one, Nat.add_zero, hx] at h4
    rw [hx] at h3
    exact ⟨h1, h2, Ax, capx, h4, h3⟩
  · omega
/-- The error of a model and a list of formulas. -/
def frmE (m : Mo) (l : List (List Int)) : Int := if m.err ≠ 0 then m.err else if 200 < l.length then 2 else if l.all (validF m.opts.length) = false then 11 else 0
theorem frm_err {m : Mo} {l : List (List Int)} (h : m.err ≠ 0) : frmE m l = m.err := by unfold frmE; rw [if_pos h]
theorem frm_many {m : Mo} {l : List (List Int)} (h : m.err = 0) (h2 : 200 < l.length) : frmE m l = 2 := by unfold frmE; rw [if_neg (by simp [h]), if_pos h2]
theorem frm_rest {m : Mo} {l : List (List Int)} (h : m.err = 0) (h2 : l.length ≤ 200) : frmE m l = m.errF l := by unfold frmE; rw [if_neg (by simp [h]), if_neg (by omega), Mo.errF_ok h]
theorem frm_ok {m : Mo} {l : List (List Int)} (h : frmE m l = 0) : m.errF l = 0 ∧ l.length ≤ 200 := by
  unfold frmE at h
  split at h
  · rename_i h1; exact absurd h h1
  · rename_i h1
    split at h
    · omega
    · rename_i h2
      refine ⟨?_, by omega⟩
      rw [Mo.errF_ok (by omega)]
      exact h
set_option maxRecDepth 100000 in
set_option maxHeartbeats 4000000 in
theorem rcheckForms_any (m : Mo) (l : List (List Int)) (ov rv lv : Value) (w : World) (hs : SizedM m) (hl : Sized l) (h : MoAt w w.heap.size ov rv m) (hf : Forms w w.heap.size lv l) :
    Calls Tryz.prog 62 #[.agg #[ov, rv], lv] w fun e w' => e = .returned (.int .i64 (frmE m l)) ∧ Below w.heap.size w w' := by
  obtain ⟨A, cap, hov⟩ := Sl.form h.o
  obtain ⟨Ar, capr, hrv⟩ := h.r.form
  obtain ⟨fvs, ⟨Al, bl, offl, capl, rfl, hncl, hAl, hcl⟩, hfi⟩ := hf
  have H := hide h
  have HS := hide hs
  have HAL := hide hAl
  have HCL := hide hcl
  have HFI := hide hfi
  have HL := hide hl
  subst hov hrv
  clear h hs hAl hcl hfi hl
  go_enter Tryz.func62, Tryz.ntmps62
  go_upto_region 1 with (fail)
  generalize hw0 : World.alloc _ _ = w0
  obtain ⟨hb0, hB0, hs0⟩ := alloc1 hw0
  clear hw0
  have HX0 : Hid (MoBox w0 w.heap.size (.slice A m.opts.length cap) (.slice Ar m.rules.length capr)) := hb0
  have HB0 := hide hB0
  have c0 := cellOf hb0 0
  have c1 := cellOf hb0 1
  have hck := rCheckModel_any m (.slice A m.opts.length cap) (.slice Ar m.rules.length capr) w0 HS.out (H.out.up hB0)
  have HCK := hide hck
  clear hb0 hB0 hs0 hck
  by_cases he : m.err = 0
  · have HE := hide he
    clear he
    go_upto_region 4 with (go_at_call 56; refine HCK.out.mono ?_; rw [HE.out]; rintro e w1 ⟨rfl, hB1⟩; have HX1 := hide (box_to HX0.out hB1); have HB1 : Hid (Below w.heap.size w w1) := Below.to HB0.out hB1 (Nat.le_refl _); clear hB1 c0 c1)
    by_cases h200 : (200 : Int) < (l.length : Int)
    · have hee := frm_many HE.out (l := l) (by omega)
      have HEE := hide hee
      clear hee
      go_wp2_with fail
      go_ret
      exact ⟨ret_int HEE.out.symm, HB1.out⟩
    · have hee := frm_rest HE.out (l := l) (by omega)
      rw [Mo.errF_ok HE.out] at hee
      have HEE := hide hee
      clear hee
      go_wp2_with fail
      go_loopw [6] (fun i wr => ∃ t : Nat, t ≤ l.length ∧ i = .int .i64 t ∧ Hid (∀ j, j < t → validF m.opts.length (l.getD j []) = true) ∧ Hid (Below w1.heap.size w1 wr)) (fun i _ => l.length - (intOf i).toNat)
      case atStart => exact ⟨0, Nat.zero_le _, rfl, fun j hj => by omega, Below.refl _ _⟩
      case round =>
        obtain ⟨t, ht, rfl, hva, hBi⟩ := hrel
        have hbx := box_to HX1.out hBi.out
        have x0 := cellOf hbx 0
        have x1 := cellOf hbx 1
        have hsl2 := box_lt hbx
        have hBr := Below.to HB1.out hBi.out (Nat.le_refl _)
        have HBR := hide hBr
        clear hbx
        by_cases htl : t < l.length
        · obtain ⟨rfl, hbb, Af, capf, q0, q1⟩ := rows_get (enc := Value.int .i64) (z := 0) HAL.out HCL.out HFI.out htl
          obtain ⟨f, hfe⟩ : ∃ f, l.getD t [] = f := ⟨_, rfl⟩
          rw [hfe] at q0 q1
          have hfm : f ∈ l := by rw [← hfe]; exact getD_mem htl
          have hfs := HL.out.2 f hfm
          have c0 : wr.cell? ⟨bl, offl + t, none⟩ = some (.slice Af f.length capf) := (hBr.cell (p := ⟨bl, offl + t, none⟩) hbb).trans q0
          have lb : bl < wr.heap.size := Nat.lt_of_lt_of_le hbb hBr.size
          have hvv : ∀ W, Below wr.heap.size wr W → Calls Tryz.prog 87 #[.slice Af f.length capf, .int .i64 m.opts.length] W fun e w' => e = .returned (.bool (validF m.opts.length f)) ∧ W = w' :=
            fun W hW => rValid_any f m.opts.length _ w.heap.size W hfs (GRow.below (enc := Value.int .i64) (z := 0) q1 (Below.to HBR.out hW (Nat.le_refl _)))
          have it0 : (0 : Int) ≤ (t : Int) := by omega
          have it2 : (t : Int) < (l.length : Int) := by omega
          have HF := hide hfe
          cases hvf : validF m.opts.length f with
          | true =>
            rw [hvf] at hvv
            have HVV := hide hvv
            have HVF := hide hvf
            clear hfm q0 q1 hfe hvv hvf hBr
            go_wp2_with fail
            refine wp_region_held_drew (S := (fun w' => Below wr.heap.size wr w')) (by kernel_rfl) ?_ (fun hHeld => ?_)
            · try dsimp only
              exact (by repeat (first | exact Below.refl _ _ | assumption | refine Below.drew ?_ | refine Below.drewN ?_ _ | refine Below.allocT ?_ (Nat.le_refl _) _ | refine Below.setCell ?_ (by simp <;> omega) _ | refine Below.to ?_ (by assumption) (Nat.le_refl _)))
            refine zT 0 rfl ?_
            try simp only [zX]
            refine zT 1 rfl ?_
            try simp only [zX]
            refine zT 2 rfl ?_
            try simp only [zX]
            refine zT 3 rfl ?_
            try simp only [zX]
            refine zT 4 rfl ?_
            try simp only [zX]
            refine zT 5 rfl ?_
            try simp only [zX]
            refine zT 6 rfl ?_
            try simp only [zX]
            refine wpAnyH_ready (rs := [7]) (by kernel_rfl) (by simp) ?_
            refine AllReadyH.cons rfl (fun K hK => ?_) AllReadyH.nil
            go_simp
            ((go_at_call 87; refine (HVV.out _ (by repeat (first | exact Below.refl _ _ | assumption | refine Below.drew ?_ | refine Below.drewN ?_ _ | refine Below.allocT ?_ (Nat.le_refl _) _ | refine Below.setCell ?_ (by simp <;> omega) _ | refine Below.to ?_ (by assumption) (Nat.le_refl _)))).mono ?_; rintro e w1 ⟨rfl, rfl⟩))
            (try dsimp only)
            refine hK.out _ _ ?_ (fun hNext => ?_)
            · try dsimp only
              exact (by repeat (first | exact Below.refl _ _ | assumption | refine Below.drew ?_ | refine Below.drewN ?_ _ | refine Below.allocT ?_ (Nat.le_refl _) _ | refine Below.setCell ?_ (by simp <;> omega) _ | refine Below.to ?_ (by assumption) (Nat.le_refl _)))
            clear hK K hHeld
            have hHeld := hNext
            clear hNext
            (try dsimp only at hHeld)
            try simp only [zX]
            refine zT 8 rfl ?_
            try simp only [zX]
            refine wpAnyH_done (by kernel_rfl) ?_ _
            go_wp2_with fail
            go_roundw
            case rel => exact ⟨t + 1, by omega, by go_num, fun j hj => by
                rcases Nat.lt_or_ge j t with h | h
                · exact hva.out j h
                · rw [show j = t from by omega, HF.out]; exact HVF.out, Below.to hBi.out hHeld (Nat.le_refl _)⟩
            case measure => simp [intOf]; omega
          | false =>
            rw [hvf] at hvv
            have HVV := hide hvv
            have hee : frmE m l = 11 := by rw [HEE.out, if_pos (not_valid htl (by rw [hfe]; exact hvf))]
            have HE2 := hide hee
            clear hfm q0 q1 hfe hvv hvf hBr hee
            go_wp2_with fail
            refine wp_region_held_drew (S := (fun w' => Below wr.heap.size wr w')) (by kernel_rfl) ?_ (fun hHeld => ?_)
            · try dsimp only
              exact (by repeat (first | exact Below.refl _ _ | assumption | refine Below.drew ?_ | refine Below.drewN ?_ _ | refine Below.allocT ?_ (Nat.le_refl _) _ | refine Below.setCell ?_ (by simp <;> omega) _ | refine Below.to ?_ (by assumption) (Nat.le_refl _)))
            refine zT 0 rfl ?_
            try simp only [zX]
            refine zT 1 rfl ?_
            try simp only [zX]
            refine zT 2 rfl ?_
            try simp only [zX]
            refine zT 3 rfl ?_
            try simp only [zX]
            refine zT 4 rfl ?_
            try simp only [zX]
            refine zT 5 rfl ?_
            try simp only [zX]
            refine zT 6 rfl ?_
            try simp only [zX]
            refine wpAnyH_ready (rs := [7]) (by kernel_rfl) (by simp) ?_
            refine AllReadyH.cons rfl (fun K hK => ?_) AllReadyH.nil
            go_simp
            ((go_at_call 87; refine (HVV.out _ (by repeat (first | exact Below.refl _ _ | assumption | refine Below.drew ?_ | refine Below.drewN ?_ _ | refine Below.allocT ?_ (Nat.le_refl _) _ | refine Below.setCell ?_ (by simp <;> omega) _ | refine Below.to ?_ (by assumption) (Nat.le_refl _)))).mono ?_; rintro e w1 ⟨rfl, rfl⟩))
            (try dsimp only)
            refine hK.out _ _ ?_ (fun hNext => ?_)
            · try dsimp only
              exact (by repeat (first | exact Below.refl _ _ | assumption | refine Below.drew ?_ | refine Below.drewN ?_ _ | refine Below.allocT ?_ (Nat.le_refl _) _ | refine Below.setCell ?_ (by simp <;> omega) _ | refine Below.to ?_ (by assumption) (Nat.le_refl _)))
            clear hK K hHeld
            have hHeld := hNext
            clear hNext
            (try dsimp only at hHeld)
            try simp only [zX]
            refine zT 8 rfl ?_
            try simp only [zX]
            refine wpAnyH_done (by kernel_rfl) ?_ _
            go_wp2_with fail
            go_ret
            exact ⟨ret_int HE2.out.symm, Below.to HBR.out hHeld (Nat.le_refl _)⟩
        · have hee : frmE m l = 0 := by rw [HEE.out, if_neg (by rw [all_valid fun j hj => hva.out j (by omega)]; simp)]
          have HE2 := hide hee
          clear hee hBr
          go_wp2_with fail
          go_ret
          exact ⟨ret_int HE2.out.symm, HBR.out⟩
  · have hee := frm_err (l := l) he
    obtain ⟨z, hz⟩ : ∃ z, m.err = z := ⟨_, rfl⟩
    rw [hz] at he hee
    have hz1 : (z != 0) = true := by simpa using he
    have HZ := hide hz
    have HEE := hide hee
    clear he hz hee
    go_wp2_with (go_at_call 56; refine HCK.out.mono ?_; rw [HZ.out]; rintro e w1 ⟨rfl, hB1⟩)
    go_ret
    exact ⟨ret_int HEE.out.symm, Below.to HB0.out hB1 (Nat.le_refl _)⟩
end Go.Proofs.YtmabfnddedffoaaGreat
/- The first variant of the greatest sum, found by going through all. Plain laws. -/
namespace Go.Proofs.YtmabfnddedffoaaGreat
set_option linter.unusedVariables false
/-- What has been found of the greatest sum when k variants have been gone through. -/
def FirstMax (vals : Nat → Int) (k : Nat) (best at_ : Int) : Prop :=
  (k = 0 ∧ best = 0 ∧ at_ = -1) ∨ ∃ a : Nat, at_ = a ∧ a < k ∧ vals a = best ∧ (∀ j, j < k → vals j ≤ best) ∧ ∀ j, j < a → vals j < best
theorem FirstMax.start (vals : Nat → Int) : FirstMax vals 0 0 (-1) := .inl ⟨rfl, rfl, rfl⟩
theorem FirstMax.take {vals : Nat → Int} {k : Nat} {best at_ : Int} (h : FirstMax vals k best at_) (hb : at_ < 0 ∨ best < vals k) : FirstMax vals (k + 1) (vals k) k := by
  have hlt : ∀ j, j < k → vals j < vals k := fun j hj => by
    rcases h with ⟨h1, h2, h3⟩ | ⟨a, h1, h2, h3, h4, h5⟩
    · omega
    · rcases hb with hb | hb
      · omega
      · have := h4 j hj
        omega
  refine .inr ⟨k, rfl, by omega, rfl, fun j hj => ?_, hlt⟩
  by_cases hjk : j = k
  · rw [hjk]; exact Int.le_refl _
  · have := hlt j (by omega)
    omega
theorem FirstMax.keep {vals : Nat → Int} {k : Nat} {best at_ : Int} (h : FirstMax vals k best at_) (h0 : 0 ≤ at_) (hb : vals k ≤ best) : FirstMax vals (k + 1) best at_ := by
  rcases h with ⟨h1, h2, h3⟩ | ⟨a, h1, h2, h3, h4, h5⟩
  · omega
  · exact .inr ⟨a, h1, by omega, h3, fun j hj => by
      by_cases hjk : j = k
      · subst hjk; exact hb
      · exact h4 j (by omega), h5⟩
theorem find_first {α : Type} (z : α) (p : α → Bool) : ∀ (l : List α) (a : Nat), a < l.length → p (l.getD a z) = true → (∀ j, j < a → p (l.getD j z) = false) → l.find? p = some (l.getD a z)
  | [], a, h, _, _ => by simp at h
  | x :: l, 0, _, h, _ => by
    have h' : p x = true := by simpa using h
    simp [h']
  | x :: l, a + 1, hl, h, hj => by
    have h0 : p x = false := by simpa using hj 0 (by omega)
    have ih := find_first z p l a (by simpa using hl) (by simpa using h) (fun j hja => by have := hj (j + 1) (by omega); simpa using this)
    simp only [List.find?_cons, h0, List.getD_cons_succ]
    exact ih
end Go.Proofs.YtmabfnddedffoaaGreat
/- The greatest sum as the elder program has it: walk. -/
namespace Go.Proofs.YtmabfnddedffoaaGreat
open Go.RowKit
set_option linter.unusedVariables false
set_option linter.unusedSimpArgs false
/-- Whether weights are in their range. -/
def wOk (ws : List Int) : Bool := ws.all fun x => decide (-1000000 ≤ x) && decide (x ≤ 1000000)
theorem wOk_iff {ws : List Int} : wOk ws = true ↔ ∀ x ∈ ws, -1000000 ≤ x ∧ x ≤ 1000000 := by simp [wOk]
theorem wOk_not {ws : List Int} {k : Nat} (hk : k < ws.length) (h : ¬ (-1000000 ≤ ws.getD k 0 ∧ ws.getD k 0 ≤ 1000000)) : wOk ws = false := by
  cases hw : wOk ws with
  | false => rfl
  | true => exact absurd (wOk_iff.1 hw _ (getD_mem hk)) h
theorem wOk_all {ws : List Int} (h : ∀ k, k < ws.length → -1000000 ≤ ws.getD k 0 ∧ ws.getD k 0 ≤ 1000000) : wOk ws = true := by
  rw [wOk_iff]
  intro x hx
  obtain ⟨j, hj, rfl⟩ := List.getElem_of_mem hx
  have := h j hj
  simpa [hj] using this
/-- What Most returns. -/
def mosE (m : Mo) (l : List (List Int)) (ws : List Int) : Int := if frmE m l ≠ 0 then frmE m l else if ws.length ≠ l.length ∨ wOk ws = false then 1 else if allM m = [] then 12 else 0
def mosN (m : Mo) (l : List (List Int)) (ws : List Int) : Int := if mosE m l ws = 0 then bestF m l ws else 0
def mosX (m : Mo) (l : List (List Int)) (ws : List Int) : List Bool := if mosE m l ws = 0 then ((exts m.opts.length []).find? (fun y => valF m l ws y == bestF m l ws)).getD [] else []
theorem mos_bad {m : Mo} {l : List (List Int)} {ws : List Int} {z : Int} (h : mosE m l ws = z) (hz : z ≠ 0) : mosN m l ws = 0 ∧ mosX m l ws = [] := by
  unfold mosN mosX
  rw [h, if_neg hz, if_neg hz]
  exact ⟨rfl, rfl⟩
theorem mos_frm {m : Mo} {l : List (List Int)} {ws : List Int} (h : frmE m l ≠ 0) : mosE m l ws = frmE m l := by unfold mosE; rw [if_pos h]
theorem mos_arg {m : Mo} {l : List (List Int)} {ws : List Int} (h : frmE m l = 0) (h2 : ws.length ≠ l.length ∨ wOk ws = false) : mosE m l ws = 1 := by unfold mosE; rw [if_neg (by simp [h]), if_pos h2]
theorem mos_none {m : Mo} {l : List (List Int)} {ws : List Int} (h : frmE m l = 0) (h2 : ws.length = l.length) (h3 : wOk ws = true) (h4 : allM m = []) : mosE m l ws = 12 := by unfold mosE; rw [if_neg (by simp [h]), if_neg (by simp [h2, h3]), if_pos h4]
theorem mos_ok {m : Mo} {l : List (List Int)} {ws : List Int} (h : frmE m l = 0) (h2 : ws.length = l.length) (h3 : wOk ws = true) (h4 : allM m ≠ []) : mosE m l ws = 0 := by unfold mosE; rw [if_neg (by simp [h]), if_neg (by simp [h2, h3]), if_neg h4]
def MosP (n : Int) (x : List Bool) (er : Int) (w : World) (e : Ending) (w' : World) : Prop := ∃ v, e = .returned (.tuple #[.int .i64 n, v, .int .i64 er]) ∧ Bols w' w'.heap.size v x ∧ Below w.heap.size w w'
theorem MosP.bad {m : Mo} {l : List (List Int)} {ws : List Int} {z : Int} {w w' : World} (h : mosE m l ws = z) (hz : z ≠ 0) (hb : Below w.heap.size w w') : MosP (mosN m l ws) (mosX m l ws) (mosE m l ws) w (.returned (.tuple #[.int .i64 0, .slice none 0 0, .int .i64 z])) w' := by
  obtain ⟨h1, h2⟩ := mos_bad h hz
  rw [h1, h2, h]
  exact ⟨_, rfl, Sl.nil _ _ _ _, hb⟩
end Go.Proofs.YtmabfnddedffoaaGreat

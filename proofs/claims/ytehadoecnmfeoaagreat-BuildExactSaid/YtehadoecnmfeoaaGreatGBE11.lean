/- Part 11 of this claim's texts: walks and plain laws. -/
import Derived.Test.YtehadoecnmfeoaaGreatRows
import Derived.Test.YtehadoecnmfeoaaGreatGBE10
import Derived.Test.YtehadoecnmfeoaaGreatGBE8
/- Holds: walk. -/
namespace Go.Proofs.YtehadoecnmfeoaaGreat
open Go.RowKit
set_option linter.unusedVariables false
set_option linter.unusedSimpArgs false
set_option maxRecDepth 100000 in
set_option maxHeartbeats 4000000 in
theorem Holds_any (m : Mo) (f : List Int) (vs : List Bool) (ov rv fv vv : Value) (w : World) (hs : SizedM m) (hl : f.length ≤ maxLen) (h : MoAt w w.heap.size ov rv m) (hf : Ints w w.heap.size fv f) (hv : Bols w w.heap.size vv vs) :
    Calls Tryz.prog 37 #[.agg #[ov, rv], fv, vv] w fun e w' => e = .returned (.tuple #[.bool (holB m f vs), .int .i64 (holE m f vs)]) ∧ Below w.heap.size w w' := by
  obtain ⟨A, cap, hov⟩ := Sl.form h.o
  obtain ⟨Ar, capr, hrv⟩ := h.r.form
  obtain ⟨Al, capl, hlv⟩ := Sl.form hf
  obtain ⟨Av, capv, hvv⟩ := Sl.form hv
  have H := hide h
  have HF := hide hf
  have HV := hide hv
  have HS := hide hs
  subst hov hrv hlv hvv
  clear h hf hv hs
  go_enter Tryz.func37, Tryz.ntmps37
  go_upto_region 1 with (fail)
  generalize hw0 : World.alloc _ _ = w0
  obtain ⟨hb0, hB0, hs0⟩ := alloc1 hw0
  clear hw0
  have HX0 : Hid (MoBox w0 w.heap.size (.slice A m.opts.length cap) (.slice Ar m.rules.length capr)) := hb0
  have HB0 := hide hB0
  have c0 := cellOf hb0 0
  have c1 := cellOf hb0 1
  have hB2 : Below w.heap.size w (w0.alloc (.cells #[.slice Al f.length capl] 46 (0, 0))) := Below.allocT hB0 (Nat.le_refl _) _
  have hX2 : MoBox (w0.alloc (.cells #[.slice Al f.length capl] 46 (0, 0))) w.heap.size (.slice A m.opts.length cap) (.slice Ar m.rules.length capr) := box_to hb0 (Below.allocT (Below.refl _ _) (Nat.le_refl _) _)
  have hck := check_any m [f] (.slice A m.opts.length cap) (.slice Ar m.rules.length capr) (.slice (some ⟨w0.heap.size, 0, none⟩) 1 1) _ HS.out (sized_one hl) (H.out.up hB2) (forms_one (heap_new _ _ _ rfl) (by simp) (HF.out.up hB2))
  have HCK := hide hck
  have HB2 := hide hB2
  have HX2 := hide hX2
  clear hb0 hB0 hs0 hck hB2 hX2
  by_cases he : m.errF [f] = 0
  · have HE := hide he
    go_upto_region 4 with (go_at_call 104; refine HCK.out.mono ?_; rw [HE.out]; rintro e w1 ⟨rfl, hB1⟩; have hbx := box_to HX2.out hB1; have d0 := cellOf hbx 0; have d1 := cellOf hbx 1; have HB1 : Hid (Below w.heap.size w w1) := Below.to HB2.out hB1 (Nat.le_refl _); clear hbx hB1 c0 c1)
    by_cases hn : vs.length = m.opts.length
    · obtain ⟨h1, h2⟩ := hol_ok he hn
      have e1 : ((vs.length : Int) != (m.opts.length : Int)) = false := by simp; omega
      have ht := holds_any f m.opts.length vs (.slice Al f.length capl) (.slice Av vs.length capv) w1 ((Mo.okF he).2 f (by simp)) (HF.out.up HB1.out) (Sl.up HV.out HB1.out) hn
      have HT := hide ht
      have H1 := hide h1
      have H2 := hide h2
      clear ht h1 h2 he hn
      go_wp2_with (go_at_call 92; refine HT.out.mono ?_; rintro e w2 ⟨rfl, hB3⟩)
      go_ret2
      exact ⟨by rw [H1.out, H2.out]; rfl, Below.to HB1.out hB3 (Nat.le_refl _)⟩
    · obtain ⟨h1, h2⟩ := hol_arg he hn
      have e1 : ((vs.length : Int) != (m.opts.length : Int)) = true := by simp; omega
      have H1 := hide h1
      have H2 := hide h2
      clear h1 h2 he hn
      go_wp2_with fail
      go_ret2
      exact ⟨by rw [H1.out, H2.out]; rfl, HB1.out⟩
  · obtain ⟨h1, h2⟩ := hol_err (vs := vs) he
    obtain ⟨z, hz⟩ : ∃ z, m.errF [f] = z := ⟨_, rfl⟩
    rw [hz] at he h1
    have hz1 : (z != 0) = true := by simpa using he
    have HZ := hide hz
    have H1 := hide h1
    have H2 := hide h2
    clear he hz h1 h2
    go_wp2_with (go_at_call 104; refine HCK.out.mono ?_; rw [HZ.out]; rintro e w1 ⟨rfl, hB1⟩)
    go_ret2
    exact ⟨by rw [H1.out, H2.out]; rfl, Below.to HB2.out hB1 (Nat.le_refl _)⟩
end Go.Proofs.YtehadoecnmfeoaaGreat
/- Buildable: walk. -/
namespace Go.Proofs.YtehadoecnmfeoaaGreat
open Go.RowKit
set_option linter.unusedVariables false
set_option linter.unusedSimpArgs false
set_option maxRecDepth 100000 in
theorem holdsClo_any (f : List Int) (N : Nat) (vs : List Bool) (fv vv : Value) (vb : Nat) (W : World) (hok : validF N f = true) (hbx : W.heap[vb]? = some (.cells #[vv] 35 (0, 0))) (hf : Ints W W.heap.size fv f) (hv : Bols W W.heap.size vv vs) (hN : vs.length = N) :
    Calls Tryz.prog 91 #[fv, .pointer (some ⟨vb, 0, none⟩)] W fun e w' => e = .returned (.bool (!evF1 (vf vs) f)) ∧ Below W.heap.size W w' := by
  have hh := holds_any f N vs fv vv W hok hf hv hN
  obtain ⟨Al, capl, hlv⟩ := Sl.form hf
  obtain ⟨Av, capv, hvv⟩ := Sl.form hv
  subst hlv hvv
  have c0 := cellOf hbx 0
  have HH := hide hh
  clear hh hf hv hN hok hbx
  go_enter Tryz.func91, Tryz.ntmps91
  go_wp2_with (go_at_call 92; refine HH.out.mono ?_; rintro e w1 ⟨rfl, hB1⟩)
  go_ret
  exact ⟨rfl, hB1⟩
set_option maxRecDepth 100000 in
theorem indexForms_holds (p : List Int → Bool) (cap0 : Value) (v : Value) (fs : List (List Int)) (w : World) (hm : fs.length ≤ maxLen) (h : Forms w w.heap.size v fs)
    (hf : ∀ (i : Nat) (f : List Int) (fv : Value) (W : World), i < fs.length → fs.getD i [] = f → Below w.heap.size w W → Ints W w.heap.size fv f → Calls Tryz.prog 91 #[fv, cap0] W fun e w' => e = .returned (.bool (p f)) ∧ Below W.heap.size W w') :
    Calls Tryz.prog 90 #[v, .func (.func 91) #[] #[cap0]] w fun e w' => e = .returned (.int .i64 (idxI p fs)) ∧ Below w.heap.size w w' := by
  unfold maxLen at hm
  obtain ⟨fvs, ⟨A, b, off, cap, rfl, hnc, hA, hc⟩, hin⟩ := h
  have HC := hide hc
  have HA := hide hA
  have HF := hide hf
  have HIN := hide hin
  clear hc hA hf hin
  go_enter Tryz.func90, Tryz.ntmps90
  go_wp2
  go_loopw [5, 8] (fun _ i wr => ∃ k : Nat, k ≤ fs.length ∧ i = .int .i64 k ∧ Hid (∀ j, j < k → p (fs.getD j []) = false) ∧ Below w.heap.size w wr) (fun _ i _ => fs.length - (intOf i).toNat)
  case atStart => exact ⟨0, Nat.zero_le _, rfl, fun j hj => by omega, Below.refl _ _⟩
  case round =>
    obtain ⟨k, hk, rfl, hz, hB⟩ := hrel
    by_cases hlt : k < fs.length
    · obtain ⟨rfl, hbb⟩ : A = some ⟨b, off, none⟩ ∧ b < w.heap.size := by
        rcases HA.out with h | h
        · exact h
        · omega
      obtain ⟨f, hfe⟩ : ∃ f, fs.getD k [] = f := ⟨_, rfl⟩
      have c0 : wr.cell? ⟨b, off + k, none⟩ = some (fvs k) := by
        have h1 := HC.out k 0 hlt (by omega)
        rw [Nat.mul_one, Nat.add_zero] at h1
        exact (hB.cell (p := ⟨b, off + k, none⟩) hbb).trans h1
      have hi : Ints wr w.heap.size (fvs k) f := by
        have := (HIN.out k hlt).below hB
        rwa [hfe] at this
      have hcl := HF.out k f (fvs k) wr hlt hfe hB hi
      obtain ⟨Af, capf, hfv⟩ := Sl.form hi
      rw [hfv] at c0 hcl
      have HFE := hide hfe
      clear hfe hi hfv
      by_cases hp : p f = true
      · rw [hp] at hcl
        have HCL := hide hcl
        have HP := hide hp
        clear hcl hp
        go_wp2_with (go_at_call 91; refine HCL.out.mono ?_; rintro e w1 ⟨rfl, hB1⟩)
        go_ret
        exact ⟨ret_int (idxI_at p [] fs k hz.out hlt (by rw [HFE.out]; exact HP.out)).symm, (by repeat (first | exact Below.refl _ _ | assumption | refine Below.drew ?_ | refine Below.drewN ?_ _ | refine Below.allocT ?_ (Nat.le_refl _) _ | refine Below.setCell ?_ (by simp <;> omega) _ | refine Below.to ?_ (by assumption) (Nat.le_refl _)))⟩
      · have hp' : p f = false := by simpa using hp
        rw [hp'] at hcl
        have HCL := hide hcl
        have HP := hide hp'
        clear hcl hp hp'
        go_wp2_with (go_at_call 91; refine HCL.out.mono ?_; rintro e w1 ⟨rfl, hB1⟩)
        go_roundw
        case rel => exact ⟨k + 1, by omega, by go_num, fun j hj => by
            rcases Nat.lt_or_ge j k with h | h
            · exact hz.out j h
            · rw [show j = k from by omega, HFE.out]; exact HP.out, (by repeat (first | exact Below.refl _ _ | assumption | refine Below.drew ?_ | refine Below.drewN ?_ _ | refine Below.allocT ?_ (Nat.le_refl _) _ | refine Below.setCell ?_ (by simp <;> omega) _ | refine Below.to ?_ (by assumption) (Nat.le_refl _)))⟩
        case measure => simp [intOf]; omega
    · go_wp2
      go_ret
      exact ⟨ret_int (idxI_none p [] fs (fun j hj => hz.out j (by omega))).symm, (by repeat (first | exact Below.refl _ _ | assumption | refine Below.drew ?_ | refine Below.drewN ?_ _ | refine Below.allocT ?_ (Nat.le_refl _) _ | refine Below.setCell ?_ (by simp <;> omega) _ | refine Below.to ?_ (by assumption) (Nat.le_refl _)))⟩

set_option maxRecDepth 100000 in
set_option maxHeartbeats 4000000 in
theorem Buildable_any (m : Mo) (vs : List Bool) (ov rv vv : Value) (w : World) (hs : SizedM m) (h : MoAt w w.heap.size ov rv m) (hv : Bols w w.heap.size vv vs) :
    Calls Tryz.prog 32 #[.agg #[ov, rv], vv] w fun e w' => e = .returned (.tuple #[.int .i64 (buiR m vs), .bool (buiB m vs), .int .i64 (buiE m vs)]) ∧ Below w.heap.size w w' := by
  obtain ⟨A, cap, hov⟩ := Sl.form h.o
  obtain ⟨Ar, capr, hrv⟩ := h.r.form
  obtain ⟨Av, capv, hvv⟩ := Sl.form hv
  have H := hide h
  have HV := hide hv
  have HS := hide hs
  subst hov hrv hvv
  clear h hv hs
  go_enter Tryz.func32, Tryz.ntmps32
  go_upto_region 1 with (fail)
  obtain ⟨w0, hw0⟩ : ∃ w0 : World, (w.alloc (.cells #[.slice A m.opts.length cap, .slice Ar m.rules.length capr] 25)).alloc (.cells #[.slice Av vs.length capv] 35) = w0 := ⟨_, rfl⟩
  have hB0 : Below w.heap.size w w0 := by rw [← hw0]; exact Below.allocT (Below.allocT (Below.refl _ _) (Nat.le_refl _) _) (Nat.le_refl _) _
  have hb0 : w0.heap[w.heap.size]? = some (.cells #[.slice A m.opts.length cap, .slice Ar m.rules.length capr] 25 (0, 0)) := by rw [← hw0, heap_old _ _ _ (by simp)]; exact heap_new _ _ _ rfl
  have hb1 : w0.heap[w.heap.size + 1]? = some (.cells #[.slice Av vs.length capv] 35 (0, 0)) := by rw [← hw0]; exact heap_new _ _ _ (by simp)
  rw [hw0]
  clear hw0
  have HX0 : Hid (MoBox w0 w.heap.size (.slice A m.opts.length cap) (.slice Ar m.rules.length capr)) := hb0
  have HY0 := hide hb1
  have HB0 := hide hB0
  have c0 := cellOf hb0 0
  have c1 := cellOf hb0 1
  have hck := CheckModel_any m (.slice A m.opts.length cap) (.slice Ar m.rules.length capr) w0 HS.out (H.out.up hB0)
  have HCK := hide hck
  clear hb0 hb1 hB0 hck
  by_cases he : m.err = 0
  · have HE := hide he
    go_upto_region 4 with (go_at_call 89; refine HCK.out.mono ?_; rw [HE.out]; rintro e w1 ⟨rfl, hB1⟩; have hbx := box_to HX0.out hB1; have d0 := cellOf hbx 0; have d1 := cellOf hbx 1; have hby := box_to HY0.out hB1; have f0 := cellOf hby 0; have HY1 := hide hby; have HB1 : Hid (Below w.heap.size w w1) := Below.to HB0.out hB1 (Nat.le_refl _); clear hbx hby hB1 c0 c1)
    by_cases hn : vs.length = m.opts.length
    · obtain ⟨h1, h2, h3⟩ := bui_ok he hn
      have e1 : ((vs.length : Int) != (m.opts.length : Int)) = false := by simp; omega
      have hix := indexForms_holds (fun f => !evF1 (vf vs) f) (.pointer (some ⟨w.heap.size + 1, 0, none⟩)) (.slice Ar m.rules.length capr) m.rules w1 HS.out.r.1 (H.out.up HB1.out).r
        (fun i f fv W hi hfe hB hin => holdsClo_any f m.opts.length vs fv _ (w.heap.size + 1) W ((Mo.ok he).2.2.2 f (by rw [← hfe]; exact getD_mem hi)) (box_to HY1.out hB) (hin.more hB.size) (Sl.up (Sl.up HV.out HB1.out) hB) hn)
      obtain ⟨z, hz⟩ : ∃ z, fstR vs m.rules = z := ⟨_, rfl⟩
      rw [show idxI (fun f => !evF1 (vf vs) f) m.rules = z from hz] at hix
      rw [hz] at h2 h3
      have HIX := hide hix
      have H1 := hide h1
      have H2 := hide h2
      have H3 := hide h3
      clear hix h1 h2 h3 he hn hz
      go_wp2_with (go_at_call 90; refine HIX.out.mono ?_; rintro e w2 ⟨rfl, hB2⟩)
      go_ret3
      exact ⟨by rw [H1.out, H2.out, H3.out]; rfl, Below.to HB1.out hB2 (Nat.le_refl _)⟩
    · have h1 : buiE m vs = 1 := by unfold buiE; rw [if_neg (by simp [he]), if_pos hn]
      obtain ⟨h2, h3⟩ := bui_bad h1 (by omega)
      have e1 : ((vs.length : Int) != (m.opts.length : Int)) = true := by simp; omega
      have H1 := hide h1
      have H2 := hide h2
      have H3 := hide h3
      clear h1 h2 h3 he hn
      go_wp2_with fail
      go_ret3
      exact ⟨by rw [H1.out, H2.out, H3.out]; rfl, HB1.out⟩
  · obtain ⟨z, hz⟩ : ∃ z, m.err = z := ⟨_, rfl⟩
    have h1 : buiE m vs = z := by unfold buiE; rw [if_pos he, hz]
    rw [hz] at he
    obtain ⟨h2, h3⟩ := bui_bad h1 he
    have hz1 : (z != 0) = true := by simpa using he
    have HZ := hide hz
    have H1 := hide h1
    have H2 := hide h2
    have H3 := hide h3
    clear he hz h1 h2 h3
    go_wp2_with (go_at_call 89; refine HCK.out.mono ?_; rw [HZ.out]; rintro e w1 ⟨rfl, hB1⟩)
    go_ret3
    exact ⟨by rw [H1.out, H2.out, H3.out]; rfl, Below.to HB0.out hB1 (Nat.le_refl _)⟩
end Go.Proofs.YtehadoecnmfeoaaGreat
/- The variants of a model in order, by number. Plain laws. -/
namespace Go.Proofs.YtehadoecnmfeoaaGreat
set_option linter.unusedVariables false
/-- The variant with a number. -/
def bitsN : Nat → Nat → List Bool
  | 0, _ => []
  | k + 1, n => decide (n / 2 ^ k % 2 = 1) :: bitsN k n
/-- The buildable ones of the first n variants. -/
def varsN (m : Mo) (n : Nat) : List (List Bool) := ((List.range n).map (bitsN m.opts.length)).filter fun x => allF (vf x) m.rules
/-- The buildable variants. -/
def allM (m : Mo) : List (List Bool) := (exts m.opts.length []).filter fun x => allF (vf x) m.rules
theorem allM_len {m : Mo} {x : List Bool} (h : x ∈ allM m) : x.length = m.opts.length := by
  unfold allM at h
  rw [List.mem_filter] at h
  have := exts_len _ _ _ h.1
  simpa using this
theorem satM_all (m : Mo) (p : (Nat → Bool) → Bool) : satM m p = (allM m).filter fun x => p (vf x) := by
  unfold satM allM
  rw [List.filter_filter]
  exact List.filter_congr fun x _ => by rw [Bool.and_comm]
theorem satM_true (m : Mo) : satM m (fun _ => true) = allM m := by
  unfold satM allM
  exact List.filter_congr fun x _ => by simp
/-- Those of some variants in which a formula holds. -/
def whereF (l : List (List Bool)) (f : List Int) : List (List Bool) := l.filter fun x => evF1 (vf x) f
end Go.Proofs.YtehadoecnmfeoaaGreat
/- Lists of rows in memory, and a list of rows that is being made. -/
namespace Go.Proofs.YtehadoecnmfeoaaGreat
open Go.RowKit
set_option linter.unusedVariables false
set_option linter.unusedSimpArgs false
section
variable {α : Type} (enc : α → Value) (z : α)
/-- The slice v holds the list l, below block B. -/
def GRow (w : World) (B : Nat) (v : Value) (l : List α) : Prop := Sl w B 1 v l.length (fun j _ => enc (l.getD j z))
/-- The slice v holds rows, below block B. -/
def GRows (w : World) (B : Nat) (v : Value) (L : List (List α)) : Prop := ∃ fv : Nat → Value, Sl w B 1 v L.length (fun i _ => fv i) ∧ ∀ i, i < L.length → GRow enc z w B (fv i) (L.getD i [])
/-- A list of rows that is being made: its own block lies from block B on, no row lies in it, and none in X. -/
structure GS (e : Nat) (X : Nat → Prop) (B : Nat) (w : World) (sv : Value) (L : List (List α)) (vs : List Value) : Prop where
  len : vs.length = L.length
  own : w.ownsRow B e 1 sv L.length vs
  nx : ∀ b, sv.ownBlock = some b → ¬ X b
  row : ∀ i, i < L.length → GRow enc z w w.heap.size (vs.getD i undef) (L.getD i [])
  ap : ∀ i, i < L.length → 0 < (L.getD i []).length → ∀ b, (vs.getD i undef).ownBlock = some b → ¬ X b ∧ sv.ownBlock ≠ some b
def GStk (e : Nat) (X : Nat → Prop) (B : Nat) (w : World) (sv : Value) (L : List (List α)) : Prop := ∃ vs, GS enc z e X B w sv L vs
variable {enc z}
theorem GRow.below {w w' : World} {B : Nat} {v : Value} {l : List α} (h : GRow enc z w B v l) (hb : Below B w w') : GRow enc z w' B v l := Sl.below h hb
theorem GRow.more {w : World} {B B' : Nat} {v : Value} {l : List α} (h : GRow enc z w B v l) (hB : B ≤ B') : GRow enc z w B' v l := Sl.more h hB
theorem GRow.up {w w' : World} {v : Value} {l : List α} (h : GRow enc z w w.heap.size v l) (hb : Below w.heap.size w w') : GRow enc z w' w'.heap.size v l := Sl.up h hb
theorem GRow.form {w : World} {B : Nat} {v : Value} {l : List α} (h : GRow enc z w B v l) : ∃ A cap, v = .slice A l.length cap := Sl.form h
/-- A row that is not empty lies in a block that there is. -/
theorem GRow.block {w : World} {B : Nat} {v : Value} {l : List α} (h : GRow enc z w B v l) (hl : 0 < l.length) : ∃ b off cap, v = .slice (some ⟨b, off, none⟩) l.length cap ∧ b < B ∧ v.ownBlock = some b := by
  obtain ⟨A, b, off, cap, rfl, _, hA, _⟩ := h
  rcases hA with ⟨rfl, hb⟩ | h0
  · exact ⟨b, off, cap, rfl, hb, rfl⟩
  · omega
/-- A row stays where its block stays. -/
theorem GRow.stay {w w' : World} {B : Nat} {v : Value} {l : List α} (h : GRow enc z w B v l) (hs : ∀ b, 0 < l.length → v.ownBlock = some b → b < B → w'.heap[b]? = w.heap[b]?) : GRow enc z w' B v l := by
  obtain ⟨A, b, off, cap, rfl, hn, hA, hc⟩ := h
  refine ⟨A, b, off, cap, rfl, hn, hA, fun i j hi hj => ?_⟩
  rcases hA with ⟨rfl, hb⟩ | h0
  · have := hs b (by omega) rfl hb
    exact (World.cell?_of_block (a := ⟨b, off + (i * 1 + j), none⟩) this).trans (hc i j hi hj)
  · omega
theorem GRows.below {w w' : World} {B : Nat} {v : Value} {L : List (List α)} (h : GRows enc z w B v L) (hb : Below B w w') : GRows enc z w' B v L := by
  obtain ⟨fv, h1, h2⟩ := h
  exact ⟨fv, h1.below hb, fun i hi => (h2 i hi).below hb⟩
theorem GRows.more {w : World} {B B' : Nat} {v : Value} {L : List (List α)} (h : GRows enc z w B v L) (hB : B ≤ B') : GRows enc z w B' v L := by
  obtain ⟨fv, h1, h2⟩ := h
  exact ⟨fv, h1.more hB, fun i hi => (h2 i hi).more hB⟩
theorem GRows.up {w w' : World} {v : Value} {L : List (List α)} (h : GRows enc z w w.heap.size v L) (hb : Below w.heap.size w w') : GRows enc z w' w'.heap.size v L := (h.below hb).more hb.size
theorem GRows.form {w : World} {B : Nat} {v : Value} {L : List (List α)} (h : GRows enc z w B v L) : ∃ A cap, v = .slice A L.length cap := by
  obtain ⟨fv, h1, _⟩ := h
  exact Sl.form h1
theorem GRows.take {w : World} {B : Nat} {A : Option Addr} {n cap k : Nat} {L : List (List α)} (h : GRows enc z w B (.slice A n cap) L) (hk : k ≤ L.length) : GRows enc z w B (.slice A k cap) (L.take k) := by
  obtain ⟨fv, ⟨A1, b, off, cap1, hv, hn, hA, hc⟩, h2⟩ := h
  injection hv with e1 e2 e3
  subst e1 e3
  have hl : (L.take k).length = k := by simp; omega
  refine ⟨fv, ⟨A, b, off, cap, by rw [hl], by omega, by rw [hl]; rcases hA with h | h; exact .inl h; exact .inr (by omega), fun i j hi hj => hc i j (by omega) hj⟩, fun i hi => ?_⟩
  have h3 := h2 i (by omega)
  rw [show (L.take k).getD i [] = L.getD i [] by rw [List.getD_eq_getElem?_getD, List.getElem?_take_of_lt (by omega), ← List.getD_eq_getElem?_getD]]
  exact h3
theorem GRows.nil (w : World) (B : Nat) : GRows enc z w B (.slice none 0 0) [] := ⟨fun _ => undef, Sl.nil _ _ _ _, fun i hi => by simp at hi⟩
theorem GStk.nil {e : Nat} {X : Nat → Prop} (w : World) (B : Nat) : GStk enc z e X B w (.slice none 0 0) [] :=
  ⟨[], rfl, World.ownsRow_nil w B e 1, fun b hb => (by cases hb), fun i hi => by simp at hi, fun i hi => by simp at hi⟩
theorem GStk.form {e : Nat} {X : Nat → Prop} {B : Nat} {w : World} {sv : Value} {L : List (List α)} (h : GStk enc z e X B w sv L) : ∃ A cap, sv = .slice A L.length cap ∧ L.length ≤ cap ∧ cap ≤ maxLen := by
  obtain ⟨vs, h⟩ := h
  rcases h.own.2 with ⟨h1, h2⟩ | ⟨g, cap, cur, h1, _, _, h2, h3, _⟩
  · exact ⟨none, 0, by rw [h1, h2], by omega, by unfold maxLen; omega⟩
  · exact ⟨_, cap, h1, h2, h3⟩
theorem GStk.lt {e : Nat} {X : Nat → Prop} {B : Nat} {w : World} {sv : Value} {L : List (List α)} (h : GStk enc z e X B w sv L) : ∀ b, sv.ownBlock = some b → B ≤ b ∧ b < w.heap.size := by
  obtain ⟨vs, h⟩ := h
  exact h.own.lt
theorem ownsRow_same {w w' : World} {base e size n : Nat} {v : Value} {xs : List Value} (h : w.ownsRow base e size v n xs) (hs : ∀ b, v.ownBlock = some b → w'.heap[b]? = w.heap[b]?) : w'.ownsRow base e size v n xs := by
  obtain ⟨h1, h2 | ⟨g, cap, cur, rfl, h4, h5, h6⟩⟩ := h
  · exact ⟨h1, .inl h2⟩
  · exact ⟨h1, .inr ⟨g, cap, cur, rfl, h4, (hs g rfl).trans h5, h6⟩⟩
theorem GS.step {e : Nat} {S X X' : Nat → Prop} {B : Nat} {w w' : World} {sv : Value} {L : List (List α)} {vs : List Value} (h : GS enc z e X B w sv L vs) (hk : Keeps S w w') (hS : ∀ b, b < w.heap.size → S b → X b) (hX : ∀ b, b < w.heap.size → X' b → X b) : GS enc z e X' B w' sv L vs := by
  refine ⟨h.len, ownsRow_same h.own fun b hb => hk.block b (h.own.lt b hb).2 fun hs => h.nx b hb (hS b (h.own.lt b hb).2 hs), fun b hb hx => h.nx b hb (hX b (h.own.lt b hb).2 hx), fun i hi => ?_, fun i hi hl b hb => ?_⟩
  · exact ((h.row i hi).stay fun b hl hb hlt => hk.block b hlt fun hs => (h.ap i hi hl b hb).1 (hS b hlt hs)).more hk.size
  · obtain ⟨b', _, _, _, hlt, hob⟩ := (h.row i hi).block hl
    rw [hob] at hb
    injection hb with hb
    subst hb
    have h3 := h.ap i hi hl b' hob
    exact ⟨fun hx => h3.1 (hX b' hlt hx), h3.2⟩
theorem GStk.step {e : Nat} {S X X' : Nat → Prop} {B : Nat} {w w' : World} {sv : Value} {L : List (List α)} (h : GStk enc z e X B w sv L) (hk : Keeps S w w') (hS : ∀ b, b < w.heap.size → S b → X b) (hX : ∀ b, b < w.heap.size → X' b → X b) : GStk enc z e X' B w' sv L := by
  obtain ⟨vs, h⟩ := h
  exact ⟨vs, h.step hk hS hX⟩
theorem GS.below {e : Nat} {X : Nat → Prop} {B : Nat} {w w' : World} {sv : Value} {L : List (List α)} {vs : List Value} (h : GS enc z e X B w sv L vs) (hb : Below w.heap.size w w') : GS enc z e X B w' sv L vs :=
  h.step (S := fun _ => False) (Keeps.of_below hb) (fun _ _ h => h.elim) (fun _ _ h => h)
theorem GStk.below {e : Nat} {X : Nat → Prop} {B : Nat} {w w' : World} {sv : Value} {L : List (List α)} (h : GStk enc z e X B w sv L) (hb : Below w.heap.size w w') : GStk enc z e X B w' sv L :=
  h.step (S := fun _ => False) (Keeps.of_below hb) (fun _ _ h => h.elim) (fun _ _ h => h)
theorem GStk.base {e : Nat} {X : Nat → Prop} {B B' : Nat} {w : World} {sv : Value} {L : List (List α)} (h : GStk enc z e X B w sv L) (hB : B' ≤ B) : GStk enc z e X B' w sv L := by
  obtain ⟨vs, h⟩ := h
  exact ⟨vs, h.len, owns_base h.own hB, h.nx, h.row, h.ap⟩
theorem GStk.rows {e : Nat} {X : Nat → Prop} {B : Nat} {w : World} {sv : Value} {L : List (List α)} (h : GStk enc z e X B w sv L) : GRows enc z w w.heap.size sv L := by
  obtain ⟨vs, h⟩ := h
  refine ⟨fun i => vs.getD i undef, Sl.of_owns h.own fun i j hi hj => ?_, h.row⟩
  obtain rfl : j = 0 := by omega
  have := h.len
  have hi2 : i < vs.length := by omega
  rw [Nat.mul_one, Nat.add_zero]
  simp [hi2]
theorem getD_push {β : Type} {l : List β} {x d : β} {i : Nat} : (l ++ [x]).getD i d = if i < l.length then l.getD i d else if i = l.length then x else d := by
  split
  · rename_i h
    rw [List.getD_eq_getElem?_getD, List.getElem?_append_left h, ← List.getD_eq_getElem?_getD]
  · rename_i h
    split
    · rename_i h2
      subst h2
      simp
    · rw [List.getD_eq_getElem?_getD, List.getElem?_eq_none (by simp; omega)]
      rfl
/-- One more row. -/
theorem GS.push {e : Nat} {X : Nat → Prop} {B : Nat} {w w1 : World} {A : Option Addr} {n cap : Nat} {L : List (List α)} {vs : List Value} {rv v1 : Value} {l : List α} {o : Obj} (h : GS enc z e X B w (.slice A n cap) L vs) (hr : GRow enc z w w.heap.size rv l)
    (hrx : 0 < l.length → ∀ b, rv.ownBlock = some b → ¬ X b ∧ (Value.slice A n cap).ownBlock ≠ some b) (hXw : ∀ b, X b → b < w.heap.size)
    (hown : w1.ownsRow B e 1 v1 (L.length + 1) (vs ++ [rv])) (hg : (w.alloc o).grownBy w1 (Value.slice A n cap).ownBlock)
    (hat : v1.ownBlock = (Value.slice A n cap).ownBlock ∨ v1.ownBlock = some (w.alloc o).heap.size) :
    GStk enc z e X B w1 v1 (L ++ [l]) ∧ Keeps (fun i => (Value.slice A n cap).ownBlock = some i) w w1 := by
  have hk : Keeps (fun i => (Value.slice A n cap).ownBlock = some i) w w1 := Keeps.trans ((Keeps.refl _ w).alloc o) (Keeps.of_grown hg (fun k hk => hk)) (fun _ _ h => h)
  have hvl := h.len
  have hsz := hk.size
  have hall : ∀ i, i < (L ++ [l]).length → GRow enc z w w.heap.size ((vs ++ [rv]).getD i undef) ((L ++ [l]).getD i []) ∧ (0 < ((L ++ [l]).getD i []).length → ∀ b, ((vs ++ [rv]).getD i undef).ownBlock = some b → ¬ X b ∧ (Value.slice A n cap).ownBlock ≠ some b) := by
    intro i hi
    rw [getD_push, getD_push, hvl]
    by_cases h1 : i < L.length
    · rw [if_pos h1, if_pos h1]
      exact ⟨h.row i h1, h.ap i h1⟩
    · have : i = L.length := by simp at hi; omega
      rw [if_neg h1, if_pos this, if_neg h1, if_pos this]
      exact ⟨hr, hrx⟩
  refine ⟨⟨vs ++ [rv], by simp [hvl], by rw [List.length_append]; exact hown, fun b hb hx => ?_, fun i hi => ?_, fun i hi hl b hb => ?_⟩, hk⟩
  · rcases hat with h1 | h1
    · exact h.nx b (h1.symm.trans hb) hx
    · rw [h1] at hb
      injection hb with hb
      have := hXw b hx
      simp at hb
      omega
  · obtain ⟨q1, q2⟩ := hall i hi
    exact (q1.stay fun b hl hb hlt => hk.block b hlt fun hs => (q2 hl b hb).2 hs).more hsz
  · obtain ⟨q1, q2⟩ := hall i hi
    obtain ⟨b', _, _, _, hlt, hob⟩ := q1.block hl
    have hbb : b = b' := by rw [hob] at hb; injection hb with hb; exact hb.symm
    subst hbb
    refine ⟨(q2 hl b hob).1, fun hv => ?_⟩
    rcases hat with h1 | h1
    · exact (q2 hl b hob).2 (h1.symm.trans hv)
    · rw [h1] at hv
      injection hv with hv
      simp at hv
      omega
end
/-- Variants. -/
abbrev Vars (w : World) (B : Nat) (v : Value) (L : List (List Bool)) : Prop := GRows Value.bool false w B v L
abbrev VStk (X : Nat → Prop) (B : Nat) (w : World) (sv : Value) (L : List (List Bool)) : Prop := GStk Value.bool false 35 X B w sv L
theorem infoForm : (Tryz.prog.info? 46).map (fun i => (i.zero, i.size, i.bytes)) = some (some (.slice none 0 0), 1, 24) := by kernel_rfl
end Go.Proofs.YtehadoecnmfeoaaGreat
/- The variant with a number: walk. -/
namespace Go.Proofs.YtehadoecnmfeoaaGreat
open Go.RowKit
set_option linter.unusedVariables false
set_option linter.unusedSimpArgs false
end Go.Proofs.YtehadoecnmfeoaaGreat
/- All buildable variants, and those in which a formula holds, as the elder program has them: walks. -/
namespace Go.Proofs.YtehadoecnmfeoaaGreat
open Go.RowKit
set_option linter.unusedVariables false
set_option linter.unusedSimpArgs false
theorem fst_neg {m : Mo} {vs : List Bool} (h : allF (vf vs) m.rules = true) : fstR vs m.rules = -1 := by
  refine idxI_none _ [] _ fun j hj => ?_
  have := (List.all_eq_true.1 h) (m.rules.getD j []) (getD_mem hj)
  simp only [this]; rfl
theorem fst_pos {m : Mo} {vs : List Bool} (h : allF (vf vs) m.rules = false) : 0 ≤ fstR vs m.rules := by
  have h1 := idxI_any (fun f => !evF1 (vf vs) f) m.rules
  have h2 : m.rules.any (fun f => !evF1 (vf vs) f) = true := by
    unfold allF at h
    rw [List.all_eq_false] at h
    obtain ⟨x, hx, hy⟩ := h
    rw [List.any_eq_true]
    exact ⟨x, hx, by simpa using hy⟩
  rw [h2, decide_eq_true_eq] at h1
  exact h1
end Go.Proofs.YtehadoecnmfeoaaGreat
/- Those of some variants in which a formula holds, as the elder program has them: walk. -/
namespace Go.Proofs.YtehadoecnmfeoaaGreat
open Go.RowKit
set_option linter.unusedVariables false
set_option linter.unusedSimpArgs false
end Go.Proofs.YtehadoecnmfeoaaGreat
/- Count and List as the elder program has them: walks. -/
namespace Go.Proofs.YtehadoecnmfeoaaGreat
open Go.RowKit
set_option linter.unusedVariables false
set_option linter.unusedSimpArgs false
/-- What Count returns. -/
def cntE (m : Mo) (f : List Int) : Nat := if m.errF [f] ≠ 0 then 0 else (whereF (allM m) f).length
end Go.Proofs.YtehadoecnmfeoaaGreat
/- List as the elder program has it: walk. -/
namespace Go.Proofs.YtehadoecnmfeoaaGreat
open Go.RowKit
set_option linter.unusedVariables false
set_option linter.unusedSimpArgs false
/-- What List returns. -/
def lisE (m : Mo) (f : List Int) (most : Int) : Int := if m.errF [f] ≠ 0 then m.errF [f] else if most < 1 ∨ 64 < most then 1 else 0
def lisL (m : Mo) (f : List Int) (most : Int) : List (List Bool) := if lisE m f most = 0 then (whereF (allM m) f).take most.toNat else []
/-- A list of variants and an error. -/
def ListP (L : List (List Bool)) (x : Int) (w : World) (e : Ending) (w' : World) : Prop := ∃ v, e = .returned (.tuple #[v, .int .i64 x]) ∧ Vars w' w'.heap.size v L ∧ Below w.heap.size w w'
theorem ListP.none (x : Int) {w w' : World} (h : Below w.heap.size w w') : ListP [] x w (.returned (.tuple #[.slice none 0 0, .int .i64 x])) w' := ⟨_, rfl, GRows.nil _ _, h⟩
end Go.Proofs.YtehadoecnmfeoaaGreat

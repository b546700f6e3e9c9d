/- Which formulas and models are valid: walks. -/
import Derived.Test.YtohofcmikfkilaaRows
import Derived.Test.YtohofcmikfkilaaF10
namespace Go.Proofs.Ytohofcmikfkilaa
open Go.RowKit
set_option linter.unusedVariables false
set_option linter.unusedSimpArgs false
set_option maxRecDepth 100000 in
theorem indexForms_valid (p : List Int → Bool) (cap0 : Value) (v : Value) (fs : List (List Int)) (w : World) (hm : fs.length ≤ maxLen) (h : Forms w w.heap.size v fs)
    (hf : ∀ (i : Nat) (f : List Int) (fv : Value) (W : World), i < fs.length → fs.getD i [] = f → Below w.heap.size w W → Ints W w.heap.size fv f → Calls Try.prog 103 #[fv, cap0] W fun e w' => e = .returned (.bool (p f)) ∧ Below W.heap.size W w') :
    Calls Try.prog 85 #[v, .func (.func 103) #[] #[cap0]] w fun e w' => e = .returned (.int .i64 (idxI p fs)) ∧ Below w.heap.size w w' := by
  unfold maxLen at hm
  obtain ⟨fvs, ⟨A, b, off, cap, rfl, hnc, hA, hc⟩, hin⟩ := h
  have HC := hide hc
  have HA := hide hA
  have HF := hide hf
  have HIN := hide hin
  clear hc hA hf hin
  go_enter Try.func85, Try.ntmps85
  go_wp2
  go_loopw [5, 8] (fun _ i wr => ∃ k : Nat, k ≤ fs.length ∧ i = .int .i64 k ∧ Hid (∀ j, j < k → p (fs.getD j []) = false) ∧ Below w.heap.size w wr) (fun _ i _ => fs.length - (intOf i).toNat)
  case atStart => exact ⟨0, Nat.zero_le _, rfl, fun j hj => by omega, Below.refl _ _⟩
  case round =>
    obtain ⟨k, hk, rfl, hz, hB⟩ := hrel
    by_cases hlt : k < fs.length
    · obtain ⟨rfl, hbb⟩ : A = some ⟨b, off, none⟩ ∧ b < w.heap.size := by
        rcases HA.out with h | h
        · exact h
        · omega
      obtain ⟨f, hfe⟩ : ∃ f, fs.getD k [] = f := ⟨_, rfl⟩
      have c0 : wr.cell? ⟨b, off + k, none⟩ = some (fvs k) := by
        have h1 := HC.out k 0 hlt (by omega)
        rw [Nat.mul_one, Nat.add_zero] at h1
        exact (hB.cell (p := ⟨b, off + k, none⟩) hbb).trans h1
      have hi : Ints wr w.heap.size (fvs k) f := by
        have := (HIN.out k hlt).below hB
        rwa [hfe] at this
      have hcl := HF.out k f (fvs k) wr hlt hfe hB hi
      obtain ⟨Af, capf, hfv⟩ := Sl.form hi
      rw [hfv] at c0 hcl
      have HFE := hide hfe
      clear hfe hi hfv
      by_cases hp : p f = true
      · rw [hp] at hcl
        have HCL := hide hcl
        have HP := hide hp
        clear hcl hp
        go_wp2_with (go_at_call 103; refine HCL.out.mono ?_; rintro e w1 ⟨rfl, hB1⟩)
        go_ret
        exact ⟨ret_int (idxI_at p [] fs k hz.out hlt (by rw [HFE.out]; exact HP.out)).symm, (by repeat (first | exact Below.refl _ _ | assumption | refine Below.drew ?_ | refine Below.drewN ?_ _ | refine Below.allocT ?_ (Nat.le_refl _) _ | refine Below.setCell ?_ (by simp <;> omega) _ | refine Below.to ?_ (by assumption) (Nat.le_refl _)))⟩
      · have hp' : p f = false := by simpa using hp
        rw [hp'] at hcl
        have HCL := hide hcl
        have HP := hide hp'
        clear hcl hp hp'
        go_wp2_with (go_at_call 103; refine HCL.out.mono ?_; rintro e w1 ⟨rfl, hB1⟩)
        go_roundw
        case rel => exact ⟨k + 1, by omega, by go_num, fun j hj => by
            rcases Nat.lt_or_ge j k with h | h
            · exact hz.out j h
            · rw [show j = k from by omega, HFE.out]; exact HP.out, (by repeat (first | exact Below.refl _ _ | assumption | refine Below.drew ?_ | refine Below.drewN ?_ _ | refine Below.allocT ?_ (Nat.le_refl _) _ | refine Below.setCell ?_ (by simp <;> omega) _ | refine Below.to ?_ (by assumption) (Nat.le_refl _)))⟩
        case measure => simp [intOf]; omega
    · go_wp2
      go_ret
      exact ⟨ret_int (idxI_none p [] fs (fun j hj => hz.out j (by omega))).symm, (by repeat (first | exact Below.refl _ _ | assumption | refine Below.drew ?_ | refine Below.drewN ?_ _ | refine Below.allocT ?_ (Nat.le_refl _) _ | refine Below.setCell ?_ (by simp <;> omega) _ | refine Below.to ?_ (by assumption) (Nat.le_refl _)))⟩


set_option maxRecDepth 100000 in
theorem containsForms_valid (p : List Int → Bool) (cap0 : Value) (v : Value) (fs : List (List Int)) (w : World) (hm : fs.length ≤ maxLen) (h : Forms w w.heap.size v fs)
    (hf : ∀ (i : Nat) (f : List Int) (fv : Value) (W : World), i < fs.length → fs.getD i [] = f → Below w.heap.size w W → Ints W w.heap.size fv f → Calls Try.prog 103 #[fv, cap0] W fun e w' => e = .returned (.bool (p f)) ∧ Below W.heap.size W w') :
    Calls Try.prog 102 #[v, .func (.func 103) #[] #[cap0]] w fun e w' => e = .returned (.bool (fs.any p)) ∧ Below w.heap.size w w' := by
  have hc := indexForms_valid p cap0 v fs w hm h hf
  have he := idxI_any p fs
  have hlo := idxI_lo p fs
  have hhi := idxI_hi p fs
  obtain ⟨z, hz⟩ : ∃ z, idxI p fs = z := ⟨_, rfl⟩
  rw [hz] at hc he hlo hhi
  obtain ⟨fvs, h1, _⟩ := h
  obtain ⟨A, cap, rfl⟩ := Sl.form h1
  have HC := hide hc
  have HE := hide he
  unfold maxLen at hm
  have hz2 : z ≤ 9223372036854775807 := by omega
  clear hc he hz h1 hf
  go_enter Try.func102, Try.ntmps102
  go_wp2_with (go_at_call 85; refine HC.out.mono ?_; rintro e w1 ⟨rfl, hB1⟩)
  go_ret
  exact ⟨ret_bool HE.out, (by repeat (first | exact Below.refl _ _ | assumption | refine Below.drew ?_ | refine Below.drewN ?_ _ | refine Below.allocT ?_ (Nat.le_refl _) _ | refine Below.setCell ?_ (by simp <;> omega) _ | refine Below.to ?_ (by assumption) (Nat.le_refl _)))⟩


/-- A model's cells, in a box. -/
def MoBox (w : World) (b : Nat) (ov rv : Value) : Prop := w.heap[b]? = some (.cells #[ov, rv] 25 (0, 0))
/-- A model in memory. -/
structure MoAt (w : World) (B : Nat) (ov rv : Value) (m : Mo) : Prop where
  o : Names w B ov m.opts
  r : Forms w B rv m.rules
theorem MoAt.below {w w' : World} {B : Nat} {ov rv : Value} {m : Mo} (h : MoAt w B ov rv m) (hb : Below B w w') : MoAt w' B ov rv m := ⟨h.o.below hb, h.r.below hb⟩
theorem MoAt.more {w : World} {B B' : Nat} {ov rv : Value} {m : Mo} (h : MoAt w B ov rv m) (hB : B ≤ B') : MoAt w B' ov rv m := ⟨h.o.more hB, h.r.more hB⟩
theorem MoAt.up {w w' : World} {ov rv : Value} {m : Mo} (h : MoAt w w.heap.size ov rv m) (hb : Below w.heap.size w w') : MoAt w' w'.heap.size ov rv m := (h.below hb).more hb.size
theorem Ints.up {w w' : World} {v : Value} {f : List Int} (h : Ints w w.heap.size v f) (hb : Below w.heap.size w w') : Ints w' w'.heap.size v f := (h.below hb).more hb.size
theorem Forms.up {w w' : World} {v : Value} {f : List (List Int)} (h : Forms w w.heap.size v f) (hb : Below w.heap.size w w') : Forms w' w'.heap.size v f := (h.below hb).more hb.size
theorem Forms.form {w : World} {B : Nat} {v : Value} {fs : List (List Int)} (h : Forms w B v fs) : ∃ A cap, v = .slice A fs.length cap := by
  obtain ⟨_, h1, _⟩ := h
  exact Sl.form h1
/-- Sizes that memory allows. -/
def Sized (l : List (List Int)) : Prop := l.length ≤ maxLen ∧ ∀ f ∈ l, f.length ≤ maxLen
set_option maxRecDepth 100000 in
theorem checkClo_any (f : List Int) (fv ov rv : Value) (n mb : Nat) (A : Option Addr) (cap : Nat) (hov : ov = .slice A n cap) (W : World) (hm : f.length ≤ maxLen) (hb : MoBox W mb ov rv) (B : Nat) (h : Ints W B fv f) :
    Calls Try.prog 103 #[fv, .pointer (some ⟨mb, 0, none⟩)] W fun e w' => e = .returned (.bool (!validF n f)) ∧ Below W.heap.size W w' := by
  subst hov
  have c0 := cellOf hb 0
  have H := hide h
  clear hb h
  go_enter Try.func103, Try.ntmps103
  go_wp2_with (go_at_call 104; refine (valid_any f n _ B _ hm H.out).mono ?_; rintro e w1 ⟨rfl, rfl⟩)
  go_ret
  exact ⟨rfl, (by repeat (first | exact Below.refl _ _ | assumption | refine Below.drew ?_ | refine Below.drewN ?_ _ | refine Below.allocT ?_ (Nat.le_refl _) _ | refine Below.setCell ?_ (by simp <;> omega) _ | refine Below.to ?_ (by assumption) (Nat.le_refl _)))⟩
set_option maxRecDepth 100000 in
theorem checkForms_any (m : Mo) (fs : List (List Int)) (ov rv fv : Value) (w : World) (hm : m.opts.length ≤ maxLen) (hs : Sized fs) (ho : Names w w.heap.size ov m.opts) (h : Forms w w.heap.size fv fs) :
    Calls Try.prog 69 #[.agg #[ov, rv], fv] w fun e w' => e = .returned (.int .i64 (if fs.all (validF m.opts.length) = false then 11 else 0)) ∧ Below w.heap.size w w' := by
  obtain ⟨A, cap, hov⟩ := Sl.form ho
  have hB0 : Below w.heap.size w (w.alloc (.cells #[ov, rv] 25)) := (by repeat (first | exact Below.refl _ _ | assumption | refine Below.drew ?_ | refine Below.drewN ?_ _ | refine Below.allocT ?_ (Nat.le_refl _) _ | refine Below.setCell ?_ (by simp <;> omega) _ | refine Below.to ?_ (by assumption) (Nat.le_refl _)))
  have hbx : MoBox (w.alloc (.cells #[ov, rv] 25)) w.heap.size ov rv := heap_new _ _ _ rfl
  have hcl := containsForms_valid (fun f => !validF m.opts.length f) (.pointer (some ⟨w.heap.size, 0, none⟩)) fv fs (w.alloc (.cells #[ov, rv] 25)) hs.1 (h.up hB0)
    (fun i f fv' W hi hf hB hin => checkClo_any f fv' ov rv m.opts.length w.heap.size A cap hov W (hs.2 f (by rw [← hf]; exact getD_mem hi)) (box_to hbx hB) _ hin)
  have he : fs.any (fun f => !validF m.opts.length f) = !fs.all (validF m.opts.length) := by
    rw [List.all_eq_not_any_not, Bool.not_not]
  rw [he] at hcl
  obtain ⟨Af, capf, hfv⟩ := h.form
  subst hfv hov
  have HCL := hide hcl
  clear hcl he hbx hB0 h ho hs hm
  cases ha : fs.all (validF m.opts.length) with
  | true =>
    rw [ha] at HCL
    clear ha
    go_enter Try.func69, Try.ntmps69
    go_wp2_with (go_at_call 102; refine HCL.out.mono ?_; rintro e w1 ⟨rfl, hB1⟩)
    go_ret
    exact ⟨rfl, (by repeat (first | exact Below.refl _ _ | assumption | refine Below.drew ?_ | refine Below.drewN ?_ _ | refine Below.allocT ?_ (Nat.le_refl _) _ | refine Below.setCell ?_ (by simp <;> omega) _ | refine Below.to ?_ (by assumption) (Nat.le_refl _)))⟩
  | false =>
    rw [ha] at HCL
    clear ha
    go_enter Try.func69, Try.ntmps69
    go_wp2_with (go_at_call 102; refine HCL.out.mono ?_; rintro e w1 ⟨rfl, hB1⟩)
    go_ret
    exact ⟨rfl, (by repeat (first | exact Below.refl _ _ | assumption | refine Below.drew ?_ | refine Below.drewN ?_ _ | refine Below.allocT ?_ (Nat.le_refl _) _ | refine Below.setCell ?_ (by simp <;> omega) _ | refine Below.to ?_ (by assumption) (Nat.le_refl _)))⟩
end Go.Proofs.Ytohofcmikfkilaa

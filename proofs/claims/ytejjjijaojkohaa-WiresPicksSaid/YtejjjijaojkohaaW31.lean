/- Fuses: the check of a table: walks. -/
import Derived.Test.YtejjjijaojkohaaRows
import Derived.Test.YtejjjijaojkohaaW29
namespace Go.Proofs.Ytejjjijaojkohaa
open Go.RowKit
set_option linter.unusedVariables false
set_option linter.unusedSimpArgs false

theorem badFuse_any (f : Fu) (w : World) :
    Calls Try.prog 105 #[.agg #[.int .i64 f.rating, .int .i64 f.melt]] w fun e w' => e = .returned (.bool (!f.ok)) ∧ Below w.heap.size w w' := by
  cases hf : f.ok
  all_goals
    have HF := hide hf
    clear hf
    go_enter Try.func105, Try.ntmps105
    go_wp2_with (go_at_call 54; refine (checkFuse_any _ _).mono ?_; rw [HF.out]; rintro e w' ⟨rfl, hB⟩)
    go_ret
    exact ⟨rfl, (by repeat (first | exact Below.refl _ _ | assumption | refine Below.drew ?_ | refine Below.drewN ?_ _ | refine Below.allocT ?_ (Nat.le_refl _) _ | refine Below.setCell ?_ (by simp <;> omega) _ | refine Below.to ?_ (by assumption) (Nat.le_refl _)))⟩
def fusB (fs : List Fu) : Bool := !(fs.any fun f => !f.ok)
def fusErr (fs : List Fu) : Int := if fusB fs then 0 else 72
theorem fusB_get {fs : List Fu} (h : fusB fs = true) {k : Nat} (hk : k < fs.length) : (fs.getD k Fu.z).ok = true := by
  unfold fusB at h
  have hm : fs.getD k Fu.z ∈ fs := by
    rw [List.getD_eq_getElem?_getD, List.getElem?_eq_getElem hk]
    exact List.getElem_mem _
  simp only [Bool.not_eq_true', List.any_eq_false] at h
  have := h _ hm
  simpa using this

theorem containsFu_any (v : Value) (fs : List Fu) (w : World) (hm : fs.length ≤ maxLen) (h : Fus w w.heap.size v fs) :
    Calls Try.prog 104 #[v, .func (.func 105) #[] #[]] w
      fun e w' => e = .returned (.bool (fs.any (fun f => !f.ok))) ∧ Below w.heap.size w w' := by
  have hl := idxI_lo (fun f : Fu => !f.ok) fs
  have hany := hide (idxI_any (fun f : Fu => !f.ok) fs)
  have H := hide h
  obtain ⟨A, cap, rfl⟩ := Sl.form h
  clear h
  go_enter Try.func104, Try.ntmps104
  go_wp2_with (go_at_call 85; refine (index_checkFuses (fun f => !f.ok) _ fs _ hm H.out (fun i g W _ _ _ => badFuse_any g W)).mono ?_; rintro e w' ⟨rfl, hB⟩)
  go_ret
  exact ⟨ret_bool hany.out, hB⟩

theorem checkFuses_any (v : Value) (fs : List Fu) (w : World) (hm : fs.length ≤ maxLen) (h : Fus w w.heap.size v fs) :
    Calls Try.prog 84 #[v] w fun e w' => e = .returned (.int .i64 (fusErr fs)) ∧ Below w.heap.size w w' := by
  have H := hide h
  obtain ⟨A, cap, rfl⟩ := Sl.form h
  clear h
  cases hf : fs.any (fun f => !f.ok)
  all_goals
    have HF := hide hf
    clear hf
    go_enter Try.func84, Try.ntmps84
    go_wp2_with (go_at_call 104; refine (containsFu_any _ fs _ hm H.out).mono ?_; rw [HF.out]; rintro e w' ⟨rfl, hB⟩)
    go_ret
    exact ⟨ret_int (by unfold fusErr fusB; rw [HF.out]; rfl), (by repeat (first | exact Below.refl _ _ | assumption | refine Below.drew ?_ | refine Below.drewN ?_ _ | refine Below.allocT ?_ (Nat.le_refl _) _ | refine Below.setCell ?_ (by simp <;> omega) _ | refine Below.to ?_ (by assumption) (Nat.le_refl _)))⟩
end Go.Proofs.Ytejjjijaojkohaa

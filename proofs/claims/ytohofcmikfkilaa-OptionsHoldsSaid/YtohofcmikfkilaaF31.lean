/- A formula's value as the elder program has it: walk. -/
import Derived.Test.YtohofcmikfkilaaRows
import Derived.Test.YtohofcmikfkilaaF30
namespace Go.Proofs.Ytohofcmikfkilaa
open Go.RowKit
set_option linter.unusedVariables false
set_option linter.unusedSimpArgs false
set_option maxRecDepth 100000 in
set_option maxHeartbeats 2000000 in
theorem True_any (f : List Int) (N : Nat) (vs : List Bool) (fv vv : Value) (B : Nat) (w : World) (hf : Ints w B fv f) (hv : Bols w B vv vs) (hN : vs.length = N) (hok : validF N f = true) :
    Calls Try.prog 66 #[fv, vv] w fun e W => e = .returned (.bool (evF1 (vf vs) f)) ∧ w = W := by
  unfold validF at hok
  simp only [Bool.and_eq_true, decide_eq_true_eq] at hok
  obtain ⟨A, cap, hfv⟩ := Sl.form hf
  obtain ⟨Av, capv, hvv⟩ := Sl.form hv
  have he := eval_any f N vs fv vv B w (by omega) hf hv hN f.length 0 0 (by omega) (by rw [List.drop_zero]; exact hok.1)
  have he2 : Calls Try.prog 99 #[fv, .int .i64 0, vv] w fun e W => ∃ (x : Option Bool) (q : Nat), e = .returned (.tuple #[.bool (evF1 (vf vs) f), .int .i64 (q : Nat)]) ∧ w = W :=
    he.mono fun e W hh => by
      obtain ⟨x, q, h1, h2, h3⟩ := hh
      exact ⟨none, q, by rw [h1, evF1_of h2], h3⟩
  have HE := hide he2
  subst hfv hvv
  clear he he2 hf hv hok hN
  go_enter Try.func66, Try.ntmps66
  go_wp2_with (go_at_call 99; refine HE.out.mono ?_; rintro e w1 ⟨_, q, rfl, rfl⟩)
  go_ret
  exact ⟨rfl, rfl⟩
end Go.Proofs.Ytohofcmikfkilaa

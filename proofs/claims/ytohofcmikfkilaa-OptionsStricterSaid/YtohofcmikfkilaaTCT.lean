/- Group T of this claim's texts: walks and plain laws. -/
import Derived.Test.YtohofcmikfkilaaRows
import Derived.Test.YtohofcmikfkilaaTCQ
import Derived.Test.YtohofcmikfkilaaTCJ
/- One more rule: plain laws. -/
namespace Go.Proofs.Ytohofcmikfkilaa
set_option linter.unusedVariables false
/-- A model with one more rule. -/
def moM (m : Mo) (r : List Int) : Mo := ⟨m.opts, m.rules ++ [r]⟩
theorem mor_err {m : Mo} {r : List Int} (h : m.err = 0) (hr : validF m.opts.length r = true) (hl : m.rules.length ≤ 11) : (moM m r).err = 0 := by
  obtain ⟨h1, h2, h3, h4⟩ := Mo.ok h
  unfold Mo.err
  have e1 : (moM m r).opts.length = m.opts.length := rfl
  have e2 : (moM m r).rules = m.rules ++ [r] := rfl
  have e3 : (moM m r).names = m.names := rfl
  rw [if_neg (by rw [e1, e2, List.length_append]; simp; omega), if_neg (by rw [e3, h3]; simp), if_neg]
  rw [e1, e2, Bool.not_eq_false, List.all_eq_true]
  intro f hf
  rcases List.mem_append.1 hf with hf | hf
  · exact h4 f hf
  · simp at hf; subst hf; exact hr
theorem mor_errF {m : Mo} {r : List Int} {l : List (List Int)} (h : m.errF l = 0) (hr : validF m.opts.length r = true) (hl : m.rules.length ≤ 11) : (moM m r).errF l = 0 := by
  have h1 := mor_err (Mo.okF h).1 hr hl
  unfold Mo.errF
  rw [if_neg (by simp [h1]), if_neg]
  rw [Bool.not_eq_false, List.all_eq_true]
  exact (Mo.okF h).2
theorem mor_all (m : Mo) (r : List Int) : allM (moM m r) = (allM m).filter fun x => evF1 (vf x) r := by
  unfold allM
  rw [List.filter_filter]
  refine List.filter_congr fun x _ => ?_
  show allF (vf x) (m.rules ++ [r]) = _
  unfold allF
  rw [List.all_append, Bool.and_comm]
  simp
theorem mor_where (m : Mo) (r f : List Int) : whereF (allM (moM m r)) f = (whereF (allM m) f).filter fun x => evF1 (vf x) r := by
  unfold whereF
  rw [mor_all, List.filter_filter, List.filter_filter]
  exact List.filter_congr fun x _ => Bool.and_comm _ _
theorem mor_lack {m : Mo} {r : List Int} {x : Lk} (h : lackB m x = true) : lackB (moM m r) x = true := by
  unfold lackB noneB at *
  rw [List.isEmpty_iff, List.filter_eq_nil_iff] at *
  intro y hy
  rw [mor_all] at hy
  exact h y (List.mem_filter.1 hy).1
theorem mor_mis {m : Mo} {r : List Int} (h : m.err = 0) (h2 : (moM m r).err = 0) : misL m = (misL (moM m r)).filter (lackB m) := by
  rw [mis_ok h, mis_ok h2, List.filter_filter]
  refine List.filter_congr fun x _ => ?_
  cases hx : lackB m x with
  | false => rfl
  | true => rw [mor_lack hx]; rfl
structure StrC (m : Mo) (f r : List Int) : Prop where
  e1 : (moM m r).errF [f] = 0
  e2 : m.errF [f, r] = 0
  e3 : (moM m r).errF [f, r] = 0
  me : (moM m r).err = 0
  le : cntE (moM m r) f ≤ cntE m f
  is : impB (moM m r) f r = true
  eq : impB m f r = true → cntE m f = cntE (moM m r) f
  mis : misL m = (misL (moM m r)).filter (lackB m)
theorem strict_ok {m : Mo} {f r : List Int} (h1 : m.errF [f] = 0) (h2 : m.errF [r] = 0) (hl : m.rules.length ≤ 11) : StrC m f r := by
  have hm := (Mo.okF h1).1
  have vf' := (Mo.okF h1).2 f (by simp)
  have vr := (Mo.okF h2).2 r (by simp)
  have e2 : m.errF [f, r] = 0 := by
    unfold Mo.errF
    rw [if_neg (by simp [hm]), if_neg]
    simp [vf', vr]
  have e1 := mor_errF (r := r) h1 vr hl
  have e3 := mor_errF (r := r) e2 vr hl
  have me := mor_err (r := r) hm vr hl
  refine ⟨e1, e2, e3, me, ?_, ?_, fun hi => ?_, mor_mis hm me⟩
  · rw [cnt_ok e1, cnt_ok h1, mor_where]
    exact List.length_filter_le _ _
  · unfold impB
    rw [if_pos e3, List.isEmpty_iff]
    unfold impL
    rw [satM_all, List.filter_eq_nil_iff]
    intro y hy
    rw [mor_all] at hy
    rw [(List.mem_filter.1 hy).2]
    simp
  · rw [cnt_ok e1, cnt_ok h1, mor_where]
    unfold impB at hi
    rw [if_pos e2, List.isEmpty_iff] at hi
    unfold impL at hi
    rw [satM_all, List.filter_eq_nil_iff] at hi
    rw [List.filter_eq_self.2]
    intro y hy
    unfold whereF at hy
    obtain ⟨h3, h4⟩ := List.mem_filter.1 hy
    have := hi y h3
    rw [h4] at this
    simpa using this
/-- What is found while one goes through a list that holds more. -/
theorem filt_at {p : Lk → Bool} {Y : List Lk} {i : Nat} (hi : i < Y.length) : (p (Y.getD i Lk.z) = true → ((Y.take i).filter p).length < (Y.filter p).length ∧ (Y.filter p).getD ((Y.take i).filter p).length Lk.z = Y.getD i Lk.z ∧ (Y.take (i + 1)).filter p = (Y.take i).filter p ++ [Y.getD i Lk.z]) ∧
    (p (Y.getD i Lk.z) = false → (Y.take (i + 1)).filter p = (Y.take i).filter p) := by
  have ht : Y.take (i + 1) = Y.take i ++ [Y.getD i Lk.z] := by
    rw [List.take_succ_eq_append_getElem hi, List.getD_eq_getElem?_getD, List.getElem?_eq_getElem hi]; rfl
  have hd : Y = Y.take i ++ Y.getD i Lk.z :: Y.drop (i + 1) := by
    have h1 := List.take_append_drop i Y
    rw [List.drop_eq_getElem_cons hi] at h1
    rw [List.getD_eq_getElem?_getD, List.getElem?_eq_getElem hi]
    exact h1.symm
  constructor
  · intro h
    have hf : Y.filter p = (Y.take i).filter p ++ Y.getD i Lk.z :: (Y.drop (i + 1)).filter p := by
      conv => lhs; rw [hd]
      rw [List.filter_append, List.filter_cons, if_pos h]
    refine ⟨by rw [hf, List.length_append, List.length_cons]; omega, ?_, by rw [ht, List.filter_append, List.filter_cons, if_pos h, List.filter_nil]⟩
    rw [hf]
    simp [List.getD_eq_getElem?_getD]
  · intro h
    rw [ht, List.filter_append, List.filter_cons, if_neg (by rw [h]; simp), List.filter_nil, List.append_nil]
theorem filt_in {p : Lk → Bool} {Y : List Lk} {k : Nat} (hk : k < (Y.filter p).length) : p ((Y.filter p).getD k Lk.z) = true := by
  have h1 : (Y.filter p).getD k Lk.z ∈ Y.filter p := by
    rw [List.getD_eq_getElem?_getD, List.getElem?_eq_getElem hk]; exact List.getElem_mem hk
  exact (List.mem_filter.1 h1).2
theorem Lk.ext' {x y : Lk} (h1 : x.a = y.a) (h2 : x.b = y.b) (h3 : x.wa = y.wa) (h4 : x.wb = y.wb) : x = y := by
  cases x; cases y; simp_all
end Go.Proofs.Ytohofcmikfkilaa

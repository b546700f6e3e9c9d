/- Holds: both walks. -/
import Derived.Test.YtejjjijaojkohaaRows
import Derived.Test.YtejjjijaojkohaaW17
namespace Go.Proofs.Ytejjjijaojkohaa
open Go.RowKit
set_option linter.unusedVariables false

def holdsErr (f : Fu) (cs : List Cu) : Int := if f.ok then if cycOk cs then 0 else 71 else 72
def holdsVal (f : Fu) (cs : List Cu) : Bool := f.ok && cycOk cs && holdsB f cs
theorem fuse2 {w0 w1 : World} {b : Nat} {f : Fu} (h : FuseAt w0 b f) (hB : Below w0.heap.size w0 w1) :
    w1.cell? ⟨b, 0, none⟩ = some (.int .i64 f.rating) ∧ w1.cell? ⟨b, 1, none⟩ = some (.int .i64 f.melt) ∧ Below w0.heap.size w0 w1 :=
  ⟨cellOf (box_to h hB) 0, cellOf (box_to h hB) 1, hB⟩

theorem rHolds_any (f : Fu) (v : Value) (cs : List Cu) (w : World) (hn : cs.length ≤ 20) (h : Cyc w w.heap.size v cs) :
    Calls Try.prog 23 #[.agg #[.int .i64 f.rating, .int .i64 f.melt], v] w fun e w' => e = .returned (.tuple #[.bool (holdsVal f cs), .int .i64 (holdsErr f cs)]) ∧ Below w.heap.size w w' := by
  have H := hide h
  obtain ⟨A0, cap0, rfl⟩ := h.form
  clear h
  by_cases hg : f.ok = true
  · by_cases hok : cycOk cs = true
    · have HG := hide (Fu.ok_iff.1 hg)
      have HOK := hide hok
      go_enter Try.func23, Try.ntmps23
      go_wp2_with (first
          | (go_at_call 56; refine (fuse_any f _).mono ?_; rw [hg]; rintro e w1 ⟨rfl, hB1⟩
             have hW1 : Below w.heap.size w w1 := (by repeat (first | exact Below.refl _ _ | assumption | refine Below.drew ?_ | refine Below.drewN ?_ _ | refine Below.allocT ?_ (Nat.le_refl _) _ | refine Below.setCell ?_ (by simp <;> omega) _ | refine Below.to ?_ (by assumption) (Nat.le_refl _)))
             have H1 : Cyc w1 w1.heap.size (.slice A0 cs.length cap0) cs := (H.out.below hW1).more hW1.size
             have H1 := hide H1
             have hb1 := box_at hB1
             have q10 := cellOf hb1 0; have q11 := cellOf hb1 1; have q1l := box_lt hb1; have q1h := hide hb1; clear hb1)
          | (go_at_call 61; refine (cycled_any _ cs _ hn H1.out).mono ?_; rw [hok]; rintro e w2 ⟨rfl, hB2⟩
             have hW2 : Below w.heap.size w w2 := (by repeat (first | exact Below.refl _ _ | assumption | refine Below.drew ?_ | refine Below.drewN ?_ _ | refine Below.allocT ?_ (Nat.le_refl _) _ | refine Below.setCell ?_ (by simp <;> omega) _ | refine Below.to ?_ (by assumption) (Nat.le_refl _)))
             have H2 : Cyc w2 w2.heap.size (.slice A0 cs.length cap0) cs := (H.out.below hW2).more hW2.size
             have H2 := hide H2
             have hb2 := box_to q1h.out hB2
             have q20 := cellOf hb2 0; have q21 := cellOf hb2 1; have q2l := box_lt hb2; have q2h := hide hb2; clear hb2)
          | (go_at_call 62; refine (rholds_any f _ cs _ HG.out HOK.out H2.out).mono ?_; rintro e w3 ⟨rfl, hB3⟩
             have hW3 : Below w.heap.size w w3 := (by repeat (first | exact Below.refl _ _ | assumption | refine Below.drew ?_ | refine Below.drewN ?_ _ | refine Below.allocT ?_ (Nat.le_refl _) _ | refine Below.setCell ?_ (by simp <;> omega) _ | refine Below.to ?_ (by assumption) (Nat.le_refl _)))))
      go_ret2
      exact ⟨by simp [holdsVal, holdsErr, hg, hok], hW3⟩
    · have hok' : cycOk cs = false := by simpa using hok
      go_enter Try.func23, Try.ntmps23
      go_wp2_with (first
          | (go_at_call 56; refine (fuse_any f _).mono ?_; rw [hg]; rintro e w1 ⟨rfl, hB1⟩
             have hW1 : Below w.heap.size w w1 := (by repeat (first | exact Below.refl _ _ | assumption | refine Below.drew ?_ | refine Below.drewN ?_ _ | refine Below.allocT ?_ (Nat.le_refl _) _ | refine Below.setCell ?_ (by simp <;> omega) _ | refine Below.to ?_ (by assumption) (Nat.le_refl _)))
             have H1 : Cyc w1 w1.heap.size (.slice A0 cs.length cap0) cs := (H.out.below hW1).more hW1.size
             have H1 := hide H1)
          | (go_at_call 61; refine (cycled_any _ cs _ hn H1.out).mono ?_; rw [hok']; rintro e w2 ⟨rfl, hB2⟩
             have hW2 : Below w.heap.size w w2 := (by repeat (first | exact Below.refl _ _ | assumption | refine Below.drew ?_ | refine Below.drewN ?_ _ | refine Below.allocT ?_ (Nat.le_refl _) _ | refine Below.setCell ?_ (by simp <;> omega) _ | refine Below.to ?_ (by assumption) (Nat.le_refl _)))))
      go_ret2
      exact ⟨by simp [holdsVal, holdsErr, hg, hok], hW2⟩
  · have hg' : f.ok = false := by simpa using hg
    go_enter Try.func23, Try.ntmps23
    go_wp2_with (go_at_call 56; refine (fuse_any f _).mono ?_; rw [hg']; rintro e w1 ⟨rfl, hB1⟩
                 have hW1 : Below w.heap.size w w1 := (by repeat (first | exact Below.refl _ _ | assumption | refine Below.drew ?_ | refine Below.drewN ?_ _ | refine Below.allocT ?_ (Nat.le_refl _) _ | refine Below.setCell ?_ (by simp <;> omega) _ | refine Below.to ?_ (by assumption) (Nat.le_refl _))))
    go_ret2
    exact ⟨by simp [holdsVal, holdsErr, hg], hW1⟩

theorem Holds_any (f : Fu) (v : Value) (cs : List Cu) (w : World) (hn : cs.length ≤ 20) (h : Cyc w w.heap.size v cs) :
    Calls Try.prog 21 #[.agg #[.int .i64 f.rating, .int .i64 f.melt], v] w fun e w' => e = .returned (.tuple #[.bool (holdsVal f cs), .int .i64 (holdsErr f cs)]) ∧ Below w.heap.size w w' := by
  have H := hide h
  obtain ⟨A0, cap0, rfl⟩ := h.form
  clear h
  obtain ⟨fe, hfe⟩ : ∃ x, fuseErr f = x := ⟨_, rfl⟩
  obtain ⟨ce, hce⟩ : ∃ x, cycErr cs = x := ⟨_, rfl⟩
  obtain ⟨z, hz⟩ : ∃ z : Int, (if fe = 0 then ce else fe) = z := ⟨_, rfl⟩
  have HE : Hid (z = holdsErr f cs) := by
    show _ = _
    rw [← hz, ← hfe, ← hce]
    unfold fuseErr cycErr holdsErr
    cases f.ok <;> cases cycOk cs <;> simp
  have HFE := hide hfe
  have HCE := hide hce
  have HZ := hide hz
  clear hfe hce hz
  by_cases hz0 : z = 0
  · have hok : f.ok = true ∧ cycOk cs = true := by
      have h1 := HE.out
      rw [hz0] at h1
      unfold holdsErr at h1
      cases hl : f.ok <;> cases hu : cycOk cs <;> simp [hl, hu] at h1 ⊢
    have hz1 : (z != 0) = false := by simp [hz0]
    have HG := hide (Fu.ok_iff.1 hok.1)
    have HOK := hide hok.2
    have HOF := hide hok.1
    have HZ0 := hide hz0
    clear hz0 hok
    go_enter Try.func21, Try.ntmps21
    go_wp2_with (first
          | (go_at_call 54; refine (checkFuseE f _).mono ?_; rw [HFE.out]; rintro e w1 ⟨rfl, hB1⟩
             have hW1 : Below w.heap.size w w1 := (by repeat (first | exact Below.refl _ _ | assumption | refine Below.drew ?_ | refine Below.drewN ?_ _ | refine Below.allocT ?_ (Nat.le_refl _) _ | refine Below.setCell ?_ (by simp <;> omega) _ | refine Below.to ?_ (by assumption) (Nat.le_refl _)))
             have H1 : Cyc w1 w1.heap.size (.slice A0 cs.length cap0) cs := (H.out.below hW1).more hW1.size
             have H1 := hide H1
             have hb1 := box_at hB1
             have q10 := cellOf hb1 0; have q11 := cellOf hb1 1; have q1l := box_lt hb1; have q1h := hide hb1; clear hb1)
          | (go_at_call 59; refine (checkCycle_any _ cs _ hn H1.out).mono ?_; rw [HCE.out]; rintro e w2 ⟨rfl, hB2⟩
             have hW2 : Below w.heap.size w w2 := (by repeat (first | exact Below.refl _ _ | assumption | refine Below.drew ?_ | refine Below.drewN ?_ _ | refine Below.allocT ?_ (Nat.le_refl _) _ | refine Below.setCell ?_ (by simp <;> omega) _ | refine Below.to ?_ (by assumption) (Nat.le_refl _)))
             have H2 : Cyc w2 w2.heap.size (.slice A0 cs.length cap0) cs := (H.out.below hW2).more hW2.size
             have H2 := hide H2
             have hb2 := box_to q1h.out hB2
             have q20 := cellOf hb2 0; have q21 := cellOf hb2 1; have q2l := box_lt hb2; have q2h := hide hb2; clear hb2)
          | (go_at_call 58; refine (errors2v _ fe ce z _ (by simp) (by simp) HZ.out).mono ?_; rintro e w3 ⟨rfl, rfl⟩))
    refine (holds_any f _ cs _ HG.out HOK.out ((H2.out.below (Below.allocT (Below.refl _ _) (Nat.le_refl _) _)).more (by simp))).mono ?_
    rintro e w5 ⟨rfl, hB5⟩
    go_wp2
    go_ret2
    exact ⟨by simp [holdsVal, holdsErr, HOF.out, HOK.out], (by repeat (first | exact Below.refl _ _ | assumption | refine Below.drew ?_ | refine Below.drewN ?_ _ | refine Below.allocT ?_ (Nat.le_refl _) _ | refine Below.setCell ?_ (by simp <;> omega) _ | refine Below.to ?_ (by assumption) (Nat.le_refl _)))⟩
  · have hz1 : (z != 0) = true := by simp [hz0]
    have hv : holdsVal f cs = false := by
      have h1 := HE.out
      unfold holdsErr at h1
      unfold holdsVal
      cases hl : f.ok <;> cases hu : cycOk cs <;> simp [hl, hu] at h1 ⊢
      exact absurd h1 hz0
    have HV := hide hv
    clear hz0 hv
    go_enter Try.func21, Try.ntmps21
    go_wp2_with (first
          | (go_at_call 54; refine (checkFuseE f _).mono ?_; rw [HFE.out]; rintro e w1 ⟨rfl, hB1⟩
             have hW1 : Below w.heap.size w w1 := (by repeat (first | exact Below.refl _ _ | assumption | refine Below.drew ?_ | refine Below.drewN ?_ _ | refine Below.allocT ?_ (Nat.le_refl _) _ | refine Below.setCell ?_ (by simp <;> omega) _ | refine Below.to ?_ (by assumption) (Nat.le_refl _)))
             have H1 : Cyc w1 w1.heap.size (.slice A0 cs.length cap0) cs := (H.out.below hW1).more hW1.size
             have H1 := hide H1)
          | (go_at_call 59; refine (checkCycle_any _ cs _ hn H1.out).mono ?_; rw [HCE.out]; rintro e w2 ⟨rfl, hB2⟩
             have hW2 : Below w.heap.size w w2 := (by repeat (first | exact Below.refl _ _ | assumption | refine Below.drew ?_ | refine Below.drewN ?_ _ | refine Below.allocT ?_ (Nat.le_refl _) _ | refine Below.setCell ?_ (by simp <;> omega) _ | refine Below.to ?_ (by assumption) (Nat.le_refl _))))
          | (go_at_call 58; refine (errors2v _ fe ce z _ (by simp) (by simp) HZ.out).mono ?_; rintro e w3 ⟨rfl, rfl⟩))
    go_ret2
    exact ⟨by rw [HV.out, ← HE.out]; rfl, (by repeat (first | exact Below.refl _ _ | assumption | refine Below.drew ?_ | refine Below.drewN ?_ _ | refine Below.allocT ?_ (Nat.le_refl _) _ | refine Below.setCell ?_ (by simp <;> omega) _ | refine Below.to ?_ (by assumption) (Nat.le_refl _)))⟩
end Go.Proofs.Ytejjjijaojkohaa

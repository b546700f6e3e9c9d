/- Part 3 of this claim's texts: walks and plain laws. -/
import Derived.Test.YtejjjijaojkohaaRows
import Derived.Test.YtejjjijaojkohaaGP2
import Derived.Deep.RegionHeld3
import Derived.Deep.DrawnRows
import Derived.Below
import Derived.Deep.RegionHeld
import Derived.Test.YtejjjijaojkohaaGP0
import Derived.Deep.Cut
import Derived.Test.YtejjjijaojkohaaGP1
/- Holds: both walks. -/
namespace Go.Proofs.Ytejjjijaojkohaa
open Go.RowKit
set_option linter.unusedVariables false

def holdsErr (f : Fu) (cs : List Cu) : Int := if f.ok then if cycOk cs then 0 else 71 else 72
def holdsVal (f : Fu) (cs : List Cu) : Bool := f.ok && cycOk cs && holdsB f cs
theorem fuse2 {w0 w1 : World} {b : Nat} {f : Fu} (h : FuseAt w0 b f) (hB : Below w0.heap.size w0 w1) :
    w1.cell? ⟨b, 0, none⟩ = some (.int .i64 f.rating) ∧ w1.cell? ⟨b, 1, none⟩ = some (.int .i64 f.melt) ∧ Below w0.heap.size w0 w1 :=
  ⟨cellOf (box_to h hB) 0, cellOf (box_to h hB) 1, hB⟩

theorem rHolds_any (f : Fu) (v : Value) (cs : List Cu) (w : World) (hn : cs.length ≤ 20) (h : Cyc w w.heap.size v cs) :
    Calls Try.prog 23 #[.agg #[.int .i64 f.rating, .int .i64 f.melt], v] w fun e w' => e = .returned (.tuple #[.bool (holdsVal f cs), .int .i64 (holdsErr f cs)]) ∧ Below w.heap.size w w' := by
  have H := hide h
  obtain ⟨A0, cap0, rfl⟩ := h.form
  clear h
  by_cases hg : f.ok = true
  · by_cases hok : cycOk cs = true
    · have HG := hide (Fu.ok_iff.1 hg)
      have HOK := hide hok
      go_enter Try.func23, Try.ntmps23
      go_wp2_with (first
          | (go_at_call 56; refine (fuse_any f _).mono ?_; rw [hg]; rintro e w1 ⟨rfl, hB1⟩
             have hW1 : Below w.heap.size w w1 := (by repeat (first | exact Below.refl _ _ | assumption | refine Below.drew ?_ | refine Below.drewN ?_ _ | refine Below.allocT ?_ (Nat.le_refl _) _ | refine Below.setCell ?_ (by simp <;> omega) _ | refine Below.to ?_ (by assumption) (Nat.le_refl _)))
             have H1 : Cyc w1 w1.heap.size (.slice A0 cs.length cap0) cs := (H.out.below hW1).more hW1.size
             have H1 := hide H1
             have hb1 := box_at hB1
             have q10 := cellOf hb1 0; have q11 := cellOf hb1 1; have q1l := box_lt hb1; have q1h := hide hb1; clear hb1)
          | (go_at_call 61; refine (cycled_any _ cs _ hn H1.out).mono ?_; rw [hok]; rintro e w2 ⟨rfl, hB2⟩
             have hW2 : Below w.heap.size w w2 := (by repeat (first | exact Below.refl _ _ | assumption | refine Below.drew ?_ | refine Below.drewN ?_ _ | refine Below.allocT ?_ (Nat.le_refl _) _ | refine Below.setCell ?_ (by simp <;> omega) _ | refine Below.to ?_ (by assumption) (Nat.le_refl _)))
             have H2 : Cyc w2 w2.heap.size (.slice A0 cs.length cap0) cs := (H.out.below hW2).more hW2.size
             have H2 := hide H2
             have hb2 := box_to q1h.out hB2
             have q20 := cellOf hb2 0; have q21 := cellOf hb2 1; have q2l := box_lt hb2; have q2h := hide hb2; clear hb2)
          | (go_at_call 62; refine (rholds_any f _ cs _ HG.out HOK.out H2.out).mono ?_; rintro e w3 ⟨rfl, hB3⟩
             have hW3 : Below w.heap.size w w3 := (by repeat (first | exact Below.refl _ _ | assumption | refine Below.drew ?_ | refine Below.drewN ?_ _ | refine Below.allocT ?_ (Nat.le_refl _) _ | refine Below.setCell ?_ (by simp <;> omega) _ | refine Below.to ?_ (by assumption) (Nat.le_refl _)))))
      go_ret2
      exact ⟨by simp [holdsVal, holdsErr, hg, hok], hW3⟩
    · have hok' : cycOk cs = false := by simpa using hok
      go_enter Try.func23, Try.ntmps23
      go_wp2_with (first
          | (go_at_call 56; refine (fuse_any f _).mono ?_; rw [hg]; rintro e w1 ⟨rfl, hB1⟩
             have hW1 : Below w.heap.size w w1 := (by repeat (first | exact Below.refl _ _ | assumption | refine Below.drew ?_ | refine Below.drewN ?_ _ | refine Below.allocT ?_ (Nat.le_refl _) _ | refine Below.setCell ?_ (by simp <;> omega) _ | refine Below.to ?_ (by assumption) (Nat.le_refl _)))
             have H1 : Cyc w1 w1.heap.size (.slice A0 cs.length cap0) cs := (H.out.below hW1).more hW1.size
             have H1 := hide H1)
          | (go_at_call 61; refine (cycled_any _ cs _ hn H1.out).mono ?_; rw [hok']; rintro e w2 ⟨rfl, hB2⟩
             have hW2 : Below w.heap.size w w2 := (by repeat (first | exact Below.refl _ _ | assumption | refine Below.drew ?_ | refine Below.drewN ?_ _ | refine Below.allocT ?_ (Nat.le_refl _) _ | refine Below.setCell ?_ (by simp <;> omega) _ | refine Below.to ?_ (by assumption) (Nat.le_refl _)))))
      go_ret2
      exact ⟨by simp [holdsVal, holdsErr, hg, hok], hW2⟩
  · have hg' : f.ok = false := by simpa using hg
    go_enter Try.func23, Try.ntmps23
    go_wp2_with (go_at_call 56; refine (fuse_any f _).mono ?_; rw [hg']; rintro e w1 ⟨rfl, hB1⟩
                 have hW1 : Below w.heap.size w w1 := (by repeat (first | exact Below.refl _ _ | assumption | refine Below.drew ?_ | refine Below.drewN ?_ _ | refine Below.allocT ?_ (Nat.le_refl _) _ | refine Below.setCell ?_ (by simp <;> omega) _ | refine Below.to ?_ (by assumption) (Nat.le_refl _))))
    go_ret2
    exact ⟨by simp [holdsVal, holdsErr, hg], hW1⟩

theorem Holds_any (f : Fu) (v : Value) (cs : List Cu) (w : World) (hn : cs.length ≤ 20) (h : Cyc w w.heap.size v cs) :
    Calls Try.prog 21 #[.agg #[.int .i64 f.rating, .int .i64 f.melt], v] w fun e w' => e = .returned (.tuple #[.bool (holdsVal f cs), .int .i64 (holdsErr f cs)]) ∧ Below w.heap.size w w' := by
  have H := hide h
  obtain ⟨A0, cap0, rfl⟩ := h.form
  clear h
  obtain ⟨fe, hfe⟩ : ∃ x, fuseErr f = x := ⟨_, rfl⟩
  obtain ⟨ce, hce⟩ : ∃ x, cycErr cs = x := ⟨_, rfl⟩
  obtain ⟨z, hz⟩ : ∃ z : Int, (if fe = 0 then ce else fe) = z := ⟨_, rfl⟩
  have HE : Hid (z = holdsErr f cs) := by
    show _ = _
    rw [← hz, ← hfe, ← hce]
    unfold fuseErr cycErr holdsErr
    cases f.ok <;> cases cycOk cs <;> simp
  have HFE := hide hfe
  have HCE := hide hce
  have HZ := hide hz
  clear hfe hce hz
  by_cases hz0 : z = 0
  · have hok : f.ok = true ∧ cycOk cs = true := by
      have h1 := HE.out
      rw [hz0] at h1
      unfold holdsErr at h1
      cases hl : f.ok <;> cases hu : cycOk cs <;> simp [hl, hu] at h1 ⊢
    have hz1 : (z != 0) = false := by simp [hz0]
    have HG := hide (Fu.ok_iff.1 hok.1)
    have HOK := hide hok.2
    have HOF := hide hok.1
    have HZ0 := hide hz0
    clear hz0 hok
    go_enter Try.func21, Try.ntmps21
    go_wp2_with (first
          | (go_at_call 54; refine (checkFuseE f _).mono ?_; rw [HFE.out]; rintro e w1 ⟨rfl, hB1⟩
             have hW1 : Below w.heap.size w w1 := (by repeat (first | exact Below.refl _ _ | assumption | refine Below.drew ?_ | refine Below.drewN ?_ _ | refine Below.allocT ?_ (Nat.le_refl _) _ | refine Below.setCell ?_ (by simp <;> omega) _ | refine Below.to ?_ (by assumption) (Nat.le_refl _)))
             have H1 : Cyc w1 w1.heap.size (.slice A0 cs.length cap0) cs := (H.out.below hW1).more hW1.size
             have H1 := hide H1
             have hb1 := box_at hB1
             have q10 := cellOf hb1 0; have q11 := cellOf hb1 1; have q1l := box_lt hb1; have q1h := hide hb1; clear hb1)
          | (go_at_call 59; refine (checkCycle_any _ cs _ hn H1.out).mono ?_; rw [HCE.out]; rintro e w2 ⟨rfl, hB2⟩
             have hW2 : Below w.heap.size w w2 := (by repeat (first | exact Below.refl _ _ | assumption | refine Below.drew ?_ | refine Below.drewN ?_ _ | refine Below.allocT ?_ (Nat.le_refl _) _ | refine Below.setCell ?_ (by simp <;> omega) _ | refine Below.to ?_ (by assumption) (Nat.le_refl _)))
             have H2 : Cyc w2 w2.heap.size (.slice A0 cs.length cap0) cs := (H.out.below hW2).more hW2.size
             have H2 := hide H2
             have hb2 := box_to q1h.out hB2
             have q20 := cellOf hb2 0; have q21 := cellOf hb2 1; have q2l := box_lt hb2; have q2h := hide hb2; clear hb2)
          | (go_at_call 58; refine (errors2v _ fe ce z _ (by simp) (by simp) HZ.out).mono ?_; rintro e w3 ⟨rfl, rfl⟩))
    refine (holds_any f _ cs _ HG.out HOK.out ((H2.out.below (Below.allocT (Below.refl _ _) (Nat.le_refl _) _)).more (by simp))).mono ?_
    rintro e w5 ⟨rfl, hB5⟩
    go_wp2
    go_ret2
    exact ⟨by simp [holdsVal, holdsErr, HOF.out, HOK.out], (by repeat (first | exact Below.refl _ _ | assumption | refine Below.drew ?_ | refine Below.drewN ?_ _ | refine Below.allocT ?_ (Nat.le_refl _) _ | refine Below.setCell ?_ (by simp <;> omega) _ | refine Below.to ?_ (by assumption) (Nat.le_refl _)))⟩
  · have hz1 : (z != 0) = true := by simp [hz0]
    have hv : holdsVal f cs = false := by
      have h1 := HE.out
      unfold holdsErr at h1
      unfold holdsVal
      cases hl : f.ok <;> cases hu : cycOk cs <;> simp [hl, hu] at h1 ⊢
      exact absurd h1 hz0
    have HV := hide hv
    clear hz0 hv
    go_enter Try.func21, Try.ntmps21
    go_wp2_with (first
          | (go_at_call 54; refine (checkFuseE f _).mono ?_; rw [HFE.out]; rintro e w1 ⟨rfl, hB1⟩
             have hW1 : Below w.heap.size w w1 := (by repeat (first | exact Below.refl _ _ | assumption | refine Below.drew ?_ | refine Below.drewN ?_ _ | refine Below.allocT ?_ (Nat.le_refl _) _ | refine Below.setCell ?_ (by simp <;> omega) _ | refine Below.to ?_ (by assumption) (Nat.le_refl _)))
             have H1 : Cyc w1 w1.heap.size (.slice A0 cs.length cap0) cs := (H.out.below hW1).more hW1.size
             have H1 := hide H1)
          | (go_at_call 59; refine (checkCycle_any _ cs _ hn H1.out).mono ?_; rw [HCE.out]; rintro e w2 ⟨rfl, hB2⟩
             have hW2 : Below w.heap.size w w2 := (by repeat (first | exact Below.refl _ _ | assumption | refine Below.drew ?_ | refine Below.drewN ?_ _ | refine Below.allocT ?_ (Nat.le_refl _) _ | refine Below.setCell ?_ (by simp <;> omega) _ | refine Below.to ?_ (by assumption) (Nat.le_refl _))))
          | (go_at_call 58; refine (errors2v _ fe ce z _ (by simp) (by simp) HZ.out).mono ?_; rintro e w3 ⟨rfl, rfl⟩))
    go_ret2
    exact ⟨by rw [HV.out, ← HE.out]; rfl, (by repeat (first | exact Below.refl _ _ | assumption | refine Below.drew ?_ | refine Below.drewN ?_ _ | refine Below.allocT ?_ (Nat.le_refl _) _ | refine Below.setCell ?_ (by simp <;> omega) _ | refine Below.to ?_ (by assumption) (Nat.le_refl _)))⟩
end Go.Proofs.Ytejjjijaojkohaa
/- The least current under which a fuse does not guard a wire: walks. -/
namespace Go.Proofs.Ytejjjijaojkohaa
open Go.RowKit
set_option linter.unusedVariables false
attribute [local go_sem ↓] Go.wp_at_zero Go.wp_at_succ


set_option maxRecDepth 100000 in
theorem least_ung (p : Int → Bool) (c0 c1 c2 : Value) (w : World) (hf : ∀ (a : Int) (W : World), 0 ≤ a → a ≤ 500 → Below w.heap.size w W → Calls Try.prog 98 #[.int .i64 a, c0, c1, c2] W fun e w' => e = .returned (.bool (p a)) ∧ Below W.heap.size W w') :
    Calls Try.prog 95 #[.func (.func 98) #[] #[c0, c1, c2]] w fun e w' => e = .returned (.int .i64 (leastI p)) ∧ Below w.heap.size w w' := by
  have HF := hide hf; clear hf
  go_enter Try.func95, Try.ntmps95
  go_wp2
  go_loopw [3, 4] (fun _ i wr => ∃ k : Nat, k ≤ 501 ∧ i = .int .i64 k ∧ Hid (∀ j : Nat, j < k → p j = false) ∧ Below w.heap.size w wr) (fun _ i _ => 501 - (intOf i).toNat)
  case atStart => exact ⟨0, by omega, rfl, fun j hj => by omega, Below.refl _ _⟩
  case round =>
    obtain ⟨k, hk, rfl, hz, hB⟩ := hrel
    by_cases hlt : k < 501
    · by_cases hp : p k = true
      · have HP := hide hp
        go_wp2_with (go_at_call 98; refine (HF.out (k : Int) _ (by omega) (by omega) hB).mono ?_; rw [hp]; rintro e w1 ⟨rfl, hB1⟩)
        go_ret
        exact ⟨ret_int (leastI_at p k hz.out hlt HP.out).symm, (by repeat (first | exact Below.refl _ _ | assumption | refine Below.drew ?_ | refine Below.drewN ?_ _ | refine Below.allocT ?_ (Nat.le_refl _) _ | refine Below.setCell ?_ (by simp <;> omega) _ | refine Below.to ?_ (by assumption) (Nat.le_refl _)))⟩
      · have hp' : p k = false := by simpa using hp
        clear hp
        have HP := hide hp'
        go_wp2_with (go_at_call 98; refine (HF.out (k : Int) _ (by omega) (by omega) hB).mono ?_; rw [hp']; rintro e w1 ⟨rfl, hB1⟩)
        go_roundw
        case rel => exact ⟨k + 1, by omega, by go_num, fun j hj => by
            rcases Nat.lt_or_ge j k with h | h
            · exact hz.out j h
            · rw [show j = k from by omega]; exact HP.out, (by repeat (first | exact Below.refl _ _ | assumption | refine Below.drew ?_ | refine Below.drewN ?_ _ | refine Below.allocT ?_ (Nat.le_refl _) _ | refine Below.setCell ?_ (by simp <;> omega) _ | refine Below.to ?_ (by assumption) (Nat.le_refl _)))⟩
        case measure => simp [intOf]; omega
    · go_wp2
      go_ret
      exact ⟨ret_int (leastI_none p (fun j hj => hz.out j (by omega))).symm, (by repeat (first | exact Below.refl _ _ | assumption | refine Below.drew ?_ | refine Below.drewN ?_ _ | refine Below.allocT ?_ (Nat.le_refl _) _ | refine Below.setCell ?_ (by simp <;> omega) _ | refine Below.to ?_ (by assumption) (Nat.le_refl _)))⟩


/-- Under this current the fuse does not guard the wire. -/
noncomputable def ungB (f : Fu) (g : Ga) (amb a : Int) : Bool := !guardB f g amb a

theorem ungClo_any (b3 b4 b5 : Nat) (f : Fu) (g : Ga) (amb a : Int) (w : World) (h3 : FuseAt w b3 f) (h4 : GaugeAt w b4 g) (h5 : w.heap[b5]? = some (.cells #[.int .i64 amb] 3 (0, 0))) (hf : f.Ok) (hg : g.Ok) (hb0 : 0 ≤ amb) (hb1 : amb ≤ 1000) (ha0 : 0 ≤ a) (ha1 : a ≤ 500) :
    Calls Try.prog 98 #[.int .i64 a, .pointer (some ⟨b3, 0, none⟩), .pointer (some ⟨b4, 0, none⟩), .pointer (some ⟨b5, 0, none⟩)] w fun e w' => e = .returned (.bool (ungB f g amb a)) ∧ Below w.heap.size w w' := by
  have HF := hide hf
  have HG := hide hg
  clear hf hg
  obtain ⟨k0, k1, _⟩ := fuse2 h3 (Below.refl _ w)
  obtain ⟨j0, j1, j2, j3, j4, _⟩ := gauge5 h4 (Below.refl _ w)
  have i0 : w.cell? ⟨b5, 0, none⟩ = some (.int .i64 amb) := cellOf h5 0
  clear h3 h4 h5
  go_enter Try.func98, Try.ntmps98
  go_wp2_with fail
  refine (guarded_any f g amb a _ HF.out HG.out hb0 hb1 ha0 ha1).mono ?_
  rintro e w1 ⟨rfl, hB1⟩
  go_wp2_with fail
  go_ret
  exact ⟨rfl, hB1⟩

theorem unguarded_any (f : Fu) (g : Ga) (amb : Int) (w : World) (hf : f.Ok) (hg : g.Ok) (hb0 : 0 ≤ amb) (hb1 : amb ≤ 1000) :
    Calls Try.prog 70 #[.agg #[.int .i64 f.rating, .int .i64 f.melt], .agg #[.int .i64 g.area, .int .i64 g.ohm, .int .i64 g.heat, .int .i64 g.cool, .int .i64 g.limit], .int .i64 amb] w fun e w' => e = .returned (.int .i64 (leastI (ungB f g amb))) ∧ Below w.heap.size w w' := by
  have HF := hide hf
  have HG := hide hg
  clear hf hg
  go_enter Try.func70, Try.ntmps70
  go_wp2_with fail
  obtain ⟨w0, hw0⟩ : ∃ w0 : World, ((w.alloc (.cells #[.int .i64 f.rating, .int .i64 f.melt] 30)).alloc (.cells #[.int .i64 g.area, .int .i64 g.ohm, .int .i64 g.heat, .int .i64 g.cool, .int .i64 g.limit] 23)).alloc (.cells #[.int .i64 amb] 3) = w0 := ⟨_, rfl⟩
  have hfu : FuseAt w0 w.heap.size f := by unfold FuseAt; rw [← hw0, heap_old _ _ _ (by simp <;> omega), heap_old _ _ _ (by simp <;> omega), heap_new _ _ _ rfl]
  have hga : GaugeAt w0 (w.heap.size + 1) g := by unfold GaugeAt; rw [← hw0, heap_old _ _ _ (by simp <;> omega), heap_new _ _ _ (by simp)]
  have ham : w0.heap[w.heap.size + 1 + 1]? = some (.cells #[.int .i64 amb] 3 (0, 0)) := by rw [← hw0, heap_new _ _ _ (by simp)]
  have hB0 : Below w.heap.size w w0 := by rw [← hw0]; exact (by repeat (first | exact Below.refl _ _ | assumption | refine Below.drew ?_ | refine Below.drewN ?_ _ | refine Below.allocT ?_ (Nat.le_refl _) _ | refine Below.setCell ?_ (by simp <;> omega) _ | refine Below.to ?_ (by assumption) (Nat.le_refl _)))
  rw [hw0]
  refine (least_ung (ungB f g amb) _ _ _ w0 (fun a W ha0 ha1 hB => ungClo_any _ _ _ f g amb a W (box_to hfu hB) (box_to hga hB) (box_to ham hB) HF.out HG.out hb0 hb1 ha0 ha1)).mono ?_
  rintro e w1 ⟨rfl, hB1⟩
  go_wp2_with fail
  go_ret
  exact ⟨rfl, Below.to hB0 hB1 (Nat.le_refl _)⟩

set_option maxRecDepth 100000 in
theorem runguarded_any (f : Fu) (g : Ga) (amb : Int) (w : World) (hf : f.Ok) (hg : g.Ok) (hb0 : 0 ≤ amb) (hb1 : amb ≤ 1000) :
    Calls Try.prog 71 #[.agg #[.int .i64 f.rating, .int .i64 f.melt], .agg #[.int .i64 g.area, .int .i64 g.ohm, .int .i64 g.heat, .int .i64 g.cool, .int .i64 g.limit], .int .i64 amb] w fun e w' => e = .returned (.int .i64 (leastI (ungB f g amb))) ∧ Below w.heap.size w w' := by
  have HF := hide hf
  have HG := hide hg
  clear hf hg
  go_enter Try.func71, Try.ntmps71
  go_wp2_with fail
  obtain ⟨w0, hw0⟩ : ∃ w0 : World, (w.alloc (.cells #[.int .i64 f.rating, .int .i64 f.melt] 30)).alloc (.cells #[.int .i64 g.area, .int .i64 g.ohm, .int .i64 g.heat, .int .i64 g.cool, .int .i64 g.limit] 23) = w0 := ⟨_, rfl⟩
  have hfu : FuseAt w0 w.heap.size f := by unfold FuseAt; rw [← hw0, heap_old _ _ _ (by simp <;> omega), heap_new _ _ _ rfl]
  have hga : GaugeAt w0 (w.heap.size + 1) g := by unfold GaugeAt; rw [← hw0, heap_new _ _ _ (by simp)]
  have hB0 : Below w.heap.size w w0 := by rw [← hw0]; exact (by repeat (first | exact Below.refl _ _ | assumption | refine Below.drew ?_ | refine Below.drewN ?_ _ | refine Below.allocT ?_ (Nat.le_refl _) _ | refine Below.setCell ?_ (by simp <;> omega) _ | refine Below.to ?_ (by assumption) (Nat.le_refl _)))
  have HFU := hide hfu
  have HGA := hide hga
  rw [hw0]
  clear hfu hga hw0
  go_loopw [7] (fun i wr => ∃ k : Nat, k ≤ 501 ∧ i = .int .i64 k ∧ Hid (∀ j : Nat, j < k → ungB f g amb j = false) ∧ Below w0.heap.size w0 wr) (fun i _ => 501 - (intOf i).toNat)
  case atStart => exact ⟨0, by omega, rfl, fun j hj => absurd hj (by omega), Below.refl _ _⟩
  case round =>
    obtain ⟨k, hk, rfl, hz, hB⟩ := hrel
    by_cases hlt : k < 501
    · obtain ⟨k0, k1, _⟩ := fuse2 HFU.out hB
      obtain ⟨j0, j1, j2, j3, j4, _⟩ := gauge5 HGA.out hB
      obtain ⟨q, hq⟩ : ∃ q, guardB f g amb k = q := ⟨_, rfl⟩
      have HQ := hide hq
      clear hq
      go_wp2_with fail
      refine (rguards_any f g amb (k : Int) _ HF.out HG.out hb0 hb1 (by omega) (by omega)).mono ?_
      rw [HQ.out]
      rintro e w1 ⟨rfl, hB1⟩
      have HB1 : Hid (Below w0.heap.size w0 w1) := Below.to hB hB1 (Nat.le_refl _)
      clear hB1
      cases q with
      | true =>
        go_wp2_with fail
        go_roundw
        case rel => exact ⟨k + 1, by omega, by go_num, fun j hj => by
            rcases Nat.lt_or_ge j k with h | h
            · exact hz.out j h
            · rw [show j = k from by omega]; unfold ungB; rw [HQ.out]; rfl, HB1.out⟩
        case measure => simp [intOf]; omega
      | false =>
        go_wp2_with fail
        go_ret
        exact ⟨ret_int (leastI_at _ k hz.out hlt (by unfold ungB; rw [HQ.out]; rfl)).symm, Below.to hB0 HB1.out (Nat.le_refl _)⟩
    · go_wp2
      go_ret
      exact ⟨ret_int (leastI_none _ (fun j hj => hz.out j (by omega))).symm, Below.to hB0 hB (Nat.le_refl _)⟩

def grdErr (f : Fu) (g : Ga) (amb : Int) : Int := if f.ok then if g.ok then if fromB amb 0 1000 then 0 else 1 else 70 else 72
noncomputable def grdVal (f : Fu) (g : Ga) (amb : Int) : Int := if f.ok && g.ok && fromB amb 0 1000 then leastI (ungB f g amb) else 0
def gaugeErr (g : Ga) : Int := if g.ok then 0 else 70
theorem checkGaugeE (g : Ga) (w : World) : Calls Try.prog 48 #[.agg #[.int .i64 g.area, .int .i64 g.ohm, .int .i64 g.heat, .int .i64 g.cool, .int .i64 g.limit]] w fun e w' => e = .returned (.int .i64 (gaugeErr g)) ∧ Below w.heap.size w w' := checkGauge_any g w
theorem fuga {w0 w1 : World} {b c : Nat} {f : Fu} {g : Ga} (h : FuseAt w0 b f) (hg : GaugeAt w0 c g) (hB : Below w0.heap.size w0 w1) :
    w1.cell? ⟨b, 0, none⟩ = some (.int .i64 f.rating) ∧ w1.cell? ⟨b, 1, none⟩ = some (.int .i64 f.melt) ∧
    w1.cell? ⟨c, 0, none⟩ = some (.int .i64 g.area) ∧ w1.cell? ⟨c, 1, none⟩ = some (.int .i64 g.ohm) ∧ w1.cell? ⟨c, 2, none⟩ = some (.int .i64 g.heat) ∧ w1.cell? ⟨c, 3, none⟩ = some (.int .i64 g.cool) ∧ w1.cell? ⟨c, 4, none⟩ = some (.int .i64 g.limit) ∧ Below w0.heap.size w0 w1 :=
  ⟨cellOf (box_to h hB) 0, cellOf (box_to h hB) 1, cellOf (box_to hg hB) 0, cellOf (box_to hg hB) 1, cellOf (box_to hg hB) 2, cellOf (box_to hg hB) 3, cellOf (box_to hg hB) 4, hB⟩
end Go.Proofs.Ytejjjijaojkohaa
/- Fits: both walks. -/
namespace Go.Proofs.Ytejjjijaojkohaa
open Go.RowKit
set_option linter.unusedVariables false
set_option linter.unusedSimpArgs false
attribute [local go_sem ↓] Go.wp_at_zero Go.wp_at_succ

def fitErr (g : Ga) (n : Ne) (cs : List Cu) : Int := if g.ok then if needOk n cs then 0 else 71 else 70
def fitVal (g : Ga) (n : Ne) (cs : List Cu) : Bool := g.ok && needOk n cs && fitsB g n cs

theorem Fits_any (g : Ga) (n : Ne) (v : Value) (cs : List Cu) (w : World) (hn : cs.length ≤ 20) (h : Cyc w w.heap.size v cs) :
    Calls Try.prog 33 #[.agg #[.int .i64 g.area, .int .i64 g.ohm, .int .i64 g.heat, .int .i64 g.cool, .int .i64 g.limit], .agg #[v, .int .i64 n.len, .int .i64 n.drop, .int .i64 n.amb]] w fun e w' => e = .returned (.tuple #[.bool (fitVal g n cs), .int .i64 (fitErr g n cs)]) ∧ Below w.heap.size w w' := by
  have H := hide h
  obtain ⟨A0, cap0, rfl⟩ := h.form
  clear h
  obtain ⟨x, hx⟩ : ∃ x, gaugeErr g = x := ⟨_, rfl⟩
  obtain ⟨y, hy⟩ : ∃ y, needErr n cs = y := ⟨_, rfl⟩
  obtain ⟨z, hz⟩ : ∃ z : Int, (if x = 0 then y else x) = z := ⟨_, rfl⟩
  have HX := hide hx
  have HY := hide hy
  have HZ := hide hz
  have HE : Hid (z = fitErr g n cs) := by
    show _ = _
    rw [← hz, ← hx, ← hy]
    unfold gaugeErr needErr fitErr
    cases g.ok <;> cases needOk n cs <;> simp
  clear hx hy hz
  go_enter Try.func33, Try.ntmps33
  go_wp2_with fail
  obtain ⟨w0, hw0⟩ : ∃ w0 : World, (w.alloc (.cells #[.int .i64 g.area, .int .i64 g.ohm, .int .i64 g.heat, .int .i64 g.cool, .int .i64 g.limit] 23)).alloc (.cells #[(.slice A0 cs.length cap0), .int .i64 n.len, .int .i64 n.drop, .int .i64 n.amb] 48) = w0 := ⟨_, rfl⟩
  have hga : GaugeAt w0 w.heap.size g := by unfold GaugeAt; rw [← hw0, heap_old _ _ _ (by simp <;> omega), heap_new _ _ _ rfl]
  have hne : NeedAt w0 (w.heap.size + 1) (.slice A0 cs.length cap0) n := by unfold NeedAt; rw [← hw0, heap_new _ _ _ (by simp)]
  have hB0 : Below w.heap.size w w0 := by rw [← hw0]; exact (by repeat (first | exact Below.refl _ _ | assumption | refine Below.drew ?_ | refine Below.drewN ?_ _ | refine Below.allocT ?_ (Nat.le_refl _) _ | refine Below.setCell ?_ (by simp <;> omega) _ | refine Below.to ?_ (by assumption) (Nat.le_refl _)))
  have HGA := hide hga
  have HNE := hide hne
  have HB0 := hide hB0
  have HC0 : Hid (Cyc w0 w0.heap.size (.slice A0 cs.length cap0) cs) := (H.out.below hB0).more hB0.size
  rw [hw0]
  clear hga hne hw0 hB0
  obtain ⟨k0, k1, k2, k3, k4, k5, k6, k7, k8, _⟩ := nega HGA.out HNE.out (Below.refl _ w0)
  go_region_held3 (fun w' => w'.cell? ⟨w.heap.size, 0, none⟩ = some (.int .i64 g.area) ∧ w'.cell? ⟨w.heap.size, 1, none⟩ = some (.int .i64 g.ohm) ∧ w'.cell? ⟨w.heap.size, 2, none⟩ = some (.int .i64 g.heat) ∧ w'.cell? ⟨w.heap.size, 3, none⟩ = some (.int .i64 g.cool) ∧ w'.cell? ⟨w.heap.size, 4, none⟩ = some (.int .i64 g.limit) ∧ w'.cell? ⟨w.heap.size + 1, 0, none⟩ = some (.slice A0 cs.length cap0) ∧ w'.cell? ⟨w.heap.size + 1, 1, none⟩ = some (.int .i64 n.len) ∧ w'.cell? ⟨w.heap.size + 1, 2, none⟩ = some (.int .i64 n.drop) ∧ w'.cell? ⟨w.heap.size + 1, 3, none⟩ = some (.int .i64 n.amb) ∧ Below w0.heap.size w0 w')
    (exact nega HGA.out HNE.out (by repeat (first | exact Below.refl _ _ | assumption | refine Below.drew ?_ | refine Below.drewN ?_ _ | refine Below.allocT ?_ (Nat.le_refl _) _ | refine Below.setCell ?_ (by simp <;> omega) _ | refine Below.to ?_ (by assumption) (Nat.le_refl _))))
    (first | (go_at_call 48; refine (checkGaugeE _ _).mono ?_; rw [HX.out]; rintro e w1 ⟨rfl, hB⟩)
           | (go_at_call 72; refine (checkNeed_any n _ cs _ hn (HC0.out.up (by repeat (first | exact Below.refl _ _ | assumption | refine Below.drew ?_ | refine Below.drewN ?_ _ | refine Below.allocT ?_ (Nat.le_refl _) _ | refine Below.setCell ?_ (by simp <;> omega) _ | refine Below.to ?_ (by assumption) (Nat.le_refl _))))).mono ?_; rw [HY.out]; rintro e w2 ⟨rfl, hB2⟩)
           | (go_at_call 58; refine (errors2v _ x y z _ (by simp) (by simp) HZ.out).mono ?_; rintro e w3 ⟨rfl, rfl⟩))
  all_goals
    rename_i hHeld
    obtain ⟨j0, j1, j2, j3, j4, j5, j6, j7, j8, j9⟩ := hHeld
    have HJ := hide j9
    clear j9 k0 k1 k2 k3 k4 k5 k6 k7 k8
    by_cases hz0 : z = 0
    · have hok : g.ok = true ∧ needOk n cs = true := by
        have h3 := HE.out
        unfold fitErr at h3
        cases hl : g.ok <;> cases hu : needOk n cs <;> simp [hl, hu, hz0] at h3 ⊢
      have hz1 : (z != 0) = false := by simp [hz0]
      have HZ0 := hide hz0
      have HOK := hide hok
      clear hz0 hok
      go_wp2_with fail
      refine (fits_any g n _ cs _ (Ga.ok_iff.1 HOK.out.1) (needOk_iff.1 HOK.out.2) (HC0.out.up HJ.out)).mono ?_
      rintro e w9 ⟨rfl, hB9⟩
      go_wp2_with fail
      go_ret2
      exact ⟨by simp [fitVal, fitErr, HOK.out.1, HOK.out.2], Below.to (Below.to HB0.out HJ.out (Nat.le_refl _)) hB9 (Nat.le_refl _)⟩
    · have hz1 : (z != 0) = true := by simp [hz0]
      have hno : fitVal g n cs = false := by
        have h3 := HE.out
        unfold fitErr at h3
        unfold fitVal
        cases hl : g.ok <;> cases hu : needOk n cs <;> simp [hl, hu] at h3 ⊢
        exact absurd h3 hz0
      have HNO := hide hno
      clear hz0 hno
      go_wp2
      go_ret2
      exact ⟨by rw [HNO.out, ← HE.out]; rfl, Below.to HB0.out HJ.out (Nat.le_refl _)⟩

theorem rFits_any (g : Ga) (n : Ne) (v : Value) (cs : List Cu) (w : World) (hn : cs.length ≤ 20) (h : Cyc w w.heap.size v cs) :
    Calls Try.prog 34 #[.agg #[.int .i64 g.area, .int .i64 g.ohm, .int .i64 g.heat, .int .i64 g.cool, .int .i64 g.limit], .agg #[v, .int .i64 n.len, .int .i64 n.drop, .int .i64 n.amb]] w fun e w' => e = .returned (.tuple #[.bool (fitVal g n cs), .int .i64 (fitErr g n cs)]) ∧ Below w.heap.size w w' := by
  have H := hide h
  obtain ⟨A0, cap0, rfl⟩ := h.form
  clear h
  go_enter Try.func34, Try.ntmps34
  go_wp2_with fail
  obtain ⟨w0, hw0⟩ : ∃ w0 : World, (w.alloc (.cells #[.int .i64 g.area, .int .i64 g.ohm, .int .i64 g.heat, .int .i64 g.cool, .int .i64 g.limit] 23)).alloc (.cells #[(.slice A0 cs.length cap0), .int .i64 n.len, .int .i64 n.drop, .int .i64 n.amb] 48) = w0 := ⟨_, rfl⟩
  have hga : GaugeAt w0 w.heap.size g := by unfold GaugeAt; rw [← hw0, heap_old _ _ _ (by simp <;> omega), heap_new _ _ _ rfl]
  have hne : NeedAt w0 (w.heap.size + 1) (.slice A0 cs.length cap0) n := by unfold NeedAt; rw [← hw0, heap_new _ _ _ (by simp)]
  have hB0 : Below w.heap.size w w0 := by rw [← hw0]; exact (by repeat (first | exact Below.refl _ _ | assumption | refine Below.drew ?_ | refine Below.drewN ?_ _ | refine Below.allocT ?_ (Nat.le_refl _) _ | refine Below.setCell ?_ (by simp <;> omega) _ | refine Below.to ?_ (by assumption) (Nat.le_refl _)))
  have HGA := hide hga
  have HNE := hide hne
  have HB0 := hide hB0
  have HC0 : Hid (Cyc w0 w0.heap.size (.slice A0 cs.length cap0) cs) := (H.out.below hB0).more hB0.size
  rw [hw0]
  clear hga hne hw0 hB0
  refine (gauge_any g _).mono ?_
  rintro e w1 ⟨rfl, hB1⟩
  have HB1 := hide hB1
  clear hB1
  obtain ⟨k0, k1, k2, k3, k4, k5, k6, k7, k8, _⟩ := nega HGA.out HNE.out HB1.out
  cases hf : g.ok with
  | false =>
    go_wp2_with fail
    go_ret2
    exact ⟨by simp [fitVal, fitErr, hf], Below.to HB0.out HB1.out (Nat.le_refl _)⟩
  | true =>
    have HF := hide hf
    go_wp2_with fail
    refine (rneed_any n _ cs _ hn (HC0.out.up HB1.out)).mono ?_
    rintro e w2 ⟨rfl, hB2⟩
    have HB2 := hide (Below.to HB1.out hB2 (Nat.le_refl _))
    clear hB2 k0 k1 k2 k3 k4 k5 k6 k7 k8
    obtain ⟨k0, k1, k2, k3, k4, k5, k6, k7, k8, _⟩ := nega HGA.out HNE.out HB2.out
    cases hg : needOk n cs with
    | false =>
      go_wp2_with fail
      go_ret2
      exact ⟨by simp [fitVal, fitErr, HF.out, hg], Below.to HB0.out HB2.out (Nat.le_refl _)⟩
    | true =>
      have HG := hide hg
      go_wp2_with fail
      refine (rfits_any g n _ cs _ (Ga.ok_iff.1 HF.out) (needOk_iff.1 HG.out) (HC0.out.up HB2.out)).mono ?_
      rintro e w9 ⟨rfl, hB9⟩
      go_wp2_with fail
      go_ret2
      exact ⟨by simp [fitVal, fitErr, HF.out, HG.out], Below.to (Below.to HB0.out HB2.out (Nat.le_refl _)) hB9 (Nat.le_refl _)⟩
end Go.Proofs.Ytejjjijaojkohaa
/- Regions that draw their order where several operations make memory: a law by what each operation leaves, whatever comes up first. No condition. -/
namespace Go.Proofs.Ytejjjijaojkohaa
open Go.RowKit

/-- The frame with the values tv in the slots of the operations js. -/
def putAll (a : Act) (dst : Nat → Tmp) (tv : Nat → Value) : List Nat → Act
  | [] => a
  | j :: r => putAll (a.put (some (dst j)) (tv j)) dst tv r
def updV (tv : Nat → Value) (j : Nat) (v : Value) : Nat → Value := fun k => if k = j then v else tv k
theorem updV_self (tv : Nat → Value) (j : Nat) (v : Value) : updV tv j v j = v := by simp [updV]
theorem updV_ne (tv : Nat → Value) {j k : Nat} (v : Value) (h : k ≠ j) : updV tv j v k = tv k := by simp [updV, h]
theorem putAll_congr (dst : Nat → Tmp) {tv tv' : Nat → Value} : ∀ (J : List Nat) (a : Act), (∀ j ∈ J, tv j = tv' j) → putAll a dst tv J = putAll a dst tv' J
  | [], _, _ => rfl
  | j :: r, a, h => by
    unfold putAll
    rw [h j (List.mem_cons_self ..)]
    exact putAll_congr dst r _ fun k hk => h k (List.mem_cons_of_mem _ hk)
theorem putAll_out (dst : Nat → Tmp) (tv : Nat → Value) (t : Tmp) (v : Value) : ∀ (J : List Nat) (a : Act), (∀ j ∈ J, dst j ≠ t) → (putAll a dst tv J).put (some t) v = putAll (a.put (some t) v) dst tv J
  | [], _, _ => rfl
  | j :: r, a, h => by
    unfold putAll
    rw [putAll_out dst tv t v r _ fun k hk => h k (List.mem_cons_of_mem _ hk)]
    rw [Act.put_comm a (tv j) v (fun d hd => by
      injection hd with hd
      intro he
      injection he with he
      exact h j (List.mem_cons_self ..) (by rw [hd, he]))]
theorem put_put (a : Act) (t : Tmp) (u v : Value) : (a.put (some t) u).put (some t) v = a.put (some t) v := by
  simp [Act.put]
theorem putAll_put (dst : Nat → Tmp) (tv : Nat → Value) (j : Nat) (v : Value) : ∀ (J : List Nat) (a : Act), j ∈ J → J.Nodup → (∀ x ∈ J, ∀ y ∈ J, dst x = dst y → x = y) → (putAll a dst tv J).put (some (dst j)) v = putAll a dst (updV tv j v) J
  | [], _, h, _, _ => by cases h
  | k :: r, a, h, hn, hd => by
    obtain ⟨hk, hr⟩ := List.nodup_cons.1 hn
    by_cases e : j = k
    · subst e
      show (putAll (a.put (some (dst j)) (tv j)) dst tv r).put (some (dst j)) v = putAll (a.put (some (dst j)) (updV tv j v j)) dst (updV tv j v) r
      rw [putAll_out dst tv (dst j) v r _ (fun x hx he => hk (by rw [← hd x (List.mem_cons_of_mem _ hx) j (List.mem_cons_self ..) he]; exact hx)), put_put, updV_self]
      exact putAll_congr dst r _ fun x hx => (updV_ne tv v (fun hxj => hk (by rw [← hxj]; exact hx))).symm
    · have hm : j ∈ r := by
        rcases List.mem_cons.1 h with h | h
        · exact absurd h e
        · exact h
      show (putAll (a.put (some (dst k)) (tv k)) dst tv r).put (some (dst j)) v = putAll (a.put (some (dst k)) (updV tv j v k)) dst (updV tv j v) r
      rw [updV_ne tv v (fun hkj => e hkj.symm)]
      exact putAll_put dst tv j v r _ hm hr fun x hx y hy => hd x (List.mem_cons_of_mem _ hx) y (List.mem_cons_of_mem _ hy)

/-- What the law asks of the region's text: each operation of J waits only for earlier ones, of J or listed already; each other operation that is left waits for all of J. -/
def freeOk (md : Region.Mode) (ops : Array Oper) (listed : Array Bool) (J : List Nat) : Bool :=
  J.all (fun j => !listed.getD j true && ((ops[j]?).map (fun o => o.after.all fun e => !Region.binds md e || (decide (e.on < j) && (listed.getD e.on false || J.contains e.on)))).getD false) &&
  (List.range ops.size).all (fun k => listed.getD k true || J.contains k || ((ops[k]?).map (fun o => J.all fun j => o.after.any fun e => Region.binds md e && e.on == j)).getD false)
def listAll (listed : Array Bool) : List Nat → Array Bool
  | [] => listed
  | j :: r => listAll (listed.setIfInBounds j true) r
theorem listAll_size : ∀ (J : List Nat) (l : Array Bool), (listAll l J).size = l.size
  | [], _ => rfl
  | j :: r, l => by unfold listAll; rw [listAll_size r]; simp
theorem listAll_get : ∀ (J : List Nat) (l : Array Bool) (k : Nat), k < l.size → (listAll l J)[k]? = some (l.getD k false || J.contains k)
  | [], l, k, h => by simp [listAll, h]
  | j :: r, l, k, h => by
    unfold listAll
    rw [listAll_get r _ k (by simpa using h)]
    by_cases e : j = k
    · subst e; simp [h]
    · have : (k == j) = false := by simpa using fun h => e h.symm
      rw [getD_set_ne false e]
      simp only [List.contains_cons, this, Bool.false_or]

section
variable {P : Program} {ops : Array Oper} {Q : Exit → Act → World → Prop} {md : Region.Mode} {S : World → Prop}

theorem wpAnyH_free (J : List Nat) (dst : Nat → Tmp) (R : Nat → Value → World → Prop) (listed0 : Array Bool) (a0 : Act) (fe : Nat)
    (hok : freeOk md ops listed0 J = true) (hsz : listed0.size = ops.size) (hnd : J.Nodup) (hdst : ∀ x ∈ J, ∀ y ∈ J, dst x = dst y → x = y)
    (hkeep : ∀ j ∈ J, ∀ v w w', Below w.heap.size w w' → R j v w → R j v w')
    (hstep : ∀ j ∈ J, ∀ (tv : Nat → Value) (w : World), S w → (∀ o, ops[j]? = some o → ∀ e ∈ o.after, Region.binds md e = true → e.on ∈ J → R e.on (tv e.on) w) →
      wpOp P ops Q j (fun a' w' => (∃ v, a' = (putAll a0 dst tv J).put (some (dst j)) v ∧ R j v w') ∧ Below w.heap.size w w' ∧ S w') (putAll a0 dst tv J) w)
    (hend : ∀ (tv : Nat → Value) (w : World), S w → (∀ j ∈ J, R j (tv j) w) → wpAnyH P md ops Q S fe (listAll listed0 J) (putAll a0 dst tv J) w) :
    ∀ (m : Nat) (listed : Array Bool) (tv : Nat → Value) (w : World), (J.filter fun j => !listed.getD j true).length = m → listed.size = ops.size →
      (∀ k, k ∉ J → listed[k]? = listed0[k]?) → S w → (∀ j ∈ J, listed.getD j true = true → R j (tv j) w) → wpAnyH P md ops Q S (m + fe) listed (putAll a0 dst tv J) w := by
  have hok' := hok
  unfold freeOk at hok'
  rw [Bool.and_eq_true, List.all_eq_true, List.all_eq_true] at hok'
  obtain ⟨hJ, hrest⟩ := hok'
  have hlt : ∀ j ∈ J, j < ops.size := fun j hj => by
    have := hJ j hj
    rcases Nat.lt_or_ge j ops.size with h | h
    · exact h
    · simp [Array.getElem?_eq_none h] at this
  intro m
  induction m with
  | zero =>
    intro listed tv w hm hls hout hS hR
    have hall : ∀ j ∈ J, listed.getD j true = true := fun j hj => by
      have h0 : J.filter (fun j => !listed.getD j true) = [] := List.eq_nil_of_length_eq_zero hm
      rw [List.filter_eq_nil_iff] at h0
      simpa using h0 j hj
    have he : listed = listAll listed0 J := by
      apply Array.ext_getElem?
      intro k
      rcases Nat.lt_or_ge k listed.size with h | h
      · rw [listAll_get J listed0 k (by omega)]
        by_cases hk : k ∈ J
        · have := hall k hk
          simp [h] at this
          simp [h, this, hk]
        · rw [hout k hk]
          have h2 : k < listed0.size := by omega
          simp [h2, hk]
      · rw [Array.getElem?_eq_none h, Array.getElem?_eq_none (by rw [listAll_size]; omega)]
    rw [Nat.zero_add, he]
    exact hend tv w hS fun j hj => hR j hj (hall j hj)
  | succ m ih =>
    intro listed tv w hm hls hout hS hR
    rw [show m + 1 + fe = (m + fe) + 1 by omega]
    have hready : ∀ i ∈ Region.ready md ops listed, i ∈ J := by
      intro i hi
      obtain ⟨h0, o, ho, hd⟩ := mem_ready.1 hi
      have hio : i < ops.size := (Array.getElem?_eq_some_iff.1 ho).1
      have h1 := hrest i (by simpa using hio)
      by_cases hiJ : i ∈ J
      · exact hiJ
      · exfalso
        have hi0 : listed0.getD i true = false := by
          have : listed0[i]? = listed[i]? := (hout i hiJ).symm
          simp only [Array.getD_eq_getD_getElem?, this] at h0 ⊢
          exact h0
        rw [hi0] at h1
        simp [hiJ, ho] at h1
        have h2 : ∀ j ∈ J, listed.getD j false = true := fun j hj => by
          obtain ⟨n, hn, hb, hon⟩ := h1 j hj
          have := hd _ (Array.getElem_mem hn) hb
          rw [hon] at this
          exact this
        have h3 : J.filter (fun j => !listed.getD j true) = [] := by
          rw [List.filter_eq_nil_iff]
          intro j hj
          have h4 := h2 j hj
          have h5 : j < listed.size := by have := hlt j hj; omega
          simp [h5] at h4
          simp [h5, h4]
        rw [h3] at hm
        simp at hm
    refine ⟨fun hno => ?_, fun i hi => ?_⟩
    · exfalso
      have hex : ∃ j, j ∈ J ∧ listed.getD j true = false := by
        rcases hf : J.filter (fun j => !listed.getD j true) with _ | ⟨j, r⟩
        · rw [hf] at hm; simp at hm
        · have : j ∈ J.filter (fun j => !listed.getD j true) := by rw [hf]; exact List.mem_cons_self ..
          rw [List.mem_filter] at this
          exact ⟨j, this.1, by simpa using this.2⟩
      have hmin : ∀ n j, j ∈ J → listed.getD j true = false → j ≤ n → False := by
        intro n
        induction n with
        | zero =>
          intro j hj hl hn
          have hjJ := hJ j hj
          obtain ⟨o, ho⟩ : ∃ o, ops[j]? = some o := ⟨_, Array.getElem?_eq_getElem (hlt j hj)⟩
          have : j ∈ Region.ready md ops listed := mem_ready.2 ⟨hl, o, ho, fun e he hb => by
            simp only [ho, Option.map_some, Option.getD_some, Bool.and_eq_true, Array.all_eq_true_iff_forall_mem] at hjJ
            have := hjJ.2 e he
            simp [hb] at this
            omega⟩
          rw [hno] at this
          cases this
        | succ n ihn =>
          intro j hj hl hn
          have hjJ := hJ j hj
          obtain ⟨o, ho⟩ : ∃ o, ops[j]? = some o := ⟨_, Array.getElem?_eq_getElem (hlt j hj)⟩
          have : j ∈ Region.ready md ops listed := mem_ready.2 ⟨hl, o, ho, fun e he hb => by
            simp only [ho, Option.map_some, Option.getD_some, Bool.and_eq_true, Array.all_eq_true_iff_forall_mem] at hjJ
            have h6 := hjJ.2 e he
            rw [hb] at h6
            simp only [Bool.not_true, Bool.false_or, Bool.and_eq_true, decide_eq_true_eq, Bool.or_eq_true] at h6
            obtain ⟨h7, h8⟩ := h6
            have hes : e.on < listed.size := by have := hlt j hj; omega
            by_cases hJe : e.on ∈ J
            · cases hg : listed.getD e.on true with
              | true =>
                simp [hes] at hg ⊢
                exact hg
              | false => exact absurd (ihn e.on hJe hg (by omega)) id
            · rcases h8 with h8 | h8
              · have : listed0[e.on]? = listed[e.on]? := (hout _ hJe).symm
                simp only [Array.getD_eq_getD_getElem?, this] at h8 ⊢
                exact h8
              · exact absurd (by simpa using h8) hJe⟩
          rw [hno] at this
          cases this
      obtain ⟨j, hj, hl⟩ := hex
      exact hmin j j hj hl (Nat.le_refl _)
    · have hiJ := hready i hi
      obtain ⟨h0, o, ho, hd⟩ := mem_ready.1 hi
      have hil : i < listed.size := by have := hlt i hiJ; omega
      refine wpOp_mono ?_ (hstep i hiJ tv w hS (fun o' ho' e he hb hon => hR e.on hon (by
        rw [ho] at ho'
        injection ho' with ho'
        subst ho'
        have h9 := hd e he hb
        have h10 : e.on < listed.size := by have := hlt _ hon; omega
        simp [h10] at h9 ⊢
        exact h9)))
      rintro a' w' ⟨⟨v, rfl, hv⟩, hB, hS'⟩
      refine ⟨hS', ?_⟩
      rw [putAll_put dst tv i v J a0 hiJ hnd hdst]
      refine ih (listed.setIfInBounds i true) (updV tv i v) w' ?_ (by simpa using hls) ?_ hS' ?_
      · have hcount : ∀ L : List Nat, L.Nodup → i ∈ L → (L.filter fun j => !listed.getD j true).length = (L.filter fun j => !(listed.setIfInBounds i true).getD j true).length + 1 := by
          intro L
          induction L with
          | nil => intro _ h; cases h
          | cons x r ihr =>
            intro hn hx
            obtain ⟨hx1, hx2⟩ := List.nodup_cons.1 hn
            by_cases e : i = x
            · subst e
              have hsame : r.filter (fun j => !(listed.setIfInBounds i true).getD j true) = r.filter (fun j => !listed.getD j true) := by
                apply List.filter_congr
                intro y hy
                rw [getD_set_ne true (fun h => hx1 (by rw [h]; exact hy))]
              have hset : (listed.setIfInBounds i true).getD i true = true := by simp [hil]
              rw [List.filter_cons, List.filter_cons, h0, hset, hsame]
              simp
            · have hxr : i ∈ r := by
                rcases List.mem_cons.1 hx with h | h
                · exact absurd h e
                · exact h
              have := ihr hx2 hxr
              rw [List.filter_cons, List.filter_cons, getD_set_ne true e]
              cases listed.getD x true with
              | true => exact this
              | false =>
                show (x :: _).length = (x :: _).length + 1
                rw [List.length_cons, List.length_cons, this]
        have := hcount J hnd hiJ
        omega
      · intro k hk
        rw [← hout k hk]
        exact Array.getElem?_setIfInBounds_ne (fun h => hk (by rw [← h]; exact hiJ))
      · intro j hj hl
        by_cases e : j = i
        · subst e
          rw [updV_self]
          exact hv
        · rw [updV_ne tv v e]
          refine hkeep j hj _ _ _ hB (hR j hj ?_)
          rw [getD_set_ne true (fun h => e h.symm)] at hl
          exact hl

/-- Operation j waits for operation k. -/
def waitsFor (md : Region.Mode) (ops : Array Oper) (j k : Nat) : Bool := ((ops[j]?).map (fun o => o.after.any fun e => Region.binds md e && e.on == k)).getD false
theorem putAll_self (a : Act) (dst : Nat → Tmp) (tv : Nat → Value) : ∀ (J : List Nat), (∀ j ∈ J, dst j < a.tmps.size ∧ tv j = a.tmps.getD (dst j) undef) → putAll a dst tv J = a
  | [], _ => rfl
  | j :: r, h => by
    obtain ⟨h1, h2⟩ := h j (List.mem_cons_self ..)
    unfold putAll
    rw [show a.put (some (dst j)) (tv j) = a by
      rw [h2]
      unfold Act.put
      show { a with tmps := a.tmps.setIfInBounds (dst j) (a.tmps.getD (dst j) undef) } = a
      have : a.tmps.setIfInBounds (dst j) (a.tmps.getD (dst j) undef) = a.tmps := by
        apply Array.ext_getElem?
        intro k
        by_cases e : dst j = k
        · subst e; simp [h1]
        · rw [Array.getElem?_setIfInBounds_ne e]
      rw [this]]
    exact putAll_self a dst tv r fun k hk => h k (List.mem_cons_of_mem _ hk)

/-- The law, from the frame as it stands. -/
theorem wpAnyH_start {fuel : Nat} {listed0 : Array Bool} {a0 : Act} {w0 : World} (J : List Nat) (dst : Nat → Tmp) (R : Nat → Value → World → Prop) (fe : Nat) (hf : fuel = J.length + fe)
    (hok : freeOk md ops listed0 J = true) (hsz : listed0.size = ops.size) (hnd : J.Nodup) (hdst : ∀ x ∈ J, ∀ y ∈ J, dst x = dst y → x = y) (hlt : (J.all fun j => decide (dst j < a0.tmps.size)) = true) (hS0 : S w0)
    (hkeep : ∀ j ∈ J, ∀ v w w', Below w.heap.size w w' → R j v w → R j v w')
    (hstep : ∀ j ∈ J, ∀ (tv : Nat → Value) (w : World), S w → (∀ k ∈ J, waitsFor md ops j k = true → R k (tv k) w) →
      wpOp P ops Q j (fun a' w' => (∃ v, a' = (putAll a0 dst tv J).put (some (dst j)) v ∧ R j v w') ∧ Below w.heap.size w w' ∧ S w') (putAll a0 dst tv J) w)
    (hend : ∀ (tv : Nat → Value) (w : World), S w → (∀ j ∈ J, R j (tv j) w) → wpAnyH P md ops Q S fe (listAll listed0 J) (putAll a0 dst tv J) w) : wpAnyH P md ops Q S fuel listed0 a0 w0 := by
  subst hf
  have hun : ∀ j ∈ J, listed0.getD j true = false := fun j hj => by
    have h := hok
    unfold freeOk at h
    rw [Bool.and_eq_true, List.all_eq_true] at h
    have := h.1 j hj
    rw [Bool.and_eq_true] at this
    simpa using this.1
  have hme := putAll_self a0 dst (fun j => a0.tmps.getD (dst j) undef) J fun j hj => ⟨by
    rw [List.all_eq_true] at hlt
    simpa using hlt j hj, rfl⟩
  have hcount : (J.filter fun j => !listed0.getD j true).length = J.length := by
    rw [List.filter_eq_self.2]
    intro j hj
    rw [hun j hj]
    rfl
  have := wpAnyH_free J dst R listed0 a0 fe hok hsz hnd hdst hkeep (fun j hj tv w hS hd => hstep j hj tv w hS fun k hk hw => by
      unfold waitsFor at hw
      cases ho : ops[j]? with
      | none => rw [ho] at hw; cases hw
      | some o =>
        rw [ho] at hw
        simp only [Option.map_some, Option.getD_some, Array.any_eq_true] at hw
        obtain ⟨n, hn, hb⟩ := hw
        rw [Bool.and_eq_true, beq_iff_eq] at hb
        have h2 := hd o ho _ (Array.getElem_mem hn) hb.1 (by rw [hb.2]; exact hk)
        rw [hb.2] at h2
        exact h2) hend J.length listed0 (fun j => a0.tmps.getD (dst j) undef) w0 hcount hsz (fun _ _ => rfl) hS0 (fun j hj hl => by rw [hun j hj] at hl; cases hl)
  rw [hme] at this
  exact this
end
end Go.Proofs.Ytejjjijaojkohaa
/- An append onto a slice without room that was just made: the new slice lies in new memory, and nothing that was there has changed. No condition. -/
namespace Go.Proofs.Ytejjjijaojkohaa
open Go.RowKit

section
variable {P : Program} (w : World)
theorem run_append_fresh (base : Nat) (t ty e : TypeId) (i : TypeInfo) (z : Value) (size bytes : Nat) (ht : P.underlying t = some (.slice e)) (hi : P.info? e = some i) (hz : i.zero = some z)
    (hsize : i.size = size) (hby : i.bytes = bytes) (hzs : z.cells.size = size) (hsz : 0 < size)
    (g : Nat) (hown : w.ownsRow base e size (.slice (some ⟨g, 0, none⟩) 0 0) 0 [])
    (B : Nat) (A : Option Addr) (m c : Nat) (news : List Value) (hr : Reads w B size A m news) (h1 : ∀ u ∈ news, u.oneCell' = true)
    (h63 : m ≤ maxLen) (hbytes : m * bytes ≤ 140737488355328) (hbase : base ≤ w.heap.size) :
    ∃ v' w', (Builtin.append_ #[t, t] ty #[.slice (some ⟨g, 0, none⟩) 0 0, .slice A m c]).run P w = .ok v' w' ∧ w'.ownsRow base e size v' m news ∧ Below w.heap.size w w' := by
  have hsmall : m ≤ 9223372036854775807 := by simp only [maxLen] at h63; omega
  rcases Nat.eq_zero_or_pos m with h0 | h0
  · subst h0
    have hn : news = [] := List.eq_nil_of_length_eq_zero (by simpa using hr.1)
    subst hn
    refine ⟨_, w, ?_, hown, Below.refl _ _⟩
    cases A <;> simp [Builtin.append_, run_underlying ht, sizeOf, typeInfo, hi, Builtin.lenOf, Builtin.firstCells, loadCells, loadCellsFrom, storeCells]
  · obtain ⟨ad, hA, _, hcells⟩ := hr.2 h0
    subst hA
    obtain ⟨v', w', hrun, hown', _⟩ := run_append_own_at (P := P) w base t ty e i z size bytes ht hi hz hsize hby hzs hsz _ 0 [] hown ad m c news hr.1 hcells h1 (by omega) (by simpa using hbytes) hbase
    subst hsize
    subst hby
    have hg := run_append_grow (P := P) w t ty e i z ht hi hz ⟨g, 0, none⟩ 0 0 [] (by simp) (by simp) ad m c news hr.1 hcells (by omega) (by omega) (growslice_fits (by omega) (by simpa using hbytes))
    rw [hrun] at hg
    injection hg with hv hw
    refine ⟨v', w', hrun, by simpa using hown', ?_⟩
    rw [hw]
    exact Below.allocT (Below.drew (Below.refl _ _)) (Nat.le_refl _) _

theorem step_append_fresh {ops : Array Oper} {o : Oper} {a : Act} {K : Act → World → Prop} {Q : Exit → Act → World → Prop} {E : Prop} (hgd : o.guard = none) (s x : Operand) (t : TypeId)
    (ho : o.op = .call { callee := .builtin .append, args := #[s, x], argTypes := #[t, t] })
    (base : Nat) (e : TypeId) (i : TypeInfo) (z : Value) (size bytes : Nat) (ht : P.underlying t = some (.slice e)) (hi : P.info? e = some i) (hz : i.zero = some z)
    (hsize : i.size = size) (hby : i.bytes = bytes) (hzs : z.cells.size = size) (hsz : 0 < size)
    (g : Nat) (hs : a.eval s = .slice (some ⟨g, 0, none⟩) 0 0) (hown : w.ownsRow base e size (.slice (some ⟨g, 0, none⟩) 0 0) 0 [])
    (B : Nat) (A : Option Addr) (m c : Nat) (news : List Value) (hx : a.eval x = .slice A m c) (hr : Reads w B size A m news) (h1 : ∀ u ∈ news, u.oneCell' = true)
    (h63 : m ≤ maxLen) (hbytes : m * bytes ≤ 140737488355328) (hbase : base ≤ w.heap.size)
    (h : ∀ v' w', w'.ownsRow base e size v' m news → Below w.heap.size w w' → K (a.put o.dst v') w') :
    if Region.wanted o (yielded ops a.tmps) = true then Oper.wp P o a w K Q else E := by
  have hw : Region.wanted o (yielded ops a.tmps) = true := by simp [Region.wanted, hgd]
  rw [if_pos hw]
  obtain ⟨v', w', hrun, h2, h3⟩ := run_append_fresh (P := P) w base t o.type e i z size bytes ht hi hz hsize hby hzs hsz g hown B A m c news hr h1 h63 hbytes hbase
  unfold Oper.wp execOp
  simp only [ho, resolve, invoke, builtin, Sem.run_bind, Sem.run_pure, Result.andThen_ok, List.map_toArray, List.map_cons, List.map_nil, hs, hx, hrun]
  exact h v' w' h2 h3
end
theorem owns_below {w w' : World} {base e size n : Nat} {v : Value} {xs : List Value} (h : w.ownsRow base e size v n xs) (hb : Below w.heap.size w w') : w'.ownsRow base e size v n xs := by
  obtain ⟨h1, h2 | ⟨g, cap, cur, h3, h4, h5, h6⟩⟩ := h
  · exact ⟨h1, .inl h2⟩
  · exact ⟨h1, .inr ⟨g, cap, cur, h3, h4, (hb.block g (Array.getElem?_eq_some_iff.1 h5).1).trans h5, h6⟩⟩
theorem heap_below {w w' : World} {g : Nat} {o : Obj} (h : w.heap[g]? = some o) (hb : Below w.heap.size w w') : w'.heap[g]? = some o :=
  (hb.block g (Array.getElem?_eq_some_iff.1 h).1).trans h
theorem owns_base {w : World} {base base' e size n : Nat} {v : Value} {xs : List Value} (h : w.ownsRow base e size v n xs) (hb : base' ≤ base) : w.ownsRow base' e size v n xs := by
  obtain ⟨h1, h2 | ⟨g, cap, cur, h3, h4, h5⟩⟩ := h
  · exact ⟨h1, .inl h2⟩
  · exact ⟨h1, .inr ⟨g, cap, cur, h3, Nat.le_trans hb h4, h5⟩⟩
/-- A cell of another block than the one that was written. -/
theorem gcell {w w' : World} {g : Nat} (h : w.grownBy w' (some g)) : ∀ b o, b < w.heap.size → b ≠ g → w'.cell? ⟨b, o, none⟩ = w.cell? ⟨b, o, none⟩ :=
  fun b o hb hg => World.cell?_of_block (a := ⟨b, o, none⟩) (h.block b hb (fun e => hg (by injection e)))
theorem grown_of_below {w w' : World} {row : Option Nat} (h : Below w.heap.size w w') : w.grownBy w' row := ⟨h.os, h.tape, h.output, h.size, fun k hk _ => h.block k hk⟩
theorem owns_grown {w w' : World} {base e size n g t : Nat} {C : Array Value} {v : Value} {xs : List Value} (h : w.ownsRow base e size v n xs) (hg : w.grownBy w' (some g)) (ht : w.heap[g]? = some (.cells C t (0, 0))) (hne : e ≠ t) : w'.ownsRow base e size v n xs := by
  obtain ⟨h1, h2 | ⟨b, cap, cur, h3, h4, h5, h6⟩⟩ := h
  · exact ⟨h1, .inl h2⟩
  · exact ⟨h1, .inr ⟨b, cap, cur, h3, h4, (hg.block b (Array.getElem?_eq_some_iff.1 h5).1 (fun e' => by
      injection e' with e'
      subst e'
      rw [h5] at ht
      injection ht with ht
      injection ht with _ ht
      exact hne ht)).trans h5, h6⟩⟩
theorem alloc2 {w w0 : World} {o p : Obj} (h : (w.alloc o).alloc p = w0) : w0.heap[w.heap.size]? = some o ∧ w0.heap[w.heap.size + 1]? = some p ∧ Below w.heap.size w w0 ∧ w0.heap.size = w.heap.size + 2 := by
  subst h
  refine ⟨?_, ?_, Below.allocT (Below.allocT (Below.refl _ _) (Nat.le_refl _) _) (Nat.le_refl _) _, by simp⟩
  · rw [show ((w.alloc o).alloc p).heap[w.heap.size]? = (w.alloc o).heap[w.heap.size]? from Below.heap_alloc _ _ _ (by simp)]
    exact heap_alloc_new w o
  · have := heap_alloc_new (w.alloc o) p
    simpa using this
end Go.Proofs.Ytejjjijaojkohaa
/- A need copied: a walk. -/
namespace Go.Proofs.Ytejjjijaojkohaa
open Go.RowKit
set_option linter.unusedVariables false
set_option linter.unusedSimpArgs false

theorem owns_keep {w w' : World} {base e size n : Nat} {v : Value} {xs : List Value} (h : w.ownsRow base e size v n xs) (hk : ∀ g, base ≤ g → w'.heap[g]? = w.heap[g]?) : w'.ownsRow base e size v n xs := by
  obtain ⟨h1, h2 | ⟨g, cap, cur, h3, h4, h5, h6⟩⟩ := h
  · exact ⟨h1, .inl h2⟩
  · exact ⟨h1, .inr ⟨g, cap, cur, h3, h4, (hk g h4).trans h5, h6⟩⟩

set_option maxRecDepth 100000 in
theorem copyNeed_own (n : Ne) (v : Value) (cs : List Cu) (w : World) (hn : cs.length ≤ 20) (h : Cyc w w.heap.size v cs) :
    Calls Try.prog 32 #[.agg #[v, .int .i64 n.len, .int .i64 n.drop, .int .i64 n.amb]] w fun e w' => ∃ v', e = .returned (.agg #[v', .int .i64 n.len, .int .i64 n.drop, .int .i64 n.amb]) ∧ w'.ownsRow w.heap.size 54 2 v' cs.length (flat cs.length 2 (cyF cs)) ∧ Below w.heap.size w w' := by
  obtain ⟨i0, hi0, hz0, hz1, hz2⟩ := info_parts infoCu
  have H := hide h
  obtain ⟨A, cap, rfl⟩ := h.form
  clear h
  go_enter Try.func32, Try.ntmps32
  go_upto_region 1 with (fail)
  obtain ⟨w0, hw0⟩ : ∃ w0 : World, (w.alloc (.cells #[(.slice A cs.length cap), .int .i64 n.len, .int .i64 n.drop, .int .i64 n.amb] 48)).alloc (.cells #[.slice none 0 0, .int .i64 0, .int .i64 0, .int .i64 0] 48) = w0 := ⟨_, rfl⟩
  have hs0 : w0.heap.size = w.heap.size + 2 := by rw [← hw0]; simp
  have hne : NeedAt w0 w.heap.size (.slice A cs.length cap) n := by unfold NeedAt; rw [← hw0, heap_old _ _ _ (by simp <;> omega), heap_new _ _ _ rfl]
  have hze : w0.heap[w.heap.size + 1]? = some (.cells #[.slice none 0 0, .int .i64 0, .int .i64 0, .int .i64 0] 48 (0, 0)) := by rw [← hw0, heap_new _ _ _ (by simp)]
  have hB0 : Below w.heap.size w w0 := by rw [← hw0]; exact (by repeat (first | exact Below.refl _ _ | assumption | refine Below.drew ?_ | refine Below.drewN ?_ _ | refine Below.allocT ?_ (Nat.le_refl _) _ | refine Below.setCell ?_ (by simp <;> omega) _ | refine Below.to ?_ (by assumption) (Nat.le_refl _)))
  have HNE := hide hne
  have HZE := hide hze
  have HB0 := hide hB0
  have HC0 : Hid (Cyc w0 w0.heap.size (.slice A cs.length cap) cs) := (H.out.below hB0).more hB0.size
  rw [hw0]
  obtain ⟨k0, k1, k2, k3, _⟩ := need4 hne (Below.refl _ w0)
  have kk0 : (w0.alloc (.cells #[] 54)).cell? ⟨w.heap.size, 0, none⟩ = some (.slice A cs.length cap) := cellOf ((heap_old _ _ _ (by omega)).trans HNE.out) 0
  have HS0 := hide hs0
  clear hne hze hB0 hw0 hs0
  go_wp2_with (at_builtin; refine wpList_append_any _ rfl (.tmp 3) (.tmp 5) _ rfl w0.heap.size 54 i0 _ 2 16 Try.underlying31 hi0 hz0 hz1 hz2 rfl (by omega) (.slice (some ⟨w0.heap.size, 0, none⟩) 0 0) 0 [] rfl (World.ownsRow_made w0 #[] 0 (Nat.le_refl _) (by unfold maxLen; omega) rfl) w0.heap.size A cs.length cap (flat cs.length 2 (cyF cs)) rfl ((HC0.out.reads (by omega)).alloc (Nat.le_refl _) _) (flat_one (by omega) (cyF_one cs)) (by unfold maxLen; omega) (by omega) (by simp) ?_; intro v1 w1 hown1 hg1 hat1; have hW1 : Below w0.heap.size w0 w1 := (Below.allocT (Below.refl _ w0) (Nat.le_refl _) _).grown hg1 (by simp) (fun k e => by simp [Value.ownBlock] at e; omega); have HW1 := hide hW1; have hn1 := box_to HNE.out hW1; have hf1 : w1.frozen? ⟨w.heap.size, 0, none⟩ = false := unfrozenOf hn1 0; obtain ⟨l0, l1, l2, l3, _⟩ := need4 hn1 (Below.refl _ w1); have hz1' := box_to HZE.out hW1; have z0 := cellOf hz1' 0; have z1 := cellOf hz1' 1; have z2 := cellOf hz1' 2; have z3 := cellOf hz1' 3; have y0 := unfrozenOf hz1' 0; have y1 := unfrozenOf hz1' 1; have y2 := unfrozenOf hz1' 2; have y3 := unfrozenOf hz1' 3; rw [Nat.zero_add, List.nil_append] at hown1; have hS1 : Cyc w1 w1.heap.size v1 cs := Sl.of_owns hown1 (fun i j hi hj => flat_get hi hj); obtain ⟨A1, c1, rfl⟩ := hS1.form; have HO1 := hide hown1; have HN1 := hide hn1; have HZ1 := hide hz1'; clear hS1 hn1 hz1' hown1)
  obtain ⟨wz, hwz⟩ : ∃ wz : World, (((((w1.setCell ⟨w.heap.size, 0, none⟩ (.slice A1 cs.length c1)).setCell ⟨w.heap.size + 1, 0, none⟩ (.slice A1 cs.length c1)).setCell ⟨w.heap.size + 1, 1, none⟩ (.int .i64 n.len)).setCell ⟨w.heap.size + 1, 2, none⟩ (.int .i64 n.drop)).setCell ⟨w.heap.size + 1, 3, none⟩ (.int .i64 n.amb)) = wz := ⟨_, rfl⟩
  have hs0 := HS0.out
  have hZ : NeedAt wz (w.heap.size + 1) (.slice A1 cs.length c1) n := by
    rw [← hwz]
    exact setCellOf (setCellOf (setCellOf (setCellOf ((Below.heap_setCell _ _ _ _ (by simp)).trans HZ1.out) _) _) _) _
  have hO : wz.ownsRow w0.heap.size 54 2 (.slice A1 cs.length c1) cs.length (flat cs.length 2 (cyF cs)) := owns_keep HO1.out fun g hg => by
    rw [← hwz]
    iterate 5 rw [Below.heap_setCell _ _ _ _ (by simp <;> omega)]
  have hBz : Below w.heap.size w wz := by
    rw [← hwz]
    exact Below.setCell (Below.setCell (Below.setCell (Below.setCell (Below.setCell (Below.to HB0.out HW1.out (by omega)) (by simp) _) (by simp) _) (by simp) _) (by simp) _) (by simp) _
  rw [hwz]
  obtain ⟨m0, m1, m2, m3, _⟩ := need4 hZ (Below.refl _ wz)
  refine bodyPost_ret (v := .agg #[(.slice A1 cs.length c1), .int .i64 n.len, .int .i64 n.drop, .int .i64 n.amb]) ?_ rfl ⟨_, rfl, owns_base hO (by omega), hBz⟩
  rw [results_cell1 rfl]
  go_simp
theorem copyNeed_any (n : Ne) (v : Value) (cs : List Cu) (w : World) (hn : cs.length ≤ 20) (h : Cyc w w.heap.size v cs) :
    Calls Try.prog 32 #[.agg #[v, .int .i64 n.len, .int .i64 n.drop, .int .i64 n.amb]] w fun e w' => ∃ v', e = .returned (.agg #[v', .int .i64 n.len, .int .i64 n.drop, .int .i64 n.amb]) ∧ Cyc w' w'.heap.size v' cs ∧ Below w.heap.size w w' :=
  (copyNeed_own n v cs w hn h).mono fun _ _ ⟨v', he, ho, hb⟩ => ⟨v', he, Sl.of_owns ho (fun i j hi hj => flat_get hi hj), hb⟩
end Go.Proofs.Ytejjjijaojkohaa
/- Tables of gauges: both checks: walks. -/
namespace Go.Proofs.Ytejjjijaojkohaa
open Go.RowKit
set_option linter.unusedVariables false
set_option linter.unusedSimpArgs false

def Ga.z : Ga := ⟨0, 0, 0, 0, 0⟩
def gaC (g : Ga) : Nat → Int
  | 0 => g.area
  | 1 => g.ohm
  | 2 => g.heat
  | 3 => g.cool
  | _ => g.limit
def gaF (gs : List Ga) (i j : Nat) : Value := .int .i64 (gaC (gs.getD i Ga.z) j)
/-- The slice value v holds the gauges gs, below block B. -/
def Gas (w : World) (B : Nat) (v : Value) (gs : List Ga) : Prop := Sl w B 5 v gs.length (gaF gs)

/-- One step of a table is right. -/
def gstep (gs : List Ga) (k : Nat) : Bool := (gs.getD k Ga.z).ok && (k == 0 || decide ((gs.getD (k - 1) Ga.z).area < (gs.getD k Ga.z).area))
def tableB (gs : List Ga) : Bool := (List.range gs.length).all (gstep gs)
def gasErr (gs : List Ga) : Int := if tableB gs then 0 else 70
theorem tableB_all {gs : List Ga} (h : ∀ j, j < gs.length → gstep gs j = true) : tableB gs = true := by
  unfold tableB; rw [List.all_eq_true]; intro x hx; exact h x (by simpa using hx)
theorem tableB_at {gs : List Ga} {k : Nat} (hk : k < gs.length) (h : gstep gs k = false) : tableB gs = false := by
  cases ht : tableB gs with
  | false => rfl
  | true =>
    unfold tableB at ht
    rw [List.all_eq_true] at ht
    rw [ht k (by simpa using hk)] at h
    cases h
theorem tableB_get {gs : List Ga} (h : tableB gs = true) {k : Nat} (hk : k < gs.length) : (gs.getD k Ga.z).ok = true := by
  unfold tableB at h
  rw [List.all_eq_true] at h
  have := h k (by simpa using hk)
  simp only [gstep, Bool.and_eq_true] at this
  exact this.1

theorem gaAt {w : World} {B b off : Nat} {A : Option Addr} {gs : List Ga} {k : Nat} (hA : A = some ⟨b, off, none⟩ ∧ b < B ∨ gs.length = 0)
    (hc : ∀ i j, i < gs.length → j < 5 → w.cell? ⟨b, off + (i * 5 + j), none⟩ = some (gaF gs i j)) (hlt : k < gs.length) :
    ∃ g, Hid (gs.getD k Ga.z = g) ∧ A = some ⟨b, off, none⟩ ∧ b < B ∧ w.cell? ⟨b, off + k * 5, none⟩ = some (.int .i64 g.area) ∧ w.cell? ⟨b, off + k * 5 + 1, none⟩ = some (.int .i64 g.ohm) ∧ w.cell? ⟨b, off + k * 5 + 2, none⟩ = some (.int .i64 g.heat) ∧ w.cell? ⟨b, off + k * 5 + 3, none⟩ = some (.int .i64 g.cool) ∧ w.cell? ⟨b, off + k * 5 + 4, none⟩ = some (.int .i64 g.limit) := by
  rcases hA with ⟨hA1, hA2⟩ | hA1
  · exact ⟨_, rfl, hA1, hA2, hc k 0 hlt (by omega), hc k 1 hlt (by omega), hc k 2 hlt (by omega), hc k 3 hlt (by omega), hc k 4 hlt (by omega)⟩
  · omega

theorem alloc1 {w w0 : World} {o : Obj} (h : w.alloc o = w0) : w0.heap[w.heap.size]? = some o ∧ Below w.heap.size w w0 ∧ w0.heap.size = w.heap.size + 1 := by
  subst h
  exact ⟨heap_new _ _ _ rfl, Below.allocT (Below.refl _ _) (Nat.le_refl _) _, by simp⟩

set_option maxRecDepth 100000 in
set_option maxHeartbeats 2000000 in
theorem checkGauges_any (v : Value) (gs : List Ga) (w : World) (hm : gs.length ≤ maxLen) (h : Gas w w.heap.size v gs) :
    Calls Try.prog 77 #[v] w fun e w' => e = .returned (.int .i64 (gasErr gs)) ∧ Below w.heap.size w w' := by
  unfold maxLen at hm
  obtain ⟨A, b, off, cap, rfl, hnc, hA, hc⟩ := h
  have HC := hide hc; clear hc
  have HA := hide hA; clear hA
  go_enter Try.func77, Try.ntmps77
  go_wp2
  go_loopw [3, 4, 7] (fun _ _ i wr => ∃ k : Nat, k ≤ gs.length ∧ i = .int .i64 k ∧ Hid (∀ j, j < k → gstep gs j = true) ∧ Below w.heap.size w wr) (fun _ _ i _ => gs.length - (intOf i).toNat)
  case atStart => exact ⟨0, Nat.zero_le _, rfl, fun j hj => by omega, Below.refl _ _⟩
  case round =>
    obtain ⟨k, hk, rfl, hz, hB⟩ := hrel
    by_cases hlt : k < gs.length
    · obtain ⟨g, HZ, hA1, hbw, h0, h1, h2, h3, h4⟩ := gaAt HA.out HC.out hlt
      subst hA1
      obtain ⟨hc, hf⟩ := bcell hB
      cases hok : g.ok with
      | false =>
        have HOK := hide hok
        have HS : Hid (gstep gs k = false) := by show _ = _; unfold gstep; rw [HZ.out, hok]; rfl
        clear hok
        go_wp2_with fail
        generalize hw0 : World.alloc _ _ = w0
        obtain ⟨hb0, hB0, hs0⟩ := alloc1 hw0
        clear hw0 hc hf h0 h1 h2 h3 h4
        have k0 := cellOf hb0 0
        have k1 := cellOf hb0 1
        have k2 := cellOf hb0 2
        have k3 := cellOf hb0 3
        have k4 := cellOf hb0 4
        have hl0 : wr.heap.size < w0.heap.size := by omega
        clear hs0
        refine wp_region_held_drew (S := (fun w' => Below w0.heap.size w0 w')) (by kernel_rfl) ?_ (fun hHeld => ?_)
        · try dsimp only
          exact (by repeat (first | exact Below.refl _ _ | assumption | refine Below.drew ?_ | refine Below.drewN ?_ _ | refine Below.allocT ?_ (Nat.le_refl _) _ | refine Below.setCell ?_ (by simp <;> omega) _ | refine Below.to ?_ (by assumption) (Nat.le_refl _)))
        refine wpAnyH_take (i := 0) (v := ?v1_0) rfl (by kernel_rfl) (by kernel_rfl) (by kernel_rfl) (fun _ _ _ h => h) (Or.inl ⟨by rfl, ?y1_0⟩) (by assumption) ?r1_0
        case' y1_0 => (intro w hSw; (try dsimp only at hSw); (try have hlS := HLK.out _ hSw); obtain ⟨hcS, hfS⟩ := bcell hSw; clear hSw; go_simp; try with_reducible rfl)
        try simp only [Act.put, List.getElem_toArray, List.getElem_cons_succ, List.getElem_cons_zero, List.setIfInBounds_toArray, List.set_cons_zero, List.set_cons_succ]
        refine wpAnyH_ready (rs := [1]) (by kernel_rfl) (by simp) ?_
        refine AllReadyH.cons rfl (fun K hK => ?_) AllReadyH.nil
        go_simp
        ((go_at_call 48; refine (checkGauge_any g _).mono ?_; rw [HOK.out]; rintro e w1 ⟨rfl, hB1⟩))
        (try dsimp only)
        refine hK.out _ _ ?_ (fun hNext => ?_)
        · try dsimp only
          exact (by repeat (first | exact Below.refl _ _ | assumption | refine Below.drew ?_ | refine Below.drewN ?_ _ | refine Below.allocT ?_ (Nat.le_refl _) _ | refine Below.setCell ?_ (by simp <;> omega) _ | refine Below.to ?_ (by assumption) (Nat.le_refl _)))
        clear hK K hHeld
        have hHeld := hNext
        clear hNext
        (try dsimp only at hHeld)
        try simp only [Act.put, List.getElem_toArray, List.getElem_cons_succ, List.getElem_cons_zero, List.setIfInBounds_toArray, List.set_cons_zero, List.set_cons_succ]
        refine wpAnyH_take (i := 2) (v := ?v1_2) rfl (by kernel_rfl) (by kernel_rfl) (by kernel_rfl) (fun _ _ _ h => h) (Or.inl ⟨by rfl, ?y1_2⟩) (by assumption) ?r1_2
        case' y1_2 => (intro w hSw; (try dsimp only at hSw); (try have hlS := HLK.out _ hSw); obtain ⟨hcS, hfS⟩ := bcell hSw; clear hSw; go_simp; try with_reducible rfl)
        try simp only [Act.put, List.getElem_toArray, List.getElem_cons_succ, List.getElem_cons_zero, List.setIfInBounds_toArray, List.set_cons_zero, List.set_cons_succ]
        refine wpAnyH_take (i := 3) (v := ?v1_3) rfl (by kernel_rfl) (by kernel_rfl) (by kernel_rfl) (fun _ _ _ h => h) (Or.inl ⟨by rfl, ?y1_3⟩) (by assumption) ?r1_3
        case' y1_3 => (intro w hSw; (try dsimp only at hSw); (try have hlS := HLK.out _ hSw); obtain ⟨hcS, hfS⟩ := bcell hSw; clear hSw; go_simp; try with_reducible rfl)
        try simp only [Act.put, List.getElem_toArray, List.getElem_cons_succ, List.getElem_cons_zero, List.setIfInBounds_toArray, List.set_cons_zero, List.set_cons_succ]
        refine wpAnyH_take (i := 4) (v := undef) rfl (by kernel_rfl) (by kernel_rfl) (by kernel_rfl) (fun _ _ _ h => h) (Or.inr ⟨?w1_4, rfl⟩) (by assumption) ?r1_4
        case' w1_4 => first | rfl | (simp [Region.wanted, yielded, *]; done)
        try simp only [Act.put, List.getElem_toArray, List.getElem_cons_succ, List.getElem_cons_zero, List.setIfInBounds_toArray, List.set_cons_zero, List.set_cons_succ]
        refine wpAnyH_take (i := 5) (v := undef) rfl (by kernel_rfl) (by kernel_rfl) (by kernel_rfl) (fun _ _ _ h => h) (Or.inr ⟨?w1_5, rfl⟩) (by assumption) ?r1_5
        case' w1_5 => first | rfl | (simp [Region.wanted, yielded, *]; done)
        try simp only [Act.put, List.getElem_toArray, List.getElem_cons_succ, List.getElem_cons_zero, List.setIfInBounds_toArray, List.set_cons_zero, List.set_cons_succ]
        refine wpAnyH_take (i := 6) (v := undef) rfl (by kernel_rfl) (by kernel_rfl) (by kernel_rfl) (fun _ _ _ h => h) (Or.inr ⟨?w1_6, rfl⟩) (by assumption) ?r1_6
        case' w1_6 => first | rfl | (simp [Region.wanted, yielded, *]; done)
        try simp only [Act.put, List.getElem_toArray, List.getElem_cons_succ, List.getElem_cons_zero, List.setIfInBounds_toArray, List.set_cons_zero, List.set_cons_succ]
        refine wpAnyH_take (i := 7) (v := undef) rfl (by kernel_rfl) (by kernel_rfl) (by kernel_rfl) (fun _ _ _ h => h) (Or.inr ⟨?w1_7, rfl⟩) (by assumption) ?r1_7
        case' w1_7 => first | rfl | (simp [Region.wanted, yielded, *]; done)
        try simp only [Act.put, List.getElem_toArray, List.getElem_cons_succ, List.getElem_cons_zero, List.setIfInBounds_toArray, List.set_cons_zero, List.set_cons_succ]
        refine wpAnyH_take (i := 8) (v := undef) rfl (by kernel_rfl) (by kernel_rfl) (by kernel_rfl) (fun _ _ _ h => h) (Or.inr ⟨?w1_8, rfl⟩) (by assumption) ?r1_8
        case' w1_8 => first | rfl | (simp [Region.wanted, yielded, *]; done)
        try simp only [Act.put, List.getElem_toArray, List.getElem_cons_succ, List.getElem_cons_zero, List.setIfInBounds_toArray, List.set_cons_zero, List.set_cons_succ]
        refine wpAnyH_take (i := 9) (v := undef) rfl (by kernel_rfl) (by kernel_rfl) (by kernel_rfl) (fun _ _ _ h => h) (Or.inr ⟨?w1_9, rfl⟩) (by assumption) ?r1_9
        case' w1_9 => first | rfl | (simp [Region.wanted, yielded, *]; done)
        try simp only [Act.put, List.getElem_toArray, List.getElem_cons_succ, List.getElem_cons_zero, List.setIfInBounds_toArray, List.set_cons_zero, List.set_cons_succ]
        refine wpAnyH_take (i := 10) (v := undef) rfl (by kernel_rfl) (by kernel_rfl) (by kernel_rfl) (fun _ _ _ h => h) (Or.inr ⟨?w1_10, rfl⟩) (by assumption) ?r1_10
        case' w1_10 => first | rfl | (simp [Region.wanted, yielded, *]; done)
        try simp only [Act.put, List.getElem_toArray, List.getElem_cons_succ, List.getElem_cons_zero, List.setIfInBounds_toArray, List.set_cons_zero, List.set_cons_succ]
        refine wpAnyH_take (i := 11) (v := undef) rfl (by kernel_rfl) (by kernel_rfl) (by kernel_rfl) (fun _ _ _ h => h) (Or.inr ⟨?w1_11, rfl⟩) (by assumption) ?r1_11
        case' w1_11 => first | rfl | (simp [Region.wanted, yielded, *]; done)
        try simp only [Act.put, List.getElem_toArray, List.getElem_cons_succ, List.getElem_cons_zero, List.setIfInBounds_toArray, List.set_cons_zero, List.set_cons_succ]
        refine wpAnyH_take (i := 12) (v := undef) rfl (by kernel_rfl) (by kernel_rfl) (by kernel_rfl) (fun _ _ _ h => h) (Or.inr ⟨?w1_12, rfl⟩) (by assumption) ?r1_12
        case' w1_12 => first | rfl | (simp [Region.wanted, yielded, *]; done)
        try simp only [Act.put, List.getElem_toArray, List.getElem_cons_succ, List.getElem_cons_zero, List.setIfInBounds_toArray, List.set_cons_zero, List.set_cons_succ]
        refine wpAnyH_take (i := 13) (v := undef) rfl (by kernel_rfl) (by kernel_rfl) (by kernel_rfl) (fun _ _ _ h => h) (Or.inr ⟨?w1_13, rfl⟩) (by assumption) ?r1_13
        case' w1_13 => first | rfl | (simp [Region.wanted, yielded, *]; done)
        try simp only [Act.put, List.getElem_toArray, List.getElem_cons_succ, List.getElem_cons_zero, List.setIfInBounds_toArray, List.set_cons_zero, List.set_cons_succ]
        refine wpAnyH_take (i := 14) (v := undef) rfl (by kernel_rfl) (by kernel_rfl) (by kernel_rfl) (fun _ _ _ h => h) (Or.inr ⟨?w1_14, rfl⟩) (by assumption) ?r1_14
        case' w1_14 => first | rfl | (simp [Region.wanted, yielded, *]; done)
        try simp only [Act.put, List.getElem_toArray, List.getElem_cons_succ, List.getElem_cons_zero, List.setIfInBounds_toArray, List.set_cons_zero, List.set_cons_succ]
        refine wpAnyH_take (i := 15) (v := undef) rfl (by kernel_rfl) (by kernel_rfl) (by kernel_rfl) (fun _ _ _ h => h) (Or.inr ⟨?w1_15, rfl⟩) (by assumption) ?r1_15
        case' w1_15 => first | rfl | (simp [Region.wanted, yielded, *]; done)
        try simp only [Act.put, List.getElem_toArray, List.getElem_cons_succ, List.getElem_cons_zero, List.setIfInBounds_toArray, List.set_cons_zero, List.set_cons_succ]
        refine wpAnyH_take (i := 16) (v := undef) rfl (by kernel_rfl) (by kernel_rfl) (by kernel_rfl) (fun _ _ _ h => h) (Or.inr ⟨?w1_16, rfl⟩) (by assumption) ?r1_16
        case' w1_16 => first | rfl | (simp [Region.wanted, yielded, *]; done)
        try simp only [Act.put, List.getElem_toArray, List.getElem_cons_succ, List.getElem_cons_zero, List.setIfInBounds_toArray, List.set_cons_zero, List.set_cons_succ]
        refine wpAnyH_take (i := 17) (v := ?v1_17) rfl (by kernel_rfl) (by kernel_rfl) (by kernel_rfl) (fun _ _ _ h => h) (Or.inl ⟨by rfl, ?y1_17⟩) (by assumption) ?r1_17
        case' y1_17 => (intro w hSw; (try dsimp only at hSw); (try have hlS := HLK.out _ hSw); obtain ⟨hcS, hfS⟩ := bcell hSw; clear hSw; go_simp; try with_reducible rfl)
        try simp only [Act.put, List.getElem_toArray, List.getElem_cons_succ, List.getElem_cons_zero, List.setIfInBounds_toArray, List.set_cons_zero, List.set_cons_succ]
        refine wpAnyH_done (by kernel_rfl) ?_ _
        go_wp2_with fail
        go_ret
        exact ⟨ret_int (by unfold gasErr; rw [tableB_at hlt HS.out]; rfl), (by repeat (first | exact Below.refl _ _ | assumption | refine Below.drew ?_ | refine Below.drewN ?_ _ | refine Below.allocT ?_ (Nat.le_refl _) _ | refine Below.setCell ?_ (by simp <;> omega) _ | refine Below.to ?_ (by assumption) (Nat.le_refl _)))⟩
      | true =>
        have HOK := hide hok
        rcases Nat.eq_zero_or_pos k with hk0 | hk0
        · subst hk0
          have HS : Hid (gstep gs 0 = true) := by show _ = _; unfold gstep; rw [HZ.out, hok]; rfl
          clear hok
          rw [show off + 0 * 5 = off by omega] at h0 h1 h2 h3 h4
          go_wp2_with fail
          generalize hw0 : World.alloc _ _ = w0
          obtain ⟨hb0, hB0, hs0⟩ := alloc1 hw0
          clear hw0 hc hf h0 h1 h2 h3 h4
          have k0 := cellOf hb0 0
          have k1 := cellOf hb0 1
          have k2 := cellOf hb0 2
          have k3 := cellOf hb0 3
          have k4 := cellOf hb0 4
          have hl0 : wr.heap.size < w0.heap.size := by omega
          clear hs0
          refine wp_region_held_drew (S := (fun w' => Below w0.heap.size w0 w')) (by kernel_rfl) ?_ (fun hHeld => ?_)
          · try dsimp only
            exact (by repeat (first | exact Below.refl _ _ | assumption | refine Below.drew ?_ | refine Below.drewN ?_ _ | refine Below.allocT ?_ (Nat.le_refl _) _ | refine Below.setCell ?_ (by simp <;> omega) _ | refine Below.to ?_ (by assumption) (Nat.le_refl _)))
          refine wpAnyH_take (i := 0) (v := ?v2_0) rfl (by kernel_rfl) (by kernel_rfl) (by kernel_rfl) (fun _ _ _ h => h) (Or.inl ⟨by rfl, ?y2_0⟩) (by assumption) ?r2_0
          case' y2_0 => (intro w hSw; (try dsimp only at hSw); (try have hlS := HLK.out _ hSw); obtain ⟨hcS, hfS⟩ := bcell hSw; clear hSw; go_simp; try with_reducible rfl)
          try simp only [Act.put, List.getElem_toArray, List.getElem_cons_succ, List.getElem_cons_zero, List.setIfInBounds_toArray, List.set_cons_zero, List.set_cons_succ]
          refine wpAnyH_ready (rs := [1]) (by kernel_rfl) (by simp) ?_
          refine AllReadyH.cons rfl (fun K hK => ?_) AllReadyH.nil
          go_simp
          ((go_at_call 48; refine (checkGauge_any g _).mono ?_; rw [HOK.out]; rintro e w1 ⟨rfl, hB1⟩))
          (try dsimp only)
          refine hK.out _ _ ?_ (fun hNext => ?_)
          · try dsimp only
            exact (by repeat (first | exact Below.refl _ _ | assumption | refine Below.drew ?_ | refine Below.drewN ?_ _ | refine Below.allocT ?_ (Nat.le_refl _) _ | refine Below.setCell ?_ (by simp <;> omega) _ | refine Below.to ?_ (by assumption) (Nat.le_refl _)))
          clear hK K hHeld
          have hHeld := hNext
          clear hNext
          (try dsimp only at hHeld)
          try simp only [Act.put, List.getElem_toArray, List.getElem_cons_succ, List.getElem_cons_zero, List.setIfInBounds_toArray, List.set_cons_zero, List.set_cons_succ]
          refine wpAnyH_take (i := 2) (v := ?v2_2) rfl (by kernel_rfl) (by kernel_rfl) (by kernel_rfl) (fun _ _ _ h => h) (Or.inl ⟨by rfl, ?y2_2⟩) (by assumption) ?r2_2
          case' y2_2 => (intro w hSw; (try dsimp only at hSw); (try have hlS := HLK.out _ hSw); obtain ⟨hcS, hfS⟩ := bcell hSw; clear hSw; go_simp; try with_reducible rfl)
          try simp only [Act.put, List.getElem_toArray, List.getElem_cons_succ, List.getElem_cons_zero, List.setIfInBounds_toArray, List.set_cons_zero, List.set_cons_succ]
          refine wpAnyH_take (i := 3) (v := ?v2_3) rfl (by kernel_rfl) (by kernel_rfl) (by kernel_rfl) (fun _ _ _ h => h) (Or.inl ⟨by rfl, ?y2_3⟩) (by assumption) ?r2_3
          case' y2_3 => (intro w hSw; (try dsimp only at hSw); (try have hlS := HLK.out _ hSw); obtain ⟨hcS, hfS⟩ := bcell hSw; clear hSw; go_simp; try with_reducible rfl)
          try simp only [Act.put, List.getElem_toArray, List.getElem_cons_succ, List.getElem_cons_zero, List.setIfInBounds_toArray, List.set_cons_zero, List.set_cons_succ]
          refine wpAnyH_take (i := 4) (v := ?v2_4) rfl (by kernel_rfl) (by kernel_rfl) (by kernel_rfl) (fun _ _ _ h => h) (Or.inl ⟨by rfl, ?y2_4⟩) (by assumption) ?r2_4
          case' y2_4 => (intro w hSw; (try dsimp only at hSw); (try have hlS := HLK.out _ hSw); obtain ⟨hcS, hfS⟩ := bcell hSw; clear hSw; go_simp; try with_reducible rfl)
          try simp only [Act.put, List.getElem_toArray, List.getElem_cons_succ, List.getElem_cons_zero, List.setIfInBounds_toArray, List.set_cons_zero, List.set_cons_succ]
          refine wpAnyH_take (i := 5) (v := ?v2_5) rfl (by kernel_rfl) (by kernel_rfl) (by kernel_rfl) (fun _ _ _ h => h) (Or.inl ⟨by rfl, ?y2_5⟩) (by assumption) ?r2_5
          case' y2_5 => (intro w hSw; (try dsimp only at hSw); (try have hlS := HLK.out _ hSw); obtain ⟨hcS, hfS⟩ := bcell hSw; clear hSw; go_simp; try with_reducible rfl)
          try simp only [Act.put, List.getElem_toArray, List.getElem_cons_succ, List.getElem_cons_zero, List.setIfInBounds_toArray, List.set_cons_zero, List.set_cons_succ]
          refine wpAnyH_take (i := 6) (v := ?v2_6) rfl (by kernel_rfl) (by kernel_rfl) (by kernel_rfl) (fun _ _ _ h => h) (Or.inl ⟨by rfl, ?y2_6⟩) (by assumption) ?r2_6
          case' y2_6 => (intro w hSw; (try dsimp only at hSw); (try have hlS := HLK.out _ hSw); obtain ⟨hcS, hfS⟩ := bcell hSw; clear hSw; go_simp; try with_reducible rfl)
          try simp only [Act.put, List.getElem_toArray, List.getElem_cons_succ, List.getElem_cons_zero, List.setIfInBounds_toArray, List.set_cons_zero, List.set_cons_succ]
          refine wpAnyH_take (i := 7) (v := undef) rfl (by kernel_rfl) (by kernel_rfl) (by kernel_rfl) (fun _ _ _ h => h) (Or.inr ⟨?w2_7, rfl⟩) (by assumption) ?r2_7
          case' w2_7 => first | rfl | (simp [Region.wanted, yielded, *]; done)
          try simp only [Act.put, List.getElem_toArray, List.getElem_cons_succ, List.getElem_cons_zero, List.setIfInBounds_toArray, List.set_cons_zero, List.set_cons_succ]
          refine wpAnyH_take (i := 8) (v := undef) rfl (by kernel_rfl) (by kernel_rfl) (by kernel_rfl) (fun _ _ _ h => h) (Or.inr ⟨?w2_8, rfl⟩) (by assumption) ?r2_8
          case' w2_8 => first | rfl | (simp [Region.wanted, yielded, *]; done)
          try simp only [Act.put, List.getElem_toArray, List.getElem_cons_succ, List.getElem_cons_zero, List.setIfInBounds_toArray, List.set_cons_zero, List.set_cons_succ]
          refine wpAnyH_take (i := 9) (v := undef) rfl (by kernel_rfl) (by kernel_rfl) (by kernel_rfl) (fun _ _ _ h => h) (Or.inr ⟨?w2_9, rfl⟩) (by assumption) ?r2_9
          case' w2_9 => first | rfl | (simp [Region.wanted, yielded, *]; done)
          try simp only [Act.put, List.getElem_toArray, List.getElem_cons_succ, List.getElem_cons_zero, List.setIfInBounds_toArray, List.set_cons_zero, List.set_cons_succ]
          refine wpAnyH_take (i := 10) (v := undef) rfl (by kernel_rfl) (by kernel_rfl) (by kernel_rfl) (fun _ _ _ h => h) (Or.inr ⟨?w2_10, rfl⟩) (by assumption) ?r2_10
          case' w2_10 => first | rfl | (simp [Region.wanted, yielded, *]; done)
          try simp only [Act.put, List.getElem_toArray, List.getElem_cons_succ, List.getElem_cons_zero, List.setIfInBounds_toArray, List.set_cons_zero, List.set_cons_succ]
          refine wpAnyH_take (i := 11) (v := undef) rfl (by kernel_rfl) (by kernel_rfl) (by kernel_rfl) (fun _ _ _ h => h) (Or.inr ⟨?w2_11, rfl⟩) (by assumption) ?r2_11
          case' w2_11 => first | rfl | (simp [Region.wanted, yielded, *]; done)
          try simp only [Act.put, List.getElem_toArray, List.getElem_cons_succ, List.getElem_cons_zero, List.setIfInBounds_toArray, List.set_cons_zero, List.set_cons_succ]
          refine wpAnyH_take (i := 12) (v := undef) rfl (by kernel_rfl) (by kernel_rfl) (by kernel_rfl) (fun _ _ _ h => h) (Or.inr ⟨?w2_12, rfl⟩) (by assumption) ?r2_12
          case' w2_12 => first | rfl | (simp [Region.wanted, yielded, *]; done)
          try simp only [Act.put, List.getElem_toArray, List.getElem_cons_succ, List.getElem_cons_zero, List.setIfInBounds_toArray, List.set_cons_zero, List.set_cons_succ]
          refine wpAnyH_take (i := 13) (v := undef) rfl (by kernel_rfl) (by kernel_rfl) (by kernel_rfl) (fun _ _ _ h => h) (Or.inr ⟨?w2_13, rfl⟩) (by assumption) ?r2_13
          case' w2_13 => first | rfl | (simp [Region.wanted, yielded, *]; done)
          try simp only [Act.put, List.getElem_toArray, List.getElem_cons_succ, List.getElem_cons_zero, List.setIfInBounds_toArray, List.set_cons_zero, List.set_cons_succ]
          refine wpAnyH_take (i := 14) (v := undef) rfl (by kernel_rfl) (by kernel_rfl) (by kernel_rfl) (fun _ _ _ h => h) (Or.inr ⟨?w2_14, rfl⟩) (by assumption) ?r2_14
          case' w2_14 => first | rfl | (simp [Region.wanted, yielded, *]; done)
          try simp only [Act.put, List.getElem_toArray, List.getElem_cons_succ, List.getElem_cons_zero, List.setIfInBounds_toArray, List.set_cons_zero, List.set_cons_succ]
          refine wpAnyH_take (i := 15) (v := undef) rfl (by kernel_rfl) (by kernel_rfl) (by kernel_rfl) (fun _ _ _ h => h) (Or.inr ⟨?w2_15, rfl⟩) (by assumption) ?r2_15
          case' w2_15 => first | rfl | (simp [Region.wanted, yielded, *]; done)
          try simp only [Act.put, List.getElem_toArray, List.getElem_cons_succ, List.getElem_cons_zero, List.setIfInBounds_toArray, List.set_cons_zero, List.set_cons_succ]
          refine wpAnyH_take (i := 16) (v := ?v2_16) rfl (by kernel_rfl) (by kernel_rfl) (by kernel_rfl) (fun _ _ _ h => h) (Or.inl ⟨by rfl, ?y2_16⟩) (by assumption) ?r2_16
          case' y2_16 => (intro w hSw; (try dsimp only at hSw); (try have hlS := HLK.out _ hSw); obtain ⟨hcS, hfS⟩ := bcell hSw; clear hSw; go_simp; try with_reducible rfl)
          try simp only [Act.put, List.getElem_toArray, List.getElem_cons_succ, List.getElem_cons_zero, List.setIfInBounds_toArray, List.set_cons_zero, List.set_cons_succ]
          refine wpAnyH_take (i := 17) (v := ?v2_17) rfl (by kernel_rfl) (by kernel_rfl) (by kernel_rfl) (fun _ _ _ h => h) (Or.inl ⟨by rfl, ?y2_17⟩) (by assumption) ?r2_17
          case' y2_17 => (intro w hSw; (try dsimp only at hSw); (try have hlS := HLK.out _ hSw); obtain ⟨hcS, hfS⟩ := bcell hSw; clear hSw; go_simp; try with_reducible rfl)
          try simp only [Act.put, List.getElem_toArray, List.getElem_cons_succ, List.getElem_cons_zero, List.setIfInBounds_toArray, List.set_cons_zero, List.set_cons_succ]
          refine wpAnyH_done (by kernel_rfl) ?_ _
          go_wp2_with fail
          go_roundw
          case rel => exact ⟨0 + 1, by omega, by go_num, fun j hj => by
              rcases Nat.lt_or_ge j 0 with h | h
              · exact hz.out j h
              · rw [show j = 0 from by omega]; exact HS.out, (by repeat (first | exact Below.refl _ _ | assumption | refine Below.drew ?_ | refine Below.drewN ?_ _ | refine Below.allocT ?_ (Nat.le_refl _) _ | refine Below.setCell ?_ (by simp <;> omega) _ | refine Below.to ?_ (by assumption) (Nat.le_refl _)))⟩
          case measure => simp [intOf]; omega
        · obtain ⟨m, rfl⟩ : ∃ m, k = m + 1 := ⟨k - 1, by omega⟩
          obtain ⟨g', HZ', _, _, e0, _⟩ := gaAt HA.out HC.out (show m < gs.length by omega)
          have hst : gstep gs (m + 1) = decide (g'.area < g.area) := by unfold gstep; rw [HZ.out, hok, show m + 1 - 1 = m by omega, HZ'.out]; simp
          clear hok
          have hlt' : m < gs.length := by omega
          have hi0 : (0 : Int) ≤ (m : Int) := by omega
          have hwm : IntKind.i64.wrap (m : Int) = (m : Int) := IntWalk.i64_in _ (by omega)
          have hi1 : (m : Int) < (gs.length : Int) := by omega
          go_wp2_with fail
          generalize hw0 : World.alloc _ _ = w0
          obtain ⟨hb0, hB0, hs0⟩ := alloc1 hw0
          clear hw0 hc hf h0 h1 h2 h3 h4
          have k0 := cellOf hb0 0
          have k1 := cellOf hb0 1
          have k2 := cellOf hb0 2
          have k3 := cellOf hb0 3
          have k4 := cellOf hb0 4
          have hl0 : wr.heap.size < w0.heap.size := by omega
          clear hs0
          have e0' : w0.cell? ⟨b, off + m * 5, none⟩ = some (.int .i64 g'.area) := (hB0.cell (p := ⟨b, off + m * 5, none⟩) (by have := hB.size; show b < _; omega)).trans ((hB.cell (p := ⟨b, off + m * 5, none⟩) hbw).trans e0)
          have hlb : b < w0.heap.size := by have := hB.size; have := hB0.size; omega
          clear e0
          by_cases hgt : g.area ≤ g'.area
          · have hc1 : decide (g.area ≤ g'.area) = true := by simpa using hgt
            have HS : Hid (gstep gs (m + 1) = false) := by show _ = _; rw [hst]; simp; omega
            clear hst hgt
            refine wp_region_held_drew (S := (fun w' => Below w0.heap.size w0 w')) (by kernel_rfl) ?_ (fun hHeld => ?_)
            · try dsimp only
              exact (by repeat (first | exact Below.refl _ _ | assumption | refine Below.drew ?_ | refine Below.drewN ?_ _ | refine Below.allocT ?_ (Nat.le_refl _) _ | refine Below.setCell ?_ (by simp <;> omega) _ | refine Below.to ?_ (by assumption) (Nat.le_refl _)))
            refine wpAnyH_take (i := 0) (v := ?v3_0) rfl (by kernel_rfl) (by kernel_rfl) (by kernel_rfl) (fun _ _ _ h => h) (Or.inl ⟨by rfl, ?y3_0⟩) (by assumption) ?r3_0
            case' y3_0 => (intro w hSw; (try dsimp only at hSw); (try have hlS := HLK.out _ hSw); obtain ⟨hcS, hfS⟩ := bcell hSw; clear hSw; go_simp; try with_reducible rfl)
            try simp only [Act.put, List.getElem_toArray, List.getElem_cons_succ, List.getElem_cons_zero, List.setIfInBounds_toArray, List.set_cons_zero, List.set_cons_succ]
            refine wpAnyH_ready (rs := [1]) (by kernel_rfl) (by simp) ?_
            refine AllReadyH.cons rfl (fun K hK => ?_) AllReadyH.nil
            go_simp
            ((go_at_call 48; refine (checkGauge_any g _).mono ?_; rw [HOK.out]; rintro e w1 ⟨rfl, hB1⟩))
            (try dsimp only)
            refine hK.out _ _ ?_ (fun hNext => ?_)
            · try dsimp only
              exact (by repeat (first | exact Below.refl _ _ | assumption | refine Below.drew ?_ | refine Below.drewN ?_ _ | refine Below.allocT ?_ (Nat.le_refl _) _ | refine Below.setCell ?_ (by simp <;> omega) _ | refine Below.to ?_ (by assumption) (Nat.le_refl _)))
            clear hK K hHeld
            have hHeld := hNext
            clear hNext
            (try dsimp only at hHeld)
            try simp only [Act.put, List.getElem_toArray, List.getElem_cons_succ, List.getElem_cons_zero, List.setIfInBounds_toArray, List.set_cons_zero, List.set_cons_succ]
            refine wpAnyH_take (i := 2) (v := ?v3_2) rfl (by kernel_rfl) (by kernel_rfl) (by kernel_rfl) (fun _ _ _ h => h) (Or.inl ⟨by rfl, ?y3_2⟩) (by assumption) ?r3_2
            case' y3_2 => (intro w hSw; (try dsimp only at hSw); (try have hlS := HLK.out _ hSw); obtain ⟨hcS, hfS⟩ := bcell hSw; clear hSw; go_simp; try with_reducible rfl)
            try simp only [Act.put, List.getElem_toArray, List.getElem_cons_succ, List.getElem_cons_zero, List.setIfInBounds_toArray, List.set_cons_zero, List.set_cons_succ]
            refine wpAnyH_take (i := 3) (v := ?v3_3) rfl (by kernel_rfl) (by kernel_rfl) (by kernel_rfl) (fun _ _ _ h => h) (Or.inl ⟨by rfl, ?y3_3⟩) (by assumption) ?r3_3
            case' y3_3 => (intro w hSw; (try dsimp only at hSw); (try have hlS := HLK.out _ hSw); obtain ⟨hcS, hfS⟩ := bcell hSw; clear hSw; go_simp; try with_reducible rfl)
            try simp only [Act.put, List.getElem_toArray, List.getElem_cons_succ, List.getElem_cons_zero, List.setIfInBounds_toArray, List.set_cons_zero, List.set_cons_succ]
            refine wpAnyH_take (i := 4) (v := ?v3_4) rfl (by kernel_rfl) (by kernel_rfl) (by kernel_rfl) (fun _ _ _ h => h) (Or.inl ⟨by rfl, ?y3_4⟩) (by assumption) ?r3_4
            case' y3_4 => (intro w hSw; (try dsimp only at hSw); (try have hlS := HLK.out _ hSw); obtain ⟨hcS, hfS⟩ := bcell hSw; clear hSw; go_simp; try with_reducible rfl)
            try simp only [Act.put, List.getElem_toArray, List.getElem_cons_succ, List.getElem_cons_zero, List.setIfInBounds_toArray, List.set_cons_zero, List.set_cons_succ]
            refine wpAnyH_take (i := 5) (v := ?v3_5) rfl (by kernel_rfl) (by kernel_rfl) (by kernel_rfl) (fun _ _ _ h => h) (Or.inl ⟨by rfl, ?y3_5⟩) (by assumption) ?r3_5
            case' y3_5 => (intro w hSw; (try dsimp only at hSw); (try have hlS := HLK.out _ hSw); obtain ⟨hcS, hfS⟩ := bcell hSw; clear hSw; go_simp; try with_reducible rfl)
            try simp only [Act.put, List.getElem_toArray, List.getElem_cons_succ, List.getElem_cons_zero, List.setIfInBounds_toArray, List.set_cons_zero, List.set_cons_succ]
            refine wpAnyH_take (i := 6) (v := ?v3_6) rfl (by kernel_rfl) (by kernel_rfl) (by kernel_rfl) (fun _ _ _ h => h) (Or.inl ⟨by rfl, ?y3_6⟩) (by assumption) ?r3_6
            case' y3_6 => (intro w hSw; (try dsimp only at hSw); (try have hlS := HLK.out _ hSw); obtain ⟨hcS, hfS⟩ := bcell hSw; clear hSw; go_simp; try with_reducible rfl)
            try simp only [Act.put, List.getElem_toArray, List.getElem_cons_succ, List.getElem_cons_zero, List.setIfInBounds_toArray, List.set_cons_zero, List.set_cons_succ]
            refine wpAnyH_take (i := 7) (v := ?v3_7) rfl (by kernel_rfl) (by kernel_rfl) (by kernel_rfl) (fun _ _ _ h => h) (Or.inl ⟨by rfl, ?y3_7⟩) (by assumption) ?r3_7
            case' y3_7 => (intro w hSw; (try dsimp only at hSw); (try have hlS := HLK.out _ hSw); obtain ⟨hcS, hfS⟩ := bcell hSw; clear hSw; go_simp; try with_reducible rfl)
            try simp only [Act.put, List.getElem_toArray, List.getElem_cons_succ, List.getElem_cons_zero, List.setIfInBounds_toArray, List.set_cons_zero, List.set_cons_succ]
            refine wpAnyH_take (i := 8) (v := ?v3_8) rfl (by kernel_rfl) (by kernel_rfl) (by kernel_rfl) (fun _ _ _ h => h) (Or.inl ⟨by rfl, ?y3_8⟩) (by assumption) ?r3_8
            case' y3_8 => (intro w hSw; (try dsimp only at hSw); (try have hlS := HLK.out _ hSw); obtain ⟨hcS, hfS⟩ := bcell hSw; clear hSw; go_simp; try with_reducible rfl)
            try simp only [Act.put, List.getElem_toArray, List.getElem_cons_succ, List.getElem_cons_zero, List.setIfInBounds_toArray, List.set_cons_zero, List.set_cons_succ]
            refine wpAnyH_take (i := 9) (v := ?v3_9) rfl (by kernel_rfl) (by kernel_rfl) (by kernel_rfl) (fun _ _ _ h => h) (Or.inl ⟨by rfl, ?y3_9⟩) (by assumption) ?r3_9
            case' y3_9 => (intro w hSw; (try dsimp only at hSw); (try have hlS := HLK.out _ hSw); obtain ⟨hcS, hfS⟩ := bcell hSw; clear hSw; go_simp; try with_reducible rfl)
            try simp only [Act.put, List.getElem_toArray, List.getElem_cons_succ, List.getElem_cons_zero, List.setIfInBounds_toArray, List.set_cons_zero, List.set_cons_succ]
            refine wpAnyH_take (i := 10) (v := ?v3_10) rfl (by kernel_rfl) (by kernel_rfl) (by kernel_rfl) (fun _ _ _ h => h) (Or.inl ⟨by rfl, ?y3_10⟩) (by assumption) ?r3_10
            case' y3_10 => (intro w hSw; (try dsimp only at hSw); (try have hlS := HLK.out _ hSw); obtain ⟨hcS, hfS⟩ := bcell hSw; clear hSw; go_simp; try with_reducible rfl)
            try simp only [Act.put, List.getElem_toArray, List.getElem_cons_succ, List.getElem_cons_zero, List.setIfInBounds_toArray, List.set_cons_zero, List.set_cons_succ]
            refine wpAnyH_take (i := 11) (v := ?v3_11) rfl (by kernel_rfl) (by kernel_rfl) (by kernel_rfl) (fun _ _ _ h => h) (Or.inl ⟨by rfl, ?y3_11⟩) (by assumption) ?r3_11
            case' y3_11 => (intro w hSw; (try dsimp only at hSw); (try have hlS := HLK.out _ hSw); obtain ⟨hcS, hfS⟩ := bcell hSw; clear hSw; go_simp; try with_reducible rfl)
            try simp only [Act.put, List.getElem_toArray, List.getElem_cons_succ, List.getElem_cons_zero, List.setIfInBounds_toArray, List.set_cons_zero, List.set_cons_succ]
            refine wpAnyH_take (i := 12) (v := ?v3_12) rfl (by kernel_rfl) (by kernel_rfl) (by kernel_rfl) (fun _ _ _ h => h) (Or.inl ⟨by rfl, ?y3_12⟩) (by assumption) ?r3_12
            case' y3_12 => (intro w hSw; (try dsimp only at hSw); (try have hlS := HLK.out _ hSw); obtain ⟨hcS, hfS⟩ := bcell hSw; clear hSw; go_simp; try with_reducible rfl)
            try simp only [Act.put, List.getElem_toArray, List.getElem_cons_succ, List.getElem_cons_zero, List.setIfInBounds_toArray, List.set_cons_zero, List.set_cons_succ]
            refine wpAnyH_take (i := 13) (v := ?v3_13) rfl (by kernel_rfl) (by kernel_rfl) (by kernel_rfl) (fun _ _ _ h => h) (Or.inl ⟨by rfl, ?y3_13⟩) (by assumption) ?r3_13
            case' y3_13 => (intro w hSw; (try dsimp only at hSw); (try have hlS := HLK.out _ hSw); obtain ⟨hcS, hfS⟩ := bcell hSw; clear hSw; go_simp; try with_reducible rfl)
            try simp only [Act.put, List.getElem_toArray, List.getElem_cons_succ, List.getElem_cons_zero, List.setIfInBounds_toArray, List.set_cons_zero, List.set_cons_succ]
            refine wpAnyH_take (i := 14) (v := ?v3_14) rfl (by kernel_rfl) (by kernel_rfl) (by kernel_rfl) (fun _ _ _ h => h) (Or.inl ⟨by rfl, ?y3_14⟩) (by assumption) ?r3_14
            case' y3_14 => (intro w hSw; (try dsimp only at hSw); (try have hlS := HLK.out _ hSw); obtain ⟨hcS, hfS⟩ := bcell hSw; clear hSw; go_simp; try with_reducible rfl)
            try simp only [Act.put, List.getElem_toArray, List.getElem_cons_succ, List.getElem_cons_zero, List.setIfInBounds_toArray, List.set_cons_zero, List.set_cons_succ]
            refine wpAnyH_take (i := 15) (v := ?v3_15) rfl (by kernel_rfl) (by kernel_rfl) (by kernel_rfl) (fun _ _ _ h => h) (Or.inl ⟨by rfl, ?y3_15⟩) (by assumption) ?r3_15
            case' y3_15 => (intro w hSw; (try dsimp only at hSw); (try have hlS := HLK.out _ hSw); obtain ⟨hcS, hfS⟩ := bcell hSw; clear hSw; go_simp; try with_reducible rfl)
            try simp only [Act.put, List.getElem_toArray, List.getElem_cons_succ, List.getElem_cons_zero, List.setIfInBounds_toArray, List.set_cons_zero, List.set_cons_succ]
            refine wpAnyH_take (i := 16) (v := ?v3_16) rfl (by kernel_rfl) (by kernel_rfl) (by kernel_rfl) (fun _ _ _ h => h) (Or.inl ⟨by rfl, ?y3_16⟩) (by assumption) ?r3_16
            case' y3_16 => (intro w hSw; (try dsimp only at hSw); (try have hlS := HLK.out _ hSw); obtain ⟨hcS, hfS⟩ := bcell hSw; clear hSw; go_simp; try with_reducible rfl)
            try simp only [Act.put, List.getElem_toArray, List.getElem_cons_succ, List.getElem_cons_zero, List.setIfInBounds_toArray, List.set_cons_zero, List.set_cons_succ]
            refine wpAnyH_take (i := 17) (v := ?v3_17) rfl (by kernel_rfl) (by kernel_rfl) (by kernel_rfl) (fun _ _ _ h => h) (Or.inl ⟨by rfl, ?y3_17⟩) (by assumption) ?r3_17
            case' y3_17 => (intro w hSw; (try dsimp only at hSw); (try have hlS := HLK.out _ hSw); obtain ⟨hcS, hfS⟩ := bcell hSw; clear hSw; go_simp; try with_reducible rfl)
            try simp only [Act.put, List.getElem_toArray, List.getElem_cons_succ, List.getElem_cons_zero, List.setIfInBounds_toArray, List.set_cons_zero, List.set_cons_succ]
            refine wpAnyH_done (by kernel_rfl) ?_ _
            go_wp2_with fail
            go_ret
            exact ⟨ret_int (by unfold gasErr; rw [tableB_at hlt HS.out]; rfl), (by repeat (first | exact Below.refl _ _ | assumption | refine Below.drew ?_ | refine Below.drewN ?_ _ | refine Below.allocT ?_ (Nat.le_refl _) _ | refine Below.setCell ?_ (by simp <;> omega) _ | refine Below.to ?_ (by assumption) (Nat.le_refl _)))⟩
          · have hc1 : decide (g.area ≤ g'.area) = false := by simpa using hgt
            have HS : Hid (gstep gs (m + 1) = true) := by show _ = _; rw [hst]; simp; omega
            clear hst hgt
            refine wp_region_held_drew (S := (fun w' => Below w0.heap.size w0 w')) (by kernel_rfl) ?_ (fun hHeld => ?_)
            · try dsimp only
              exact (by repeat (first | exact Below.refl _ _ | assumption | refine Below.drew ?_ | refine Below.drewN ?_ _ | refine Below.allocT ?_ (Nat.le_refl _) _ | refine Below.setCell ?_ (by simp <;> omega) _ | refine Below.to ?_ (by assumption) (Nat.le_refl _)))
            refine wpAnyH_take (i := 0) (v := ?v4_0) rfl (by kernel_rfl) (by kernel_rfl) (by kernel_rfl) (fun _ _ _ h => h) (Or.inl ⟨by rfl, ?y4_0⟩) (by assumption) ?r4_0
            case' y4_0 => (intro w hSw; (try dsimp only at hSw); (try have hlS := HLK.out _ hSw); obtain ⟨hcS, hfS⟩ := bcell hSw; clear hSw; go_simp; try with_reducible rfl)
            try simp only [Act.put, List.getElem_toArray, List.getElem_cons_succ, List.getElem_cons_zero, List.setIfInBounds_toArray, List.set_cons_zero, List.set_cons_succ]
            refine wpAnyH_ready (rs := [1]) (by kernel_rfl) (by simp) ?_
            refine AllReadyH.cons rfl (fun K hK => ?_) AllReadyH.nil
            go_simp
            ((go_at_call 48; refine (checkGauge_any g _).mono ?_; rw [HOK.out]; rintro e w1 ⟨rfl, hB1⟩))
            (try dsimp only)
            refine hK.out _ _ ?_ (fun hNext => ?_)
            · try dsimp only
              exact (by repeat (first | exact Below.refl _ _ | assumption | refine Below.drew ?_ | refine Below.drewN ?_ _ | refine Below.allocT ?_ (Nat.le_refl _) _ | refine Below.setCell ?_ (by simp <;> omega) _ | refine Below.to ?_ (by assumption) (Nat.le_refl _)))
            clear hK K hHeld
            have hHeld := hNext
            clear hNext
            (try dsimp only at hHeld)
            try simp only [Act.put, List.getElem_toArray, List.getElem_cons_succ, List.getElem_cons_zero, List.setIfInBounds_toArray, List.set_cons_zero, List.set_cons_succ]
            refine wpAnyH_take (i := 2) (v := ?v4_2) rfl (by kernel_rfl) (by kernel_rfl) (by kernel_rfl) (fun _ _ _ h => h) (Or.inl ⟨by rfl, ?y4_2⟩) (by assumption) ?r4_2
            case' y4_2 => (intro w hSw; (try dsimp only at hSw); (try have hlS := HLK.out _ hSw); obtain ⟨hcS, hfS⟩ := bcell hSw; clear hSw; go_simp; try with_reducible rfl)
            try simp only [Act.put, List.getElem_toArray, List.getElem_cons_succ, List.getElem_cons_zero, List.setIfInBounds_toArray, List.set_cons_zero, List.set_cons_succ]
            refine wpAnyH_take (i := 3) (v := ?v4_3) rfl (by kernel_rfl) (by kernel_rfl) (by kernel_rfl) (fun _ _ _ h => h) (Or.inl ⟨by rfl, ?y4_3⟩) (by assumption) ?r4_3
            case' y4_3 => (intro w hSw; (try dsimp only at hSw); (try have hlS := HLK.out _ hSw); obtain ⟨hcS, hfS⟩ := bcell hSw; clear hSw; go_simp; try with_reducible rfl)
            try simp only [Act.put, List.getElem_toArray, List.getElem_cons_succ, List.getElem_cons_zero, List.setIfInBounds_toArray, List.set_cons_zero, List.set_cons_succ]
            refine wpAnyH_take (i := 4) (v := ?v4_4) rfl (by kernel_rfl) (by kernel_rfl) (by kernel_rfl) (fun _ _ _ h => h) (Or.inl ⟨by rfl, ?y4_4⟩) (by assumption) ?r4_4
            case' y4_4 => (intro w hSw; (try dsimp only at hSw); (try have hlS := HLK.out _ hSw); obtain ⟨hcS, hfS⟩ := bcell hSw; clear hSw; go_simp; try with_reducible rfl)
            try simp only [Act.put, List.getElem_toArray, List.getElem_cons_succ, List.getElem_cons_zero, List.setIfInBounds_toArray, List.set_cons_zero, List.set_cons_succ]
            refine wpAnyH_take (i := 5) (v := ?v4_5) rfl (by kernel_rfl) (by kernel_rfl) (by kernel_rfl) (fun _ _ _ h => h) (Or.inl ⟨by rfl, ?y4_5⟩) (by assumption) ?r4_5
            case' y4_5 => (intro w hSw; (try dsimp only at hSw); (try have hlS := HLK.out _ hSw); obtain ⟨hcS, hfS⟩ := bcell hSw; clear hSw; go_simp; try with_reducible rfl)
            try simp only [Act.put, List.getElem_toArray, List.getElem_cons_succ, List.getElem_cons_zero, List.setIfInBounds_toArray, List.set_cons_zero, List.set_cons_succ]
            refine wpAnyH_take (i := 6) (v := ?v4_6) rfl (by kernel_rfl) (by kernel_rfl) (by kernel_rfl) (fun _ _ _ h => h) (Or.inl ⟨by rfl, ?y4_6⟩) (by assumption) ?r4_6
            case' y4_6 => (intro w hSw; (try dsimp only at hSw); (try have hlS := HLK.out _ hSw); obtain ⟨hcS, hfS⟩ := bcell hSw; clear hSw; go_simp; try with_reducible rfl)
            try simp only [Act.put, List.getElem_toArray, List.getElem_cons_succ, List.getElem_cons_zero, List.setIfInBounds_toArray, List.set_cons_zero, List.set_cons_succ]
            refine wpAnyH_take (i := 7) (v := ?v4_7) rfl (by kernel_rfl) (by kernel_rfl) (by kernel_rfl) (fun _ _ _ h => h) (Or.inl ⟨by rfl, ?y4_7⟩) (by assumption) ?r4_7
            case' y4_7 => (intro w hSw; (try dsimp only at hSw); (try have hlS := HLK.out _ hSw); obtain ⟨hcS, hfS⟩ := bcell hSw; clear hSw; go_simp; try with_reducible rfl)
            try simp only [Act.put, List.getElem_toArray, List.getElem_cons_succ, List.getElem_cons_zero, List.setIfInBounds_toArray, List.set_cons_zero, List.set_cons_succ]
            refine wpAnyH_take (i := 8) (v := ?v4_8) rfl (by kernel_rfl) (by kernel_rfl) (by kernel_rfl) (fun _ _ _ h => h) (Or.inl ⟨by rfl, ?y4_8⟩) (by assumption) ?r4_8
            case' y4_8 => (intro w hSw; (try dsimp only at hSw); (try have hlS := HLK.out _ hSw); obtain ⟨hcS, hfS⟩ := bcell hSw; clear hSw; go_simp; try with_reducible rfl)
            try simp only [Act.put, List.getElem_toArray, List.getElem_cons_succ, List.getElem_cons_zero, List.setIfInBounds_toArray, List.set_cons_zero, List.set_cons_succ]
            refine wpAnyH_take (i := 9) (v := ?v4_9) rfl (by kernel_rfl) (by kernel_rfl) (by kernel_rfl) (fun _ _ _ h => h) (Or.inl ⟨by rfl, ?y4_9⟩) (by assumption) ?r4_9
            case' y4_9 => (intro w hSw; (try dsimp only at hSw); (try have hlS := HLK.out _ hSw); obtain ⟨hcS, hfS⟩ := bcell hSw; clear hSw; go_simp; try with_reducible rfl)
            try simp only [Act.put, List.getElem_toArray, List.getElem_cons_succ, List.getElem_cons_zero, List.setIfInBounds_toArray, List.set_cons_zero, List.set_cons_succ]
            refine wpAnyH_take (i := 10) (v := ?v4_10) rfl (by kernel_rfl) (by kernel_rfl) (by kernel_rfl) (fun _ _ _ h => h) (Or.inl ⟨by rfl, ?y4_10⟩) (by assumption) ?r4_10
            case' y4_10 => (intro w hSw; (try dsimp only at hSw); (try have hlS := HLK.out _ hSw); obtain ⟨hcS, hfS⟩ := bcell hSw; clear hSw; go_simp; try with_reducible rfl)
            try simp only [Act.put, List.getElem_toArray, List.getElem_cons_succ, List.getElem_cons_zero, List.setIfInBounds_toArray, List.set_cons_zero, List.set_cons_succ]
            refine wpAnyH_take (i := 11) (v := ?v4_11) rfl (by kernel_rfl) (by kernel_rfl) (by kernel_rfl) (fun _ _ _ h => h) (Or.inl ⟨by rfl, ?y4_11⟩) (by assumption) ?r4_11
            case' y4_11 => (intro w hSw; (try dsimp only at hSw); (try have hlS := HLK.out _ hSw); obtain ⟨hcS, hfS⟩ := bcell hSw; clear hSw; go_simp; try with_reducible rfl)
            try simp only [Act.put, List.getElem_toArray, List.getElem_cons_succ, List.getElem_cons_zero, List.setIfInBounds_toArray, List.set_cons_zero, List.set_cons_succ]
            refine wpAnyH_take (i := 12) (v := ?v4_12) rfl (by kernel_rfl) (by kernel_rfl) (by kernel_rfl) (fun _ _ _ h => h) (Or.inl ⟨by rfl, ?y4_12⟩) (by assumption) ?r4_12
            case' y4_12 => (intro w hSw; (try dsimp only at hSw); (try have hlS := HLK.out _ hSw); obtain ⟨hcS, hfS⟩ := bcell hSw; clear hSw; go_simp; try with_reducible rfl)
            try simp only [Act.put, List.getElem_toArray, List.getElem_cons_succ, List.getElem_cons_zero, List.setIfInBounds_toArray, List.set_cons_zero, List.set_cons_succ]
            refine wpAnyH_take (i := 13) (v := ?v4_13) rfl (by kernel_rfl) (by kernel_rfl) (by kernel_rfl) (fun _ _ _ h => h) (Or.inl ⟨by rfl, ?y4_13⟩) (by assumption) ?r4_13
            case' y4_13 => (intro w hSw; (try dsimp only at hSw); (try have hlS := HLK.out _ hSw); obtain ⟨hcS, hfS⟩ := bcell hSw; clear hSw; go_simp; try with_reducible rfl)
            try simp only [Act.put, List.getElem_toArray, List.getElem_cons_succ, List.getElem_cons_zero, List.setIfInBounds_toArray, List.set_cons_zero, List.set_cons_succ]
            refine wpAnyH_take (i := 14) (v := ?v4_14) rfl (by kernel_rfl) (by kernel_rfl) (by kernel_rfl) (fun _ _ _ h => h) (Or.inl ⟨by rfl, ?y4_14⟩) (by assumption) ?r4_14
            case' y4_14 => (intro w hSw; (try dsimp only at hSw); (try have hlS := HLK.out _ hSw); obtain ⟨hcS, hfS⟩ := bcell hSw; clear hSw; go_simp; try with_reducible rfl)
            try simp only [Act.put, List.getElem_toArray, List.getElem_cons_succ, List.getElem_cons_zero, List.setIfInBounds_toArray, List.set_cons_zero, List.set_cons_succ]
            refine wpAnyH_take (i := 15) (v := ?v4_15) rfl (by kernel_rfl) (by kernel_rfl) (by kernel_rfl) (fun _ _ _ h => h) (Or.inl ⟨by rfl, ?y4_15⟩) (by assumption) ?r4_15
            case' y4_15 => (intro w hSw; (try dsimp only at hSw); (try have hlS := HLK.out _ hSw); obtain ⟨hcS, hfS⟩ := bcell hSw; clear hSw; go_simp; try with_reducible rfl)
            try simp only [Act.put, List.getElem_toArray, List.getElem_cons_succ, List.getElem_cons_zero, List.setIfInBounds_toArray, List.set_cons_zero, List.set_cons_succ]
            refine wpAnyH_take (i := 16) (v := ?v4_16) rfl (by kernel_rfl) (by kernel_rfl) (by kernel_rfl) (fun _ _ _ h => h) (Or.inl ⟨by rfl, ?y4_16⟩) (by assumption) ?r4_16
            case' y4_16 => (intro w hSw; (try dsimp only at hSw); (try have hlS := HLK.out _ hSw); obtain ⟨hcS, hfS⟩ := bcell hSw; clear hSw; go_simp; try with_reducible rfl)
            try simp only [Act.put, List.getElem_toArray, List.getElem_cons_succ, List.getElem_cons_zero, List.setIfInBounds_toArray, List.set_cons_zero, List.set_cons_succ]
            refine wpAnyH_take (i := 17) (v := ?v4_17) rfl (by kernel_rfl) (by kernel_rfl) (by kernel_rfl) (fun _ _ _ h => h) (Or.inl ⟨by rfl, ?y4_17⟩) (by assumption) ?r4_17
            case' y4_17 => (intro w hSw; (try dsimp only at hSw); (try have hlS := HLK.out _ hSw); obtain ⟨hcS, hfS⟩ := bcell hSw; clear hSw; go_simp; try with_reducible rfl)
            try simp only [Act.put, List.getElem_toArray, List.getElem_cons_succ, List.getElem_cons_zero, List.setIfInBounds_toArray, List.set_cons_zero, List.set_cons_succ]
            refine wpAnyH_done (by kernel_rfl) ?_ _
            go_wp2_with fail
            go_roundw
            case rel => exact ⟨m + 1 + 1, by omega, by go_num, fun j hj => by
                rcases Nat.lt_or_ge j (m + 1) with h | h
                · exact hz.out j h
                · rw [show j = (m + 1) from by omega]; exact HS.out, (by repeat (first | exact Below.refl _ _ | assumption | refine Below.drew ?_ | refine Below.drewN ?_ _ | refine Below.allocT ?_ (Nat.le_refl _) _ | refine Below.setCell ?_ (by simp <;> omega) _ | refine Below.to ?_ (by assumption) (Nat.le_refl _)))⟩
            case measure => simp [intOf]; omega
    · go_wp2
      go_ret
      exact ⟨ret_int (by unfold gasErr; rw [tableB_all (fun j hj => hz.out j (by omega))]; rfl), (by repeat (first | exact Below.refl _ _ | assumption | refine Below.drew ?_ | refine Below.drewN ?_ _ | refine Below.allocT ?_ (Nat.le_refl _) _ | refine Below.setCell ?_ (by simp <;> omega) _ | refine Below.to ?_ (by assumption) (Nat.le_refl _)))⟩
end Go.Proofs.Ytejjjijaojkohaa

/- The least current under which a fuse does not guard a wire: walks. -/
import Derived.Test.YtejjjijaojkohaaRows
import Derived.Test.YtejjjijaojkohaaW21
import Derived.Test.YtejjjijaojkohaaW12
import Derived.Test.YtejjjijaojkohaaW18
import Derived.Deep.RegionHeld3
import Derived.Deep.DrawnRows
namespace Go.Proofs.Ytejjjijaojkohaa
open Go.RowKit
set_option linter.unusedVariables false
attribute [local go_sem ↓] Go.wp_at_zero Go.wp_at_succ


set_option maxRecDepth 100000 in
theorem least_ung (p : Int → Bool) (c0 c1 c2 : Value) (w : World) (hf : ∀ (a : Int) (W : World), 0 ≤ a → a ≤ 500 → Below w.heap.size w W → Calls Try.prog 98 #[.int .i64 a, c0, c1, c2] W fun e w' => e = .returned (.bool (p a)) ∧ Below W.heap.size W w') :
    Calls Try.prog 95 #[.func (.func 98) #[] #[c0, c1, c2]] w fun e w' => e = .returned (.int .i64 (leastI p)) ∧ Below w.heap.size w w' := by
  have HF := hide hf; clear hf
  go_enter Try.func95, Try.ntmps95
  go_wp2
  go_loopw [3, 4] (fun _ i wr => ∃ k : Nat, k ≤ 501 ∧ i = .int .i64 k ∧ Hid (∀ j : Nat, j < k → p j = false) ∧ Below w.heap.size w wr) (fun _ i _ => 501 - (intOf i).toNat)
  case atStart => exact ⟨0, by omega, rfl, fun j hj => by omega, Below.refl _ _⟩
  case round =>
    obtain ⟨k, hk, rfl, hz, hB⟩ := hrel
    by_cases hlt : k < 501
    · by_cases hp : p k = true
      · have HP := hide hp
        go_wp2_with (go_at_call 98; refine (HF.out (k : Int) _ (by omega) (by omega) hB).mono ?_; rw [hp]; rintro e w1 ⟨rfl, hB1⟩)
        go_ret
        exact ⟨ret_int (leastI_at p k hz.out hlt HP.out).symm, (by repeat (first | exact Below.refl _ _ | assumption | refine Below.drew ?_ | refine Below.drewN ?_ _ | refine Below.allocT ?_ (Nat.le_refl _) _ | refine Below.setCell ?_ (by simp <;> omega) _ | refine Below.to ?_ (by assumption) (Nat.le_refl _)))⟩
      · have hp' : p k = false := by simpa using hp
        clear hp
        have HP := hide hp'
        go_wp2_with (go_at_call 98; refine (HF.out (k : Int) _ (by omega) (by omega) hB).mono ?_; rw [hp']; rintro e w1 ⟨rfl, hB1⟩)
        go_roundw
        case rel => exact ⟨k + 1, by omega, by go_num, fun j hj => by
            rcases Nat.lt_or_ge j k with h | h
            · exact hz.out j h
            · rw [show j = k from by omega]; exact HP.out, (by repeat (first | exact Below.refl _ _ | assumption | refine Below.drew ?_ | refine Below.drewN ?_ _ | refine Below.allocT ?_ (Nat.le_refl _) _ | refine Below.setCell ?_ (by simp <;> omega) _ | refine Below.to ?_ (by assumption) (Nat.le_refl _)))⟩
        case measure => simp [intOf]; omega
    · go_wp2
      go_ret
      exact ⟨ret_int (leastI_none p (fun j hj => hz.out j (by omega))).symm, (by repeat (first | exact Below.refl _ _ | assumption | refine Below.drew ?_ | refine Below.drewN ?_ _ | refine Below.allocT ?_ (Nat.le_refl _) _ | refine Below.setCell ?_ (by simp <;> omega) _ | refine Below.to ?_ (by assumption) (Nat.le_refl _)))⟩


/-- Under this current the fuse does not guard the wire. -/
noncomputable def ungB (f : Fu) (g : Ga) (amb a : Int) : Bool := !guardB f g amb a

theorem ungClo_any (b3 b4 b5 : Nat) (f : Fu) (g : Ga) (amb a : Int) (w : World) (h3 : FuseAt w b3 f) (h4 : GaugeAt w b4 g) (h5 : w.heap[b5]? = some (.cells #[.int .i64 amb] 3 (0, 0))) (hf : f.Ok) (hg : g.Ok) (hb0 : 0 ≤ amb) (hb1 : amb ≤ 1000) (ha0 : 0 ≤ a) (ha1 : a ≤ 500) :
    Calls Try.prog 98 #[.int .i64 a, .pointer (some ⟨b3, 0, none⟩), .pointer (some ⟨b4, 0, none⟩), .pointer (some ⟨b5, 0, none⟩)] w fun e w' => e = .returned (.bool (ungB f g amb a)) ∧ Below w.heap.size w w' := by
  have HF := hide hf
  have HG := hide hg
  clear hf hg
  obtain ⟨k0, k1, _⟩ := fuse2 h3 (Below.refl _ w)
  obtain ⟨j0, j1, j2, j3, j4, _⟩ := gauge5 h4 (Below.refl _ w)
  have i0 : w.cell? ⟨b5, 0, none⟩ = some (.int .i64 amb) := cellOf h5 0
  clear h3 h4 h5
  go_enter Try.func98, Try.ntmps98
  go_wp2_with fail
  refine (guarded_any f g amb a _ HF.out HG.out hb0 hb1 ha0 ha1).mono ?_
  rintro e w1 ⟨rfl, hB1⟩
  go_wp2_with fail
  go_ret
  exact ⟨rfl, hB1⟩

theorem unguarded_any (f : Fu) (g : Ga) (amb : Int) (w : World) (hf : f.Ok) (hg : g.Ok) (hb0 : 0 ≤ amb) (hb1 : amb ≤ 1000) :
    Calls Try.prog 70 #[.agg #[.int .i64 f.rating, .int .i64 f.melt], .agg #[.int .i64 g.area, .int .i64 g.ohm, .int .i64 g.heat, .int .i64 g.cool, .int .i64 g.limit], .int .i64 amb] w fun e w' => e = .returned (.int .i64 (leastI (ungB f g amb))) ∧ Below w.heap.size w w' := by
  have HF := hide hf
  have HG := hide hg
  clear hf hg
  go_enter Try.func70, Try.ntmps70
  go_wp2_with fail
  obtain ⟨w0, hw0⟩ : ∃ w0 : World, ((w.alloc (.cells #[.int .i64 f.rating, .int .i64 f.melt] 30)).alloc (.cells #[.int .i64 g.area, .int .i64 g.ohm, .int .i64 g.heat, .int .i64 g.cool, .int .i64 g.limit] 23)).alloc (.cells #[.int .i64 amb] 3) = w0 := ⟨_, rfl⟩
  have hfu : FuseAt w0 w.heap.size f := by unfold FuseAt; rw [← hw0, heap_old _ _ _ (by simp <;> omega), heap_old _ _ _ (by simp <;> omega), heap_new _ _ _ rfl]
  have hga : GaugeAt w0 (w.heap.size + 1) g := by unfold GaugeAt; rw [← hw0, heap_old _ _ _ (by simp <;> omega), heap_new _ _ _ (by simp)]
  have ham : w0.heap[w.heap.size + 1 + 1]? = some (.cells #[.int .i64 amb] 3 (0, 0)) := by rw [← hw0, heap_new _ _ _ (by simp)]
  have hB0 : Below w.heap.size w w0 := by rw [← hw0]; exact (by repeat (first | exact Below.refl _ _ | assumption | refine Below.drew ?_ | refine Below.drewN ?_ _ | refine Below.allocT ?_ (Nat.le_refl _) _ | refine Below.setCell ?_ (by simp <;> omega) _ | refine Below.to ?_ (by assumption) (Nat.le_refl _)))
  rw [hw0]
  refine (least_ung (ungB f g amb) _ _ _ w0 (fun a W ha0 ha1 hB => ungClo_any _ _ _ f g amb a W (box_to hfu hB) (box_to hga hB) (box_to ham hB) HF.out HG.out hb0 hb1 ha0 ha1)).mono ?_
  rintro e w1 ⟨rfl, hB1⟩
  go_wp2_with fail
  go_ret
  exact ⟨rfl, Below.to hB0 hB1 (Nat.le_refl _)⟩

set_option maxRecDepth 100000 in
theorem runguarded_any (f : Fu) (g : Ga) (amb : Int) (w : World) (hf : f.Ok) (hg : g.Ok) (hb0 : 0 ≤ amb) (hb1 : amb ≤ 1000) :
    Calls Try.prog 71 #[.agg #[.int .i64 f.rating, .int .i64 f.melt], .agg #[.int .i64 g.area, .int .i64 g.ohm, .int .i64 g.heat, .int .i64 g.cool, .int .i64 g.limit], .int .i64 amb] w fun e w' => e = .returned (.int .i64 (leastI (ungB f g amb))) ∧ Below w.heap.size w w' := by
  have HF := hide hf
  have HG := hide hg
  clear hf hg
  go_enter Try.func71, Try.ntmps71
  go_wp2_with fail
  obtain ⟨w0, hw0⟩ : ∃ w0 : World, (w.alloc (.cells #[.int .i64 f.rating, .int .i64 f.melt] 30)).alloc (.cells #[.int .i64 g.area, .int .i64 g.ohm, .int .i64 g.heat, .int .i64 g.cool, .int .i64 g.limit] 23) = w0 := ⟨_, rfl⟩
  have hfu : FuseAt w0 w.heap.size f := by unfold FuseAt; rw [← hw0, heap_old _ _ _ (by simp <;> omega), heap_new _ _ _ rfl]
  have hga : GaugeAt w0 (w.heap.size + 1) g := by unfold GaugeAt; rw [← hw0, heap_new _ _ _ (by simp)]
  have hB0 : Below w.heap.size w w0 := by rw [← hw0]; exact (by repeat (first | exact Below.refl _ _ | assumption | refine Below.drew ?_ | refine Below.drewN ?_ _ | refine Below.allocT ?_ (Nat.le_refl _) _ | refine Below.setCell ?_ (by simp <;> omega) _ | refine Below.to ?_ (by assumption) (Nat.le_refl _)))
  have HFU := hide hfu
  have HGA := hide hga
  rw [hw0]
  clear hfu hga hw0
  go_loopw [7] (fun i wr => ∃ k : Nat, k ≤ 501 ∧ i = .int .i64 k ∧ Hid (∀ j : Nat, j < k → ungB f g amb j = false) ∧ Below w0.heap.size w0 wr) (fun i _ => 501 - (intOf i).toNat)
  case atStart => exact ⟨0, by omega, rfl, fun j hj => absurd hj (by omega), Below.refl _ _⟩
  case round =>
    obtain ⟨k, hk, rfl, hz, hB⟩ := hrel
    by_cases hlt : k < 501
    · obtain ⟨k0, k1, _⟩ := fuse2 HFU.out hB
      obtain ⟨j0, j1, j2, j3, j4, _⟩ := gauge5 HGA.out hB
      obtain ⟨q, hq⟩ : ∃ q, guardB f g amb k = q := ⟨_, rfl⟩
      have HQ := hide hq
      clear hq
      go_wp2_with fail
      refine (rguards_any f g amb (k : Int) _ HF.out HG.out hb0 hb1 (by omega) (by omega)).mono ?_
      rw [HQ.out]
      rintro e w1 ⟨rfl, hB1⟩
      have HB1 : Hid (Below w0.heap.size w0 w1) := Below.to hB hB1 (Nat.le_refl _)
      clear hB1
      cases q with
      | true =>
        go_wp2_with fail
        go_roundw
        case rel => exact ⟨k + 1, by omega, by go_num, fun j hj => by
            rcases Nat.lt_or_ge j k with h | h
            · exact hz.out j h
            · rw [show j = k from by omega]; unfold ungB; rw [HQ.out]; rfl, HB1.out⟩
        case measure => simp [intOf]; omega
      | false =>
        go_wp2_with fail
        go_ret
        exact ⟨ret_int (leastI_at _ k hz.out hlt (by unfold ungB; rw [HQ.out]; rfl)).symm, Below.to hB0 HB1.out (Nat.le_refl _)⟩
    · go_wp2
      go_ret
      exact ⟨ret_int (leastI_none _ (fun j hj => hz.out j (by omega))).symm, Below.to hB0 hB (Nat.le_refl _)⟩

def grdErr (f : Fu) (g : Ga) (amb : Int) : Int := if f.ok then if g.ok then if fromB amb 0 1000 then 0 else 1 else 70 else 72
noncomputable def grdVal (f : Fu) (g : Ga) (amb : Int) : Int := if f.ok && g.ok && fromB amb 0 1000 then leastI (ungB f g amb) else 0
def gaugeErr (g : Ga) : Int := if g.ok then 0 else 70
theorem checkGaugeE (g : Ga) (w : World) : Calls Try.prog 48 #[.agg #[.int .i64 g.area, .int .i64 g.ohm, .int .i64 g.heat, .int .i64 g.cool, .int .i64 g.limit]] w fun e w' => e = .returned (.int .i64 (gaugeErr g)) ∧ Below w.heap.size w w' := checkGauge_any g w
theorem fuga {w0 w1 : World} {b c : Nat} {f : Fu} {g : Ga} (h : FuseAt w0 b f) (hg : GaugeAt w0 c g) (hB : Below w0.heap.size w0 w1) :
    w1.cell? ⟨b, 0, none⟩ = some (.int .i64 f.rating) ∧ w1.cell? ⟨b, 1, none⟩ = some (.int .i64 f.melt) ∧
    w1.cell? ⟨c, 0, none⟩ = some (.int .i64 g.area) ∧ w1.cell? ⟨c, 1, none⟩ = some (.int .i64 g.ohm) ∧ w1.cell? ⟨c, 2, none⟩ = some (.int .i64 g.heat) ∧ w1.cell? ⟨c, 3, none⟩ = some (.int .i64 g.cool) ∧ w1.cell? ⟨c, 4, none⟩ = some (.int .i64 g.limit) ∧ Below w0.heap.size w0 w1 :=
  ⟨cellOf (box_to h hB) 0, cellOf (box_to h hB) 1, cellOf (box_to hg hB) 0, cellOf (box_to hg hB) 1, cellOf (box_to hg hB) 2, cellOf (box_to hg hB) 3, cellOf (box_to hg hB) 4, hB⟩
end Go.Proofs.Ytejjjijaojkohaa

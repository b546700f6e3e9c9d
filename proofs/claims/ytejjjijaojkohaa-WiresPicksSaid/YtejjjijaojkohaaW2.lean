/- What the first error of some, and the functions over it, compute: walks. -/
import Derived.Test.YtejjjijaojkohaaRows
import Derived.Test.YtejjjijaojkohaaW1
namespace Go.Proofs.Ytejjjijaojkohaa
open Go.RowKit

/-- The first number of a list that is not 0, and 0 if there is none. -/
def firstNZ : List Int → Int
  | [] => 0
  | e :: r => if e = 0 then firstNZ r else e
theorem firstNZ_at : ∀ (es : List Int) (k : Nat), (∀ j, j < k → es[j]?.getD 0 = 0) → k < es.length → es[k]?.getD 0 ≠ 0 → firstNZ es = es[k]?.getD 0
  | [], k, _, h, _ => by simp at h
  | e :: r, 0, _, _, h => by simp at h; simp [firstNZ, h]
  | e :: r, k + 1, h, hk, hn => by
    have h0 := h 0 (by omega)
    simp at h0
    simp only [firstNZ, h0, if_true]
    have := firstNZ_at r k (fun j hj => by have := h (j + 1) (by omega); simpa using this) (by simpa using hk) (by simpa using hn)
    simpa using this
theorem firstNZ_none : ∀ (es : List Int), (∀ j, j < es.length → es[j]?.getD 0 = 0) → firstNZ es = 0
  | [], _ => rfl
  | e :: r, h => by
    have h0 := h 0 (by simp)
    simp at h0
    simp only [firstNZ, h0, if_true]
    exact firstNZ_none r (fun j hj => by have := h (j + 1) (by simpa using hj); simpa using this)

theorem or_any (b cap : Nat) (es : List Int) (w : World) (hn : es.length ≤ 10) (hc : ∀ i, i < es.length → w.cell? ⟨b, i, none⟩ = some (.int .i64 (es[i]?.getD 0))) :
    Calls Try.prog 91 #[.slice (some ⟨b, 0, none⟩) es.length cap] w fun e w' => e = .returned (.int .i64 (firstNZ es)) ∧ w = w' := by
  have HC := hide hc; clear hc
  go_enter Try.func91, Try.ntmps91
  go_wp2
  go_loop [5, 8] (fun _ i => ∃ k : Nat, k ≤ es.length ∧ i = .int .i64 k ∧ Hid (∀ j, j < k → es[j]?.getD 0 = 0)) (fun _ i => es.length - (intOf i).toNat)
  case atStart => exact ⟨0, Nat.zero_le _, rfl, fun j hj => by omega⟩
  case round =>
    obtain ⟨k, hk, rfl, hz⟩ := hrel
    by_cases hlt : k < es.length
    · have hck := HC.out k hlt
      obtain ⟨z, hz0⟩ : ∃ z, es[k]?.getD 0 = z := ⟨_, rfl⟩
      rw [hz0] at hck
      have HZ := hide hz0; clear hz0
      by_cases h0 : z = 0
      · have h0' : (z != 0) = false := by simp [h0]
        have H0 := hide h0; clear h0
        go_wp2
        go_round
        case rel => exact ⟨k + 1, by omega, by go_num, fun j hj => by
          rcases Nat.lt_or_ge j k with h | h
          · exact hz.out j h
          · rw [show j = k from by omega, HZ.out]; exact H0.out⟩
        case measure => simp [intOf]; omega
      · have h0' : (z != 0) = true := by simp [h0]
        have H0 := hide h0; clear h0
        go_wp2
        go_ret
        exact ⟨ret_int (by rw [firstNZ_at es k hz.out hlt (by rw [HZ.out]; exact H0.out), HZ.out]), rfl⟩
    · go_wp2
      go_ret
      exact ⟨ret_int (firstNZ_none es (fun j hj => hz.out j (by omega))).symm, rfl⟩

theorem errors_any (b cap : Nat) (es : List Int) (w : World) (hn : es.length ≤ 10) (hc : ∀ i, i < es.length → w.cell? ⟨b, i, none⟩ = some (.int .i64 (es[i]?.getD 0))) :
    Calls Try.prog 58 #[.slice (some ⟨b, 0, none⟩) es.length cap] w fun e w' => e = .returned (.int .i64 (firstNZ es)) ∧ w = w' := by
  go_enter Try.func58, Try.ntmps58
  go_wp2_with (go_at_call 91; refine (or_any b cap es _ hn hc).mono ?_; rintro e w' ⟨rfl, rfl⟩)
  go_ret
  exact ⟨rfl, rfl⟩

theorem errors2_any (b : Nat) (x y : Int) (w : World) (h0 : w.cell? ⟨b, 0, none⟩ = some (.int .i64 x)) (h1 : w.cell? ⟨b, 1, none⟩ = some (.int .i64 y)) :
    Calls Try.prog 58 #[.slice (some ⟨b, 0, none⟩) 2 2] w fun e w' => e = .returned (.int .i64 (if x = 0 then y else x)) ∧ w = w' := by
  refine (errors_any b 2 [x, y] w (by simp) ?_).mono ?_
  · intro i hi
    match i, hi with
    | 0, _ => exact h0
    | 1, _ => exact h1
  · rintro e w' ⟨rfl, rfl⟩
    refine ⟨ret_int ?_, rfl⟩
    simp only [firstNZ]
    split
    · split
      · omega
      · rfl
    · rfl

theorem errors3_any (b : Nat) (x y z : Int) (w : World) (h0 : w.cell? ⟨b, 0, none⟩ = some (.int .i64 x)) (h1 : w.cell? ⟨b, 1, none⟩ = some (.int .i64 y)) (h2 : w.cell? ⟨b, 2, none⟩ = some (.int .i64 z)) :
    Calls Try.prog 58 #[.slice (some ⟨b, 0, none⟩) 3 3] w fun e w' => e = .returned (.int .i64 (if x = 0 then if y = 0 then z else y else x)) ∧ w = w' := by
  refine (errors_any b 3 [x, y, z] w (by simp) ?_).mono ?_
  · intro i hi
    match i, hi with
    | 0, _ => exact h0
    | 1, _ => exact h1
    | 2, _ => exact h2
  · rintro e w' ⟨rfl, rfl⟩
    refine ⟨ret_int ?_, rfl⟩
    simp only [firstNZ]
    repeat' split
    all_goals first | rfl | omega

theorem errors4_any (b : Nat) (x y z u : Int) (w : World) (h0 : w.cell? ⟨b, 0, none⟩ = some (.int .i64 x)) (h1 : w.cell? ⟨b, 1, none⟩ = some (.int .i64 y)) (h2 : w.cell? ⟨b, 2, none⟩ = some (.int .i64 z)) (h3 : w.cell? ⟨b, 3, none⟩ = some (.int .i64 u)) :
    Calls Try.prog 58 #[.slice (some ⟨b, 0, none⟩) 4 4] w fun e w' => e = .returned (.int .i64 (if x = 0 then if y = 0 then if z = 0 then u else z else y else x)) ∧ w = w' := by
  refine (errors_any b 4 [x, y, z, u] w (by simp) ?_).mono ?_
  · intro i hi
    match i, hi with
    | 0, _ => exact h0
    | 1, _ => exact h1
    | 2, _ => exact h2
    | 3, _ => exact h3
  · rintro e w' ⟨rfl, rfl⟩
    refine ⟨ret_int ?_, rfl⟩
    simp only [firstNZ]
    repeat' split
    all_goals first | rfl | omega

def dropErr (g : Ga) (amps len : Int) : Int := if g.ok then if fromB amps 0 500 && fromB len 0 1000000 then 0 else 1 else 70
def dropVal (g : Ga) (amps len : Int) : Int := if g.ok && fromB amps 0 500 && fromB len 0 1000000 then dropI g amps len else 0

theorem Drop_any (g : Ga) (amps len : Int) (w : World) :
    Calls Try.prog 15 #[.agg #[.int .i64 g.area, .int .i64 g.ohm, .int .i64 g.heat, .int .i64 g.cool, .int .i64 g.limit], .int .i64 amps, .int .i64 len] w fun e w' => e = .returned (.tuple #[.int .i64 (dropVal g amps len), .int .i64 (dropErr g amps len)]) ∧ Below w.heap.size w w' := by
  by_cases hg : g.ok = true
  · have g1 := Ga.ok_iff.1 hg
    have g2 := g1.ohm0
    have g3 := g1.ohm1
    have hgi : (if g.ok = true then (0:Int) else 70) = 0 := if_pos hg
    by_cases h1 : fromB amps 0 500 = true
    · by_cases h2 : fromB len 0 1000000 = true
      · have a1 := fromB_iff.1 h1
        have a2 := fromB_iff.1 h2
        obtain ⟨a1a, a1b⟩ := a1
        obtain ⟨a2a, a2b⟩ := a2
        go_enter Try.func15, Try.ntmps15
        go_wp2_with (first
          | (go_at_call 48; refine (checkGauge_any g _).mono ?_; rw [hgi]; rintro e w' ⟨rfl, hB⟩; obtain ⟨hcx, hfx⟩ := bcell hB)
          | (go_at_call 49; refine (within_any _ _ _ _).mono ?_; rintro e w' ⟨rfl, rfl⟩)
          | (go_at_call 50; refine (drop_any g _ _ _ a1a a1b a2a a2b g2 g3).mono ?_; rintro e w' ⟨rfl, hB2⟩))
        go_ret2
        exact ⟨by simp [dropVal, dropErr, hg, h1, h2], (by repeat (first | exact Below.refl _ _ | assumption | refine Below.drew ?_ | refine Below.drewN ?_ _ | refine Below.allocT ?_ (Nat.le_refl _) _ | refine Below.setCell ?_ (by simp <;> omega) _ | refine Below.to ?_ (by assumption) (Nat.le_refl _)))⟩
      · go_enter Try.func15, Try.ntmps15
        go_wp2_with (first
          | (go_at_call 48; refine (checkGauge_any g _).mono ?_; rw [hgi]; rintro e w' ⟨rfl, hB⟩; obtain ⟨hcx, hfx⟩ := bcell hB)
          | (go_at_call 49; refine (within_any _ _ _ _).mono ?_; rintro e w' ⟨rfl, rfl⟩))
        go_ret2
        exact ⟨by simp [dropVal, dropErr, hg, h1, h2], (by repeat (first | exact Below.refl _ _ | assumption | refine Below.drew ?_ | refine Below.drewN ?_ _ | refine Below.allocT ?_ (Nat.le_refl _) _ | refine Below.setCell ?_ (by simp <;> omega) _ | refine Below.to ?_ (by assumption) (Nat.le_refl _)))⟩
    · go_enter Try.func15, Try.ntmps15
      go_wp2_with (first
        | (go_at_call 48; refine (checkGauge_any g _).mono ?_; rw [hgi]; rintro e w' ⟨rfl, hB⟩; obtain ⟨hcx, hfx⟩ := bcell hB)
        | (go_at_call 49; refine (within_any _ _ _ _).mono ?_; rintro e w' ⟨rfl, rfl⟩))
      go_ret2
      exact ⟨by simp [dropVal, dropErr, hg, h1], (by repeat (first | exact Below.refl _ _ | assumption | refine Below.drew ?_ | refine Below.drewN ?_ _ | refine Below.allocT ?_ (Nat.le_refl _) _ | refine Below.setCell ?_ (by simp <;> omega) _ | refine Below.to ?_ (by assumption) (Nat.le_refl _)))⟩
  · have hgi : (if g.ok = true then (0:Int) else 70) = 70 := if_neg hg
    go_enter Try.func15, Try.ntmps15
    go_wp2_with (go_at_call 48; refine (checkGauge_any g _).mono ?_; rw [hgi]; rintro e w' ⟨rfl, hB⟩; obtain ⟨hcx, hfx⟩ := bcell hB)
    go_ret2
    exact ⟨by simp [dropVal, dropErr, hg], (by repeat (first | exact Below.refl _ _ | assumption | refine Below.drew ?_ | refine Below.drewN ?_ _ | refine Below.allocT ?_ (Nat.le_refl _) _ | refine Below.setCell ?_ (by simp <;> omega) _ | refine Below.to ?_ (by assumption) (Nat.le_refl _)))⟩

theorem rDrop_any (g : Ga) (amps len : Int) (w : World) :
    Calls Try.prog 16 #[.agg #[.int .i64 g.area, .int .i64 g.ohm, .int .i64 g.heat, .int .i64 g.cool, .int .i64 g.limit], .int .i64 amps, .int .i64 len] w fun e w' => e = .returned (.tuple #[.int .i64 (dropVal g amps len), .int .i64 (dropErr g amps len)]) ∧ Below w.heap.size w w' := by
  by_cases hg : g.ok = true
  · have g1 := Ga.ok_iff.1 hg
    have g2 := g1.ohm0
    have g3 := g1.ohm1
    by_cases h1 : fromB amps 0 500 = true
    · by_cases h2 : fromB len 0 1000000 = true
      · have a1 := fromB_iff.1 h1
        have a2 := fromB_iff.1 h2
        obtain ⟨a1a, a1b⟩ := a1
        obtain ⟨a2a, a2b⟩ := a2
        go_enter Try.func16, Try.ntmps16
        go_wp2_with (first
          | (go_at_call 51; refine (gauge_any g _).mono ?_; rintro e w' ⟨rfl, hB⟩; obtain ⟨hcx, hfx⟩ := bcell hB)
          | (go_at_call 52; refine (from_any _ _ _ _).mono ?_; rintro e w' ⟨rfl, rfl⟩)
          | (go_at_call 53; refine (rdrop_any g _ _ _ a1a a1b a2a a2b g2 g3).mono ?_; rintro e w' ⟨rfl, hB2⟩))
        go_ret2
        exact ⟨by simp [dropVal, dropErr, hg, h1, h2], (by repeat (first | exact Below.refl _ _ | assumption | refine Below.drew ?_ | refine Below.drewN ?_ _ | refine Below.allocT ?_ (Nat.le_refl _) _ | refine Below.setCell ?_ (by simp <;> omega) _ | refine Below.to ?_ (by assumption) (Nat.le_refl _)))⟩
      · go_enter Try.func16, Try.ntmps16
        go_wp2_with (first
          | (go_at_call 51; refine (gauge_any g _).mono ?_; rintro e w' ⟨rfl, hB⟩; obtain ⟨hcx, hfx⟩ := bcell hB)
          | (go_at_call 52; refine (from_any _ _ _ _).mono ?_; rintro e w' ⟨rfl, rfl⟩))
        go_ret2
        exact ⟨by simp [dropVal, dropErr, hg, h1, h2], (by repeat (first | exact Below.refl _ _ | assumption | refine Below.drew ?_ | refine Below.drewN ?_ _ | refine Below.allocT ?_ (Nat.le_refl _) _ | refine Below.setCell ?_ (by simp <;> omega) _ | refine Below.to ?_ (by assumption) (Nat.le_refl _)))⟩
    · go_enter Try.func16, Try.ntmps16
      go_wp2_with (first
        | (go_at_call 51; refine (gauge_any g _).mono ?_; rintro e w' ⟨rfl, hB⟩; obtain ⟨hcx, hfx⟩ := bcell hB)
        | (go_at_call 52; refine (from_any _ _ _ _).mono ?_; rintro e w' ⟨rfl, rfl⟩))
      go_ret2
      exact ⟨by simp [dropVal, dropErr, hg, h1], (by repeat (first | exact Below.refl _ _ | assumption | refine Below.drew ?_ | refine Below.drewN ?_ _ | refine Below.allocT ?_ (Nat.le_refl _) _ | refine Below.setCell ?_ (by simp <;> omega) _ | refine Below.to ?_ (by assumption) (Nat.le_refl _)))⟩
  · go_enter Try.func16, Try.ntmps16
    go_wp2_with (go_at_call 51; refine (gauge_any g _).mono ?_; rintro e w' ⟨rfl, hB⟩; obtain ⟨hcx, hfx⟩ := bcell hB)
    go_ret2
    exact ⟨by simp [dropVal, dropErr, hg], (by repeat (first | exact Below.refl _ _ | assumption | refine Below.drew ?_ | refine Below.drewN ?_ _ | refine Below.allocT ?_ (Nat.le_refl _) _ | refine Below.setCell ?_ (by simp <;> omega) _ | refine Below.to ?_ (by assumption) (Nat.le_refl _)))⟩

def blowErr (f : Fu) (amps : Int) : Int := if f.ok then if fromB amps 0 500 then 0 else 1 else 72
def blowN (f : Fu) (amps : Int) : Int := if f.ok && fromB amps 0 500 then blowNum f amps else 0
def blowD (f : Fu) (amps : Int) : Int := if f.ok && fromB amps 0 500 then blowDen f amps else 0

theorem Blow_any (f : Fu) (amps : Int) (w : World) :
    Calls Try.prog 19 #[.agg #[.int .i64 f.rating, .int .i64 f.melt], .int .i64 amps] w fun e w' => e = .returned (.tuple #[.int .i64 (blowN f amps), .int .i64 (blowD f amps), .int .i64 (blowErr f amps)]) ∧ Below w.heap.size w w' := by
  by_cases hf : f.ok = true
  · have f1 := Fu.ok_iff.1 hf
    have hfi : (if f.ok = true then (0:Int) else 72) = 0 := if_pos hf
    by_cases h1 : fromB amps 0 500 = true
    · have a1 := fromB_iff.1 h1
      obtain ⟨a1a, a1b⟩ := a1
      have F1 := hide f1; clear f1
      go_enter Try.func19, Try.ntmps19
      go_wp2_with (first
        | (go_at_call 54; refine (checkFuse_any f _).mono ?_; rw [hfi]; rintro e w' ⟨rfl, hB⟩; obtain ⟨hcx, hfx⟩ := bcell hB)
        | (go_at_call 49; refine (within_any _ _ _ _).mono ?_; rintro e w' ⟨rfl, rfl⟩)
        | (go_at_call 55; refine (blow_any f _ _ F1.out a1a a1b).mono ?_; rintro e w' ⟨rfl, hB2⟩))
      go_ret3
      exact ⟨by simp [blowErr, blowN, blowD, hf, h1], (by repeat (first | exact Below.refl _ _ | assumption | refine Below.drew ?_ | refine Below.drewN ?_ _ | refine Below.allocT ?_ (Nat.le_refl _) _ | refine Below.setCell ?_ (by simp <;> omega) _ | refine Below.to ?_ (by assumption) (Nat.le_refl _)))⟩
    · go_enter Try.func19, Try.ntmps19
      go_wp2_with (first
        | (go_at_call 54; refine (checkFuse_any f _).mono ?_; rw [hfi]; rintro e w' ⟨rfl, hB⟩; obtain ⟨hcx, hfx⟩ := bcell hB)
        | (go_at_call 49; refine (within_any _ _ _ _).mono ?_; rintro e w' ⟨rfl, rfl⟩))
      go_ret3
      exact ⟨by simp [blowErr, blowN, blowD, hf, h1], (by repeat (first | exact Below.refl _ _ | assumption | refine Below.drew ?_ | refine Below.drewN ?_ _ | refine Below.allocT ?_ (Nat.le_refl _) _ | refine Below.setCell ?_ (by simp <;> omega) _ | refine Below.to ?_ (by assumption) (Nat.le_refl _)))⟩
  · have hfi : (if f.ok = true then (0:Int) else 72) = 72 := if_neg hf
    go_enter Try.func19, Try.ntmps19
    go_wp2_with (go_at_call 54; refine (checkFuse_any f _).mono ?_; rw [hfi]; rintro e w' ⟨rfl, hB⟩; obtain ⟨hcx, hfx⟩ := bcell hB)
    go_ret3
    exact ⟨by simp [blowErr, blowN, blowD, hf], (by repeat (first | exact Below.refl _ _ | assumption | refine Below.drew ?_ | refine Below.drewN ?_ _ | refine Below.allocT ?_ (Nat.le_refl _) _ | refine Below.setCell ?_ (by simp <;> omega) _ | refine Below.to ?_ (by assumption) (Nat.le_refl _)))⟩

theorem rBlow_any (f : Fu) (amps : Int) (w : World) :
    Calls Try.prog 20 #[.agg #[.int .i64 f.rating, .int .i64 f.melt], .int .i64 amps] w fun e w' => e = .returned (.tuple #[.int .i64 (blowN f amps), .int .i64 (blowD f amps), .int .i64 (blowErr f amps)]) ∧ Below w.heap.size w w' := by
  by_cases hf : f.ok = true
  · have f1 := Fu.ok_iff.1 hf
    by_cases h1 : fromB amps 0 500 = true
    · have a1 := fromB_iff.1 h1
      obtain ⟨a1a, a1b⟩ := a1
      have F1 := hide f1; clear f1
      go_enter Try.func20, Try.ntmps20
      go_wp2_with (first
        | (go_at_call 56; refine (fuse_any f _).mono ?_; rintro e w' ⟨rfl, hB⟩; obtain ⟨hcx, hfx⟩ := bcell hB)
        | (go_at_call 52; refine (from_any _ _ _ _).mono ?_; rintro e w' ⟨rfl, rfl⟩)
        | (go_at_call 57; refine (rblow_any f _ _ F1.out a1a a1b).mono ?_; rintro e w' ⟨rfl, hB2⟩))
      go_ret3
      exact ⟨by simp [blowErr, blowN, blowD, hf, h1], (by repeat (first | exact Below.refl _ _ | assumption | refine Below.drew ?_ | refine Below.drewN ?_ _ | refine Below.allocT ?_ (Nat.le_refl _) _ | refine Below.setCell ?_ (by simp <;> omega) _ | refine Below.to ?_ (by assumption) (Nat.le_refl _)))⟩
    · go_enter Try.func20, Try.ntmps20
      go_wp2_with (first
        | (go_at_call 56; refine (fuse_any f _).mono ?_; rintro e w' ⟨rfl, hB⟩; obtain ⟨hcx, hfx⟩ := bcell hB)
        | (go_at_call 52; refine (from_any _ _ _ _).mono ?_; rintro e w' ⟨rfl, rfl⟩))
      go_ret3
      exact ⟨by simp [blowErr, blowN, blowD, hf, h1], (by repeat (first | exact Below.refl _ _ | assumption | refine Below.drew ?_ | refine Below.drewN ?_ _ | refine Below.allocT ?_ (Nat.le_refl _) _ | refine Below.setCell ?_ (by simp <;> omega) _ | refine Below.to ?_ (by assumption) (Nat.le_refl _)))⟩
  · go_enter Try.func20, Try.ntmps20
    go_wp2_with (go_at_call 56; refine (fuse_any f _).mono ?_; rintro e w' ⟨rfl, hB⟩; obtain ⟨hcx, hfx⟩ := bcell hB)
    go_ret3
    exact ⟨by simp [blowErr, blowN, blowD, hf], (by repeat (first | exact Below.refl _ _ | assumption | refine Below.drew ?_ | refine Below.drewN ?_ _ | refine Below.allocT ?_ (Nat.le_refl _) _ | refine Below.setCell ?_ (by simp <;> omega) _ | refine Below.to ?_ (by assumption) (Nat.le_refl _)))⟩
end Go.Proofs.Ytejjjijaojkohaa

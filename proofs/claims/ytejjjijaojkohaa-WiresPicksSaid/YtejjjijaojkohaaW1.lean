/- What the small functions about wires compute: the walks through their code. No condition but those in each theorem. -/
import Derived.Test.YtejjjijaojkohaaRows
import Derived.Test.YtejjjijaojkohaaW0
import Derived.Test.YtejjjijaojkohaaK0
import Derived.WalkKit
import Derived.WalkSpells
import Derived.WalkLawsBesides
import Derived.Deep.QuietTactic
import Derived.BigQuiet
namespace Go.Proofs.Ytejjjijaojkohaa
open Go.RowKit

theorem within_any (n lo hi : Int) (w : World) :
    Calls Try.prog 49 #[.int .i64 n, .int .i64 lo, .int .i64 hi] w fun e w' => e = .returned (.bool (fromB n lo hi)) ∧ w = w' := by
  by_cases h1 : lo ≤ n <;> by_cases h2 : n ≤ hi
  all_goals
    go_enter Try.func49, Try.ntmps49
    go_wp2
    go_ret
    exact ⟨by simp [fromB, h1, h2], rfl⟩

theorem from_any (n lo hi : Int) (w : World) :
    Calls Try.prog 52 #[.int .i64 n, .int .i64 lo, .int .i64 hi] w fun e w' => e = .returned (.bool (fromB n lo hi)) ∧ w = w' := by
  by_cases h1 : lo ≤ n <;> by_cases h2 : n ≤ hi
  all_goals
    go_enter Try.func52, Try.ntmps52
    go_wp2
    go_ret
    exact ⟨by simp [fromB, h1, h2], rfl⟩

theorem drop_any (g : Ga) (amps len : Int) (w : World) (hx : (0:Int) ≤ amps) (hx2 : amps ≤ 500) (hl : 0 ≤ len) (hl2 : len ≤ 1000000) (ho : 0 ≤ g.ohm) (ho2 : g.ohm ≤ 1000) :
    Calls Try.prog 50 #[.agg #[.int .i64 g.area, .int .i64 g.ohm, .int .i64 g.heat, .int .i64 g.cool, .int .i64 g.limit], .int .i64 amps, .int .i64 len] w fun e w' => e = .returned (.int .i64 (dropI g amps len)) ∧ Below w.heap.size w w' := by
  have p1 := mul_range hx hx2 hl hl2
  have p2 := mul_range p1.1 p1.2 ho ho2
  obtain ⟨p1a, p1b⟩ := p1
  obtain ⟨p2a, p2b⟩ := p2
  go_enter Try.func50, Try.ntmps50
  go_wp2
  go_ret
  exact ⟨rfl, (Below.refl _ _).alloc (Nat.le_refl _) _⟩

theorem rdrop_any (g : Ga) (amps len : Int) (w : World) (hx : (0:Int) ≤ amps) (hx2 : amps ≤ 500) (hl : 0 ≤ len) (hl2 : len ≤ 1000000) (ho : 0 ≤ g.ohm) (ho2 : g.ohm ≤ 1000) :
    Calls Try.prog 53 #[.agg #[.int .i64 g.area, .int .i64 g.ohm, .int .i64 g.heat, .int .i64 g.cool, .int .i64 g.limit], .int .i64 amps, .int .i64 len] w fun e w' => e = .returned (.int .i64 (dropI g amps len)) ∧ Below w.heap.size w w' := by
  have p1 := mul_range hx hx2 hl hl2
  have p2 := mul_range p1.1 p1.2 ho ho2
  obtain ⟨p1a, p1b⟩ := p1
  obtain ⟨p2a, p2b⟩ := p2
  go_enter Try.func53, Try.ntmps53
  go_wp2
  go_ret
  exact ⟨rfl, (Below.refl _ _).alloc (Nat.le_refl _) _⟩

theorem gauge_any (g : Ga) (w : World) :
    Calls Try.prog 51 #[.agg #[.int .i64 g.area, .int .i64 g.ohm, .int .i64 g.heat, .int .i64 g.cool, .int .i64 g.limit]] w fun e w' => e = .returned (.bool g.ok) ∧ Below w.heap.size w w' := by
  go_enter Try.func51, Try.ntmps51
  go_wp2_with (go_at_call 52; refine (from_any _ _ _ _).mono ?_; rintro e w' ⟨rfl, rfl⟩)
  all_goals
    go_ret
    exact ⟨by simp_all [Ga.ok], (Below.refl _ _).alloc (Nat.le_refl _) _⟩

theorem checkGauge_any (g : Ga) (w : World) :
    Calls Try.prog 48 #[.agg #[.int .i64 g.area, .int .i64 g.ohm, .int .i64 g.heat, .int .i64 g.cool, .int .i64 g.limit]] w fun e w' => e = .returned (.int .i64 (if g.ok then 0 else 70)) ∧ Below w.heap.size w w' := by
  go_enter Try.func48, Try.ntmps48
  go_wp2_with (go_at_call 49; refine (within_any _ _ _ _).mono ?_; rintro e w' ⟨rfl, rfl⟩)
  all_goals
    go_ret
    exact ⟨by simp_all [Ga.ok], (Below.refl _ _).alloc (Nat.le_refl _) _⟩

theorem fuse_any (f : Fu) (w : World) :
    Calls Try.prog 56 #[.agg #[.int .i64 f.rating, .int .i64 f.melt]] w fun e w' => e = .returned (.bool f.ok) ∧ Below w.heap.size w w' := by
  go_enter Try.func56, Try.ntmps56
  go_wp2_with (go_at_call 52; refine (from_any _ _ _ _).mono ?_; rintro e w' ⟨rfl, rfl⟩)
  all_goals
    go_ret
    exact ⟨by simp_all [Fu.ok], (Below.refl _ _).alloc (Nat.le_refl _) _⟩

theorem checkFuse_any (f : Fu) (w : World) :
    Calls Try.prog 54 #[.agg #[.int .i64 f.rating, .int .i64 f.melt]] w fun e w' => e = .returned (.int .i64 (if f.ok then 0 else 72)) ∧ Below w.heap.size w w' := by
  go_enter Try.func54, Try.ntmps54
  go_wp2_with (go_at_call 49; refine (within_any _ _ _ _).mono ?_; rintro e w' ⟨rfl, rfl⟩)
  all_goals
    go_ret
    exact ⟨by simp_all [Fu.ok], (Below.refl _ _).alloc (Nat.le_refl _) _⟩

theorem many_any (b : Bool) (w : World) :
    Calls Try.prog 76 #[.bool b] w fun e w' => e = .returned (.int .i64 (if b then 2 else 0)) ∧ w = w' := by
  cases b
  all_goals
    go_enter Try.func76, Try.ntmps76
    go_wp2
    go_ret
    exact ⟨rfl, rfl⟩

theorem gcd_step (p q : Nat) : Nat.gcd q (p % q) = Nat.gcd p q := by
  rw [Nat.gcd_comm p q, Nat.gcd_rec q p, Nat.gcd_comm]

theorem divisor_any (a b : Int) (w : World) (ha : 0 ≤ a) (hb : 0 ≤ b) (ha2 : a ≤ 1000000) (hb2 : b ≤ 1000000) :
    Calls Try.prog 89 #[.int .i64 a, .int .i64 b] w fun e w' => e = .returned (.int .i64 (Nat.gcd a.toNat b.toNat : Int)) ∧ Below w.heap.size w w' := by
  go_enter Try.func89, Try.ntmps89
  go_wp2
  go_loopw [0, 1] (fun x y wr => ∃ p q : Nat, p ≤ 1000000 ∧ q ≤ 1000000 ∧ x = .int .i64 p ∧ y = .int .i64 q ∧ Hid (Nat.gcd p q = Nat.gcd a.toNat b.toNat) ∧ Below w.heap.size w wr) (fun _ y _ => (intOf y).toNat)
  case atStart => exact ⟨a.toNat, b.toNat, by omega, by omega, by rw [Int.toNat_of_nonneg ha], by rw [Int.toNat_of_nonneg hb], rfl, Below.refl _ _⟩
  case round =>
    obtain ⟨p, q, hp, hq, rfl, rfl, hg, hB⟩ := hrel
    by_cases h0 : 0 < q
    · go_wp2
      go_quiet (fail)
      go_wp2
      go_roundw
      case rel => exact ⟨q, p % q, hq, by have := Nat.mod_lt p h0; omega, rfl, rfl, (gcd_step p q).trans hg.out, (by repeat (first | exact Below.refl _ _ | assumption | refine Below.drew ?_ | refine Below.drewN ?_ _ | refine Below.allocT ?_ (Nat.le_refl _) _ | refine Below.setCell ?_ (by simp <;> omega) _ | refine Below.to ?_ (by assumption) (Nat.le_refl _)))⟩
      case measure => simp [intOf]; have := Nat.mod_lt p h0; omega
    · go_wp2
      go_ret
      have hq0 : q = 0 := by omega
      exact ⟨ret_int (by rw [← hg.out, hq0, Nat.gcd_zero_right]), (by repeat (first | exact Below.refl _ _ | assumption | refine Below.drew ?_ | refine Below.drewN ?_ _ | refine Below.allocT ?_ (Nat.le_refl _) _ | refine Below.setCell ?_ (by simp <;> omega) _ | refine Below.to ?_ (by assumption) (Nat.le_refl _)))⟩

theorem gcd_any (a b : Int) (w : World) (ha : 0 ≤ a) (hb : 0 ≤ b) (ha2 : a ≤ 1000000) (hb2 : b ≤ 1000000) :
    Calls Try.prog 90 #[.int .i64 a, .int .i64 b] w fun e w' => e = .returned (.int .i64 (Nat.gcd a.toNat b.toNat : Int)) ∧ w = w' := by
  go_enter Try.func90, Try.ntmps90
  go_wp2
  go_loop [0, 1] (fun x y => ∃ p q : Nat, p ≤ 1000000 ∧ q ≤ 1000000 ∧ x = .int .i64 p ∧ y = .int .i64 q ∧ Hid (Nat.gcd p q = Nat.gcd a.toNat b.toNat)) (fun x _ => (intOf x).toNat)
  case atStart => exact ⟨a.toNat, b.toNat, by omega, by omega, by rw [Int.toNat_of_nonneg ha], by rw [Int.toNat_of_nonneg hb], rfl⟩
  case round =>
    obtain ⟨p, q, hp, hq, rfl, rfl, hg⟩ := hrel
    by_cases h0 : 0 < p
    · go_wp2
      go_round
      case rel => exact ⟨q % p, p, by have := Nat.mod_lt q h0; omega, hp, rfl, rfl, (by show Nat.gcd (q % p) p = _; rw [← Nat.gcd_rec]; exact hg.out)⟩
      case measure => simp [intOf]; have := Nat.mod_lt q h0; omega
    · go_wp2
      go_ret
      have hq0 : p = 0 := by omega
      exact ⟨ret_int (by rw [← hg.out, hq0, Nat.gcd_zero_left]), rfl⟩

theorem gcd_pos_le {m : Int} (d : Int) (hm : 1 ≤ m) : (1:Int) ≤ (Nat.gcd m.toNat d.toNat : Int) ∧ (Nat.gcd m.toNat d.toNat : Int) ≤ m := by
  have h1 := Nat.gcd_pos_of_pos_left d.toNat (show 0 < m.toNat by omega)
  have h2 := Nat.le_of_dvd (show 0 < m.toNat by omega) (Nat.gcd_dvd_left m.toNat d.toNat)
  omega

theorem blow_any (f : Fu) (amps : Int) (w : World) (hf : f.Ok) (ha : 0 ≤ amps) (ha2 : amps ≤ 500) :
    Calls Try.prog 55 #[.agg #[.int .i64 f.rating, .int .i64 f.melt], .int .i64 amps] w fun e w' => e = .returned (.tuple #[.int .i64 (blowNum f amps), .int .i64 (blowDen f amps)]) ∧ Below w.heap.size w w' := by
  have p1 := mul_range ha ha2 ha ha2
  have p2 := mul_range hf.rating0 hf.rating1 hf.rating0 hf.rating1
  obtain ⟨p1a, p1b⟩ := p1
  obtain ⟨p2a, p2b⟩ := p2
  have m0 := hf.melt0
  have m1 := hf.melt1
  by_cases hc : amps ≤ f.rating
  · have hs := sq_le ha hc
    go_enter Try.func55, Try.ntmps55
    go_wp2
    go_ret2
    exact ⟨by simp [blowNum, blowDen, hc], (by repeat (first | exact Below.refl _ _ | assumption | refine Below.drew ?_ | refine Below.drewN ?_ _ | refine Below.allocT ?_ (Nat.le_refl _) _ | refine Below.setCell ?_ (by simp <;> omega) _ | refine Below.to ?_ (by assumption) (Nat.le_refl _)))⟩
  · have hs := sq_lt hf.rating0 (show f.rating < amps by omega)
    have hg := gcd_pos_le (amps * amps - f.rating * f.rating) hf.melt0
    obtain ⟨hg1, hg2⟩ := hg
    go_enter Try.func55, Try.ntmps55
    go_wp2_with (go_at_call 89; refine (divisor_any _ _ _ (by omega) (by omega) (by omega) (by omega)).mono ?_; rintro e w' ⟨rfl, hB⟩)
    obtain ⟨hcx, hfx⟩ := bcell hB
    go_quiet (fail)
    go_wp2
    go_ret2
    exact ⟨by simp [blowNum, blowDen, show ¬ amps ≤ f.rating from by omega], (by repeat (first | exact Below.refl _ _ | assumption | refine Below.drew ?_ | refine Below.drewN ?_ _ | refine Below.allocT ?_ (Nat.le_refl _) _ | refine Below.setCell ?_ (by simp <;> omega) _ | refine Below.to ?_ (by assumption) (Nat.le_refl _)))⟩

theorem rblow_any (f : Fu) (amps : Int) (w : World) (hf : f.Ok) (ha : 0 ≤ amps) (ha2 : amps ≤ 500) :
    Calls Try.prog 57 #[.agg #[.int .i64 f.rating, .int .i64 f.melt], .int .i64 amps] w fun e w' => e = .returned (.tuple #[.int .i64 (blowNum f amps), .int .i64 (blowDen f amps)]) ∧ Below w.heap.size w w' := by
  have p1 := mul_range ha ha2 ha ha2
  have p2 := mul_range hf.rating0 hf.rating1 hf.rating0 hf.rating1
  obtain ⟨p1a, p1b⟩ := p1
  obtain ⟨p2a, p2b⟩ := p2
  have m0 := hf.melt0
  have m1 := hf.melt1
  by_cases hc : amps ≤ f.rating
  · go_enter Try.func57, Try.ntmps57
    go_wp2
    go_ret2
    exact ⟨by simp [blowNum, blowDen, hc], (by repeat (first | exact Below.refl _ _ | assumption | refine Below.drew ?_ | refine Below.drewN ?_ _ | refine Below.allocT ?_ (Nat.le_refl _) _ | refine Below.setCell ?_ (by simp <;> omega) _ | refine Below.to ?_ (by assumption) (Nat.le_refl _)))⟩
  · have hs := sq_lt hf.rating0 (show f.rating < amps by omega)
    have hg := gcd_pos_le (amps * amps - f.rating * f.rating) hf.melt0
    obtain ⟨hg1, hg2⟩ := hg
    go_enter Try.func57, Try.ntmps57
    go_wp2_with (go_at_call 90; refine (gcd_any _ _ _ (by omega) (by omega) (by omega) (by omega)).mono ?_; rintro e w' ⟨rfl, rfl⟩)
    go_quiet (fail)
    go_wp2
    go_ret2
    exact ⟨by simp [blowNum, blowDen, show ¬ amps ≤ f.rating from by omega], (by repeat (first | exact Below.refl _ _ | assumption | refine Below.drew ?_ | refine Below.drewN ?_ _ | refine Below.allocT ?_ (Nat.le_refl _) _ | refine Below.setCell ?_ (by simp <;> omega) _ | refine Below.to ?_ (by assumption) (Nat.le_refl _)))⟩

theorem earlier_any (a b c d : Int) (w : World) (ha : 0 ≤ a) (hb : 0 ≤ b) (hc : 0 ≤ c) (hd : 0 ≤ d) (ha2 : a ≤ 1000000) (hb2 : b ≤ 1000000) (hc2 : c ≤ 1000000) (hd2 : d ≤ 1000000) :
    Calls Try.prog 88 #[.int .i64 a, .int .i64 b, .int .i64 c, .int .i64 d] w fun e w' => e = .returned (.bool (decide (b ≠ 0 ∧ (d = 0 ∨ a * d < c * b)))) ∧ Below w.heap.size w w' := by
  have p1 := mul_range ha ha2 hd hd2
  have p2 := mul_range hc hc2 hb hb2
  obtain ⟨p1a, p1b⟩ := p1
  obtain ⟨p2a, p2b⟩ := p2
  by_cases h1 : b = 0
  · have hh : (b == 0) = true := by simp [h1]
    go_enter Try.func88, Try.ntmps88
    go_wp2
    go_ret
    exact ⟨by simp [h1], (by repeat (first | exact Below.refl _ _ | assumption | refine Below.drew ?_ | refine Below.drewN ?_ _ | refine Below.allocT ?_ (Nat.le_refl _) _ | refine Below.setCell ?_ (by simp <;> omega) _ | refine Below.to ?_ (by assumption) (Nat.le_refl _)))⟩
  · have hh : (b == 0) = false := by simp [h1]
    by_cases h2 : d = 0
    · have hh2 : (d == 0) = true := by simp [h2]
      go_enter Try.func88, Try.ntmps88
      go_wp2
      go_ret
      exact ⟨by simp [h1, h2], (by repeat (first | exact Below.refl _ _ | assumption | refine Below.drew ?_ | refine Below.drewN ?_ _ | refine Below.allocT ?_ (Nat.le_refl _) _ | refine Below.setCell ?_ (by simp <;> omega) _ | refine Below.to ?_ (by assumption) (Nat.le_refl _)))⟩
    · have hh2 : (d == 0) = false := by simp [h2]
      go_enter Try.func88, Try.ntmps88
      go_wp2
      go_ret
      exact ⟨by simp [h1, h2], (by repeat (first | exact Below.refl _ _ | assumption | refine Below.drew ?_ | refine Below.drewN ?_ _ | refine Below.allocT ?_ (Nat.le_refl _) _ | refine Below.setCell ?_ (by simp <;> omega) _ | refine Below.to ?_ (by assumption) (Nat.le_refl _)))⟩

end Go.Proofs.Ytejjjijaojkohaa

/- Plain definitions and small laws for the statements about wires: no condition. -/
import Derived.Below
namespace Go.Proofs.Ytejjjijaojkohaa
open Go.RowKit

def fromB (n lo hi : Int) : Bool := decide (lo ≤ n) && decide (n ≤ hi)
theorem fromB_iff {n lo hi : Int} : fromB n lo hi = true ↔ lo ≤ n ∧ n ≤ hi := by simp [fromB]
theorem fromB_no {n lo hi : Int} : fromB n lo hi = false ↔ ¬ (lo ≤ n ∧ n ≤ hi) := by rw [← fromB_iff]; simp

structure Ga where
  area : Int
  ohm : Int
  heat : Int
  cool : Int
  limit : Int
structure Fu where
  rating : Int
  melt : Int

def Ga.ok (g : Ga) : Bool := fromB g.area 1 10000 && fromB g.ohm 0 1000 && fromB g.heat 0 1000 && fromB g.cool 0 1024 && fromB g.limit 0 1000
structure Ga.Ok (g : Ga) : Prop where
  area0 : 1 ≤ g.area
  area1 : g.area ≤ 10000
  ohm0 : 0 ≤ g.ohm
  ohm1 : g.ohm ≤ 1000
  heat0 : 0 ≤ g.heat
  heat1 : g.heat ≤ 1000
  cool0 : 0 ≤ g.cool
  cool1 : g.cool ≤ 1024
  limit0 : 0 ≤ g.limit
  limit1 : g.limit ≤ 1000
theorem Ga.ok_iff {g : Ga} : g.ok = true ↔ g.Ok := by
  simp only [Ga.ok, Bool.and_eq_true, fromB_iff]
  exact ⟨fun ⟨⟨⟨⟨a, b⟩, c⟩, d⟩, e⟩ => ⟨a.1, a.2, b.1, b.2, c.1, c.2, d.1, d.2, e.1, e.2⟩, fun h => ⟨⟨⟨⟨⟨h.area0, h.area1⟩, h.ohm0, h.ohm1⟩, h.heat0, h.heat1⟩, h.cool0, h.cool1⟩, h.limit0, h.limit1⟩⟩

def Fu.ok (f : Fu) : Bool := fromB f.rating 0 500 && fromB f.melt 1 1000000
structure Fu.Ok (f : Fu) : Prop where
  rating0 : 0 ≤ f.rating
  rating1 : f.rating ≤ 500
  melt0 : 1 ≤ f.melt
  melt1 : f.melt ≤ 1000000
theorem Fu.ok_iff {f : Fu} : f.ok = true ↔ f.Ok := by
  simp only [Fu.ok, Bool.and_eq_true, fromB_iff]
  exact ⟨fun ⟨a, b⟩ => ⟨a.1, a.2, b.1, b.2⟩, fun h => ⟨⟨h.rating0, h.rating1⟩, h.melt0, h.melt1⟩⟩

def dropI (g : Ga) (amps len : Int) : Int := (amps * len * g.ohm + 999999) / 1000000

theorem mul_range {a b A B : Int} (ha : 0 ≤ a) (hA : a ≤ A) (hb : 0 ≤ b) (hB : b ≤ B) : 0 ≤ a * b ∧ a * b ≤ A * B :=
  ⟨Int.mul_nonneg ha hb, Int.mul_le_mul hA hB hb (by omega)⟩

theorem ret_int {k : IntKind} {a b : Int} (h : a = b) : Ending.returned (.int k a) = .returned (.int k b) := by rw [h]

theorem ret_bool {a b : Bool} (h : a = b) : Ending.returned (.bool a) = .returned (.bool b) := by rw [h]

/-- A fuse's time to open under a constant current, as a fraction in lowest terms; 0 and 0: never. -/
def blowNum (f : Fu) (amps : Int) : Int :=
  if amps ≤ f.rating then 0 else f.melt / (Nat.gcd f.melt.toNat (amps * amps - f.rating * f.rating).toNat : Int)
def blowDen (f : Fu) (amps : Int) : Int :=
  if amps ≤ f.rating then 0 else (amps * amps - f.rating * f.rating) / (Nat.gcd f.melt.toNat (amps * amps - f.rating * f.rating).toNat : Int)

theorem sq_lt {a b : Int} (hb : 0 ≤ b) (h : b < a) : 0 < a * a - b * b := by
  have h1 : b * b ≤ b * a := Int.mul_le_mul_of_nonneg_left (by omega) hb
  have h2 : b * a < a * a := Int.mul_lt_mul_of_pos_right h (by omega)
  omega
theorem sq_le {a b : Int} (ha : 0 ≤ a) (h : a ≤ b) : a * a - b * b ≤ 0 := by
  have h1 : a * a ≤ a * b := Int.mul_le_mul_of_nonneg_left h ha
  have h2 : a * b ≤ b * b := Int.mul_le_mul_of_nonneg_right h (by omega)
  omega
end Go.Proofs.Ytejjjijaojkohaa

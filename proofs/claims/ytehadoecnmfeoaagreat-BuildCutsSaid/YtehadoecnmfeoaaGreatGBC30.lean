/- Part 30 of this claim's texts: walks and plain laws. -/
import Derived.Test.YtehadoecnmfeoaaGreatRows
import Derived.Test.YtehadoecnmfeoaaGreatGBC22
import Derived.Test.YtehadoecnmfeoaaGreatGBC21
import Derived.Test.YtehadoecnmfeoaaGreatGBC29
import Derived.Deep.RegionHeld3
import Derived.Deep.DrawnRows
import Derived.Test.YtehadoecnmfeoaaGreatGBC3
/- The ends of a wire, the wires through a run: walks. -/
namespace Go.Proofs.YtehadoecnmfeoaaGreat
open Go.RowKit
set_option linter.unusedVariables false
set_option linter.unusedSimpArgs false
theorem LoOk.runsIn {l : Lo} (h : LoOk l) : RunsIn l := by
  intro x hx
  have h1 := h.us x hx
  unfold Ru.ok at h1
  simp only [Bool.and_eq_true, btw_iff] at h1
  obtain ⟨⟨⟨⟨⟨h2, h3⟩, _⟩, _⟩, _⟩, _⟩ := h1
  omega
theorem LoOk.wpin {l : Lo} (h : LoOk l) {i : Nat} (hi : i < l.ws.length) : (0 ≤ (l.ws.getD i Wi.o).fp ∧ (l.ws.getD i Wi.o).fp.toNat < l.ps.length ∧ 0 ≤ (l.ps.getD (l.ws.getD i Wi.o).fp.toNat Pl.o).spot) ∧ (0 ≤ (l.ws.getD i Wi.o).tp ∧ (l.ws.getD i Wi.o).tp.toNat < l.ps.length ∧ 0 ≤ (l.ps.getD (l.ws.getD i Wi.o).tp.toNat Pl.o).spot) := by
  obtain ⟨h1, _⟩ := h.wi hi
  unfold wiOk at h1
  simp only [Bool.and_eq_true] at h1
  obtain ⟨⟨⟨⟨_, h2⟩, h3⟩, _⟩, _⟩ := h1
  obtain ⟨a1, a2, a3, _⟩ := h.pin h2
  obtain ⟨b1, b2, b3, _⟩ := h.pin h3
  exact ⟨⟨a1, a2, a3⟩, b1, b2, b3⟩
set_option maxRecDepth 100000 in
set_option maxHeartbeats 2000000 in
theorem ends_any (x : Wi) (Af : Option Addr) (n qf : Nat) (A0 A1 A2 A3 A4 A5 : Option Addr) (q0 q1 q2 q3 q4 q5 : Nat) (l : Lo) (w : World) (h : LoA w w.heap.size A0 A1 A2 A3 A4 A5 q0 q1 q2 q3 q4 q5 l) (hf0 : 0 ≤ x.fp) (hf : x.fp.toNat < l.ps.length) (ht0 : 0 ≤ x.tp) (ht : x.tp.toNat < l.ps.length) (hpl : l.ps.length ≤ 30) :
    Calls Tryz.prog 170 #[.agg #[.slice A0 l.m.opts.length q0, .slice A1 l.m.rules.length q1, .slice A2 l.ss.length q2, .slice A3 l.us.length q3, .slice A4 l.ps.length q4, .slice A5 l.ws.length q5], .agg #[.string x.name, .int .i64 x.fp, .int .i64 x.fc, .int .i64 x.tp, .int .i64 x.tc, .int .i64 x.size, .slice Af n qf]] w fun e w' => e = .returned (.tuple #[.int .i64 (l.ps.getD x.fp.toNat Pl.o).spot, .int .i64 (l.ps.getD x.tp.toNat Pl.o).spot]) ∧ Below w.heap.size w w' := by
  obtain ⟨bf, off, y, HY, rfl, hbb, hq, e0, e1, e2⟩ := h.pl hf
  obtain ⟨bf', off', z, HZ, he, hbb', hq', f0, f1, f2⟩ := h.pl ht
  injection he with he
  injection he with he1 he2
  subst he1 he2
  rw [HY.out, HZ.out]
  obtain ⟨nm, fp, fc, tp, tc, size, form⟩ := x
  simp only at hf0 hf ht0 ht HY HZ e0 e1 e2 f0 f1 f2 ⊢
  obtain ⟨kf, rfl⟩ := Int.eq_ofNat_of_zero_le hf0
  obtain ⟨kt, rfl⟩ := Int.eq_ofNat_of_zero_le ht0
  rw [Int.toNat_natCast] at hf HY e0 e1 e2
  rw [Int.toNat_natCast] at ht HZ f0 f1 f2
  have ikf : (kf : Int) < (l.ps.length : Int) := by omega
  have ikt : (kt : Int) < (l.ps.length : Int) := by omega
  have iq : (l.ps.length : Int) ≤ (q4 : Int) := by omega
  clear hf0 ht0 h
  go_enter Tryz.func170, Tryz.ntmps170
  go_upto_region 1 with (fail)
  generalize hw0 : World.alloc _ _ = w0
  obtain ⟨hb0, hb1, hB0, hs0⟩ := alloc2 hw0
  have c4 := cellOf hb0 4
  have d1 := cellOf hb1 1
  have d3 := cellOf hb1 3
  have l0 := box_lt hb0
  have l1 := box_lt hb1
  have l2 : bf < w0.heap.size := by omega
  have g1 := (hB0.cell (p := ⟨bf, off + kf * 3 + 1, none⟩) hbb).trans e1
  have g2 := (hB0.cell (p := ⟨bf, off + kt * 3 + 1, none⟩) hbb).trans f1
  have HB0 := hide hB0
  clear hw0 hb0 hb1 hB0 hs0 e0 e1 e2 f0 f1 f2
  refine wp_region_held_drew (S := (fun w' => Below w0.heap.size w0 w')) (by kernel_rfl) ?_ (fun hHeld => ?_)
  · try dsimp only
    exact (by repeat (first | exact Below.refl _ _ | assumption | refine Below.drew ?_ | refine Below.drewN ?_ _ | refine Below.allocT ?_ (Nat.le_refl _) _ | refine Below.setCell ?_ (by simp <;> omega) _ | refine Below.to ?_ (by assumption) (Nat.le_refl _)))
  refine zT 0 rfl ?_
  refine zT 1 rfl ?_
  refine zT 2 rfl ?_
  refine zT 3 rfl ?_
  refine zT 4 rfl ?_
  refine zT 5 rfl ?_
  refine zT 6 rfl ?_
  refine zT 7 rfl ?_
  refine zT 8 rfl ?_
  refine zT 9 rfl ?_
  refine zT 10 rfl ?_
  refine zT 11 rfl ?_
  refine zT 12 rfl ?_
  refine zT 13 rfl ?_
  refine zT 14 rfl ?_
  refine zT 15 rfl ?_
  refine zT 16 rfl ?_
  refine zT 17 rfl ?_
  refine wpAnyH_done (by kernel_rfl) ?_ _
  go_wp2_with fail
  go_ret2
  exact ⟨rfl, Below.to HB0.out hHeld (Nat.le_refl _)⟩
end Go.Proofs.YtehadoecnmfeoaaGreat

/- Part 37 of this claim's texts: walks and plain laws. -/
import Derived.Test.YtmabfnddedffoaaRows
import Derived.Test.YtmabfnddedffoaaGLR31
import Derived.Deep.RegionHeld3
import Derived.Deep.DrawnRows
import Derived.Test.YtmabfnddedffoaaGLR29
import Derived.Test.YtmabfnddedffoaaGLR36
import Derived.Test.YtmabfnddedffoaaGLR27
/- The elder way between two spots, its use of a run, its length: walks. -/
namespace Go.Proofs.Ytmabfnddedffoaa
open Go.RowKit
set_option linter.unusedVariables false
set_option linter.unusedSimpArgs false
theorem LoOk.wayU {l : Lo} (h : LoOk l) {a b : Nat} {P P' : List Nat} (h1 : WayP l.rs (-1) a P b) (h2 : WayP l.rs (-1) a P' b) : P = P' := WayP.one h.tree h1 h2
set_option maxRecDepth 100000 in
set_option maxHeartbeats 1000000 in
theorem way_any (A0 A1 A2 A3 A4 A5 : Option Addr) (q0 q1 q2 q3 q4 q5 : Nat) (l : Lo) (ok : LoOk l) (a b : Nat) (P : List Nat) (w : World) (h : LoA w w.heap.size A0 A1 A2 A3 A4 A5 q0 q1 q2 q3 q4 q5 l) (ha : a < l.ss.length) (hb : b < l.ss.length) (hP : WayP l.rs (-1) a P b) :
    Calls Try.prog 140 #[.agg #[.slice A0 l.m.opts.length q0, .slice A1 l.m.rules.length q1, .slice A2 l.ss.length q2, .slice A3 l.us.length q3, .slice A4 l.ps.length q4, .slice A5 l.ws.length q5], .int .i64 a, .int .i64 b] w fun e w' => ∃ (Ad : Addr) (cap : Nat), e = .returned (.slice (some Ad) P.length cap) ∧ Nods w' w'.heap.size (.slice (some Ad) P.length cap) P ∧ Below w.heap.size w w' := by
  have H := hide h
  have OK := hide ok
  have HP := hide hP
  have s40 := ok.s40
  have hrch := hP.rch ok.tree (.inl rfl)
  have HR := hide hrch
  clear h ok hP hrch
  go_enter Try.func140, Try.ntmps140
  go_upto_region 1 with (fail)
  generalize hw0 : World.alloc _ _ = w0
  obtain ⟨hb0, hB0, hs0⟩ := alloc1 hw0
  have HB0 := hide hB0
  have c0 := cellOf hb0 0; have c1 := cellOf hb0 1; have c2 := cellOf hb0 2; have c3 := cellOf hb0 3; have c4 := cellOf hb0 4; have c5 := cellOf hb0 5
  have hlb := box_lt hb0
  clear hw0 hb0 hB0 hs0
  have hB1 : Below w.heap.size w (w0.alloc (.cells #[] 3 (0, 0))) := Below.allocT HB0.out (Nat.le_refl _) _
  have hwk := walk_any A0 A1 A2 A3 A4 A5 q0 q1 q2 q3 q4 q5 l OK.out l.ss.length a b (-1) [] ⟨w0.heap.size, 0, none⟩ 0 (w0.alloc (.cells #[] 3 (0, 0))) (H.out.up hB1) (sideN_le (T := OK.out.tree) (-1) a) (.inl rfl) ha hb (by simp; omega) ⟨_, w0.heap.size, 0, 0, rfl, Nat.le_refl _, .inr rfl, fun i j hi => by simp at hi⟩
  rw [List.length_nil] at hwk
  have hwk2 := hwk.mono (R' := fun e w' => ∃ (Ad : Addr) (cap : Nat), e = .returned (.slice (some Ad) P.length cap) ∧ Nods w' w'.heap.size (.slice (some Ad) P.length cap) P ∧ Below w.heap.size w w') (by
    rintro e w' (⟨_, P', Ad, cap, h1, h2, h3, h4⟩ | ⟨h1, _⟩)
    · obtain rfl := OK.out.wayU h1 HP.out
      rw [List.nil_append] at h2 h3
      exact ⟨Ad, cap, h2, h3, Below.to hB1 h4 (Nat.le_refl _)⟩
    · exact absurd HR.out h1)
  have HWK := hide hwk2
  clear hwk hwk2 hB1
  go_wp2_with (go_at_call 164; refine HWK.out.mono ?_; rintro e w2 ⟨Ad, cap, rfl, hn2, hB2⟩; have HN2 := hide hn2; have HB2 := hide hB2; clear hn2 hB2 c0 c1 c2 c3 c4 c5 hlb)
  go_ret
  exact ⟨Ad, cap, rfl, HN2.out, HB2.out⟩
set_option maxRecDepth 100000 in
set_option maxHeartbeats 2000000 in
theorem rends_any (i : Nat) (A0 A1 A2 A3 A4 A5 : Option Addr) (q0 q1 q2 q3 q4 q5 : Nat) (l : Lo) (w : World) (h : LoA w w.heap.size A0 A1 A2 A3 A4 A5 q0 q1 q2 q3 q4 q5 l) (ok : LoOk l) (hi : i < l.ws.length) :
    Calls Try.prog 108 #[.agg #[.slice A0 l.m.opts.length q0, .slice A1 l.m.rules.length q1, .slice A2 l.ss.length q2, .slice A3 l.us.length q3, .slice A4 l.ps.length q4, .slice A5 l.ws.length q5], .int .i64 i] w fun e w' => e = .returned (.tuple #[.int .i64 (endF l i : Nat), .int .i64 (endT l i : Nat)]) ∧ Below w.heap.size w w' := by
  obtain ⟨⟨a1, a2, a3⟩, b1, b2, b3⟩ := ok.wpin hi
  have p30 := ok.p30
  have w60 := ok.w60
  obtain ⟨bw, offw, x, Af, qf, HX, rfl, hbw, hq5, HFO, e0, e1, e2, e3, e4, e5, e6⟩ := h.wi hi
  rw [HX.out] at a1 a2 a3 b1 b2 b3
  obtain ⟨bf, off, y, HY, rfl, hbb, hq, f0, f1, f2⟩ := h.pl a2
  obtain ⟨bf', off', z, HZ, he, hbb', hq', g0, g1, g2⟩ := h.pl b2
  injection he with he
  injection he with he1 he2
  subst he1 he2
  rw [HY.out] at a3
  rw [HZ.out] at b3
  have hF : (endF l i : Int) = y.spot := by unfold endF; rw [HX.out, HY.out]; omega
  have hT : (endT l i : Int) = z.spot := by unfold endT; rw [HX.out, HZ.out]; omega
  rw [hF, hT]
  obtain ⟨nm, fp, fc, tp, tc, size, form⟩ := x
  simp only at a1 a2 b1 b2 HY HZ e0 e1 e2 e3 e4 e5 e6 f0 f1 f2 g0 g1 g2
  obtain ⟨kf, rfl⟩ := Int.eq_ofNat_of_zero_le a1
  obtain ⟨kt, rfl⟩ := Int.eq_ofNat_of_zero_le b1
  rw [Int.toNat_natCast] at a2 f0 f1 f2
  rw [Int.toNat_natCast] at b2 g0 g1 g2
  have ikf : (kf : Int) < (l.ps.length : Int) := by omega
  have ikt : (kt : Int) < (l.ps.length : Int) := by omega
  have iq : (l.ps.length : Int) ≤ (q4 : Int) := by omega
  have iw : (i : Int) < (l.ws.length : Int) := by omega
  have iq5 : (l.ws.length : Int) ≤ (q5 : Int) := by omega
  clear a1 b1 a3 b3 h ok hF hT
  go_enter Try.func108, Try.ntmps108
  go_upto_region 1 with (fail)
  generalize hw0 : World.alloc _ _ = w0
  obtain ⟨hb0, hB0, hs0⟩ := alloc1 hw0
  have c4 := cellOf hb0 4
  have c5 := cellOf hb0 5
  have l0 := box_lt hb0
  have l2 : bf < w0.heap.size := by omega
  have l3 : bw < w0.heap.size := by omega
  have k1 := (hB0.cell (p := ⟨bf, off + kf * 3 + 1, none⟩) hbb).trans f1
  have k2 := (hB0.cell (p := ⟨bf, off + kt * 3 + 1, none⟩) hbb).trans g1
  have k3 := (hB0.cell (p := ⟨bw, offw + i * 7 + 1, none⟩) hbw).trans e1
  have k4 := (hB0.cell (p := ⟨bw, offw + i * 7 + 3, none⟩) hbw).trans e3
  have HB0 := hide hB0
  clear hw0 hb0 hB0 hs0 e0 e1 e2 e3 e4 e5 e6 f0 f1 f2 g0 g1 g2
  refine wp_region_held_drew (S := (fun w' => Below w0.heap.size w0 w')) (by kernel_rfl) ?_ (fun hHeld => ?_)
  · try dsimp only
    exact (by repeat (first | exact Below.refl _ _ | assumption | refine Below.drew ?_ | refine Below.drewN ?_ _ | refine Below.allocT ?_ (Nat.le_refl _) _ | refine Below.setCell ?_ (by simp <;> omega) _ | refine Below.to ?_ (by assumption) (Nat.le_refl _)))
  refine wpAnyH_take (i := 0) (v := ?v1_0) rfl (by kernel_rfl) (by kernel_rfl) (by kernel_rfl) (fun _ _ _ h => h) (Or.inl ⟨by rfl, ?y1_0⟩) (by assumption) ?r1_0
  case' y1_0 => (intro w hSw; (try dsimp only at hSw); (try have hlS := HLK.out _ hSw); obtain ⟨hcS, hfS⟩ := bcell hSw; clear hSw; go_simp; try with_reducible rfl)
  try simp only [Act.put, zA, zB, zC, zD, zE, zF]
  refine wpAnyH_take (i := 1) (v := ?v1_1) rfl (by kernel_rfl) (by kernel_rfl) (by kernel_rfl) (fun _ _ _ h => h) (Or.inl ⟨by rfl, ?y1_1⟩) (by assumption) ?r1_1
  case' y1_1 => (intro w hSw; (try dsimp only at hSw); (try have hlS := HLK.out _ hSw); obtain ⟨hcS, hfS⟩ := bcell hSw; clear hSw; go_simp; try with_reducible rfl)
  try simp only [Act.put, zA, zB, zC, zD, zE, zF]
  refine wpAnyH_take (i := 2) (v := ?v1_2) rfl (by kernel_rfl) (by kernel_rfl) (by kernel_rfl) (fun _ _ _ h => h) (Or.inl ⟨by rfl, ?y1_2⟩) (by assumption) ?r1_2
  case' y1_2 => (intro w hSw; (try dsimp only at hSw); (try have hlS := HLK.out _ hSw); obtain ⟨hcS, hfS⟩ := bcell hSw; clear hSw; go_simp; try with_reducible rfl)
  try simp only [Act.put, zA, zB, zC, zD, zE, zF]
  refine wpAnyH_take (i := 3) (v := ?v1_3) rfl (by kernel_rfl) (by kernel_rfl) (by kernel_rfl) (fun _ _ _ h => h) (Or.inl ⟨by rfl, ?y1_3⟩) (by assumption) ?r1_3
  case' y1_3 => (intro w hSw; (try dsimp only at hSw); (try have hlS := HLK.out _ hSw); obtain ⟨hcS, hfS⟩ := bcell hSw; clear hSw; go_simp; try with_reducible rfl)
  try simp only [Act.put, zA, zB, zC, zD, zE, zF]
  refine wpAnyH_take (i := 4) (v := ?v1_4) rfl (by kernel_rfl) (by kernel_rfl) (by kernel_rfl) (fun _ _ _ h => h) (Or.inl ⟨by rfl, ?y1_4⟩) (by assumption) ?r1_4
  case' y1_4 => (intro w hSw; (try dsimp only at hSw); (try have hlS := HLK.out _ hSw); obtain ⟨hcS, hfS⟩ := bcell hSw; clear hSw; go_simp; try with_reducible rfl)
  try simp only [Act.put, zA, zB, zC, zD, zE, zF]
  refine wpAnyH_take (i := 5) (v := ?v1_5) rfl (by kernel_rfl) (by kernel_rfl) (by kernel_rfl) (fun _ _ _ h => h) (Or.inl ⟨by rfl, ?y1_5⟩) (by assumption) ?r1_5
  case' y1_5 => (intro w hSw; (try dsimp only at hSw); (try have hlS := HLK.out _ hSw); obtain ⟨hcS, hfS⟩ := bcell hSw; clear hSw; go_simp; try with_reducible rfl)
  try simp only [Act.put, zA, zB, zC, zD, zE, zF]
  refine wpAnyH_take (i := 6) (v := ?v1_6) rfl (by kernel_rfl) (by kernel_rfl) (by kernel_rfl) (fun _ _ _ h => h) (Or.inl ⟨by rfl, ?y1_6⟩) (by assumption) ?r1_6
  case' y1_6 => (intro w hSw; (try dsimp only at hSw); (try have hlS := HLK.out _ hSw); obtain ⟨hcS, hfS⟩ := bcell hSw; clear hSw; go_simp; try with_reducible rfl)
  try simp only [Act.put, zA, zB, zC, zD, zE, zF]
  refine wpAnyH_take (i := 7) (v := ?v1_7) rfl (by kernel_rfl) (by kernel_rfl) (by kernel_rfl) (fun _ _ _ h => h) (Or.inl ⟨by rfl, ?y1_7⟩) (by assumption) ?r1_7
  case' y1_7 => (intro w hSw; (try dsimp only at hSw); (try have hlS := HLK.out _ hSw); obtain ⟨hcS, hfS⟩ := bcell hSw; clear hSw; go_simp; try with_reducible rfl)
  try simp only [Act.put, zA, zB, zC, zD, zE, zF]
  refine wpAnyH_take (i := 8) (v := ?v1_8) rfl (by kernel_rfl) (by kernel_rfl) (by kernel_rfl) (fun _ _ _ h => h) (Or.inl ⟨by rfl, ?y1_8⟩) (by assumption) ?r1_8
  case' y1_8 => (intro w hSw; (try dsimp only at hSw); (try have hlS := HLK.out _ hSw); obtain ⟨hcS, hfS⟩ := bcell hSw; clear hSw; go_simp; try with_reducible rfl)
  try simp only [Act.put, zA, zB, zC, zD, zE, zF]
  refine wpAnyH_take (i := 9) (v := ?v1_9) rfl (by kernel_rfl) (by kernel_rfl) (by kernel_rfl) (fun _ _ _ h => h) (Or.inl ⟨by rfl, ?y1_9⟩) (by assumption) ?r1_9
  case' y1_9 => (intro w hSw; (try dsimp only at hSw); (try have hlS := HLK.out _ hSw); obtain ⟨hcS, hfS⟩ := bcell hSw; clear hSw; go_simp; try with_reducible rfl)
  try simp only [Act.put, zA, zB, zC, zD, zE, zF]
  refine wpAnyH_take (i := 10) (v := ?v1_10) rfl (by kernel_rfl) (by kernel_rfl) (by kernel_rfl) (fun _ _ _ h => h) (Or.inl ⟨by rfl, ?y1_10⟩) (by assumption) ?r1_10
  case' y1_10 => (intro w hSw; (try dsimp only at hSw); (try have hlS := HLK.out _ hSw); obtain ⟨hcS, hfS⟩ := bcell hSw; clear hSw; go_simp; try with_reducible rfl)
  try simp only [Act.put, zA, zB, zC, zD, zE, zF]
  refine wpAnyH_take (i := 11) (v := ?v1_11) rfl (by kernel_rfl) (by kernel_rfl) (by kernel_rfl) (fun _ _ _ h => h) (Or.inl ⟨by rfl, ?y1_11⟩) (by assumption) ?r1_11
  case' y1_11 => (intro w hSw; (try dsimp only at hSw); (try have hlS := HLK.out _ hSw); obtain ⟨hcS, hfS⟩ := bcell hSw; clear hSw; go_simp; try with_reducible rfl)
  try simp only [Act.put, zA, zB, zC, zD, zE, zF]
  refine wpAnyH_take (i := 12) (v := ?v1_12) rfl (by kernel_rfl) (by kernel_rfl) (by kernel_rfl) (fun _ _ _ h => h) (Or.inl ⟨by rfl, ?y1_12⟩) (by assumption) ?r1_12
  case' y1_12 => (intro w hSw; (try dsimp only at hSw); (try have hlS := HLK.out _ hSw); obtain ⟨hcS, hfS⟩ := bcell hSw; clear hSw; go_simp; try with_reducible rfl)
  try simp only [Act.put, zA, zB, zC, zD, zE, zF]
  refine wpAnyH_take (i := 13) (v := ?v1_13) rfl (by kernel_rfl) (by kernel_rfl) (by kernel_rfl) (fun _ _ _ h => h) (Or.inl ⟨by rfl, ?y1_13⟩) (by assumption) ?r1_13
  case' y1_13 => (intro w hSw; (try dsimp only at hSw); (try have hlS := HLK.out _ hSw); obtain ⟨hcS, hfS⟩ := bcell hSw; clear hSw; go_simp; try with_reducible rfl)
  try simp only [Act.put, zA, zB, zC, zD, zE, zF]
  refine wpAnyH_take (i := 14) (v := ?v1_14) rfl (by kernel_rfl) (by kernel_rfl) (by kernel_rfl) (fun _ _ _ h => h) (Or.inl ⟨by rfl, ?y1_14⟩) (by assumption) ?r1_14
  case' y1_14 => (intro w hSw; (try dsimp only at hSw); (try have hlS := HLK.out _ hSw); obtain ⟨hcS, hfS⟩ := bcell hSw; clear hSw; go_simp; try with_reducible rfl)
  try simp only [Act.put, zA, zB, zC, zD, zE, zF]
  refine wpAnyH_take (i := 15) (v := ?v1_15) rfl (by kernel_rfl) (by kernel_rfl) (by kernel_rfl) (fun _ _ _ h => h) (Or.inl ⟨by rfl, ?y1_15⟩) (by assumption) ?r1_15
  case' y1_15 => (intro w hSw; (try dsimp only at hSw); (try have hlS := HLK.out _ hSw); obtain ⟨hcS, hfS⟩ := bcell hSw; clear hSw; go_simp; try with_reducible rfl)
  try simp only [Act.put, zA, zB, zC, zD, zE, zF]
  refine wpAnyH_take (i := 16) (v := ?v1_16) rfl (by kernel_rfl) (by kernel_rfl) (by kernel_rfl) (fun _ _ _ h => h) (Or.inl ⟨by rfl, ?y1_16⟩) (by assumption) ?r1_16
  case' y1_16 => (intro w hSw; (try dsimp only at hSw); (try have hlS := HLK.out _ hSw); obtain ⟨hcS, hfS⟩ := bcell hSw; clear hSw; go_simp; try with_reducible rfl)
  try simp only [Act.put, zA, zB, zC, zD, zE, zF]
  refine wpAnyH_take (i := 17) (v := ?v1_17) rfl (by kernel_rfl) (by kernel_rfl) (by kernel_rfl) (fun _ _ _ h => h) (Or.inl ⟨by rfl, ?y1_17⟩) (by assumption) ?r1_17
  case' y1_17 => (intro w hSw; (try dsimp only at hSw); (try have hlS := HLK.out _ hSw); obtain ⟨hcS, hfS⟩ := bcell hSw; clear hSw; go_simp; try with_reducible rfl)
  try simp only [Act.put, zA, zB, zC, zD, zE, zF]
  refine wpAnyH_take (i := 18) (v := ?v1_18) rfl (by kernel_rfl) (by kernel_rfl) (by kernel_rfl) (fun _ _ _ h => h) (Or.inl ⟨by rfl, ?y1_18⟩) (by assumption) ?r1_18
  case' y1_18 => (intro w hSw; (try dsimp only at hSw); (try have hlS := HLK.out _ hSw); obtain ⟨hcS, hfS⟩ := bcell hSw; clear hSw; go_simp; try with_reducible rfl)
  try simp only [Act.put, zA, zB, zC, zD, zE, zF]
  refine wpAnyH_take (i := 19) (v := ?v1_19) rfl (by kernel_rfl) (by kernel_rfl) (by kernel_rfl) (fun _ _ _ h => h) (Or.inl ⟨by rfl, ?y1_19⟩) (by assumption) ?r1_19
  case' y1_19 => (intro w hSw; (try dsimp only at hSw); (try have hlS := HLK.out _ hSw); obtain ⟨hcS, hfS⟩ := bcell hSw; clear hSw; go_simp; try with_reducible rfl)
  try simp only [Act.put, zA, zB, zC, zD, zE, zF]
  refine wpAnyH_take (i := 20) (v := ?v1_20) rfl (by kernel_rfl) (by kernel_rfl) (by kernel_rfl) (fun _ _ _ h => h) (Or.inl ⟨by rfl, ?y1_20⟩) (by assumption) ?r1_20
  case' y1_20 => (intro w hSw; (try dsimp only at hSw); (try have hlS := HLK.out _ hSw); obtain ⟨hcS, hfS⟩ := bcell hSw; clear hSw; go_simp; try with_reducible rfl)
  try simp only [Act.put, zA, zB, zC, zD, zE, zF]
  refine wpAnyH_take (i := 21) (v := ?v1_21) rfl (by kernel_rfl) (by kernel_rfl) (by kernel_rfl) (fun _ _ _ h => h) (Or.inl ⟨by rfl, ?y1_21⟩) (by assumption) ?r1_21
  case' y1_21 => (intro w hSw; (try dsimp only at hSw); (try have hlS := HLK.out _ hSw); obtain ⟨hcS, hfS⟩ := bcell hSw; clear hSw; go_simp; try with_reducible rfl)
  try simp only [Act.put, zA, zB, zC, zD, zE, zF]
  refine wpAnyH_take (i := 22) (v := ?v1_22) rfl (by kernel_rfl) (by kernel_rfl) (by kernel_rfl) (fun _ _ _ h => h) (Or.inl ⟨by rfl, ?y1_22⟩) (by assumption) ?r1_22
  case' y1_22 => (intro w hSw; (try dsimp only at hSw); (try have hlS := HLK.out _ hSw); obtain ⟨hcS, hfS⟩ := bcell hSw; clear hSw; go_simp; try with_reducible rfl)
  try simp only [Act.put, zA, zB, zC, zD, zE, zF]
  refine wpAnyH_take (i := 23) (v := ?v1_23) rfl (by kernel_rfl) (by kernel_rfl) (by kernel_rfl) (fun _ _ _ h => h) (Or.inl ⟨by rfl, ?y1_23⟩) (by assumption) ?r1_23
  case' y1_23 => (intro w hSw; (try dsimp only at hSw); (try have hlS := HLK.out _ hSw); obtain ⟨hcS, hfS⟩ := bcell hSw; clear hSw; go_simp; try with_reducible rfl)
  try simp only [Act.put, zA, zB, zC, zD, zE, zF]
  refine wpAnyH_take (i := 24) (v := ?v1_24) rfl (by kernel_rfl) (by kernel_rfl) (by kernel_rfl) (fun _ _ _ h => h) (Or.inl ⟨by rfl, ?y1_24⟩) (by assumption) ?r1_24
  case' y1_24 => (intro w hSw; (try dsimp only at hSw); (try have hlS := HLK.out _ hSw); obtain ⟨hcS, hfS⟩ := bcell hSw; clear hSw; go_simp; try with_reducible rfl)
  try simp only [Act.put, zA, zB, zC, zD, zE, zF]
  refine wpAnyH_take (i := 25) (v := ?v1_25) rfl (by kernel_rfl) (by kernel_rfl) (by kernel_rfl) (fun _ _ _ h => h) (Or.inl ⟨by rfl, ?y1_25⟩) (by assumption) ?r1_25
  case' y1_25 => (intro w hSw; (try dsimp only at hSw); (try have hlS := HLK.out _ hSw); obtain ⟨hcS, hfS⟩ := bcell hSw; clear hSw; go_simp; try with_reducible rfl)
  try simp only [Act.put, zA, zB, zC, zD, zE, zF]
  refine wpAnyH_done (by kernel_rfl) ?_ _
  go_wp2_with fail
  go_ret2
  exact ⟨rfl, Below.to HB0.out hHeld (Nat.le_refl _)⟩
end Go.Proofs.Ytmabfnddedffoaa
/- The elder greatest fill of a run: walks. -/
namespace Go.Proofs.Ytmabfnddedffoaa
open Go.RowKit
set_option linter.unusedVariables false
set_option linter.unusedSimpArgs false
theorem OFs.to6 {w w1 w2 : World} {e B : Nat} {v : Value} {L : List (List Int)} {vs : List Value} (h : OFs w e B w1 v L vs) (hb : Below w1.heap.size w1 w2) : OFs w e B w2 v L vs := ⟨h.len, owns_below h.own hb, h.row⟩
theorem WorS.to {w0 wr w' : World} {B lb : Nat} {A0 A1 A2 A3 A4 A5 : Option Addr} {q0 q1 q2 q3 q4 q5 : Nat} {l : Lo} {fv sv : Value} {Fs : List (List Int)} {Ss : List Int} {vs : List Value} (h : WorS w0 wr B lb A0 A1 A2 A3 A4 A5 q0 q1 q2 q3 q4 q5 l fv sv Fs Ss vs) (hb : Below wr.heap.size wr w') : WorS w0 w' B lb A0 A1 A2 A3 A4 A5 q0 q1 q2 q3 q4 q5 l fv sv Fs Ss vs :=
  ⟨Below.to h.below hb (Nat.le_refl _), box_to h.box hb, h.f.to6 hb, owns_below h.s hb, h.lt.1, Nat.le_trans h.lt.2 hb.size⟩
end Go.Proofs.Ytmabfnddedffoaa
/- The runs that can be overfilled: walks. -/
namespace Go.Proofs.Ytmabfnddedffoaa
open Go.RowKit
set_option linter.unusedVariables false
set_option linter.unusedSimpArgs false
def tigB (l : Lo) (k : Nat) : Bool := decide (worE l k = 0) && decide ((l.us.getD k Ru.o).room < worN l k)
def tigL (l : Lo) : List Nat := if l.err = 0 then (List.range l.us.length).filter (tigB l) else []
/-- A list of numbers and an error. -/
def TigP (L : List Nat) (er : Int) (w : World) (e : Ending) (w' : World) : Prop := ∃ v, e = .returned (.tuple #[v, .int .i64 er]) ∧ Nods w' w'.heap.size v L ∧ Below w.heap.size w w'
end Go.Proofs.Ytmabfnddedffoaa

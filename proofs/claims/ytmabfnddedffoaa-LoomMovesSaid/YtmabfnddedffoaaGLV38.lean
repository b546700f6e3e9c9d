/- Part 38 of this claim's texts: walks and plain laws. -/
import Derived.Test.YtmabfnddedffoaaRows
import Derived.Test.YtmabfnddedffoaaGLV37
import Derived.Test.YtmabfnddedffoaaGLV26
import Derived.Test.YtmabfnddedffoaaGLV32
import Derived.Deep.DeepMust
import Derived.Deep.RegionHeld3
import Derived.Deep.DrawnRows
import Derived.Test.YtmabfnddedffoaaGLV36
import Derived.Test.YtmabfnddedffoaaGLV34
import Derived.Laws.EntriesVeiled
/- A plug moved (the elder): walk. -/
namespace Go.Proofs.Ytmabfnddedffoaa
open Go.RowKit
set_option linter.unusedVariables false
set_option linter.unusedSimpArgs false
def movB (l : Lo) (p s : Int) : Bool := btw p 0 ((l.ps.length : Int) - 1) && btw s 0 ((l.ss.length : Int) - 1)
def movE (l : Lo) (p s : Int) : Int := havE l (movB l p s)
def Lo.z : Lo := ⟨⟨[], []⟩, [], [], [], []⟩
/-- What Move returns. -/
def movR (l : Lo) (p s : Int) : Lo := if movE l p s = 0 then movL l p.toNat s else Lo.z
theorem movR_bad {l : Lo} {p s : Int} (h : movE l p s ≠ 0) : movR l p s = Lo.z := by unfold movR; rw [if_neg h]
theorem movR_ok {l : Lo} {p s : Int} (h : movE l p s = 0) : movR l p s = movL l p.toNat s := by unfold movR; rw [if_pos h]
theorem movE_ok {l : Lo} {p s : Int} (h : movE l p s = 0) : LoOk l ∧ 0 ≤ p ∧ p < (l.ps.length : Int) ∧ 0 ≤ s ∧ s < (l.ss.length : Int) := by
  obtain ⟨h1, h2⟩ := havE_ok h
  unfold movB at h2
  simp only [Bool.and_eq_true, btw_iff] at h2
  exact ⟨h1, by omega, by omega, by omega, by omega⟩
theorem movE_err {l : Lo} {p s : Int} (h : l.err ≠ 0) : movE l p s = l.err := by unfold movE havE; rw [if_pos h]
theorem movE_arg {l : Lo} {p s : Int} (h : l.err = 0) (hb : movB l p s = false) : movE l p s = 1 := by
  unfold movE havE
  rw [if_neg (by simp [h]), hb]
  rfl
def MovP (l : Lo) (er : Int) (w : World) (e : Ending) (w' : World) : Prop := ∃ (C0 C1 C2 C3 C4 C5 : Option Addr) (r0 r1 r2 r3 r4 r5 : Nat), e = .returned (.tuple #[.agg #[.slice C0 l.m.opts.length r0, .slice C1 l.m.rules.length r1, .slice C2 l.ss.length r2, .slice C3 l.us.length r3, .slice C4 l.ps.length r4, .slice C5 l.ws.length r5], .int .i64 er]) ∧ LoA w' w'.heap.size C0 C1 C2 C3 C4 C5 r0 r1 r2 r3 r4 r5 l ∧ Below w.heap.size w w'
theorem loZ (w : World) (B : Nat) : LoA w B none none none none none none 0 0 0 0 0 0 Lo.z :=
  ⟨⟨Sl.nil _ _ _ _, fun _ => undef, Sl.nil _ _ _ _, fun i hi => absurd hi (by simp [Lo.z])⟩, Sl.nil _ _ _ _, Sl.nil _ _ _ _, Sl.nil _ _ _ _, fun _ => undef, Sl.nil _ _ _ _, fun i hi => absurd hi (by simp [Lo.z])⟩
theorem results_cell_tmp6 {P : Program} {fn : Func} {p u : Tmp} {ty : TypeId} (h : fn.results = #[.cell p ty, .tmp u]) (tmps : Array Value) (w : World) :
    (results fn tmps).run P w = ((asAddr (tmps.getD p undef)).run P w).andThen fun a w₁ => ((loadVar ty a).run P w₁).andThen fun v w₂ => .ok (.tuple #[v, tmps.getD u undef]) w₂ := by
  simp only [results, h]
  simp [Sem.run_bind, Result.andThen]
  try (congr; done)
/-- A row of the call's own that is not empty. -/
theorem own_at6 {wr : World} {B e sz n q : Nat} {A : Option Addr} {xs : List Value} (h : wr.ownsRow B e sz (.slice A n q) n xs) (hn : 0 < n) : ∃ g, A = some ⟨g, 0, none⟩ ∧ B ≤ g ∧ n ≤ q ∧ ∃ cur, wr.heap[g]? = some (.cells cur e (0, 0)) := by
  rcases h.2 with ⟨_, h0⟩ | ⟨g, cap, cur, hv, hgb, hgh, hnc, _⟩
  · omega
  · injection hv with e1 e2 e3
    subst e1 e3
    exact ⟨g, rfl, hgb, hnc, cur, hgh⟩
theorem mov_ret (C0 C1 C2 C3 C4 C5 : Option Addr) (r0 r1 r2 r3 r4 r5 : Nat) (l : Lo) (j : Nat) (s : Int) : Ending.returned (.tuple #[.agg #[.slice C0 l.m.opts.length r0, .slice C1 l.m.rules.length r1, .slice C2 l.ss.length r2, .slice C3 l.us.length r3, .slice C4 l.ps.length r4, .slice C5 l.ws.length r5], .int .i64 0]) =
    .returned (.tuple #[.agg #[.slice C0 (movL l j s).m.opts.length r0, .slice C1 (movL l j s).m.rules.length r1, .slice C2 (movL l j s).ss.length r2, .slice C3 (movL l j s).us.length r3, .slice C4 (movL l j s).ps.length r4, .slice C5 (movL l j s).ws.length r5], .int .i64 0]) := by
  rw [movL_len]
  rfl
set_option maxRecDepth 100000 in
set_option maxHeartbeats 8000000 in
theorem rMove_any (p s : Int) (A0 A1 A2 A3 A4 A5 : Option Addr) (q0 q1 q2 q3 q4 q5 : Nat) (l : Lo) (w : World) (hs : SizedL l) (hfar : farB l = false) (h : LoA w w.heap.size A0 A1 A2 A3 A4 A5 q0 q1 q2 q3 q4 q5 l) :
    Calls Try.prog 42 #[.agg #[.slice A0 l.m.opts.length q0, .slice A1 l.m.rules.length q1, .slice A2 l.ss.length q2, .slice A3 l.us.length q3, .slice A4 l.ps.length q4, .slice A5 l.ws.length q5], .int .i64 p, .int .i64 s] w (MovP (movR l p s) (movE l p s) w) := by
  have H := hide h
  have HS := hide hs
  have HFAR := hide hfar
  clear h hs hfar
  by_cases hz : l.err = 0
  case neg =>
    rw [movR_bad (by rw [movE_err hz]; exact hz), movE_err hz]
    obtain ⟨z, hze⟩ : ∃ z, l.err = z := ⟨_, rfl⟩
    rw [hze] at hz ⊢
    have HZ := hide hze
    have hz1 : (z != 0) = true := by simpa using hz
    clear hz hze
    go_enter Try.func42, Try.ntmps42
    go_upto_region 1 with (fail)
    generalize hw0 : World.alloc _ _ = w0
    obtain ⟨hb0, hb1, hB0, hs0⟩ := alloc2 hw0
    have HB0 := hide hB0
    have HR0 := hide hb1
    have c0 := cellOf hb0 0; have c1 := cellOf hb0 1; have c2 := cellOf hb0 2; have c3 := cellOf hb0 3; have c4 := cellOf hb0 4; have c5 := cellOf hb0 5
    have hlb := box_lt hb0
    clear hw0 hb0 hb1 hB0 hs0
    go_wp2_with (go_at_call 18; refine (rCheck_any A0 A1 A2 A3 A4 A5 q0 q1 q2 q3 q4 q5 l _ HS.out (H.out.up HB0.out)).mono ?_; rw [HZ.out]; rintro e w1 ⟨rfl, hB1⟩; have HB1 := hide (Below.to HB0.out hB1 (Nat.le_refl _)); have hrb := heap_below HR0.out hB1; have y0 := cellOf hrb 0; have v0 := unfrozenOf hrb 0; have y1 := cellOf hrb 1; have v1 := unfrozenOf hrb 1; have y2 := cellOf hrb 2; have v2 := unfrozenOf hrb 2; have y3 := cellOf hrb 3; have v3 := unfrozenOf hrb 3; have y4 := cellOf hrb 4; have v4 := unfrozenOf hrb 4; have y5 := cellOf hrb 5; have v5 := unfrozenOf hrb 5; have lr := box_lt hrb; have HR1 := hide hrb; clear hB1 hrb c0 c1 c2 c3 c4 c5 hlb)
    generalize hwv : World.setCell _ _ _ = wv
    obtain ⟨hv, hgv⟩ := set6 (HR1.out) hwv
    have hBv : Below w.heap.size w wv := Below.grown (HB1.out) hgv (HB1.out.size) (fun j hj => by injection hj with hj; omega)
    have HBV := hide hBv
    have t0 := cellOf hv 0
    have t1 := cellOf hv 1
    have t2 := cellOf hv 2
    have t3 := cellOf hv 3
    have t4 := cellOf hv 4
    have t5 := cellOf hv 5
    have lv := box_lt hv
    clear hwv hv hBv y0 y1 y2 y3 y4 y5 v0 v1 v2 v3 v4 v5 lr
    refine bodyPost_ret (v := .tuple #[.agg #[.slice none 0 0, .slice none 0 0, .slice none 0 0, .slice none 0 0, .slice none 0 0, .slice none 0 0], .int .i64 z]) ?_ rfl ⟨none, none, none, none, none, none, 0, 0, 0, 0, 0, 0, rfl, loZ _ _, HBV.out⟩
    clear hgv
    rw [results_cell_tmp6 rfl]
    go_simp
  case pos =>
  have HZ := hide hz
  cases hmb : movB l p s with
  | false =>
    rw [movR_bad (by rw [movE_arg hz hmb]; decide), movE_arg hz hmb]
    clear hz
    unfold movB at hmb
    by_cases hp0 : p < 0
    · have hp1 : decide (p < 0) = true := decide_eq_true hp0
      clear hmb
      go_enter Try.func42, Try.ntmps42
      go_upto_region 1 with (fail)
      generalize hw0 : World.alloc _ _ = w0
      obtain ⟨hb0, hb1, hB0, hs0⟩ := alloc2 hw0
      have HB0 := hide hB0
      have HR0 := hide hb1
      have HL0 : Hid (LoBox w0 w.heap.size A0 A1 A2 A3 A4 A5 q0 q1 q2 q3 q4 q5 l) := hb0
      have c0 := cellOf hb0 0; have c1 := cellOf hb0 1; have c2 := cellOf hb0 2; have c3 := cellOf hb0 3; have c4 := cellOf hb0 4; have c5 := cellOf hb0 5
      have hlb := box_lt hb0
      clear hw0 hb0 hb1 hB0 hs0
      go_upto_region 4 with (go_at_call 18; refine (rCheck_any A0 A1 A2 A3 A4 A5 q0 q1 q2 q3 q4 q5 l _ HS.out (H.out.up HB0.out)).mono ?_; rw [HZ.out]; rintro e w1 ⟨rfl, hB1⟩; have HL1 := hide (HL0.out.to hB1); have HB1 := hide (Below.to HB0.out hB1 (Nat.le_refl _)); have hrb := heap_below HR0.out hB1; have y0 := cellOf hrb 0; have v0 := unfrozenOf hrb 0; have y1 := cellOf hrb 1; have v1 := unfrozenOf hrb 1; have y2 := cellOf hrb 2; have v2 := unfrozenOf hrb 2; have y3 := cellOf hrb 3; have v3 := unfrozenOf hrb 3; have y4 := cellOf hrb 4; have v4 := unfrozenOf hrb 4; have y5 := cellOf hrb 5; have v5 := unfrozenOf hrb 5; have lr := box_lt hrb; have HR1 := hide hrb; have d0 := cellOf (HL0.out.to hB1) 0; have d1 := cellOf (HL0.out.to hB1) 1; have d2 := cellOf (HL0.out.to hB1) 2; have d3 := cellOf (HL0.out.to hB1) 3; have d4 := cellOf (HL0.out.to hB1) 4; have d5 := cellOf (HL0.out.to hB1) 5; have ld := box_lt (HL0.out.to hB1); clear hB1 hrb c0 c1 c2 c3 c4 c5 hlb)
      go_wp2_with (go_at_call 90; refine (rspot_any s A0 A1 A2 A3 A4 A5 q0 q1 q2 q3 q4 q5 l _ _ HSP.out).mono ?_; rintro e w2 ⟨rfl, hB2⟩; have HB1 := hide (Below.to HB1.out hB2 (Nat.le_refl _)); have hrb := heap_below HR1.out hB2; clear y0 y1 y2 y3 y4 y5 v0 v1 v2 v3 v4 v5 lr; have y0 := cellOf hrb 0; have v0 := unfrozenOf hrb 0; have y1 := cellOf hrb 1; have v1 := unfrozenOf hrb 1; have y2 := cellOf hrb 2; have v2 := unfrozenOf hrb 2; have y3 := cellOf hrb 3; have v3 := unfrozenOf hrb 3; have y4 := cellOf hrb 4; have v4 := unfrozenOf hrb 4; have y5 := cellOf hrb 5; have v5 := unfrozenOf hrb 5; have lr := box_lt hrb; have HR1 := hide hrb; clear hB2 hrb d0 d1 d2 d3 d4 d5 ld)
      generalize hwv : World.setCell _ _ _ = wv
      obtain ⟨hv, hgv⟩ := set6 (HR1.out) hwv
      have hBv : Below w.heap.size w wv := Below.grown (HB1.out) hgv (HB1.out.size) (fun j hj => by injection hj with hj; omega)
      have HBV := hide hBv
      have t0 := cellOf hv 0
      have t1 := cellOf hv 1
      have t2 := cellOf hv 2
      have t3 := cellOf hv 3
      have t4 := cellOf hv 4
      have t5 := cellOf hv 5
      have lv := box_lt hv
      clear hwv hv hBv y0 y1 y2 y3 y4 y5 v0 v1 v2 v3 v4 v5 lr
      refine bodyPost_ret (v := .tuple #[.agg #[.slice none 0 0, .slice none 0 0, .slice none 0 0, .slice none 0 0, .slice none 0 0, .slice none 0 0], .int .i64 1]) ?_ rfl ⟨none, none, none, none, none, none, 0, 0, 0, 0, 0, 0, rfl, loZ _ _, HBV.out⟩
      clear hgv
      rw [results_cell_tmp6 rfl]
      go_simp
    · have hp1 : decide (p < 0) = false := decide_eq_false hp0
      by_cases hpl : (l.ps.length : Int) ≤ p
      · have hpl1 : decide ((l.ps.length : Int) ≤ p) = true := decide_eq_true hpl
        clear hmb
        go_enter Try.func42, Try.ntmps42
        go_upto_region 1 with (fail)
        generalize hw0 : World.alloc _ _ = w0
        obtain ⟨hb0, hb1, hB0, hs0⟩ := alloc2 hw0
        have HB0 := hide hB0
        have HR0 := hide hb1
        have HL0 : Hid (LoBox w0 w.heap.size A0 A1 A2 A3 A4 A5 q0 q1 q2 q3 q4 q5 l) := hb0
        have c0 := cellOf hb0 0; have c1 := cellOf hb0 1; have c2 := cellOf hb0 2; have c3 := cellOf hb0 3; have c4 := cellOf hb0 4; have c5 := cellOf hb0 5
        have hlb := box_lt hb0
        clear hw0 hb0 hb1 hB0 hs0
        go_upto_region 4 with (go_at_call 18; refine (rCheck_any A0 A1 A2 A3 A4 A5 q0 q1 q2 q3 q4 q5 l _ HS.out (H.out.up HB0.out)).mono ?_; rw [HZ.out]; rintro e w1 ⟨rfl, hB1⟩; have HL1 := hide (HL0.out.to hB1); have HB1 := hide (Below.to HB0.out hB1 (Nat.le_refl _)); have hrb := heap_below HR0.out hB1; have y0 := cellOf hrb 0; have v0 := unfrozenOf hrb 0; have y1 := cellOf hrb 1; have v1 := unfrozenOf hrb 1; have y2 := cellOf hrb 2; have v2 := unfrozenOf hrb 2; have y3 := cellOf hrb 3; have v3 := unfrozenOf hrb 3; have y4 := cellOf hrb 4; have v4 := unfrozenOf hrb 4; have y5 := cellOf hrb 5; have v5 := unfrozenOf hrb 5; have lr := box_lt hrb; have HR1 := hide hrb; have d0 := cellOf (HL0.out.to hB1) 0; have d1 := cellOf (HL0.out.to hB1) 1; have d2 := cellOf (HL0.out.to hB1) 2; have d3 := cellOf (HL0.out.to hB1) 3; have d4 := cellOf (HL0.out.to hB1) 4; have d5 := cellOf (HL0.out.to hB1) 5; have ld := box_lt (HL0.out.to hB1); clear hB1 hrb c0 c1 c2 c3 c4 c5 hlb)
        go_wp2_with (go_at_call 90; refine (rspot_any s A0 A1 A2 A3 A4 A5 q0 q1 q2 q3 q4 q5 l _ _ HSP.out).mono ?_; rintro e w2 ⟨rfl, hB2⟩; have HB1 := hide (Below.to HB1.out hB2 (Nat.le_refl _)); have hrb := heap_below HR1.out hB2; clear y0 y1 y2 y3 y4 y5 v0 v1 v2 v3 v4 v5 lr; have y0 := cellOf hrb 0; have v0 := unfrozenOf hrb 0; have y1 := cellOf hrb 1; have v1 := unfrozenOf hrb 1; have y2 := cellOf hrb 2; have v2 := unfrozenOf hrb 2; have y3 := cellOf hrb 3; have v3 := unfrozenOf hrb 3; have y4 := cellOf hrb 4; have v4 := unfrozenOf hrb 4; have y5 := cellOf hrb 5; have v5 := unfrozenOf hrb 5; have lr := box_lt hrb; have HR1 := hide hrb; clear hB2 hrb d0 d1 d2 d3 d4 d5 ld)
        generalize hwv : World.setCell _ _ _ = wv
        obtain ⟨hv, hgv⟩ := set6 (HR1.out) hwv
        have hBv : Below w.heap.size w wv := Below.grown (HB1.out) hgv (HB1.out.size) (fun j hj => by injection hj with hj; omega)
        have HBV := hide hBv
        have t0 := cellOf hv 0
        have t1 := cellOf hv 1
        have t2 := cellOf hv 2
        have t3 := cellOf hv 3
        have t4 := cellOf hv 4
        have t5 := cellOf hv 5
        have lv := box_lt hv
        clear hwv hv hBv y0 y1 y2 y3 y4 y5 v0 v1 v2 v3 v4 v5 lr
        refine bodyPost_ret (v := .tuple #[.agg #[.slice none 0 0, .slice none 0 0, .slice none 0 0, .slice none 0 0, .slice none 0 0, .slice none 0 0], .int .i64 1]) ?_ rfl ⟨none, none, none, none, none, none, 0, 0, 0, 0, 0, 0, rfl, loZ _ _, HBV.out⟩
        clear hgv
        rw [results_cell_tmp6 rfl]
        go_simp
      · have hpl1 : decide ((l.ps.length : Int) ≤ p) = false := decide_eq_false hpl
        have hsp : btw s 0 ((l.ss.length : Int) - 1) = false := by
          have h1 : btw p 0 ((l.ps.length : Int) - 1) = true := btw_iff.2 ⟨by omega, by omega⟩
          rw [h1, Bool.true_and] at hmb
          exact hmb
        have HSP := hide hsp
        clear hmb hsp
        go_enter Try.func42, Try.ntmps42
        go_upto_region 1 with (fail)
        generalize hw0 : World.alloc _ _ = w0
        obtain ⟨hb0, hb1, hB0, hs0⟩ := alloc2 hw0
        have HB0 := hide hB0
        have HR0 := hide hb1
        have HL0 : Hid (LoBox w0 w.heap.size A0 A1 A2 A3 A4 A5 q0 q1 q2 q3 q4 q5 l) := hb0
        have c0 := cellOf hb0 0; have c1 := cellOf hb0 1; have c2 := cellOf hb0 2; have c3 := cellOf hb0 3; have c4 := cellOf hb0 4; have c5 := cellOf hb0 5
        have hlb := box_lt hb0
        clear hw0 hb0 hb1 hB0 hs0
        go_upto_region 4 with (go_at_call 18; refine (rCheck_any A0 A1 A2 A3 A4 A5 q0 q1 q2 q3 q4 q5 l _ HS.out (H.out.up HB0.out)).mono ?_; rw [HZ.out]; rintro e w1 ⟨rfl, hB1⟩; have HL1 := hide (HL0.out.to hB1); have HB1 := hide (Below.to HB0.out hB1 (Nat.le_refl _)); have hrb := heap_below HR0.out hB1; have y0 := cellOf hrb 0; have v0 := unfrozenOf hrb 0; have y1 := cellOf hrb 1; have v1 := unfrozenOf hrb 1; have y2 := cellOf hrb 2; have v2 := unfrozenOf hrb 2; have y3 := cellOf hrb 3; have v3 := unfrozenOf hrb 3; have y4 := cellOf hrb 4; have v4 := unfrozenOf hrb 4; have y5 := cellOf hrb 5; have v5 := unfrozenOf hrb 5; have lr := box_lt hrb; have HR1 := hide hrb; have d0 := cellOf (HL0.out.to hB1) 0; have d1 := cellOf (HL0.out.to hB1) 1; have d2 := cellOf (HL0.out.to hB1) 2; have d3 := cellOf (HL0.out.to hB1) 3; have d4 := cellOf (HL0.out.to hB1) 4; have d5 := cellOf (HL0.out.to hB1) 5; have ld := box_lt (HL0.out.to hB1); clear hB1 hrb c0 c1 c2 c3 c4 c5 hlb)
        go_wp2_with (go_at_call 90; refine (rspot_any s A0 A1 A2 A3 A4 A5 q0 q1 q2 q3 q4 q5 l _ _ HSP.out).mono ?_; rintro e w2 ⟨rfl, hB2⟩; have HB1 := hide (Below.to HB1.out hB2 (Nat.le_refl _)); have hrb := heap_below HR1.out hB2; clear y0 y1 y2 y3 y4 y5 v0 v1 v2 v3 v4 v5 lr; have y0 := cellOf hrb 0; have v0 := unfrozenOf hrb 0; have y1 := cellOf hrb 1; have v1 := unfrozenOf hrb 1; have y2 := cellOf hrb 2; have v2 := unfrozenOf hrb 2; have y3 := cellOf hrb 3; have v3 := unfrozenOf hrb 3; have y4 := cellOf hrb 4; have v4 := unfrozenOf hrb 4; have y5 := cellOf hrb 5; have v5 := unfrozenOf hrb 5; have lr := box_lt hrb; have HR1 := hide hrb; clear hB2 hrb d0 d1 d2 d3 d4 d5 ld)
        generalize hwv : World.setCell _ _ _ = wv
        obtain ⟨hv, hgv⟩ := set6 (HR1.out) hwv
        have hBv : Below w.heap.size w wv := Below.grown (HB1.out) hgv (HB1.out.size) (fun j hj => by injection hj with hj; omega)
        have HBV := hide hBv
        have t0 := cellOf hv 0
        have t1 := cellOf hv 1
        have t2 := cellOf hv 2
        have t3 := cellOf hv 3
        have t4 := cellOf hv 4
        have t5 := cellOf hv 5
        have lv := box_lt hv
        clear hwv hv hBv y0 y1 y2 y3 y4 y5 v0 v1 v2 v3 v4 v5 lr
        refine bodyPost_ret (v := .tuple #[.agg #[.slice none 0 0, .slice none 0 0, .slice none 0 0, .slice none 0 0, .slice none 0 0, .slice none 0 0], .int .i64 1]) ?_ rfl ⟨none, none, none, none, none, none, 0, 0, 0, 0, 0, 0, rfl, loZ _ _, HBV.out⟩
        clear hgv
        rw [results_cell_tmp6 rfl]
        go_simp
  | true =>
  have hme : movE l p s = 0 := by
    unfold movE havE
    rw [if_neg (by simp [hz]), hmb]
    rfl
  obtain ⟨_, p0, p1, s0, s1⟩ := movE_ok hme
  rw [movR_ok hme, hme]
  obtain ⟨j, rfl⟩ := Int.eq_ofNat_of_zero_le p0
  rw [Int.toNat_natCast]
  have hj : j < l.ps.length := by omega
  have hp1 : decide ((j : Int) < 0) = false := decide_eq_false (by omega)
  have hpl1 : decide ((l.ps.length : Int) ≤ (j : Int)) = false := decide_eq_false (by omega)
  have HSP : Hid (btw s 0 ((l.ss.length : Int) - 1) = true) := btw_iff.2 ⟨by omega, by omega⟩
  have np0 : ¬ (j : Int) < 0 := by omega
  have np1 : ¬ (l.ps.length : Int) ≤ (j : Int) := by omega
  clear hz hmb hme
  go_enter Try.func42, Try.ntmps42
  go_upto_region 1 with (fail)
  generalize hw0 : World.alloc _ _ = w0
  obtain ⟨hb0, hb1, hB0, hs0⟩ := alloc2 hw0
  have HB0 := hide hB0
  have HR0 := hide hb1
  have HL0 : Hid (LoBox w0 w.heap.size A0 A1 A2 A3 A4 A5 q0 q1 q2 q3 q4 q5 l) := hb0
  have HRB : Hid (w.heap.size + 1 < w0.heap.size) := by show _ < _; omega
  have c0 := cellOf hb0 0; have c1 := cellOf hb0 1; have c2 := cellOf hb0 2; have c3 := cellOf hb0 3; have c4 := cellOf hb0 4; have c5 := cellOf hb0 5
  have hlb := box_lt hb0
  clear hw0 hb0 hb1 hB0 hs0
  go_upto_region 4 with (go_at_call 18; refine (rCheck_any A0 A1 A2 A3 A4 A5 q0 q1 q2 q3 q4 q5 l _ HS.out (H.out.up HB0.out)).mono ?_; rw [HZ.out]; rintro e w1 ⟨rfl, hB1⟩; have HL1 := hide (HL0.out.to hB1); have HR1 := hide (heap_below HR0.out hB1); have HB01 := hide hB1; have HB1 := hide (Below.to HB0.out hB1 (Nat.le_refl _)); have d0 := cellOf (HL0.out.to hB1) 0; have d1 := cellOf (HL0.out.to hB1) 1; have d2 := cellOf (HL0.out.to hB1) 2; have d3 := cellOf (HL0.out.to hB1) 3; have d4 := cellOf (HL0.out.to hB1) 4; have d5 := cellOf (HL0.out.to hB1) 5; have ld := box_lt (HL0.out.to hB1); clear hB1 c0 c1 c2 c3 c4 c5 hlb)
  go_upto_region 6 with (go_at_call 90; refine (rspot_any s A0 A1 A2 A3 A4 A5 q0 q1 q2 q3 q4 q5 l _ _ HSP.out).mono ?_; rintro e w2 ⟨rfl, hB2⟩; have HL2 := hide (HL1.out.to hB2); have HR2 := hide (heap_below HR1.out hB2); have HB02 := hide (Below.to HB01.out hB2 (Nat.le_refl _)); have HB2 := hide (Below.to HB1.out hB2 (Nat.le_refl _)); have e0 := cellOf (HL1.out.to hB2) 0; have e1 := cellOf (HL1.out.to hB2) 1; have e2 := cellOf (HL1.out.to hB2) 2; have e3 := cellOf (HL1.out.to hB2) 3; have e4 := cellOf (HL1.out.to hB2) 4; have e5 := cellOf (HL1.out.to hB2) 5; have le := box_lt (HL1.out.to hB2); clear hB2 d0 d1 d2 d3 d4 d5 ld)
  go_upto_region 7 with (go_at_call 16; refine (CopyO_any A0 A1 A2 A3 A4 A5 q0 q1 q2 q3 q4 q5 l _ HS.out HFAR.out (H.out.up HB2.out)).mono ?_; rintro e w3 ⟨C0, C1, C2, C3, C4, C5, r0, r1, r2, r3, r4, r5, cv, vs, rfl, ho, hB3⟩; have HO := hide ho; have HR3 := hide (heap_below HR2.out hB3); have HBB := hide hB3; have HB3 := hide (Below.to HB2.out hB3 (Nat.le_refl _)); clear ho hB3 e0 e1 e2 e3 e4 e5 le)
  generalize hwa : World.alloc _ _ = wa
  obtain ⟨hb4, hB4, hs4⟩ := alloc1 hwa
  obtain ⟨g, hg, hgB, hq4, cur, hgh⟩ := own_at6 (HO.out.to hB4).r.p (by omega)
  subst hg
  have HP4 := hide hb4
  have HO4 := hide (HO.out.to hB4)
  have HR4 := hide (heap_below HR3.out hB4)
  have HB4 := hide (Below.to HB3.out hB4 (Nat.le_refl _))
  have HGB := hide hgB
  have hc := HO4.out.r.p.cellAt (j * 3 + 1) (idx_lt hj (by omega))
  rw [flat_get hj (by omega)] at hc
  have hf := HO4.out.r.p.frozenAt (j * 3 + 1)
  have x3 := cellOf hb4 4
  have lg := box_lt hgh
  have lp := box_lt hb4
  have ij : (j : Int) < (l.ps.length : Int) := by omega
  have ij0 : (0 : Int) ≤ (j : Int) := by omega
  have iq4 : (l.ps.length : Int) ≤ (r4 : Int) := by omega
  have HGH := hide hgh
  have hgp : ¬ g = w3.heap.size := fun e => by
    rw [e, hb4] at hgh
    injection hgh with hgh
    injection hgh with _ hgh
    exact absurd hgh (by decide)
  have HGP := hide hgp
  clear hwa hb4 hB4 hs4 hgB hgh hgp
  go_upto_region 8 with (fail)
  generalize hwb : World.setCell _ _ _ = wb
  have hob : LoO wb w2.heap.size C0 C1 C2 C3 (some ⟨g, 0, none⟩) C5 r0 r1 r2 r3 r4 r5 (movL l j s) cv vs := by
    rw [← hwb]
    exact HO4.out.plug hj
  have hpb := HP4.out
  rw [← Below.heap_setCell wa ⟨g, j * 3 + 1, none⟩ (.int .i64 s) _ (fun e => HGP.out e.symm), hwb] at hpb
  have hng : w.heap.size + 1 ≠ g := by have := HGB.out; have := HB02.out.size; have := HRB.out; omega
  have hrb := HR4.out
  rw [← Below.heap_setCell wa ⟨g, j * 3 + 1, none⟩ (.int .i64 s) _ hng, hwb] at hrb
  have hBb : Below w.heap.size w wb := by
    rw [← hwb]
    exact Below.setCell HB4.out (show w.heap.size ≤ g by have := HGB.out; have := HB2.out.size; omega) _
  have HOB := hide hob
  have HBb := hide hBb
  have z0 := cellOf hpb 0
  have z1 := cellOf hpb 1
  have z2 := cellOf hpb 2
  have z3 := cellOf hpb 3
  have z4 := cellOf hpb 4
  have z5 := cellOf hpb 5
  have lpb := box_lt hpb
  have y0 := cellOf hrb 0; have v0 := unfrozenOf hrb 0; have y1 := cellOf hrb 1; have v1 := unfrozenOf hrb 1; have y2 := cellOf hrb 2; have v2 := unfrozenOf hrb 2; have y3 := cellOf hrb 3; have v3 := unfrozenOf hrb 3; have y4 := cellOf hrb 4; have v4 := unfrozenOf hrb 4; have y5 := cellOf hrb 5; have v5 := unfrozenOf hrb 5; have lr := box_lt hrb
  have HRb := hide hrb
  clear hwb hob hpb hng hrb hBb hc hf x3 lg lp
  go_wp2_with fail
  have hkp : w.heap.size + 1 < w2.heap.size := by have := HB02.out.size; have := HRB.out; omega
  clear z0 z1 z2 z3 z4 z5 lpb
  generalize hwv : World.setCell _ _ _ = wv
  obtain ⟨hv, hgv⟩ := set6 (HRb.out) hwv
  have hBv : Below w.heap.size w wv := Below.grown (HBb.out) hgv (HBb.out.size) (fun j hj => by injection hj with hj; omega)
  have HBV := hide hBv
  have t0 := cellOf hv 0
  have t1 := cellOf hv 1
  have t2 := cellOf hv 2
  have t3 := cellOf hv 3
  have t4 := cellOf hv 4
  have t5 := cellOf hv 5
  have lv := box_lt hv
  clear hwv hv hBv y0 y1 y2 y3 y4 y5 v0 v1 v2 v3 v4 v5 lr
  refine bodyPost_ret (v := .tuple #[.agg #[.slice C0 l.m.opts.length r0, .slice C1 l.m.rules.length r1, .slice C2 l.ss.length r2, .slice C3 l.us.length r3, .slice (some ⟨g, 0, none⟩) l.ps.length r4, .slice C5 l.ws.length r5], .int .i64 0]) ?_ rfl ⟨C0, C1, C2, C3, some ⟨g, 0, none⟩, C5, r0, r1, r2, r3, r4, r5, mov_ret C0 C1 C2 C3 _ C5 r0 r1 r2 r3 r4 r5 l j s, (HOB.out.kept hgv hkp).loom, HBV.out⟩
  clear hgv
  rw [results_cell_tmp6 rfl]
  go_simp
end Go.Proofs.Ytmabfnddedffoaa
/- A plug moved (the program): walks of its closures. -/
namespace Go.Proofs.Ytmabfnddedffoaa
open Go.RowKit
set_option linter.unusedVariables false
set_option linter.unusedSimpArgs false
theorem alloc4x {w w0 : World} {o p q r : Obj} (h : (((w.alloc o).alloc p).alloc q).alloc r = w0) : w0.heap[w.heap.size]? = some o ∧ w0.heap[w.heap.size + 1]? = some p ∧ w0.heap[w.heap.size + 1 + 1]? = some q ∧ w0.heap[w.heap.size + 1 + 1 + 1]? = some r ∧ Below w.heap.size w w0 ∧ w0.heap.size = w.heap.size + 4 := by
  obtain ⟨h1, h2, h3, h4, h5, h6⟩ := alloc4 h
  exact ⟨h1, h2, h3, h4, h5, h6⟩
set_option maxRecDepth 100000 in
set_option maxHeartbeats 1000000 in
theorem move1_any (p s : Int) (A0 A1 A2 A3 A4 A5 : Option Addr) (q0 q1 q2 q3 q4 q5 : Nat) (l : Lo) (pb lb sb : Nat) (w : World) (hm : l.ps.length ≤ maxLen) (hm2 : l.ss.length ≤ maxLen) (hp : w.heap[pb]? = some (.cells #[.int .i64 p] 3 (0, 0))) (hq : w.heap[sb]? = some (.cells #[.int .i64 s] 3 (0, 0))) (h : LoBox w lb A0 A1 A2 A3 A4 A5 q0 q1 q2 q3 q4 q5 l) :
    Calls Try.prog 114 #[.pointer (some ⟨pb, 0, none⟩), .pointer (some ⟨lb, 0, none⟩), .pointer (some ⟨sb, 0, none⟩)] w fun e w' => e = .returned (.bool (movB l p s)) ∧ Below w.heap.size w w' := by
  have d0 := cellOf hp 0
  have e0 := cellOf hq 0
  have c2 := cellOf h 2
  have c4 := cellOf h 4
  have l0 := box_lt hp
  have l1 := box_lt hq
  have l2 := box_lt h
  unfold maxLen at hm hm2
  unfold movB
  cases hz : btw p 0 ((l.ps.length : Int) - 1) with
  | false =>
    have HZ := hide hz
    clear h hp hq hz
    go_enter Try.func114, Try.ntmps114
    go_wp2_with (go_at_call 54; refine (withinB_any _ _ _ _ _ HZ.out).mono ?_; rintro e w1 ⟨rfl, rfl⟩)
    go_ret
    exact ⟨rfl, Below.refl _ _⟩
  | true =>
    obtain ⟨y, hy⟩ : ∃ y, btw s 0 ((l.ss.length : Int) - 1) = y := ⟨_, rfl⟩
    rw [hy, Bool.true_and]
    have HZ := hide hz
    have HY := hide hy
    clear h hp hq hz hy
    go_enter Try.func114, Try.ntmps114
    go_wp2_with (go_at_call 54; first | (have hgd := HG1; clear hgd; refine (withinB_any _ _ _ _ _ HY.out).mono ?_; rintro e w1 ⟨rfl, rfl⟩) | (refine (withinB_any _ _ _ _ _ HZ.out).mono ?_; rintro e w1 ⟨rfl, rfl⟩; have HG1 := HZ))
    go_ret
    exact ⟨rfl, Below.refl _ _⟩
set_option maxRecDepth 100000 in
set_option maxHeartbeats 1000000 in
theorem have_move (p0 p1 p2 : Value) (b : Bool) (A0 A1 A2 A3 A4 A5 : Option Addr) (q0 q1 q2 q3 q4 q5 : Nat) (l : Lo) (w : World) (hs : SizedL l) (h : LoA w w.heap.size A0 A1 A2 A3 A4 A5 q0 q1 q2 q3 q4 q5 l)
    (hf : l.err = 0 → ∀ W, Below w.heap.size w W → Calls Try.prog 114 #[p0, p1, p2] W fun e w' => e = .returned (.bool b) ∧ Below W.heap.size W w') :
    Calls Try.prog 82 #[.agg #[.slice A0 l.m.opts.length q0, .slice A1 l.m.rules.length q1, .slice A2 l.ss.length q2, .slice A3 l.us.length q3, .slice A4 l.ps.length q4, .slice A5 l.ws.length q5], .func (.func 114) #[] #[p0, p1, p2]] w fun e w' => e = .returned (.int .i64 (havE l b)) ∧ Below w.heap.size w w' := by
  have H := hide h
  have HF := hide hf
  obtain ⟨z, hz⟩ : ∃ z, l.err = z := ⟨_, rfl⟩
  have HZ := hide hz
  clear h hf
  by_cases hz0 : z = 0
  · subst hz0
    have hr : havE l b = mustE b 1 := by unfold havE; rw [hz]; rfl
    rw [hr]
    have hf := HF.out hz
    have HF2 := hide hf
    clear hf hz hr
    go_enter Try.func82, Try.ntmps82
    go_upto_region 1 with (fail)
    generalize hw0 : World.alloc _ _ = w0
    obtain ⟨hb0, hB0, hs0⟩ := alloc1 hw0
    have c0 := cellOf hb0 0; have c1 := cellOf hb0 1; have c2 := cellOf hb0 2; have c3 := cellOf hb0 3; have c4 := cellOf hb0 4; have c5 := cellOf hb0 5
    have hlb := box_lt hb0
    have hck := Check_any A0 A1 A2 A3 A4 A5 q0 q1 q2 q3 q4 q5 l w0 hs (H.out.up hB0)
    rw [HZ.out] at hck
    have HCK := hide hck
    have HB0 := hide hB0
    clear hw0 hb0 hB0 hs0 hck
    go_wp2_with (first | (go_at_call 17; refine HCK.out.mono ?_; rintro e w1 ⟨rfl, hB1⟩; have HB1 := hide (Below.to HB0.out hB1 (Nat.le_refl _)); clear hB1 c0 c1 c2 c3 c4 c5 hlb) | (go_at_call 114; refine (HF2.out _ HB1.out).mono ?_; rintro e w2 ⟨rfl, hB2⟩; have HB2 := hide (Below.to HB1.out hB2 (Nat.le_refl _)); clear hB2) | (go_at_call 57; refine (must_any _ _ _).mono ?_; rintro e w3 ⟨rfl, rfl⟩))
    go_ret
    exact ⟨rfl, HB2.out⟩
  · have hr : havE l b = z := by unfold havE; rw [hz, if_pos hz0]
    have hz1 : (z != 0) = true := by simpa using hz0
    rw [hr]
    clear hz hr hz0
    go_enter Try.func82, Try.ntmps82
    go_upto_region 1 with (fail)
    generalize hw0 : World.alloc _ _ = w0
    obtain ⟨hb0, hB0, hs0⟩ := alloc1 hw0
    have c0 := cellOf hb0 0; have c1 := cellOf hb0 1; have c2 := cellOf hb0 2; have c3 := cellOf hb0 3; have c4 := cellOf hb0 4; have c5 := cellOf hb0 5
    have hlb := box_lt hb0
    have hck := Check_any A0 A1 A2 A3 A4 A5 q0 q1 q2 q3 q4 q5 l w0 hs (H.out.up hB0)
    rw [HZ.out] at hck
    have HCK := hide hck
    have HB0 := hide hB0
    clear hw0 hb0 hB0 hs0 hck
    go_wp2_with (go_at_call 17; refine HCK.out.mono ?_; rintro e w1 ⟨rfl, hB1⟩; have HB1 := hide (Below.to HB0.out hB1 (Nat.le_refl _)); clear hB1 c0 c1 c2 c3 c4 c5 hlb)
    go_ret
    exact ⟨rfl, HB1.out⟩

set_option maxRecDepth 100000 in
set_option maxHeartbeats 1000000 in
theorem move2_any (A : Option Addr) (f : List Int) (q : Nat) (w : World) (h : Ints w w.heap.size (.slice A f.length q) f) (hl : f.length ≤ 1000) :
    Calls Try.prog 115 #[.slice A f.length q] w fun e w' => ∃ v, e = .returned v ∧ w'.ownsRow w.heap.size 3 1 v f.length (f.map (Value.int .i64)) ∧ Below w.heap.size w w' := by
  have HF := hide h.flat6
  clear h
  go_enter Try.func115, Try.ntmps115
  go_wp2_with (go_at_call 116; refine (cloneFm_any A f.length q _ _ HF.out one_ints6 hl).mono ?_; rintro e w1 ⟨v, rfl, ho, hB⟩; have HO := hide ho; have HB := hide hB; clear ho hB)
  go_ret
  exact ⟨v, rfl, HO.out, HB.out⟩
/-- What each operation of the first statement leaves. -/
def movO (w0 : World) (l : Lo) (cv : Nat → Value) (j : Nat) (v : Value) (w : World) : Prop :=
  match j with
  | 2 => w.ownsRow w0.heap.size 97 3 v l.ss.length (flat l.ss.length 3 (spF l.ss))
  | 5 => w.ownsRow w0.heap.size 85 4 v l.us.length (flat l.us.length 4 (ruF l.us))
  | 8 => w.ownsRow w0.heap.size 63 3 v l.ps.length (flat l.ps.length 3 (plF l.ps))
  | 11 => w.ownsRow w0.heap.size 68 7 v l.ws.length (flat l.ws.length 7 (wiF l.ws cv))
  | 12 => ∃ a b c d, v = .agg #[.slice none 0 0, .slice none 0 0, a, b, c, d] ∧ w.ownsRow w0.heap.size 97 3 a l.ss.length (flat l.ss.length 3 (spF l.ss)) ∧ w.ownsRow w0.heap.size 85 4 b l.us.length (flat l.us.length 4 (ruF l.us)) ∧
      w.ownsRow w0.heap.size 63 3 c l.ps.length (flat l.ps.length 3 (plF l.ps)) ∧ w.ownsRow w0.heap.size 68 7 d l.ws.length (flat l.ws.length 7 (wiF l.ws cv))
  | 13 => ∃ p, v = .pointer (some ⟨p, 0, none⟩) ∧ w0.heap.size ≤ p ∧ w.heap[p]? = some (.cells #[.slice none 0 0, .slice none 0 0, .slice none 0 0, .slice none 0 0, .slice none 0 0, .slice none 0 0] 31 (0, 0))
  | _ => True
theorem movO_keep {w0 : World} {l : Lo} {cv : Nat → Value} (j : Nat) {v : Value} {w w' : World} (hb : Below w.heap.size w w') (h : movO w0 l cv j v w) : movO w0 l cv j v w' := by
  unfold movO at *
  split at h
  · exact owns_below h hb
  · exact owns_below h hb
  · exact owns_below h hb
  · exact owns_below h hb
  · obtain ⟨a, b, c, d, h1, h2, h3, h4, h5⟩ := h; exact ⟨a, b, c, d, h1, owns_below h2 hb, owns_below h3 hb, owns_below h4 hb, owns_below h5 hb⟩
  · obtain ⟨p, h1, h2, h3⟩ := h; exact ⟨p, h1, h2, heap_below h3 hb⟩
  · trivial
theorem setp {w wz : World} {p t i : Nat} {C : Array Value} {b : Value} (h : w.heap[p]? = some (.cells C t (0, 0))) (hz : w.setCell ⟨p, i, none⟩ b = wz) : wz.heap[p]? = some (.cells (C.setIfInBounds i b) t (0, 0)) ∧ w.grownBy wz (some p) := by
  subst hz
  refine ⟨setCellOf h _, ?_⟩
  refine only_setCell (only_refl _ _) ?_ _
  exact .inl rfl
end Go.Proofs.Ytmabfnddedffoaa

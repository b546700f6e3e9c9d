/- Part 34 of this claim's texts: walks and plain laws. -/
import Derived.Test.YtehadoecnmfeoaaGreatRows
import Derived.Test.YtehadoecnmfeoaaGreatGBC28
import Derived.Deep.DeepMust
import Derived.Deep.RegionHeld3
import Derived.Deep.DrawnRows
import Derived.Test.YtehadoecnmfeoaaGreatGBC3
import Derived.Test.YtehadoecnmfeoaaGreatGBC33
import Derived.Test.YtehadoecnmfeoaaGreatGBC14
import Derived.Test.YtehadoecnmfeoaaGreatGBC12
import Derived.Test.YtehadoecnmfeoaaGreatGBC13
import Derived.Test.YtehadoecnmfeoaaGreatGBC30
import Derived.Test.YtehadoecnmfeoaaGreatGBC2
/- The first variant that has a wire though it should not: walk. -/
namespace Go.Proofs.YtehadoecnmfeoaaGreat
open Go.RowKit
set_option linter.unusedVariables false
set_option linter.unusedSimpArgs false
theorem imp_head (m : Mo) (f g : List Int) : (impL m f g).head? = (allM m).find? fun x => evF1 (vf x) f && !evF1 (vf x) g := by
  unfold impL
  rw [satM_all, head_find]
theorem mee_head (m : Mo) (L : List (List Int)) : (meeL m L).head? = (allM m).find? fun x => allF (vf x) L := by
  unfold meeL
  rw [satM_all, head_find]
theorem allM_len6 {m : Mo} {x : List Bool} (h : x ∈ allM m) : x.length = m.opts.length := by
  have h1 := (List.mem_filter.1 h).1
  have h2 := exts_len _ _ _ h1
  simpa using h2
theorem find_len {m : Mo} {p : List Bool → Bool} {x : List Bool} (h : (allM m).find? p = some x) : x.length = m.opts.length := allM_len6 (List.mem_of_find?_eq_some h)
theorem empty_head {α : Type} (l : List α) : l.isEmpty = l.head?.isNone := by cases l <;> rfl
theorem Forms.at7 {w : World} {B n q : Nat} {A : Option Addr} {L : List (List Int)} (h : Forms w B (.slice A n q) L) {k : Nat} (hk : k < L.length) : ∃ b off f Af qf, Hid (L.getD k [] = f) ∧ A = some ⟨b, off, none⟩ ∧ b < B ∧ L.length ≤ q ∧ Hid (Ints w B (.slice Af f.length qf) f) ∧ w.cell? ⟨b, off + k, none⟩ = some (.slice Af f.length qf) := by
  obtain ⟨fv, hs, hf⟩ := h
  obtain ⟨h1, h2, b, off, h3, h4, h5⟩ := sl_at hs hk
  have hx := hf k hk
  obtain ⟨Af, qf, e⟩ := Sl.form hx
  have c0 := h5 0 (by omega)
  rw [Nat.mul_one, Nat.add_zero, e] at c0
  rw [e] at hx
  exact ⟨b, off, _, Af, qf, rfl, h3, h4, by omega, hx, c0⟩
theorem LoBox.grown {w w' : World} {lb b t : Nat} {A0 A1 A2 A3 A4 A5 : Option Addr} {q0 q1 q2 q3 q4 q5 : Nat} {l : Lo} {cv : Value} (h : LoBox w lb A0 A1 A2 A3 A4 A5 q0 q1 q2 q3 q4 q5 l) (hb : w.heap[b]? = some (.cells #[cv] t (0, 0))) (ht : t ≠ 31) (hg : w.grownBy w' (some b)) : LoBox w' lb A0 A1 A2 A3 A4 A5 q0 q1 q2 q3 q4 q5 l := by
  refine (hg.block lb (box_lt h) (fun e => ?_)).trans h
  injection e with e
  subst e
  have h1 : w.heap[lb]? = _ := h
  rw [hb] at h1
  injection h1 with h1
  injection h1 with _ h1
  exact ht h1
set_option maxRecDepth 100000 in
set_option maxHeartbeats 4000000 in
theorem extra_any (k0 : Nat) (fs : List (List Int)) (Aw : Option Addr) (qw : Nat) (A0 A1 A2 A3 A4 A5 : Option Addr) (q0 q1 q2 q3 q4 q5 : Nat) (l : Lo) (w : World) (hs : SizedL l) (h : LoA w w.heap.size A0 A1 A2 A3 A4 A5 q0 q1 q2 q3 q4 q5 l) (ok : LoOk l) (hk : k0 < l.ws.length) (hf : Forms w w.heap.size (.slice Aw fs.length qw) fs) (h60 : fs.length ≤ 60) (hv : ∀ f ∈ fs, validF l.m.opts.length f = true) (hN : l.m.opts.length ≤ 12) :
    Calls Tryz.prog 57 #[.agg #[.slice A0 l.m.opts.length q0, .slice A1 l.m.rules.length q1, .slice A2 l.ss.length q2, .slice A3 l.us.length q3, .slice A4 l.ps.length q4, .slice A5 l.ws.length q5], .int .i64 k0, .slice Aw fs.length qw] w (LokP (frstV l.m (l.ws.getD k0 Wi.o).form fs 2) w) := by
  obtain ⟨bw, offw, x, Af, qf, HX, hA, hbw, hq5, HFO, e0, e1, e2, e3, e4, e5, e6⟩ := h.wi hk
  subst hA
  rw [HX.out]
  have hxv : validF l.m.opts.length x.form = true := by
    have h1 := (LoOk.wi ok hk).2
    rw [HX.out] at h1
    exact h1
  have hxl : x.form.length ≤ maxLen := (hs.wn x (by rw [← HX.out]; exact getD_mem7 hk)).2
  obtain ⟨res, hres⟩ : ∃ r, frstV l.m x.form fs 2 = r := ⟨_, rfl⟩
  rw [hres]
  have HRES := hide hres
  have H := hide h
  have HS := hide hs
  have HF := hide hf
  have HV := hide hv
  have HXV := hide hxv
  have OK := hide ok
  have E6 := hide e6
  have ii : (k0 : Int) < (l.ws.length : Int) := by omega
  have ik0 : (0 : Int) ≤ (k0 : Int) := by omega
  have iq : (l.ws.length : Int) ≤ (q5 : Int) := by omega
  clear h hs hf hv hxv ok hres e0 e1 e2 e3 e4 e5 e6 hq5
  go_enter Tryz.func57, Tryz.ntmps57
  go_upto_region 2 with (fail)
  generalize hw0 : World.alloc _ _ = w0
  obtain ⟨hb0, hb1, hB0, hs0⟩ := alloc2 hw0
  have HL0 : Hid (LoBox w0 w.heap.size A0 A1 A2 A3 A4 (some ⟨bw, offw, none⟩) q0 q1 q2 q3 q4 q5 l) := hb0
  have HE0 : Hid (EarAt w0 (w.heap.size + 1) l.m.opts.length (xtrV l.m x.form fs 0)) := by
    rw [xtrV_zero]
    exact ⟨_, hb1, rfl, fun x hx => by cases hx⟩
  have HB0 := hide hB0
  clear hw0 hb0 hb1 hB0 hs0
  go_wp2_with fail
  go_loopw [9, 10, 11, 12, 15] (fun _ _ _ _ i wr => ∃ k : Nat, i = .int .i64 k ∧ k ≤ fs.length ∧ Hid (Below w.heap.size w wr) ∧ Hid (LoBox wr w.heap.size A0 A1 A2 A3 A4 (some ⟨bw, offw, none⟩) q0 q1 q2 q3 q4 q5 l) ∧ Hid (EarAt wr (w.heap.size + 1) l.m.opts.length (xtrV l.m x.form fs k))) (fun _ _ _ _ i _ => fs.length - (intOf i).toNat)
  case atStart => exact ⟨0, rfl, Nat.zero_le _, HB0.out, HL0.out, HE0.out⟩
  case round =>
    obtain ⟨k, rfl, hk2, HB, HL, HE⟩ := hrel
    by_cases hkl : k < fs.length
    · obtain ⟨bf, off, f, Ag, qg, HFK, hA2, hbf, hqf, HG, ef⟩ := HF.out.at7 hkl
      subst hA2
      have hfv : validF l.m.opts.length f = true := by rw [← HFK.out]; exact HV.out _ (getD_mem7 hkl)
      have hfl : f.length ≤ maxLen := by have := (validF_pos hfv).2; unfold maxLen; omega
      have z0 := (HB.out.cell (p := ⟨bf, off + k, none⟩) hbf).trans ef
      have lbf : bf < wr.heap.size := Nat.lt_of_lt_of_le hbf HB.out.size
      have i0 : (0 : Int) ≤ (k : Int) := by omega
      have i1 : (k : Int) < (fs.length : Int) := by omega
      have iqf : (fs.length : Int) ≤ (qw : Int) := by omega
      have hef : l.m.errF [f, x.form] = 0 := errF_all OK.out.m (fun g hg => by
        rcases List.mem_cons.1 hg with h1 | h1
        · rw [h1]; exact hfv
        · rw [List.mem_singleton] at h1; rw [h1]; exact HXV.out)
      obtain ⟨o, ho⟩ : ∃ o, (impL l.m f x.form).head? = o := ⟨_, rfl⟩
      have hoe : (impL l.m f x.form).isEmpty = o.isNone := by rw [empty_head, ho]
      have hstep : xtrV l.m x.form fs (k + 1) = soon (xtrV l.m x.form fs k) o := by rw [xtrV_step hkl, ← ho, imp_head, HFK.out]
      have hol : ∀ y, o = some y → y.length = l.m.opts.length := fun y hy => by
        rw [imp_head] at ho
        exact find_len (ho.trans hy)
      have HEF := hide hef
      have HO := hide ho
      have HOE := hide hoe
      have HST := hide hstep
      have HOL := hide hol
      clear hfv hqf ef hef ho hoe hstep hol
      go_upto_region 5 with (fail)
      clear z0 lbf hbf
      have g6 := (HB.out.cell (p := ⟨bw, offw + k0 * 7 + 6, none⟩) hbw).trans E6.out
      have lbw : bw < wr.heap.size := Nat.lt_of_lt_of_le hbw HB.out.size
      have c0 := cellOf HL.out 0; have c1 := cellOf HL.out 1; have c2 := cellOf HL.out 2; have c3 := cellOf HL.out 3; have c4 := cellOf HL.out 4; have c5 := cellOf HL.out 5
      have lc := box_lt HL.out
      have HHr := hide (H.out.up HB.out)
      have HGr := hide (HG.out.up HB.out)
      have HXr := hide (HFO.out.up HB.out)
      refine wp_region_held_drew (S := (fun w' => Below wr.heap.size wr w')) (by kernel_rfl) ?_ (fun hHeld => ?_)
      · try dsimp only
        exact (by repeat (first | exact Below.refl _ _ | assumption | refine Below.drew ?_ | refine Below.drewN ?_ _ | refine Below.allocT ?_ (Nat.le_refl _) _ | refine Below.setCell ?_ (by simp <;> omega) _ | refine Below.to ?_ (by assumption) (Nat.le_refl _)))
      refine zT 0 rfl ?_
      refine zT 1 rfl ?_
      refine zT 2 rfl ?_
      refine zT 3 rfl ?_
      refine zT 4 rfl ?_
      refine zT 5 rfl ?_
      refine zT 6 rfl ?_
      refine zT 7 rfl ?_
      refine zT 8 rfl ?_
      refine wpAnyH_ready (rs := [9]) (by kernel_rfl) (by simp) ?_
      refine AllReadyH.cons rfl (fun K hK => ?_) AllReadyH.nil
      go_simp
      ((go_at_call 126; refine (Implies_n l.m f x.form _ _ _ _ _ HS.out.m hfl hxl (HHr.out.up hHeld).m (HGr.out.up hHeld) (HXr.out.up hHeld) HEF.out hN).mono ?_; rw [HO.out, HOE.out]; rintro e w2 ⟨v2, rfl, hop, hB2⟩))
      (try dsimp only)
      refine hK.out _ _ ?_ (fun hNext => ?_)
      · try dsimp only
        exact (by repeat (first | exact Below.refl _ _ | assumption | refine Below.drew ?_ | refine Below.drewN ?_ _ | refine Below.allocT ?_ (Nat.le_refl _) _ | refine Below.setCell ?_ (by simp <;> omega) _ | refine Below.to ?_ (by assumption) (Nat.le_refl _)))
      clear hK K hHeld
      have hHeld := hNext
      clear hNext
      (try dsimp only at hHeld)
      try simp only [zX]
      refine zT 10 rfl ?_
      refine zT 11 rfl ?_
      refine zT 12 rfl ?_
      refine zT 13 rfl ?_
      refine zT 14 rfl ?_
      refine zT 15 rfl ?_
      refine zT 16 rfl ?_
      refine wpAnyH_done (by kernel_rfl) ?_ _
      obtain ⟨Av, nv, qv, hv2, _⟩ := hop.form
      subst hv2
      have HOP := hide hop
      have HB2 := hide hHeld
      have HL2 := hide (HL.out.to hHeld)
      have HE2 := hide (HE.out.up hHeld)
      clear hHeld hop c0 c1 c2 c3 c4 c5 lc g6 lbw
      cases o with
      | none =>
        have hxe : xtrV l.m x.form fs (k + 1) = xtrV l.m x.form fs k := by
          rw [HST.out]
          cases xtrV l.m x.form fs k <;> rfl
        have HXE := hide hxe
        clear hxe
        go_wp2_with fail
        go_roundw
        case rel => exact ⟨k + 1, by go_num, by omega, Below.to HB.out HB2.out (Nat.le_refl _), HL2.out, by rw [HXE.out]; exact HE2.out⟩
        case measure => simp [intOf]; omega
      | some y =>
        go_wp2_with (go_at_call 127; refine (show_any (w.heap.size + 1) l.m.opts.length (xtrV l.m x.form fs k) (some y) _ w2 (by omega) HE2.out HOP.out HOL.out).mono ?_; rintro e w3 ⟨rfl, hE3, hg3⟩; have HE3 := hide hE3; have HG3 := hide hg3; clear hE3 hg3)
        go_roundw
        case rel => exact ⟨k + 1, by go_num, by omega, Below.grown (Below.to HB.out HB2.out (Nat.le_refl _)) HG3.out (Nat.le_trans HB.out.size HB2.out.size) (fun j hj => by injection hj with hj; omega), by
          obtain ⟨cv, hcv, _⟩ := HE2.out
          exact HL2.out.grown hcv (by decide) HG3.out, by rw [HST.out]; exact HE3.out⟩
        case measure => simp [intOf]; omega
    · have hke : k = fs.length := by omega
      subst hke
      obtain ⟨cv, hcv, hop, _⟩ := HE.out
      rw [xtrV_all, HRES.out] at hop
      have x0 := cellOf hcv 0
      have lx := box_lt hcv
      have HOP := hide hop
      clear hcv hop
      go_wp2_with fail
      go_ret
      exact ⟨_, rfl, HOP.out, HB.out⟩
end Go.Proofs.YtehadoecnmfeoaaGreat
/- Modules of wires that go together: plain laws. -/
namespace Go.Proofs.YtehadoecnmfeoaaGreat
set_option linter.unusedVariables false
set_option linter.unusedSimpArgs false
def tgB (m : Mo) (f g : List Int) : Bool := (allM m).all fun x => evF1 (vf x) f == evF1 (vf x) g
def sometB (m : Mo) (f : List Int) : Bool := (allM m).any fun x => evF1 (vf x) f
def fmW (l : Lo) (w : Nat) : List Int := (l.ws.getD w Wi.o).form
def fndD (l : Lo) (D : List Md) (w : Nat) : Int := idxI (fun d => tgB l.m d.f (fmW l w)) D
def putD (D : List Md) (k w : Nat) : List Md := D.set k ⟨(D.getD k Md.o).f, (D.getD k Md.o).ws ++ [(w : Int)]⟩
def divS (l : Lo) (D : List Md) (w : Nat) : List Md := if sometB l.m (fmW l w) = true then (if 0 ≤ fndD l D w then putD D (fndD l D w).toNat w else D ++ [⟨fmW l w, [(w : Int)]⟩]) else D
def divN (l : Lo) : Nat → List Md
  | 0 => []
  | n + 1 => divS l (divN l n) n
def divL (l : Lo) : List Md := if l.err = 0 then divN l l.ws.length else []
structure DivI (l : Lo) (n : Nat) (D : List Md) : Prop where
  len : D.length ≤ n
  at_ : ∀ i, i < D.length → ∃ (w0 : Nat) (t : List Int), (D.getD i Md.o).ws = (w0 : Int) :: t ∧ w0 < n ∧ (D.getD i Md.o).f = fmW l w0 ∧ t.length < n
end Go.Proofs.YtehadoecnmfeoaaGreat
/- The rules because of which no variant meets a formula. Plain laws. -/
namespace Go.Proofs.YtehadoecnmfeoaaGreat
set_option linter.unusedVariables false
def rulesAt (m : Mo) (K : List Nat) : List (List Int) := K.map fun k => m.rules.getD k []
def corS (m : Mo) (f : List Int) (K : List Nat) (j : Nat) : List (List Bool) := (exts m.opts.length []).filter fun x => evF1 (vf x) f && (allF (vf x) (rulesAt m K) && allF (vf x) (m.rules.drop j))
def kept (m : Mo) (f : List Int) : Nat → List Nat
  | 0 => []
  | i + 1 => if (corS m f (kept m f i) (i + 1)).isEmpty then kept m f i else kept m f i ++ [i]
def fewM (m : Mo) (K : List Nat) : Mo := ⟨m.opts, rulesAt m K⟩
def corE (m : Mo) (f : List Int) : Int := if m.errF [f] ≠ 0 then m.errF [f] else if whereF (allM m) f ≠ [] then 1 else 0
def corL (m : Mo) (f : List Int) : List Nat := if corE m f = 0 then kept m f m.rules.length else []
end Go.Proofs.YtehadoecnmfeoaaGreat
/- The rules because of which no variant meets a formula: walk. -/
namespace Go.Proofs.YtehadoecnmfeoaaGreat
open Go.RowKit
set_option linter.unusedVariables false
set_option linter.unusedSimpArgs false
def CorP (l : List Nat) (er : Int) (w : World) (e : Ending) (w' : World) : Prop := ∃ v, e = .returned (.tuple #[v, .int .i64 er]) ∧ Nods w' w'.heap.size v l ∧ Below w.heap.size w w'
def slcV (A : Option Addr) (n cap k : Nat) : Value := sliced A k n cap 1
theorem Forms.drop {w : World} {B n cap : Nat} {A : Option Addr} {l : List (List Int)} {k : Nat} (h : Forms w B (.slice A n cap) l) (hk : k ≤ l.length) : Forms w B (slcV A n cap k) (l.drop k) := by
  obtain ⟨fv, ⟨A1, b1, off1, cap1, hv, hn, hA, hc⟩, h2⟩ := h
  injection hv with e1 e2 e3
  subst e1 e2 e3
  unfold slcV sliced
  split
  · rename_i hck
    have h0 : l.drop k = [] := List.drop_eq_nil_of_le (by omega)
    rw [h0, show l.length - k = 0 by omega, show cap - k = 0 by omega]
    exact ⟨fun _ => undef, ⟨A, b1, off1, 0, rfl, Nat.le_refl _, .inr rfl, fun i j hi hj => by simp at hi⟩, fun i hi => by simp at hi⟩
  · refine ⟨fun i => fv (k + i), ⟨A.map (·.add (k * 1)), b1, off1 + k, cap - k, by rw [List.length_drop], by rw [List.length_drop]; omega, ?_, fun i j hi hj => ?_⟩, fun i hi => ?_⟩
    · rcases hA with ⟨hA, hb⟩ | hA
      · subst hA
        refine .inl ⟨?_, hb⟩
        simp only [Option.map_some, Nat.mul_one]
        congr 1
        unfold Addr.add
        split
        · rename_i h0; rw [h0]; rfl
        · rfl
      · exact .inr (by rw [List.length_drop]; omega)
    · rw [List.length_drop] at hi
      have := hc (k + i) j (by omega) hj
      rw [show off1 + k + (i * 1 + j) = off1 + ((k + i) * 1 + j) by omega]
      exact this
    · rw [List.length_drop] at hi
      have := h2 (k + i) (by omega)
      rw [show (l.drop k).getD i [] = l.getD (k + i) [] by simp [List.getD_eq_getElem?_getD]]
      exact this
structure CorI (m : Mo) (f : List Int) (w1 : World) (F : Fo) (a k : Nat) (w2 : World) (F1 : Fo) : Prop where
  op : OpR k w1 F w2 F1
  lt : a < F1.ks.length
  ev : ∀ v, ev F1.ks v a = evF1 v f
end Go.Proofs.YtehadoecnmfeoaaGreat
/- Core as the elder program has it: walk. -/
namespace Go.Proofs.YtehadoecnmfeoaaGreat
open Go.RowKit
set_option linter.unusedVariables false
set_option linter.unusedSimpArgs false
def NStk (B : Nat) (w : World) (sv : Value) (S : List Nat) : Prop := w.ownsRow B 3 1 sv S.length (S.map fun (n : Nat) => Value.int .i64 n)
theorem NStk.base {B B' : Nat} {w : World} {sv : Value} {S : List Nat} (h : NStk B w sv S) (hB : B' ≤ B) : NStk B' w sv S := owns_base h hB
def butN (i : Nat) (S : List Nat) : List Nat := S.filter fun k => !(k == i)
structure OFs (w : World) (e B : Nat) (wr : World) (sv : Value) (L : List (List Int)) (vs : List Value) : Prop where
  len : vs.length = L.length
  own : wr.ownsRow B e 1 sv L.length vs
  row : ∀ i, i < L.length → Ints w w.heap.size (vs.getD i undef) (L.getD i [])
def fewS (fb : Nat) (rv : Value) (k : Nat) : Prop := k = fb ∨ rv.ownBlock = some k
end Go.Proofs.YtehadoecnmfeoaaGreat
/- The greatest fill of a run: walk. -/
namespace Go.Proofs.YtehadoecnmfeoaaGreat
open Go.RowKit
set_option linter.unusedVariables false
set_option linter.unusedSimpArgs false
def fmsL (l : Lo) (T : List Nat) : List (List Int) := T.map fun i => (l.ws.getD i Wi.o).form
def szsL (l : Lo) (T : List Nat) : List Int := T.map fun i => (l.ws.getD i Wi.o).size
structure WorS (w0 wr : World) (B lb : Nat) (A0 A1 A2 A3 A4 A5 : Option Addr) (q0 q1 q2 q3 q4 q5 : Nat) (l : Lo) (fv sv : Value) (Fs : List (List Int)) (Ss : List Int) (vs : List Value) : Prop where
  below : Below w0.heap.size w0 wr
  box : LoBox wr lb A0 A1 A2 A3 A4 A5 q0 q1 q2 q3 q4 q5 l
  f : OFs w0 46 B wr fv Fs vs
  s : wr.ownsRow B 3 1 sv Ss.length (Ss.map fun (n : Int) => Value.int .i64 n)
  lt : w0.heap.size ≤ B ∧ B ≤ wr.heap.size
section
variable {w0 wr w' : World} {B lb : Nat} {A0 A1 A2 A3 A4 A5 : Option Addr} {q0 q1 q2 q3 q4 q5 : Nat} {l : Lo} {fv sv v1 x : Value} {Fs : List (List Int)} {Ss : List Int} {vs : List Value} {m : Int} {o : Obj} {f : List Int}
theorem own_low {b e sz n : Nat} {v : Value} {xs : List Value} (h0 : Below w0.heap.size w0 wr) (h : wr.ownsRow b e sz v n xs) (hb : w0.heap.size ≤ b) (hg : (wr.alloc o).grownBy w' v.ownBlock) : Below w0.heap.size w0 w' :=
  Below.grown (Below.to h0 ((Below.refl wr.heap.size wr).alloc (Nat.le_refl _) o) (Nat.le_refl _)) hg (by have := h0.size; simp; omega) (fun k hk => Nat.le_trans hb (h.lt k hk).1)
end
theorem take_snoc {T : List Nat} {k : Nat} (h : k < T.length) : T.take (k + 1) = T.take k ++ [T.getD k 0] := by
  rw [List.take_add_one, List.getElem?_eq_getElem h, List.getD_eq_getElem?_getD, List.getElem?_eq_getElem h]
  rfl
def worN (l : Lo) (run : Nat) : Int := mosN l.m (fmsL l (thruL l run)) (szsL l (thruL l run))
def worX (l : Lo) (run : Nat) : List Bool := mosX l.m (fmsL l (thruL l run)) (szsL l (thruL l run))
def worE (l : Lo) (run : Nat) : Int := mosE l.m (fmsL l (thruL l run)) (szsL l (thruL l run))
end Go.Proofs.YtehadoecnmfeoaaGreat
/- Formulas copied: walk. -/
namespace Go.Proofs.YtehadoecnmfeoaaGreat
open Go.RowKit
set_option linter.unusedVariables false
set_option linter.unusedSimpArgs false
structure FoS (w0 wr : World) (B : Nat) (v : Value) (L : List (List Int)) (vs : List Value) : Prop where
  below : Below w0.heap.size w0 wr
  len : vs.length = L.length
  own : wr.ownsRow B 46 1 v L.length vs
  row : ∀ i, i < L.length → wr.ownsRow B 3 1 (vs.getD i undef) (L.getD i []).length ((L.getD i []).map (Value.int .i64))
  lt : w0.heap.size ≤ B ∧ B ≤ wr.heap.size
end Go.Proofs.YtehadoecnmfeoaaGreat

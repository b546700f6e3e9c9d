/- The node of formulas that all have to hold: walk. -/
import Derived.Test.YtohofcmikfkilaaRows
import Derived.Test.YtohofcmikfkilaaF6
namespace Go.Proofs.Ytohofcmikfkilaa
open Go.RowKit
open Go.Maps (Keyed)
set_option linter.unusedVariables false
set_option linter.unusedSimpArgs false
/-- The slice v holds the formulas fs, all below block B. -/
def Forms (w : World) (B : Nat) (v : Value) (fs : List (List Int)) : Prop := ∃ fv : Nat → Value, Sl w B 1 v fs.length (fun i _ => fv i) ∧ ∀ i, i < fs.length → Ints w B (fv i) (fs.getD i [])
theorem Ints.below {w w' : World} {B : Nat} {v : Value} {f : List Int} (h : Ints w B v f) (hb : Below B w w') : Ints w' B v f := Sl.below h hb
theorem Ints.more {w : World} {B B' : Nat} {v : Value} {f : List Int} (h : Ints w B v f) (hB : B ≤ B') : Ints w B' v f := Sl.more h hB
theorem Forms.below {w w' : World} {B : Nat} {v : Value} {fs : List (List Int)} (h : Forms w B v fs) (hb : Below B w w') : Forms w' B v fs := by
  obtain ⟨fv, h1, h2⟩ := h
  exact ⟨fv, Sl.below h1 hb, fun i hi => Sl.below (h2 i hi) hb⟩
theorem Forms.more {w : World} {B B' : Nat} {v : Value} {fs : List (List Int)} (h : Forms w B v fs) (hB : B ≤ B') : Forms w B' v fs := by
  obtain ⟨fv, h1, h2⟩ := h
  exact ⟨fv, Sl.more h1 hB, fun i hi => Sl.more (h2 i hi) hB⟩
theorem allF_snoc (v : Nat → Bool) (l : List (List Int)) (f : List Int) : allF v (l ++ [f]) = (allF v l && evF1 v f) := by simp [allF]
theorem getD_mem {α : Type} {l : List α} {z : α} {k : Nat} (h : k < l.length) : l.getD k z ∈ l := by
  rw [List.getD_eq_getElem?_getD, List.getElem?_eq_getElem h]; exact List.getElem_mem _
theorem take_getD {α : Type} {l : List α} {z : α} {k : Nat} (h : k < l.length) : l.take (k + 1) = l.take k ++ [l.getD k z] := by
  rw [List.take_succ_eq_append_getElem h, List.getD_eq_getElem?_getD, List.getElem?_eq_getElem h]; rfl
set_option maxRecDepth 100000 in
set_option maxHeartbeats 1000000 in
theorem all_any (F : Fo) (fs : List (List Int)) (fv : Value) (w : World) (h : FoAt w F) (hB : F.base ≤ w.heap.size) (hv : ∀ f ∈ fs, validF F.N f = true) (hf : Forms w F.base fv fs) (hn : fs.length ≤ 1000) (hr : Room F (102 * fs.length)) :
    Calls Try.prog 74 #[.pointer (some ⟨F.p, 0, none⟩), fv] w
      fun e w' => ∃ m F', e = .returned (.int .i64 (m : Nat)) ∧ OpR (102 * fs.length) w F w' F' ∧ m < F'.ks.length ∧ ∀ v, ev F'.ks v m = allF v fs := by
  obtain ⟨fvs, ⟨A, b, off, cap, rfl, hnc, hA, hc⟩, hfs⟩ := hf
  have H := hide h
  have HV := hide hv
  have HR := hide hr
  have HC := hide hc
  have HA := hide hA
  have HFS := hide hfs
  have h2 := h.wf.two
  clear h hv hr hc hA hfs
  go_enter Try.func74, Try.ntmps74
  go_wp2
  go_loopw [5, 10] (fun n i wr => ∃ (k m : Nat) (F1 : Fo), k ≤ fs.length ∧ i = .int .i64 k ∧ n = .int .i64 m ∧ Hid (OpR (102 * k) w F wr F1) ∧ m < F1.ks.length ∧ Hid (∀ v, ev F1.ks v m = allF v (fs.take k))) (fun _ i _ => fs.length - (intOf i).toNat)
  case atStart => exact ⟨0, 1, F, Nat.zero_le _, rfl, rfl, OpR.refl H.out _, by omega, fun v => rfl⟩
  case round =>
    obtain ⟨k, m, F1, hk, rfl, rfl, hop, hm, hev⟩ := hrel
    by_cases hlt : k < fs.length
    · obtain ⟨rfl, hbb⟩ : A = some ⟨b, off, none⟩ ∧ b < F.base := by
        rcases HA.out with h | h
        · exact h
        · omega
      obtain ⟨f, hf⟩ : ∃ f, fs.getD k [] = f := ⟨_, rfl⟩
      have hfv : validF F.N f = true := HV.out f (by rw [← hf]; exact getD_mem hlt)
      have hbl := hop.out.st.below H.out hB
      have c0 : wr.cell? ⟨b, off + k, none⟩ = some (fvs k) := by
        have h1 := HC.out k 0 hlt (by omega)
        rw [Nat.mul_one, Nat.add_zero] at h1
        exact (hbl.cell (p := ⟨b, off + k, none⟩) hbb).trans h1
      have hin : Ints wr F.base (fvs k) f := by
        have := (HFS.out k hlt).below hbl
        rwa [hf] at this
      obtain ⟨Af, capf, hfe⟩ := Sl.form hin
      have hr1 : Room F1 102 := Room.step (k := 102 * k) (HR.out.mono (by omega)) hop.out
      have hl100 := (validF_pos hfv).2
      have hle0 := hop.out.st.keep.size
      have hgr := grow_any F1 f (fvs k) wr hop.out.st.here (by rw [hop.out.st.ba]; omega) (by rw [hop.out.st.N]; exact hfv) (by rw [hop.out.st.ba]; exact hin) (hr1.mono (by omega))
      rw [hop.out.st.p] at hgr
      rw [hfe] at hgr c0
      have HGR := hide hgr
      have HF := hide hf
      have HFV := hide hfv
      have HR1 := hide hr1
      clear hf hfv hbl hin hfe hr1 hgr
      go_wp2_with (go_at_call 61; refine HGR.out.mono ?_; rintro e w1 ⟨g, F2, rfl, r1, r2, r3⟩; have R1 := hide r1; have R3 := hide r3; clear r1 r3)
      have hle1 := R1.out.st.le
      have hnd : NodesAt (w1.alloc (.cells #[.int .i64 m, .int .i64 g] 3)) w1.heap.size [m, g] := heap_new _ _ _ rfl
      have hF2 : FoAt (w1.alloc (.cells #[.int .i64 m, .int .i64 g] 3)) F2 := R1.out.st.here.below ((Below.refl _ _).alloc (Nat.le_refl _) _)
      have hnd2 : ¬ SF F2 w1.heap.size := fun e => by have := R1.out.st.here.slt e; omega
      have hr2 : Room F2 2 := Room.step (k := f.length) (HR1.out.mono (by omega)) R1.out
      have han := and_any F2 w1.heap.size [m, g] _ hF2 (by intro n hn; simp at hn; rcases hn with rfl | rfl <;> omega) hnd hnd2 (by simp) hr2
      rw [R1.out.st.p, hop.out.st.p] at han
      have HAN := hide han
      clear hnd hF2 hnd2 hr2 han
      go_wp2_with (go_at_call 73; refine HAN.out.mono ?_; rintro e w2 ⟨x, F3, rfl, r1, r2', r3⟩; have R4 : Hid (OpR 2 w1 F2 w2 F3) := OpR.after_below R1.out.st.here ((Below.refl _ _).alloc (Nat.le_refl _) _) r1; have R6 := hide r3; clear r1 r3)
      go_roundw
      case rel =>
        refine ⟨k + 1, x, F3, by omega, by go_num, rfl, ((hop.out.trans R1.out).trans R4.out).mono (by omega), r2', fun v => ?_⟩
        rw [R6.out v, take_getD (z := []) hlt, allF_snoc, HF.out, List.all_cons, List.all_cons, List.all_nil, R3.out v, R1.out.st.ev hop.out.st.here.wf hm, hev.out v]
        simp
      case measure => simp [intOf]; omega
    · go_wp2
      go_ret
      obtain rfl : k = fs.length := by omega
      exact ⟨m, F1, rfl, hop.out, hm, fun v => by rw [hev.out v, List.take_length]⟩
end Go.Proofs.Ytohofcmikfkilaa

/- Group K of this claim's texts: walks and plain laws. -/
import Derived.Test.YtohofcmikfkilaaRows
import Derived.Test.YtohofcmikfkilaaGH
import Derived.Test.YtohofcmikfkilaaGJ
import Derived.Deep.RegionHeld3
import Derived.Deep.DrawnRows
/- The rules because of which no variant meets a formula. Plain laws. -/
namespace Go.Proofs.Ytohofcmikfkilaa
set_option linter.unusedVariables false
/-- Some rules of a model, by number. -/
def rulesAt (m : Mo) (K : List Nat) : List (List Int) := K.map fun k => m.rules.getD k []
/-- The variants in which a formula, some rules, and those from one on hold. -/
def corS (m : Mo) (f : List Int) (K : List Nat) (j : Nat) : List (List Bool) := (exts m.opts.length []).filter fun x => evF1 (vf x) f && (allF (vf x) (rulesAt m K) && allF (vf x) (m.rules.drop j))
/-- Those of the first i rules that are left. -/
def kept (m : Mo) (f : List Int) : Nat → List Nat
  | 0 => []
  | i + 1 => if (corS m f (kept m f i) (i + 1)).isEmpty then kept m f i else kept m f i ++ [i]
theorem kept_no {m : Mo} {f : List Int} {i : Nat} (h : (corS m f (kept m f i) (i + 1)).isEmpty = true) : kept m f (i + 1) = kept m f i := by simp [kept, h]
theorem kept_yes {m : Mo} {f : List Int} {i : Nat} (h : (corS m f (kept m f i) (i + 1)).isEmpty = false) : kept m f (i + 1) = kept m f i ++ [i] := by simp [kept, h]
theorem kept_lt (m : Mo) (f : List Int) : ∀ i, ∀ k ∈ kept m f i, k < i
  | 0, k, h => by simp [kept] at h
  | i + 1, k, h => by
    unfold kept at h
    split at h
    · have := kept_lt m f i k h; omega
    · rcases List.mem_append.1 h with h | h
      · have := kept_lt m f i k h; omega
      · simp at h; omega
theorem kept_len (m : Mo) (f : List Int) : ∀ i, (kept m f i).length ≤ i
  | 0 => by simp [kept]
  | i + 1 => by
    have := kept_len m f i
    unfold kept
    split
    · omega
    · simp; omega
theorem kept_sorted (m : Mo) (f : List Int) : ∀ i, (kept m f i).Pairwise (· < ·)
  | 0 => by simp [kept]
  | i + 1 => by
    have ih := kept_sorted m f i
    unfold kept
    split
    · exact ih
    · rw [List.pairwise_append]
      exact ⟨ih, by simp, fun a ha b hb => by simp at hb; rw [hb]; exact kept_lt m f i a ha⟩
theorem allF_app (v : Nat → Bool) (a b : List (List Int)) : allF v (a ++ b) = (allF v a && allF v b) := by simp [allF]
theorem allF_drop {v : Nat → Bool} {l : List (List Int)} {i : Nat} (h : i < l.length) : allF v (l.drop i) = (evF1 v (l.getD i []) && allF v (l.drop (i + 1))) := by
  rw [List.drop_eq_getElem_cons h, List.getD_eq_getElem?_getD, List.getElem?_eq_getElem h]
  rfl
/-- With what is left, and all that come behind, there is no variant. -/
theorem kept_none {m : Mo} {f : List Int} (h0 : corS m f [] 0 = []) : ∀ i, i ≤ m.rules.length → corS m f (kept m f i) i = []
  | 0, _ => h0
  | i + 1, hi => by
    have ih := kept_none h0 i (by omega)
    cases he : (corS m f (kept m f i) (i + 1)).isEmpty with
    | true =>
      rw [kept_no he]
      exact List.isEmpty_iff.1 he
    | false =>
      rw [kept_yes he]
      unfold corS at ih ⊢
      rw [← ih]
      refine List.filter_congr fun x _ => ?_
      rw [allF_drop (by omega : i < m.rules.length)]
      unfold rulesAt
      rw [List.map_append, allF_app]
      simp only [allF, List.map_cons, List.map_nil, List.all_cons, List.all_nil, Bool.and_true, Bool.and_assoc]
/-- Each rule that is left is needed. -/
theorem kept_need {m : Mo} {f : List Int} : ∀ i, i ≤ m.rules.length → ∀ (a b : List Nat) (k : Nat), kept m f i = a ++ k :: b → ∃ x, x.length = m.opts.length ∧ evF1 (vf x) f = true ∧ allF (vf x) (rulesAt m (a ++ b)) = true ∧ allF (vf x) (m.rules.drop i) = true
  | 0, _, a, b, k, h => by simp [kept] at h
  | i + 1, hi, a, b, k, h => by
    cases he : (corS m f (kept m f i) (i + 1)).isEmpty with
    | true =>
      rw [kept_no he] at h
      obtain ⟨x, h1, h2, h3, h4⟩ := kept_need i (by omega) a b k h
      refine ⟨x, h1, h2, h3, ?_⟩
      rw [allF_drop (by omega : i < m.rules.length)] at h4
      revert h4
      cases evF1 (vf x) (m.rules.getD i []) <;> simp
    | false =>
      rw [kept_yes he] at h
      rcases List.eq_nil_or_concat b with hb | ⟨b', k', hb⟩
      · subst hb
        have h5 : kept m f i = a ∧ i = k := by
          have := List.append_inj' h (by simp)
          exact ⟨this.1, by simpa using this.2⟩
        have hne : corS m f (kept m f i) (i + 1) ≠ [] := fun e => by rw [e] at he; simp at he
        obtain ⟨x, hx⟩ := List.exists_mem_of_ne_nil _ hne
        unfold corS at hx
        rw [List.mem_filter] at hx
        have hl := exts_len _ _ _ hx.1
        have h6 := hx.2
        simp only [Bool.and_eq_true] at h6
        refine ⟨x, by simpa using hl, h6.1, ?_, h6.2.2⟩
        rw [List.append_nil, ← h5.1]
        exact h6.2.1
      · rw [List.concat_eq_append] at hb
        subst hb
        have h5 : kept m f i = a ++ k :: b' ∧ i = k' := by
          have h6 : kept m f i ++ [i] = (a ++ k :: b') ++ [k'] := by simpa using h
          have := List.append_inj' h6 rfl
          exact ⟨this.1, by simpa using this.2⟩
        obtain ⟨x, h1, h2, h3, h4⟩ := kept_need i (by omega) a b' k h5.1
        rw [allF_drop (by omega : i < m.rules.length)] at h4
        simp only [Bool.and_eq_true] at h4
        refine ⟨x, h1, h2, ?_, h4.2⟩
        rw [← h5.2, ← List.append_assoc]
        unfold rulesAt at h3 ⊢
        rw [List.map_append, allF_app, h3, List.map_cons, List.map_nil]
        have h7 := h4.1
        generalize m.rules.getD i [] = r at h7 ⊢
        simp [allF, h7]
/-- A model with some of the rules. -/
def fewM (m : Mo) (K : List Nat) : Mo := ⟨m.opts, rulesAt m K⟩
theorem rulesAt_sub {m : Mo} {K : List Nat} (hK : ∀ k ∈ K, k < m.rules.length) : ∀ f ∈ rulesAt m K, f ∈ m.rules := fun f hf => by
  unfold rulesAt at hf
  rw [List.mem_map] at hf
  obtain ⟨k, hk, rfl⟩ := hf
  exact getD_mem (hK k hk)
theorem fewM_err {m : Mo} {K : List Nat} (h : m.err = 0) (hK : ∀ k ∈ K, k < m.rules.length) (hl : K.length ≤ 60) : (fewM m K).err = 0 := by
  obtain ⟨h1, h2, h3, h4⟩ := Mo.ok h
  unfold Mo.err fewM
  rw [if_neg (by simp [rulesAt]; omega), if_neg (by show ¬ namesB [] m.names = false; rw [h3]; simp), if_neg]
  simp only [Bool.not_eq_false, List.all_eq_true]
  exact fun f hf => h4 f (rulesAt_sub hK f hf)
/-- The variants of a model with some of the rules in which a formula holds. -/
theorem fewM_where (m : Mo) (f : List Int) (K : List Nat) (j : Nat) : whereF (allM (fewM m (K ++ List.range' j (m.rules.length - j)))) f = corS m f K j := by
  unfold whereF allM corS
  rw [List.filter_filter]
  refine List.filter_congr fun x _ => ?_
  show (evF1 (vf x) f && allF (vf x) (rulesAt m (K ++ List.range' j (m.rules.length - j)))) = _
  unfold rulesAt
  rw [List.map_append, allF_app]
  congr 2
  congr 1
  apply List.ext_getElem
  · simp
  · intro i h1 h2
    simp at h1 h2
    have h3 : j + i < m.rules.length := by omega
    simp [h3]
/-- What Core returns. -/
def corE (m : Mo) (f : List Int) : Int := if m.errF [f] ≠ 0 then m.errF [f] else if whereF (allM m) f ≠ [] then 1 else 0
def corL (m : Mo) (f : List Int) : List Nat := if corE m f = 0 then kept m f m.rules.length else []
theorem cor_err {m : Mo} {f : List Int} (h : m.errF [f] ≠ 0) : corE m f = m.errF [f] ∧ corL m f = [] := by
  have h1 : corE m f = m.errF [f] := by unfold corE; rw [if_pos h]
  exact ⟨h1, by unfold corL; rw [h1, if_neg h]⟩
theorem cor_arg {m : Mo} {f : List Int} (h : m.errF [f] = 0) (h2 : whereF (allM m) f ≠ []) : corE m f = 1 ∧ corL m f = [] := by
  have h1 : corE m f = 1 := by unfold corE; rw [if_neg (by simp [h]), if_pos h2]
  exact ⟨h1, by unfold corL; rw [h1, if_neg (by omega)]⟩
theorem cor_ok {m : Mo} {f : List Int} (h : m.errF [f] = 0) (h2 : whereF (allM m) f = []) : corE m f = 0 ∧ corL m f = kept m f m.rules.length := by
  have h1 : corE m f = 0 := by unfold corE; rw [if_neg (by simp [h]), if_neg (by simp [h2])]
  exact ⟨h1, by unfold corL; rw [if_pos h1]⟩
end Go.Proofs.Ytohofcmikfkilaa
/- The rules because of which no variant meets a formula: walk. -/
namespace Go.Proofs.Ytohofcmikfkilaa
open Go.RowKit
set_option linter.unusedVariables false
set_option linter.unusedSimpArgs false
/-- A list of rules and an error. -/
def CorP (l : List Nat) (er : Int) (w : World) (e : Ending) (w' : World) : Prop := ∃ v, e = .returned (.tuple #[v, .int .i64 er]) ∧ Nods w' w'.heap.size v l ∧ Below w.heap.size w w'
theorem CorP.none (er : Int) {w w' : World} (h : Below w.heap.size w w') : CorP [] er w (.returned (.tuple #[.slice none 0 0, .int .i64 er])) w' := ⟨_, rfl, Sl.nil _ _ _ _, h⟩
/-- What a slice from k on gives. -/
def slcV (A : Option Addr) (n cap k : Nat) : Value := sliced A k n cap 1
set_option maxRecDepth 100000 in
theorem sizeForm (w : World) : (sizeOf 35).run Try.prog w = .ok 1 w := by kernel_rfl
set_option maxRecDepth 100000 in
theorem slc_run (A : Option Addr) (n cap k : Nat) (hk : k ≤ n) (i : Int) (hi : i = k) (W : World) : (Instr.slice 23 (.slice A n cap) (some (.int .i64 i)) none none).run Try.prog W = .ok (slcV A n cap k) W := by
  subst hi
  have h := run_slice_l (P := Try.prog) W 23 A n cap Try.underlying23 .i64 (k : Int) (by omega) (by omega)
  rw [h]
  have he : Try.prog.elem 23 = 35 := by kernel_rfl
  rw [he, sizeForm, Int.toNat_natCast]
  rfl
theorem Forms.drop {w : World} {B n cap : Nat} {A : Option Addr} {l : List (List Int)} {k : Nat} (h : Forms w B (.slice A n cap) l) (hk : k ≤ l.length) : Forms w B (slcV A n cap k) (l.drop k) := by
  obtain ⟨fv, ⟨A1, b1, off1, cap1, hv, hn, hA, hc⟩, h2⟩ := h
  injection hv with e1 e2 e3
  subst e1 e2 e3
  unfold slcV sliced
  split
  · rename_i hck
    have h0 : l.drop k = [] := List.drop_eq_nil_of_le (by omega)
    rw [h0, show l.length - k = 0 by omega, show cap - k = 0 by omega]
    exact ⟨fun _ => undef, ⟨A, b1, off1, 0, rfl, Nat.le_refl _, .inr rfl, fun i j hi hj => by simp at hi⟩, fun i hi => by simp at hi⟩
  · refine ⟨fun i => fv (k + i), ⟨A.map (·.add (k * 1)), b1, off1 + k, cap - k, by rw [List.length_drop], by rw [List.length_drop]; omega, ?_, fun i j hi hj => ?_⟩, fun i hi => ?_⟩
    · rcases hA with ⟨hA, hb⟩ | hA
      · subst hA
        refine .inl ⟨?_, hb⟩
        simp only [Option.map_some, Nat.mul_one]
        congr 1
        unfold Addr.add
        split
        · rename_i h0; rw [h0]; rfl
        · rfl
      · exact .inr (by rw [List.length_drop]; omega)
    · rw [List.length_drop] at hi
      have := hc (k + i) j (by omega) hj
      rw [show off1 + k + (i * 1 + j) = off1 + ((k + i) * 1 + j) by omega]
      exact this
    · rw [List.length_drop] at hi
      have := h2 (k + i) (by omega)
      rw [show (l.drop k).getD i [] = l.getD (k + i) [] by simp [List.getD_eq_getElem?_getD]]
      exact this
set_option maxRecDepth 100000 in
set_option maxHeartbeats 4000000 in
theorem Core_err (m : Mo) (f : List Int) (ov rv fv : Value) (w : World) (hs : SizedM m) (hl : f.length ≤ maxLen) (h : MoAt w w.heap.size ov rv m) (hf : Ints w w.heap.size fv f) (he : m.errF [f] ≠ 0) :
    Calls Try.prog 28 #[.agg #[ov, rv], fv] w (CorP (corL m f) (corE m f) w) := by
  obtain ⟨A, cap, hov⟩ := Sl.form h.o
  obtain ⟨Ar, capr, hrv⟩ := h.r.form
  obtain ⟨Al, capl, hlv⟩ := Sl.form hf
  subst hov hrv hlv
  have hB2 : Below w.heap.size w ((w.alloc (.cells #[.slice A m.opts.length cap, .slice Ar m.rules.length capr] 25)).alloc (.cells #[.slice Al f.length capl] 35)) := (by repeat (first | exact Below.refl _ _ | assumption | refine Below.drew ?_ | refine Below.drewN ?_ _ | refine Below.allocT ?_ (Nat.le_refl _) _ | refine Below.setCell ?_ (by simp <;> omega) _ | refine Below.to ?_ (by assumption) (Nat.le_refl _)))
  have HP := hide (cor_err he)
  have hbe := begin_err m [f] (.slice A m.opts.length cap) (.slice Ar m.rules.length capr) (.slice (some ⟨w.heap.size + 1, 0, none⟩) 1 1) _ hs (sized_one hl) (h.up hB2) (forms_one (heap_new _ _ _ (by simp)) (by simp) (hf.up hB2)) he
  have hne : (m.errF [f] != 0) = true := by simpa using he
  obtain ⟨z, hz⟩ : ∃ z, m.errF [f] = z := ⟨_, rfl⟩
  rw [hz] at hne hbe
  have HZ := hide hz
  have HBE := hide hbe
  clear h hf hz he hbe hB2
  go_enter Try.func28, Try.ntmps28
  go_wp2_with (go_at_call 60; refine HBE.out.mono ?_; rintro e w1 ⟨rfl, hB1⟩)
  go_ret2
  rw [HP.out.1, HP.out.2, HZ.out]
  exact CorP.none z (by repeat (first | exact Below.refl _ _ | assumption | refine Below.drew ?_ | refine Below.drewN ?_ _ | refine Below.allocT ?_ (Nat.le_refl _) _ | refine Below.setCell ?_ (by simp <;> omega) _ | refine Below.to ?_ (by assumption) (Nat.le_refl _)))
/-- What holds of the forest between two rules of Core. -/
structure CorI (m : Mo) (f : List Int) (w1 : World) (F : Fo) (a k : Nat) (w2 : World) (F1 : Fo) : Prop where
  op : OpR k w1 F w2 F1
  lt : a < F1.ks.length
  ev : ∀ v, ev F1.ks v a = evF1 v f
theorem CorI.step {m : Mo} {f : List Int} {w1 : World} {F : Fo} {a k l : Nat} {w2 w3 : World} {F1 F2 : Fo} (h : CorI m f w1 F a k w2 F1) (r : OpR l w2 F1 w3 F2) : CorI m f w1 F a (k + l) w3 F2 :=
  ⟨h.op.trans r, Nat.lt_of_lt_of_le h.lt r.st.le, fun v => by rw [r.st.ev h.op.st.here.wf h.lt, h.ev v]⟩
set_option maxRecDepth 100000 in
set_option maxHeartbeats 8000000 in
theorem Core_ok (m : Mo) (f : List Int) (ov rv fv : Value) (w : World) (hs : SizedM m) (hl : f.length ≤ maxLen) (h : MoAt w w.heap.size ov rv m) (hf : Ints w w.heap.size fv f) (he : m.errF [f] = 0) (hN : m.opts.length ≤ 12) (hR : m.rules.length ≤ 12) :
    Calls Try.prog 28 #[.agg #[ov, rv], fv] w (CorP (corL m f) (corE m f) w) := by
  obtain ⟨i0, hi0, iz0, iz1, iz2⟩ := info_parts infoInt
  obtain ⟨A, cap, hov⟩ := Sl.form h.o
  have HFR := hide h.r
  obtain ⟨fvs, ⟨Ar, bl, offl, capr, hrv, hncl, hAl, hcl⟩, hfi⟩ := h.r
  obtain ⟨Al, capl, hlv⟩ := Sl.form hf
  have H := hide h
  have HF := hide hf
  have HOK := hide (Mo.okF he)
  have HE := hide he
  have HRV := hide hrv
  subst hov hlv
  rw [hrv] at h H HFR
  have hB2 : Below w.heap.size w ((w.alloc (.cells #[.slice A m.opts.length cap, .slice Ar m.rules.length capr] 25)).alloc (.cells #[.slice Al f.length capl] 35)) := (by repeat (first | exact Below.refl _ _ | assumption | refine Below.drew ?_ | refine Below.drewN ?_ _ | refine Below.allocT ?_ (Nat.le_refl _) _ | refine Below.setCell ?_ (by simp <;> omega) _ | refine Below.to ?_ (by assumption) (Nat.le_refl _)))
  have hbe := begin_ok m [f] (.slice A m.opts.length cap) (.slice Ar m.rules.length capr) (.slice (some ⟨w.heap.size + 1, 0, none⟩) 1 1) _ hs (sized_one hl) (h.up hB2) (forms_one (heap_new _ _ _ (by simp)) (by simp) (hf.up hB2)) he hN
  have hbox0 : ((w.alloc (.cells #[.slice A m.opts.length cap, .slice Ar m.rules.length capr] 25)).alloc (.cells #[.slice Al f.length capl] 35)).heap[w.heap.size]? = some (.cells #[.slice A m.opts.length cap, .slice Ar m.rules.length capr] 25 (0, 0)) := by
    rw [heap_old _ _ _ (by simp), heap_new _ _ _ rfl]
  have HBX := hide hbox0
  have HBE := hide hbe
  have HAL := hide hAl
  have HCL := hide hcl
  have HFI := hide hfi
  rw [hrv]
  clear h hf he hbe hB2 hrv hAl hcl hfi hbox0 hs
  go_enter Try.func28, Try.ntmps28
  go_wp2_with (go_at_call 60; refine HBE.out.mono ?_; rintro e w1 ⟨F, n, rfl, r1⟩; have HX1 : Hid (w1.heap[w.heap.size]? = some (.cells #[.slice A m.opts.length cap, .slice Ar m.rules.length capr] 25 (0, 0))) := (r1.below.block _ (by simp <;> omega)).trans HBX.out; have R1 : Hid (BegR m w w1 F n) := r1.of (by repeat (first | exact Below.refl _ _ | assumption | refine Below.drew ?_ | refine Below.drewN ?_ _ | refine Below.allocT ?_ (Nat.le_refl _) _ | refine Below.setCell ?_ (by simp <;> omega) _ | refine Below.to ?_ (by assumption) (Nat.le_refl _))); have HSL1 : Hid (w.heap.size < F.base) := (by have := r1.base; simp at this; show _ < _; omega); clear r1)
  refine (grow_beg R1.out hN R1.out.op (by omega) HF.out (HOK.out.2 f (by simp))).mono ?_
  rintro e w2 ⟨a, F2, rfl, r2, r3, ha, r4⟩
  have R2 := hide r2
  have R4 := hide r4
  have R3 := hide r3
  have hn2 : n < F2.ks.length := Nat.lt_of_lt_of_le R1.out.lt r3.st.le
  clear r2 r3 r4
  go_wp2_with fail
  refine (and_beg (l := [n, a]) R1.out hN R2.out (by omega) (by simp) (by intro x hx; simp at hx; rcases hx with rfl | rfl <;> assumption)).mono ?_
  rintro e w3 ⟨x, F3, rfl, r5, r6, hx, r7⟩
  have hN3 : F3.N = m.opts.length := r5.st.N.trans R1.out.N
  have hsat : sat F3.ks F3.N x [] = whereF (allM m) f := by
    rw [whereF_sat]
    exact satM_node (p := fun v => evF1 v f) hN3 (fun v => by rw [r7 v, List.all_cons, List.all_cons, List.all_nil, R4.out v, R3.out.st.ev R1.out.here.wf R1.out.lt, R1.out.ev v, Bool.and_true])
  have hno := node_no r5.st.here hx
  rw [hsat] at hno
  have hci : CorI m f w1 F a 104 w3 F3 := ⟨by have := r5.mono (show 0 + 100 + 4 ≤ 104 by omega); exact this, Nat.lt_of_lt_of_le ha r6.st.le, fun v => by rw [r6.st.ev R2.out.st.here.wf ha, R4.out v]⟩
  have HCI := hide hci
  -- the model's box stays
  have hstay : ∀ {k : Nat} {W : World} {G : Fo}, OpR k w1 F W G → W.heap[w.heap.size]? = some (.cells #[.slice A m.opts.length cap, .slice Ar m.rules.length capr] 25 (0, 0)) := fun r => (r.st.keep.block _ (box_lt HX1.out) (fun hs => by have := R1.out.here.sbase hs; have := HSL1.out; omega)).trans HX1.out
  have HST : Hid (∀ (k : Nat) (W : World) (G : Fo), OpR k w1 F W G → W.heap[w.heap.size]? = some (.cells #[.slice A m.opts.length cap, .slice Ar m.rules.length capr] 25 (0, 0))) := fun k W G r => hstay r
  have HLOW := hide (r5.low R1.out)
  have HZ3 : Hid (w2.heap.size ≤ w3.heap.size) := r6.st.keep.size
  clear r5 r6 r7 hN3 hsat hci hstay
  by_cases hx0 : x = 0
  · subst hx0
    have hempty : whereF (allM m) f = [] := by
      rw [decide_eq_true rfl] at hno
      exact List.isEmpty_iff.1 hno.symm
    have HP := hide (cor_ok HE.out hempty)
    have hb3 := HST.out _ _ _ HCI.out.op
    have e0 := cellOf hb3 0
    have e1 := cellOf hb3 1
    clear hno hempty hb3
    go_wp2_with fail
    go_loopw [4, 36] (fun ov i wr => ∃ (j : Nat) (F1 : Fo), j ≤ m.rules.length ∧ i = .int .i64 j ∧ Hid (Stk w2.heap.size wr F1 ov (kept m f j)) ∧ Hid (CorI m f w1 F a (104 + 2500 * j) wr F1) ∧ Hid (w2.heap.size ≤ wr.heap.size)) (fun _ i _ => m.rules.length - (intOf i).toNat)
    case atStart => exact ⟨0, F3, Nat.zero_le _, rfl, ⟨World.ownsRow_nil w3 w2.heap.size 3 1, fun b hb => (by cases hb)⟩, HCI.out, HZ3.out⟩
    case round =>
      obtain ⟨j, F1, hj, rfl, hS, hI, hZ⟩ := hrel
      obtain ⟨A1, cap1, hA1, hcap1, hcap2⟩ := hS.out.shape
      subst hA1
      have hkl := kept_len m f j
      have hklt := kept_lt m f j
      obtain ⟨K, hK⟩ : ∃ K, kept m f j = K := ⟨_, rfl⟩
      have hky := @kept_yes m f j
      have hkn := @kept_no m f j
      rw [hK] at hS hkl hklt hky hkn hcap1
      rw [hK]
      have HKY := hide hky
      have HKN := hide hkn
      have HKLT := hide hklt
      have HK := hide hK
      clear hK hky hkn hklt
      by_cases hjl : j < m.rules.length
      · obtain ⟨wo, hwo⟩ : ∃ wo : World, wo = wr := ⟨_, rfl⟩
        subst hwo
        obtain ⟨hAr, hbb⟩ : Ar = some ⟨bl, offl, none⟩ ∧ bl < w.heap.size := by
          rcases HAL.out with h | h
          · exact h
          · omega
        have j0 : (j : Int) < (m.rules.length : Int) := by omega
        have hKs : (K.length : Int) ≤ 12 := by omega
        have HI0 := hide hI
        have HS0 := hide hS
        have HAR := hide hAr
        clear hAr
        have hb4 := HST.out _ _ _ hI.out.op
        have f0 := cellOf hb4 0
        have f1 := cellOf hb4 1
        clear hb4
        go_wp2_with fail
        clear f0 f1
        go_loopw [10, 42] (fun nv i wr => ∃ (t y : Nat) (F2 : Fo), t ≤ K.length ∧ i = .int .i64 t ∧ nv = .int .i64 y ∧ y < F2.ks.length ∧ Hid (Stk w2.heap.size wr F2 (.slice A1 K.length cap1) K) ∧ Hid (OpR (104 * t) wo F1 wr F2) ∧ Hid (∀ v, ev F2.ks v y = (evF1 v f && allF v (rulesAt m (K.take t))))) (fun _ i _ => K.length - (intOf i).toNat)
        case atStart => exact ⟨0, a, F1, Nat.zero_le _, rfl, rfl, hI.out.lt, hS.out, OpR.refl hI.out.op.st.here 0, fun v => by rw [hI.out.ev v]; simp [rulesAt, allF]⟩
        case round =>
          obtain ⟨t, y, F2, ht, rfl, rfl, hy, hS2, hO2, hev2⟩ := hrel
          have hop2 := hI.out.op.trans hO2.out
          have HOP2 := hide hop2
          have hb5 := HST.out _ _ _ hop2
          have e0 := cellOf hb5 0
          have e1 := cellOf hb5 1
          clear hb5 hop2
          by_cases htl : t < K.length
          · obtain ⟨g, hg0, hg1, hg2, hg3⟩ := hS2.out.cells (by omega)
            subst hg0
            have c0 := hg3 t htl
            obtain ⟨q, hq⟩ : ∃ q, K.getD t 0 = q := ⟨_, rfl⟩
            rw [hq] at c0
            have hqj : q < j := HKLT.out q (by rw [← hq]; exact getD_mem htl)
            obtain ⟨_, hbb, Af, capf, p0, p1⟩ := rows_get (enc := Value.int .i64) (z := 0) HAL.out HCL.out HFI.out (show q < m.rules.length by omega)
            obtain ⟨r, hr⟩ : ∃ r, m.rules.getD q [] = r := ⟨_, rfl⟩
            rw [hr] at p0 p1
            have hrv : validF m.opts.length r = true := (Mo.ok HOK.out.1).2.2.2 r (by rw [← hr]; exact getD_mem (by omega))
            have c1 : wr.cell? ⟨bl, offl + q, none⟩ = some (.slice Af r.length capf) := ((HOP2.out.low R1.out).cell (p := ⟨bl, offl + q, none⟩) hbb).trans p0
            have hgr := grow_beg R1.out hN HOP2.out (by omega) p1 hrv
            have HGR := hide hgr
            have HQ := hide hq
            have HR := hide hr
            have HRVV := hide hrv
            have k0 : (t : Int) < (K.length : Int) := by omega
            have k1 : (q : Int) < (m.rules.length : Int) := by omega
            have har := HAR.out
            subst har
            clear hg3 hq hr hrv hgr p0 p1
            go_wp2_with fail
            refine HGR.out.mono ?_
            rintro e w4 ⟨b, F4, rfl, r1, r2, hb, r3⟩
            have Q1 := hide r1
            have Q2 := hide r2
            have Q3 := hide r3
            have hy4 : y < F4.ks.length := Nat.lt_of_lt_of_le hy r2.st.le
            clear r1 r2 r3 e0 e1 c0 c1
            go_wp2_with fail
            refine (and_beg (l := [y, b]) R1.out hN Q1.out (by omega) (by simp) (by intro x hx; simp at hx; rcases hx with rfl | rfl <;> assumption)).mono ?_
            rintro e w5 ⟨c, F5, rfl, s1, s2, hc, s3⟩
            have T2 := hide s2
            have T3 := hide s3
            clear s1 s2 s3
            go_wp2_with fail
            go_roundw
            case rel =>
              refine ⟨t + 1, c, F5, by omega, by go_num, rfl, hc, (hS2.out.step Q2.out.st).step T2.out.st, ?_, fun v => ?_⟩
              · have h1 := (hO2.out.trans Q2.out).trans T2.out
                exact h1.mono (by omega)
              · rw [T3.out v, List.all_cons, List.all_cons, List.all_nil, Q2.out.st.ev hO2.out.st.here.wf hy, hev2.out v, Q3.out v, take_getD (z := 0) htl, HQ.out]
                unfold rulesAt
                rw [List.map_append, allF_app, List.map_cons, List.map_nil, HR.out]
                simp [allF, Bool.and_assoc]
            case measure => simp [intOf]; omega
          · obtain rfl : t = K.length := by omega
            rw [List.take_length] at hev2
            have k1 : (j : Int) + 1 ≤ (m.rules.length : Int) := by omega
            have hfd := HFR.out.drop (k := j + 1) (by omega)
            have hal := all_beg R1.out hN HOP2.out (by rw [List.length_drop]; omega) (by rw [List.length_drop]; omega) hfd (fun r hr => (Mo.ok HOK.out.1).2.2.2 r (List.mem_of_mem_drop hr))
            rw [List.length_drop] at hal
            have HALL := hide hal
            have hsl := slc_run Ar m.rules.length capr (j + 1) (by omega) ((j : Int) + 1) (by omega)
            clear hfd hal
            go_wp2_with fail
            clear hsl
            refine HALL.out.mono ?_
            rintro e w4 ⟨b, F4, rfl, r1, r2, hb, r3⟩
            have Q1 := hide r1
            have Q2 := hide r2
            have Q3 := hide r3
            have hy4 : y < F4.ks.length := Nat.lt_of_lt_of_le hy r2.st.le
            clear r1 r2 r3 e0 e1
            go_wp2_with fail
            refine (and_beg (l := [y, b]) R1.out hN Q1.out (by omega) (by simp) (by intro x hx; simp at hx; rcases hx with rfl | rfl <;> assumption)).mono ?_
            rintro e w5 ⟨c, F5, rfl, s1, s2, hc, s3⟩
            have hN5 : F5.N = m.opts.length := s1.st.N.trans R1.out.N
            have hcs : sat F5.ks F5.N c [] = corS m f K (j + 1) := by
              unfold sat corS
              rw [hN5]
              refine List.filter_congr fun x _ => ?_
              rw [s3 (vf x), List.all_cons, List.all_cons, List.all_nil, Q2.out.st.ev hO2.out.st.here.wf hy, hev2.out (vf x), Q3.out (vf x), Bool.and_true, Bool.and_assoc]
            have hno2 := node_no s1.st.here hc
            rw [hcs] at hno2
            have hsz5 := s2.st.keep.size
            have HW5 : Hid (w4.heap.size ≤ w5.heap.size) := hsz5
            have hS5 := ((hS2.out.step Q2.out.st).step s2.st)
            have hI5 : CorI m f w1 F a (104 + 2500 * (j + 1)) w5 F5 := by
              have h1 := HI0.out.step ((hO2.out.trans Q2.out).trans s2)
              exact ⟨h1.op.mono (by omega), h1.lt, h1.ev⟩
            have HS5 := hide hS5
            have HI5 := hide hI5
            clear s1 s2 s3 hN5 hcs hS5 hI5
            cases hce : (corS m f K (j + 1)).isEmpty with
            | true =>
              rw [hce] at hno2
              have hc0 : c = 0 := of_decide_eq_true hno2
              have HNX := hide (HKN.out hce)
              subst hc0
              clear hno2 hce
              go_wp2_with fail
              go_roundw
              case rel => exact ⟨j + 1, F5, by omega, by go_num, by rw [HNX.out]; exact HS5.out, HI5.out, by have h1 := hZ.out; have h2 := HW5.out; have h3 := hO2.out.st.keep.size; have h4 := Q2.out.st.keep.size; show _ ≤ _; omega⟩
              case measure => simp [intOf]; omega
            | false =>
              rw [hce] at hno2
              have hc0 : ((c : Int) != 0) = true := by
                have := of_decide_eq_false hno2
                simpa using this
              have HNX := hide (HKY.out hce)
              have hsb : w2.heap.size ≤ w5.heap.size := by
                have h1 := hZ.out
                have h2 := hsz5
                have h3 := hO2.out.st.keep.size
                have h4 := Q2.out.st.keep.size
                have h5 := HW5.out
                omega
              have HSB := hide hsb
              clear hno2 hce hsb
              go_wp2_with (at_builtin; go_must (refine wpList_append_own_at _ rfl (.tmp 70) (.tmp 72) _ rfl (w2.heap.size) 3 i0 _ 1 8 Try.underlying26 hi0 iz0 iz1 iz2 rfl (by omega) _ _ _ rfl ((HS5.out.1).alloc _) ⟨w5.heap.size, 0, none⟩ 1 1 [.int .i64 (j : Nat)] rfl rfl (World.news_of_block (heap_alloc_new w5 _)) (by simp [Value.oneCell']) (by have h1 := hKs; unfold maxLen; omega) (by have h1 := hKs; omega) (by have h1 := HSB.out; simp; omega) ?_); intro v1 w3 hown1 hg1 _ hat1; have HP := hide (HS5.out.push HI5.out.op.st.here hown1 hg1 hat1); clear hown1 hg1 hat1)
              go_roundw
              case rel =>
                refine ⟨j + 1, F5, by omega, by go_num, by rw [HNX.out]; exact HP.out.1, ⟨HI5.out.op.own HP.out.2 (fun i hi => ?_) (fun i hs hi => HS5.out.2 i hi hs), HI5.out.lt, HI5.out.ev⟩, Nat.le_trans HSB.out HP.out.2.size⟩
                have h1 := (HS5.out.1.lt i hi).1
                have h2 := R2.out.st.keep.size
                omega
              case measure => simp [intOf]; omega
      · obtain rfl : j = m.rules.length := by omega
        have HNODS := hide (Nods.of_own hS.out.1)
        have HL2 := hide (hI.out.op.low R1.out)
        go_wp2_with fail
        go_ret2
        rw [HP.out.1, HP.out.2, HK.out]
        exact ⟨_, rfl, HNODS.out, HL2.out⟩
  · have hx1 : ((x : Int) != 0) = true := by simpa using hx0
    have hne : whereF (allM m) f ≠ [] := fun e => by
      rw [e, decide_eq_false hx0] at hno
      simp at hno
    have HP := hide (cor_arg HE.out hne)
    clear hno hne hx0
    go_wp2_with fail
    go_ret2
    rw [HP.out.1, HP.out.2]
    exact CorP.none 1 HLOW.out
theorem Core_any (m : Mo) (f : List Int) (ov rv fv : Value) (w : World) (hs : SizedM m) (hl : f.length ≤ maxLen) (h : MoAt w w.heap.size ov rv m) (hf : Ints w w.heap.size fv f) (hN : m.err = 0 → m.opts.length ≤ 12 ∧ m.rules.length ≤ 12) :
    Calls Try.prog 28 #[.agg #[ov, rv], fv] w (CorP (corL m f) (corE m f) w) := by
  by_cases he : m.errF [f] = 0
  · exact Core_ok m f ov rv fv w hs hl h hf he (hN (Mo.okF he).1).1 (hN (Mo.okF he).1).2
  · exact Core_err m f ov rv fv w hs hl h hf he
end Go.Proofs.Ytohofcmikfkilaa
/- Core as the elder program has it: walk. -/
namespace Go.Proofs.Ytohofcmikfkilaa
open Go.RowKit
set_option linter.unusedVariables false
set_option linter.unusedSimpArgs false
/-- A list of numbers of the call's own, above block B. -/
def NStk (B : Nat) (w : World) (sv : Value) (S : List Nat) : Prop := w.ownsRow B 3 1 sv S.length (S.map fun (n : Nat) => Value.int .i64 n)
theorem NStk.nil (w : World) (B : Nat) : NStk B w (.slice none 0 0) [] := World.ownsRow_nil w B 3 1
theorem NStk.below {B : Nat} {w w' : World} {sv : Value} {S : List Nat} (h : NStk B w sv S) (hb : Below w.heap.size w w') : NStk B w' sv S := owns_below h hb
theorem NStk.same {B : Nat} {w w' : World} {sv : Value} {S : List Nat} (h : NStk B w sv S) (hs : ∀ b, sv.ownBlock = some b → w'.heap[b]? = w.heap[b]?) : NStk B w' sv S := ownsRow_same h hs
theorem NStk.shape {B : Nat} {w : World} {sv : Value} {S : List Nat} (h : NStk B w sv S) : ∃ A cap, sv = .slice A S.length cap ∧ S.length ≤ cap ∧ cap ≤ maxLen := by
  rcases h.2 with ⟨h1, h2⟩ | ⟨g, cap, cur, h1, _, _, h2, h3, _⟩
  · exact ⟨none, 0, by rw [h1, h2], by omega, by unfold maxLen; omega⟩
  · exact ⟨_, cap, h1, h2, h3⟩
theorem NStk.cells {B : Nat} {w : World} {A : Option Addr} {n cap : Nat} {S : List Nat} (h : NStk B w (.slice A n cap) S) (hn : 0 < S.length) : ∃ g, A = some ⟨g, 0, none⟩ ∧ g < w.heap.size ∧ B ≤ g ∧ ∀ i, i < S.length → w.cell? ⟨g, i, none⟩ = some (.int .i64 (S.getD i 0 : Nat)) := by
  obtain ⟨g, cap', hv, hgb, hl⟩ := World.ownsRow.form h hn
  injection hv with h1 h2 h3
  subst h1
  refine ⟨g, rfl, hl, hgb, fun i hi => ?_⟩
  have := World.ownsRow.cells (g := g) h rfl i (.int .i64 (S.getD i 0 : Nat)) (by simp [hi])
  have he : (⟨g, 0, none⟩ : Addr).add i = ⟨g, i, none⟩ := by
    unfold Addr.add
    split
    · rename_i h0; rw [h0]
    · rw [Nat.zero_add]
  rwa [he] at this
theorem NStk.push {B : Nat} {w1 : World} {S : List Nat} {v1 : Value} {m : Nat} (hown : w1.ownsRow B 3 1 v1 (S.length + 1) ((S.map fun (n : Nat) => Value.int .i64 n) ++ [.int .i64 (m : Nat)])) : NStk B w1 v1 (S ++ [m]) := by
  unfold NStk
  rw [List.length_append, List.map_append]
  exact hown
theorem NStk.base {B B' : Nat} {w : World} {sv : Value} {S : List Nat} (h : NStk B w sv S) (hB : B' ≤ B) : NStk B' w sv S := owns_base h hB
/-- Numbers but one. -/
def butN (i : Nat) (S : List Nat) : List Nat := S.filter fun k => !(k == i)
theorem butN_yes {S : List Nat} {i t : Nat} (ht : t < S.length) (h : S.getD t 0 ≠ i) : butN i (S.take (t + 1)) = butN i (S.take t) ++ [S.getD t 0] := by
  rw [take_getD (z := 0) ht]
  generalize S.getD t 0 = x at h ⊢
  simp [butN, List.filter_append, h]
theorem butN_no {S : List Nat} {i t : Nat} (ht : t < S.length) (h : S.getD t 0 = i) : butN i (S.take (t + 1)) = butN i (S.take t) := by
  rw [take_getD (z := 0) ht]
  generalize S.getD t 0 = x at h ⊢
  simp [butN, List.filter_append, h]
theorem butN_left {m : Mo} {f : List Int} {i : Nat} (hi : i < m.rules.length) : butN i (kept m f i ++ List.range' i (m.rules.length - i)) = kept m f i ++ List.range' (i + 1) (m.rules.length - (i + 1)) := by
  unfold butN
  rw [List.filter_append]
  congr 1
  · rw [List.filter_eq_self]
    intro k hk
    have := kept_lt m f i k hk
    simp; omega
  · rw [show m.rules.length - i = (m.rules.length - (i + 1)) + 1 by omega, List.range'_succ, List.filter_cons]
    simp only [beq_self_eq_true, Bool.not_true]
    rw [if_neg (by simp), List.filter_eq_self]
    intro k hk
    rw [List.mem_range'] at hk
    obtain ⟨q, _, hq⟩ := hk
    simp; omega
theorem left_step_yes {m : Mo} {f : List Int} {i : Nat} (hi : i < m.rules.length) (h : (corS m f (kept m f i) (i + 1)).isEmpty = true) : kept m f i ++ List.range' (i + 1) (m.rules.length - (i + 1)) = kept m f (i + 1) ++ List.range' (i + 1) (m.rules.length - (i + 1)) := by
  rw [kept_no h]
theorem left_step_no {m : Mo} {f : List Int} {i : Nat} (hi : i < m.rules.length) (h : (corS m f (kept m f i) (i + 1)).isEmpty = false) : kept m f i ++ List.range' i (m.rules.length - i) = kept m f (i + 1) ++ List.range' (i + 1) (m.rules.length - (i + 1)) := by
  rw [kept_yes h, show m.rules.length - i = (m.rules.length - (i + 1)) + 1 by omega, List.range'_succ, List.append_assoc]
  rfl
theorem left_lt {m : Mo} {f : List Int} {i : Nat} (hi : i ≤ m.rules.length) : ∀ k ∈ kept m f i ++ List.range' i (m.rules.length - i), k < m.rules.length := fun k hk => by
  rcases List.mem_append.1 hk with h | h
  · have := kept_lt m f i k h; omega
  · rw [List.mem_range'] at h
    obtain ⟨q, _, hq⟩ := h
    omega
theorem left_len {m : Mo} {f : List Int} {i : Nat} (hi : i ≤ m.rules.length) : (kept m f i ++ List.range' i (m.rules.length - i)).length ≤ m.rules.length := by
  have := kept_len m f i
  simp; omega
/-- Formulas of an elder world w, in a slice of the call's own. -/
structure OFs (w : World) (e B : Nat) (wr : World) (sv : Value) (L : List (List Int)) (vs : List Value) : Prop where
  len : vs.length = L.length
  own : wr.ownsRow B e 1 sv L.length vs
  row : ∀ i, i < L.length → Ints w w.heap.size (vs.getD i undef) (L.getD i [])
theorem OFs.nil (w : World) (e B : Nat) (wr : World) : OFs w e B wr (.slice none 0 0) [] [] := ⟨rfl, World.ownsRow_nil wr B e 1, fun i hi => by simp at hi⟩
theorem OFs.same {w : World} {e B : Nat} {wr wr' : World} {sv : Value} {L : List (List Int)} {vs : List Value} (h : OFs w e B wr sv L vs) (hs : ∀ b, sv.ownBlock = some b → wr'.heap[b]? = wr.heap[b]?) : OFs w e B wr' sv L vs := ⟨h.len, ownsRow_same h.own hs, h.row⟩
theorem OFs.push {w : World} {e B : Nat} {wr wr' : World} {sv v1 : Value} {L : List (List Int)} {vs : List Value} {l : List Int} {x : Value} (h : OFs w e B wr sv L vs) (hx : Ints w w.heap.size x l) (hown : wr'.ownsRow B e 1 v1 (L.length + 1) (vs ++ [x])) : OFs w e B wr' v1 (L ++ [l]) (vs ++ [x]) := by
  have hl := h.len
  refine ⟨by simp [hl], by rw [List.length_append]; exact hown, fun i hi => ?_⟩
  rw [getD_push, getD_push, hl]
  by_cases h1 : i < L.length
  · rw [if_pos h1, if_pos h1]
    exact h.row i h1
  · have : i = L.length := by simp at hi; omega
    rw [if_neg h1, if_pos this, if_neg h1, if_pos this]
    exact hx
theorem OFs.forms {w : World} {e B : Nat} {wr : World} {sv : Value} {L : List (List Int)} {vs : List Value} (h : OFs w e B wr sv L vs) (hb : Below w.heap.size w wr) : Forms wr wr.heap.size sv L := by
  refine ⟨fun i => vs.getD i undef, Sl.of_owns h.own fun i j hi hj => ?_, fun i hi => ((h.row i hi).below hb).more hb.size⟩
  obtain rfl : j = 0 := by omega
  have := h.len
  have hi2 : i < vs.length := by omega
  rw [Nat.mul_one, Nat.add_zero]
  simp [hi2]
theorem OFs.shape {w : World} {e B : Nat} {wr : World} {sv : Value} {L : List (List Int)} {vs : List Value} (h : OFs w e B wr sv L vs) : ∃ A cap, sv = .slice A L.length cap ∧ L.length ≤ cap ∧ cap ≤ maxLen := by
  rcases h.own.2 with ⟨h1, h2⟩ | ⟨g, cap, cur, h1, _, _, h2, h3, _⟩
  · exact ⟨none, 0, by rw [h1, h2], by omega, by unfold maxLen; omega⟩
  · exact ⟨_, cap, h1, h2, h3⟩
/-- Two rows of other types lie in other blocks. -/
theorem owns_apart {w : World} {b1 b2 e1 e2 s1 s2 n1 n2 : Nat} {v1 v2 : Value} {x1 x2 : List Value} (h1 : w.ownsRow b1 e1 s1 v1 n1 x1) (h2 : w.ownsRow b2 e2 s2 v2 n2 x2) (hne : e1 ≠ e2) : ∀ b, v1.ownBlock = some b → v2.ownBlock ≠ some b := by
  intro b hb hc
  obtain ⟨_, ⟨rfl, _⟩ | ⟨g, cap, cur, rfl, _, q1, _⟩⟩ := h1
  · cases hb
  · obtain ⟨_, ⟨rfl, _⟩ | ⟨g', cap', cur', rfl, _, q2, _⟩⟩ := h2
    · cases hc
    · injection hb with hb
      injection hc with hc
      simp only at hb hc
      subst hb hc
      rw [q1] at q2
      injection q2 with q2
      injection q2 with _ q2
      exact hne q2
theorem owns_not {w : World} {b1 e1 s1 n1 g t : Nat} {v1 : Value} {x1 : List Value} {C : Array Value} (h1 : w.ownsRow b1 e1 s1 v1 n1 x1) (hg : w.heap[g]? = some (.cells C t (0, 0))) (hne : e1 ≠ t) : v1.ownBlock ≠ some g := by
  intro hb
  obtain ⟨_, ⟨rfl, _⟩ | ⟨g', cap, cur, rfl, _, q1, _⟩⟩ := h1
  · cases hb
  · injection hb with hb
    simp only at hb
    subst hb
    rw [q1] at hg
    injection hg with hg
    injection hg with _ hg
    exact hne hg
/-- The blocks that change when a rule is appended in a box. -/
def fewS (fb : Nat) (rv : Value) (k : Nat) : Prop := k = fb ∨ rv.ownBlock = some k
set_option maxRecDepth 100000 in
set_option maxHeartbeats 8000000 in
theorem rCore_any (m : Mo) (f : List Int) (ov rv fv : Value) (w : World) (hs : SizedM m) (hl : f.length ≤ maxLen) (h : MoAt w w.heap.size ov rv m) (hf : Ints w w.heap.size fv f) (hN : m.err = 0 → m.opts.length ≤ 12 ∧ m.rules.length ≤ 12) :
    Calls Try.prog 29 #[.agg #[ov, rv], fv] w (CorP (corL m f) (corE m f) w) := by
  obtain ⟨i0, hi0, iz0, iz1, iz2⟩ := info_parts infoInt
  obtain ⟨i1, hi1, jz0, jz1, jz2⟩ := info_parts infoForm
  obtain ⟨A, cap, hov⟩ := Sl.form h.o
  have HFR := hide h.r
  obtain ⟨fvs, ⟨Ar, bl, offl, capr, hrv, hncl, hAl, hcl⟩, hfi⟩ := h.r
  obtain ⟨Al, capl, hlv⟩ := Sl.form hf
  have H := hide h
  have HF := hide hf
  have HS := hide hs
  have HN := hide hN
  subst hov hlv
  rw [hrv] at h H HFR ⊢
  have HAL := hide hAl
  have HCL := hide hcl
  have HFI := hide hfi
  clear h hf hs hN hrv hAl hcl hfi
  go_enter Try.func29, Try.ntmps29
  go_upto_region 1 with (fail)
  generalize hw0 : World.alloc _ _ = w0
  obtain ⟨hb0, hB0, hs0⟩ := alloc1 hw0
  clear hw0
  have HX0 : Hid (MoBox w0 w.heap.size (.slice A m.opts.length cap) (.slice Ar m.rules.length capr)) := hb0
  have HB0 := hide hB0
  have c0 := cellOf hb0 0
  have c1 := cellOf hb0 1
  have hck := rCheckFormula_any m f (.slice A m.opts.length cap) (.slice Ar m.rules.length capr) (.slice Al f.length capl) w0 HS.out hl (H.out.up hB0) (HF.out.up hB0)
  have HCK := hide hck
  clear hb0 hB0 hs0 hck
  by_cases he : m.errF [f] = 0
  · have HE := hide he
    have HM := hide (Mo.okF he).1
    have HFV := hide ((Mo.okF he).2 f (by simp))
    obtain ⟨hN2, hR⟩ := HN.out (Mo.okF he).1
    have hle := Nat.le_trans (whereF_le (allM m) f) (allM_le4 hN2)
    obtain ⟨M, hM⟩ : ∃ M, whereF (allM m) f = M := ⟨_, rfl⟩
    rw [hM] at hle
    have HM2 := hide hM
    clear he hM
    go_upto_region 4 with (go_at_call 27; refine HCK.out.mono ?_; rw [HE.out]; rintro e w1 ⟨rfl, hB1⟩; have hbx := box_to HX0.out hB1; have d0 := cellOf hbx 0; have d1 := cellOf hbx 1; have HX1 := hide hbx; have HB1 : Hid (Below w.heap.size w w1) := Below.to HB0.out hB1 (Nat.le_refl _); clear hbx hB1 c0 c1)
    by_cases hM0 : M = []
    · subst hM0
      have hempty := HM2.out
      have HP := hide (cor_ok HE.out hempty)
      clear hempty
      go_wp2_with (first | (go_at_call 65; refine (Variants_any m _ _ _ (H.out.up HB1.out) HM.out hN2).mono ?_; rintro e w3 ⟨v3, rfl, hv3, hB3⟩; obtain ⟨A3, cap3, hA3, _, _⟩ := hv3.form; subst hA3; have HV3 := hide hv3; have HB3 : Hid (Below w.heap.size w w3) := Below.to HB1.out hB3 (Nat.le_refl _); have HX3 := hide (box_to HX1.out hB3); clear hv3 hB3 d0 d1) | (go_at_call 75; refine (Where_any m.opts.length (allM m) f _ _ _ HV3.out.rows (HF.out.up HB3.out) (fun x hx => allM_len hx) HFV.out (by have := allM_le4 hN2; omega)).mono ?_; rw [HM2.out]; rintro e w4 ⟨v4, rfl, hv4, hB4⟩; obtain ⟨A4, cap4, hA4, hc3, hc4⟩ := hv4.form; subst hA4; have HB4 : Hid (Below w.heap.size w w4) := Below.to HB3.out hB4 (Nat.le_refl _); have hbx := box_to HX3.out hB4; have HX4 := hide hbx; clear hbx hv4 hB4))
      go_loopw [7, 8] (fun lv i wr => ∃ k : Nat, k ≤ m.rules.length ∧ i = .int .i64 k ∧ Hid (NStk (w.heap.size + 1) wr lv (List.range k)) ∧ Hid (Below w.heap.size w wr) ∧ Hid (MoBox wr w.heap.size (.slice A m.opts.length cap) (.slice Ar m.rules.length capr))) (fun _ i _ => m.rules.length - (intOf i).toNat)
      case atStart => exact ⟨0, Nat.zero_le _, rfl, NStk.nil _ _, HB4.out, HX4.out⟩
      case round =>
        obtain ⟨k, hk, rfl, hS, hB, hX⟩ := hrel
        have c0 := cellOf hX.out 0
        have c1 := cellOf hX.out 1
        have hS0 := hS.out
        obtain ⟨A5, cap5, hA5, hcp1, hcp2⟩ := hS0.shape
        subst hA5
        have hxl := box_lt hX.out
        rw [List.length_range] at hcp1
        have HXL : Hid (w.heap.size + 1 ≤ wr.heap.size) := hxl
        have hS1 : wr.ownsRow (w.heap.size + 1) 3 1 (.slice A5 k cap5) k ((List.range k).map fun (n : Nat) => Value.int .i64 n) := by
          have h1 := hS0
          unfold NStk at h1
          rw [List.length_range] at h1
          exact h1
        have HS1 := hide hS1
        rw [List.length_range]
        clear hS0 hS1 hxl
        by_cases hkl : k < m.rules.length
        · have k12 : (k : Int) ≤ 12 := by omega
          go_wp2_with (at_builtin; go_must (refine wpList_append_own_at _ rfl (.tmp 32) (.tmp 34) _ rfl (w.heap.size + 1) 3 i0 _ 1 8 Try.underlying26 hi0 iz0 iz1 iz2 rfl (by omega) _ _ _ rfl ((HS1.out).alloc _) ⟨wr.heap.size, 0, none⟩ 1 1 [.int .i64 (k : Nat)] rfl rfl (World.news_of_block (heap_alloc_new wr _)) (by simp [Value.oneCell']) (by have h1 := k12; unfold maxLen; omega) (by have h1 := k12; omega) (by have h1 := HXL.out; simp; omega) ?_); intro v1 w3 hown1 hg1 _ hat1; have HOWN := hide hown1; have HG1 := hide hg1; clear hown1 hg1 hat1)
          go_roundw
          case rel =>
            have hlo : ∀ b, (Value.slice A5 k cap5).ownBlock = some b → w.heap.size + 1 ≤ b := fun b hb => (HS1.out.lt b hb).1
            refine ⟨k + 1, by omega, by go_num, ?_, ?_, ?_⟩
            · rw [List.range_succ]
              refine NStk.push ?_
              rw [List.length_range]
              exact HOWN.out
            · exact Below.grown (Below.allocT hB.out (Nat.le_refl _) _) HG1.out (by have := HXL.out; simp; omega) (fun b hb => by have := hlo b hb; omega)
            · exact (HG1.out.block _ (by have := HXL.out; simp; omega) (fun e => by have := hlo _ e.symm; omega)).trans ((Below.heap_alloc _ _ _ (by have := HXL.out; omega)).trans hX.out)
          case measure => simp [intOf]; omega
        · obtain rfl : k = m.rules.length := by omega
          have hstart : NStk (w.heap.size + 1) wr (.slice A5 m.rules.length cap5) (kept m f 0 ++ List.range' 0 (m.rules.length - 0)) := by
            show NStk (w.heap.size + 1) wr _ (List.range' 0 (m.rules.length - 0))
            rw [Nat.sub_zero, ← List.range_eq_range']
            have h1 := hS.out
            rw [List.length_range] at h1
            exact h1
          have HSTART := hide hstart
          clear hstart
          go_wp2_with fail
          clear c0 c1
          obtain ⟨w5, hw5⟩ : ∃ w5 : World, w5 = wr := ⟨_, rfl⟩
          subst hw5
          go_loopw [7, 9, 10, 11] (fun lv i _ _ wr => ∃ j : Nat, j ≤ m.rules.length ∧ i = .int .i64 j ∧ Hid (NStk (w.heap.size + 1) wr lv (kept m f j ++ List.range' j (m.rules.length - j))) ∧ Hid (Below w.heap.size w wr) ∧ Hid (MoBox wr w.heap.size (.slice A m.opts.length cap) (.slice Ar m.rules.length capr))) (fun _ i _ _ _ => m.rules.length - (intOf i).toNat)
          case atStart => exact ⟨0, Nat.zero_le _, rfl, HSTART.out, hB.out, hX.out⟩
          case round =>
            clear HSTART hS HS1 hB hX HXL hcp1 hcp2
            obtain ⟨j, hj, rfl, hS, hB, hX⟩ := hrel
            obtain ⟨A6, cap6, hA6, hcp1, hcp2⟩ := hS.out.shape
            subst hA6
            have hll := left_len (m := m) (f := f) hj
            have hlt := left_lt (m := m) (f := f) hj
            obtain ⟨L, hL⟩ : ∃ L, kept m f j ++ List.range' j (m.rules.length - j) = L := ⟨_, rfl⟩
            rw [hL] at hS hll hlt
            rw [hL]
            have HL := hide hL
            have HLT := hide hlt
            have c0 := cellOf hX.out 0
            have c1 := cellOf hX.out 1
            have hxl := box_lt hX.out
            clear hL hlt hcp1 hcp2
            by_cases hjl : j < m.rules.length
            · have hLs : (L.length : Int) ≤ 12 := by omega
              go_wp2_with fail
              generalize hw0 : World.alloc _ _ = w6
              obtain ⟨hb0, hB0, hs0⟩ := alloc1 hw0
              clear hw0
              obtain ⟨wo, hwo⟩ : ∃ wo : World, wo = wr := ⟨_, rfl⟩
              subst hwo
              have HB6 := hide hB0
              have HF6 : Hid (w6.heap[wo.heap.size]? = some (.cells #[.slice A m.opts.length cap, .slice none 0 0] 25 (0, 0))) := hb0
              have HZ6 : Hid (w6.heap.size = wo.heap.size + 1) := hs0
              clear hb0 hB0 hs0 c0 c1
              go_loopw [11, 12] (fun nv k wr => ∃ (t : Nat) (rv : Value) (vs : List Value), t ≤ L.length ∧ k = .int .i64 t ∧ Hid (NStk w6.heap.size wr nv (butN j (L.take t))) ∧ Hid (wr.heap[wo.heap.size]? = some (.cells #[.slice A m.opts.length cap, rv] 25 (0, 0))) ∧ Hid (OFs w 35 w6.heap.size wr rv (rulesAt m (butN j (L.take t))) vs) ∧ Hid (Below wo.heap.size wo wr)) (fun _ k _ => L.length - (intOf k).toNat)
              case atStart => exact ⟨0, _, [], Nat.zero_le _, rfl, NStk.nil _ _, HF6.out, OFs.nil _ _ _ _, HB6.out⟩
              case round =>
                obtain ⟨t, rv, vs, ht, rfl, hW, hFb, hO, hBi⟩ := hrel
                have hX2 : MoBox wr w.heap.size (.slice A m.opts.length cap) (.slice Ar m.rules.length capr) := box_to hX.out hBi.out
                have c0 := cellOf hX2 0
                have c1 := cellOf hX2 1
                have f0 := cellOf hFb.out 0
                have f1 := cellOf hFb.out 1
                have hbl : (butN j (L.take t)).length ≤ t := Nat.le_trans (List.length_filter_le _ _) (List.length_take_le _ _)
                obtain ⟨N, hN⟩ : ∃ N, butN j (L.take t) = N := ⟨_, rfl⟩
                rw [hN] at hW hO hbl
                obtain ⟨A7, cap7, hA7, hcp1, hcp2⟩ := hW.out.shape
                subst hA7
                obtain ⟨A8, cap8, hA8, hcq1, hcq2⟩ := hO.out.shape
                have hrl : (rulesAt m N).length = N.length := by simp [rulesAt]
                rw [hrl] at hA8 hcq1
                subst hA8
                have HNN := hide hN
                have HRL := hide hrl
                clear hN hcp1 hcp2 hcq1 hcq2 hX2
                by_cases htl : t < L.length
                · obtain ⟨g, hg0, hg1, hg2, hg3⟩ := hS.out.cells (by omega)
                  subst hg0
                  obtain ⟨q, hq⟩ : ∃ q, L.getD t 0 = q := ⟨_, rfl⟩
                  have d0 := hg3 t htl
                  rw [hq] at d0
                  have hqR : q < m.rules.length := HLT.out q (by rw [← hq]; exact getD_mem htl)
                  have x0 : wr.cell? ⟨g, t, none⟩ = some (.int .i64 (q : Nat)) := (hBi.out.cell (p := ⟨g, t, none⟩) hg1).trans d0
                  have k0 : (t : Int) < (L.length : Int) := by omega
                  have HD0 := hide d0
                  have HQ := hide hq
                  clear hg3 hq d0
                  by_cases hqj : q = j
                  · have hqe : ((q : Int) != (j : Int)) = false := by simp [hqj]
                    have hnx := butN_no (i := j) htl (by rw [HQ.out]; exact hqj)
                    rw [HNN.out] at hnx
                    have HNX := hide hnx
                    clear hqj hnx
                    go_wp2_with fail
                    go_roundw
                    case rel => exact ⟨t + 1, _, vs, by omega, by go_num, by rw [HNX.out]; exact hW.out, hFb.out, by rw [HNX.out]; exact hO.out, hBi.out⟩
                    case measure => simp [intOf]; omega
                  · have hqe : ((q : Int) != (j : Int)) = true := by simp; omega
                    have hnx := butN_yes (i := j) htl (by rw [HQ.out]; exact hqj)
                    rw [HNN.out, HQ.out] at hnx
                    have HNX := hide hnx
                    have hbase : w6.heap.size ≤ wr.heap.size := by have h1 := box_lt hFb.out; have h2 := HZ6.out; omega
                    have HBS := hide hbase
                    have n12 : (N.length : Int) ≤ 12 := by omega
                    obtain ⟨rfl, hbb, Af, capf, p0, p1⟩ := rows_get (enc := Value.int .i64) (z := 0) HAL.out HCL.out HFI.out hqR
                    obtain ⟨r, hr⟩ : ∃ r, m.rules.getD q [] = r := ⟨_, rfl⟩
                    rw [hr] at p0 p1
                    have HP0 := hide p0
                    have HP1 := hide p1
                    have HR := hide hr
                    clear hqj hnx hbase p0 p1 hr
                    go_wp2_with (at_builtin; go_must (refine wpList_append_own_at _ rfl (.tmp 58) (.tmp 63) _ rfl (w6.heap.size) 3 i0 _ 1 8 Try.underlying26 hi0 iz0 iz1 iz2 rfl (by omega) _ _ _ rfl ((hW.out).alloc _) ⟨wr.heap.size, 0, none⟩ 1 1 [.int .i64 (q : Nat)] rfl rfl (World.news_of_block (heap_alloc_new wr _)) (by simp [Value.oneCell']) (by have h1 := n12; unfold maxLen; omega) (by have h1 := n12; omega) (by have h1 := HBS.out; simp; omega) ?_); intro v1 w3 hown1 hg1 _ hat1; have HOWN := hide hown1; have HG1 := hide hg1; clear hown1 hg1 hat1)
                    have hW7 : NStk w6.heap.size w3 v1 (N ++ [q]) := NStk.push HOWN.out
                    have hlo1 : ∀ b, (Value.slice A7 N.length cap7).ownBlock = some b → w6.heap.size ≤ b := fun b hb => (hW.out.lt b hb).1
                    have hblk : ∀ b, b < wr.heap.size → (Value.slice A7 N.length cap7).ownBlock ≠ some b → w3.heap[b]? = wr.heap[b]? := fun b hb hne => (HG1.out.block b (by simp; omega) (fun e => hne e.symm)).trans (Below.heap_alloc _ _ _ hb)
                    have hB7 : Below wo.heap.size wo w3 := Below.grown (Below.allocT hBi.out (Nat.le_refl _) _) HG1.out (by have h1 := HBS.out; have h2 := HZ6.out; simp; omega) (fun b hb => by have h1 := hlo1 b hb; have h2 := HZ6.out; omega)
                    have hfb7 : w3.heap[wo.heap.size]? = some (.cells #[.slice A m.opts.length cap, .slice A8 N.length cap8] 25 (0, 0)) := (hblk _ (box_lt hFb.out) (owns_not hW.out hFb.out (by decide))).trans hFb.out
                    have hO7 : OFs w 35 w6.heap.size w3 (.slice A8 N.length cap8) (rulesAt m N) vs := hO.out.same fun b hb => hblk b (hO.out.own.lt b hb).2 (owns_apart hO.out.own hW.out (by decide) b hb)
                    have hX7 : MoBox w3 w.heap.size (.slice A m.opts.length cap) (.slice (some ⟨bl, offl, none⟩) m.rules.length capr) := box_to hX.out hB7
                    have hBw7 : Below w.heap.size w w3 := Below.to hB.out hB7 (Nat.le_refl _)
                    have y0 : w3.cell? ⟨g, t, none⟩ = some (.int .i64 (q : Nat)) := (hB7.cell (p := ⟨g, t, none⟩) hg1).trans HD0.out
                    have y1 : w3.cell? ⟨bl, offl + q, none⟩ = some (.slice Af r.length capf) := (hBw7.cell (p := ⟨bl, offl + q, none⟩) hbb).trans HP0.out
                    have z0 := cellOf hX7 0
                    have z1 := cellOf hX7 1
                    have u0 := cellOf hfb7 0
                    have u1 := cellOf hfb7 1
                    have l0 : w.heap.size < w3.heap.size := box_lt hX7
                    have l1 : g < w3.heap.size := Nat.lt_of_lt_of_le hg1 hB7.size
                    have l2 : bl < w3.heap.size := Nat.lt_of_lt_of_le hbb hBw7.size
                    have l3 : wo.heap.size < w3.heap.size := box_lt hfb7
                    have hlo2 : ∀ b, (Value.slice A8 N.length cap8).ownBlock = some b → w6.heap.size ≤ b := fun b hb => (hO.out.own.lt b hb).1
                    have s0 : ¬ fewS wo.heap.size (.slice A8 N.length cap8) w.heap.size := fun h => by
                      have h2 := HZ6.out
                      rcases h with h | h
                      · omega
                      · have := hlo2 _ h; omega
                    have s1 : ¬ fewS wo.heap.size (.slice A8 N.length cap8) g := fun h => by
                      have h2 := HZ6.out
                      rcases h with h | h
                      · omega
                      · have := hlo2 _ h; omega
                    have s2 : ¬ fewS wo.heap.size (.slice A8 N.length cap8) bl := fun h => by
                      have h2 := HZ6.out
                      rcases h with h | h
                      · omega
                      · have := hlo2 _ h; omega
                    have k1 : (q : Int) < (m.rules.length : Int) := by omega
                    have hown7 := hO7.own
                    rw [HRL.out] at hown7
                    have HO7 := hide hO7
                    have HOW7 := hide hown7
                    have HW7 := hide hW7
                    have HB7 := hide hB7
                    have HFB7 := hide hfb7
                    have HX7 := hide hX7
                    have HBS7 : Hid (w6.heap.size ≤ w3.heap.size) := Nat.le_trans HBS.out (by have := HG1.out.size; simp at this; omega)
                    clear hW7 hlo1 hblk hB7 hfb7 hO7 hX7 hBw7 hlo2 hown7 c0 c1 f0 f1 x0
                    refine wp_region_held_drew (S := (fun w' => Keeps (fewS wo.heap.size (.slice A8 N.length cap8)) w3 w')) (by kernel_rfl) ?_ (fun hHeld => ?_)
                    · try dsimp only
                      (repeat (first | (with_reducible exact Keeps.refl _ _) | exact hKeep.out | exact hKeepS.out _ | assumption | (with_reducible refine Keeps.drew ?_) | (with_reducible refine Keeps.drewN ?_ _) | (with_reducible refine Keeps.alloc ?_ _) | (with_reducible refine Keeps.setCell ?_ (.inl (by first | exact .inl rfl | exact .inr rfl)) _)))
                    refine wpAnyH_take (i := 0) (v := ?v31_1) rfl (by kernel_rfl) (by kernel_rfl) (by kernel_rfl) (fun _ _ _ h => h) (Or.inl ⟨by rfl, ?y31_1⟩) (by assumption) ?r31_1
                    case' y31_1 => (intro w hSw; (try dsimp only at hSw); (try have hlS := HLK.out _ hSw); have hcS := kcell hSw; clear hSw; go_simp; try with_reducible rfl)
                    try simp only [Act.put, List.getElem_toArray, List.getElem_cons_succ, List.getElem_cons_zero, List.setIfInBounds_toArray, List.set_cons_zero, List.set_cons_succ]
                    refine wpAnyH_take (i := 2) (v := ?v31_2) rfl (by kernel_rfl) (by kernel_rfl) (by kernel_rfl) (fun _ _ _ h => h) (Or.inl ⟨by rfl, ?y31_2⟩) (by assumption) ?r31_2
                    case' y31_2 => (intro w hSw; (try dsimp only at hSw); (try have hlS := HLK.out _ hSw); have hcS := kcell hSw; clear hSw; go_simp; try with_reducible rfl)
                    try simp only [Act.put, List.getElem_toArray, List.getElem_cons_succ, List.getElem_cons_zero, List.setIfInBounds_toArray, List.set_cons_zero, List.set_cons_succ]
                    refine wpAnyH_take (i := 3) (v := ?v31_3) rfl (by kernel_rfl) (by kernel_rfl) (by kernel_rfl) (fun _ _ _ h => h) (Or.inl ⟨by rfl, ?y31_3⟩) (by assumption) ?r31_3
                    case' y31_3 => (intro w hSw; (try dsimp only at hSw); (try have hlS := HLK.out _ hSw); have hcS := kcell hSw; clear hSw; go_simp; try with_reducible rfl)
                    try simp only [Act.put, List.getElem_toArray, List.getElem_cons_succ, List.getElem_cons_zero, List.setIfInBounds_toArray, List.set_cons_zero, List.set_cons_succ]
                    refine wpAnyH_take (i := 4) (v := ?v31_4) rfl (by kernel_rfl) (by kernel_rfl) (by kernel_rfl) (fun _ _ _ h => h) (Or.inl ⟨by rfl, ?y31_4⟩) (by assumption) ?r31_4
                    case' y31_4 => (intro w hSw; (try dsimp only at hSw); (try have hlS := HLK.out _ hSw); have hcS := kcell hSw; clear hSw; go_simp; try with_reducible rfl)
                    try simp only [Act.put, List.getElem_toArray, List.getElem_cons_succ, List.getElem_cons_zero, List.setIfInBounds_toArray, List.set_cons_zero, List.set_cons_succ]
                    refine wpAnyH_take (i := 5) (v := ?v31_5) rfl (by kernel_rfl) (by kernel_rfl) (by kernel_rfl) (fun _ _ _ h => h) (Or.inl ⟨by rfl, ?y31_5⟩) (by assumption) ?r31_5
                    case' y31_5 => (intro w hSw; (try dsimp only at hSw); (try have hlS := HLK.out _ hSw); have hcS := kcell hSw; clear hSw; go_simp; try with_reducible rfl)
                    try simp only [Act.put, List.getElem_toArray, List.getElem_cons_succ, List.getElem_cons_zero, List.setIfInBounds_toArray, List.set_cons_zero, List.set_cons_succ]
                    refine wpAnyH_take (i := 6) (v := ?v31_6) rfl (by kernel_rfl) (by kernel_rfl) (by kernel_rfl) (fun _ _ _ h => h) (Or.inl ⟨by rfl, ?y31_6⟩) (by assumption) ?r31_6
                    case' y31_6 => (intro w hSw; (try dsimp only at hSw); (try have hlS := HLK.out _ hSw); have hcS := kcell hSw; clear hSw; go_simp; try with_reducible rfl)
                    try simp only [Act.put, List.getElem_toArray, List.getElem_cons_succ, List.getElem_cons_zero, List.setIfInBounds_toArray, List.set_cons_zero, List.set_cons_succ]
                    refine wpAnyH_take (i := 7) (v := ?v31_7) rfl (by kernel_rfl) (by kernel_rfl) (by kernel_rfl) (fun _ _ _ h => h) (Or.inl ⟨by rfl, ?y31_7⟩) (by assumption) ?r31_7
                    case' y31_7 => (intro w hSw; (try dsimp only at hSw); (try have hlS := HLK.out _ hSw); have hcS := kcell hSw; clear hSw; go_simp; try with_reducible rfl)
                    try simp only [Act.put, List.getElem_toArray, List.getElem_cons_succ, List.getElem_cons_zero, List.setIfInBounds_toArray, List.set_cons_zero, List.set_cons_succ]
                    refine wpAnyH_take (i := 8) (v := ?v31_8) rfl (by kernel_rfl) (by kernel_rfl) (by kernel_rfl) (fun _ _ _ h => h) (Or.inl ⟨by rfl, ?y31_8⟩) (by assumption) ?r31_8
                    case' y31_8 => (intro w hSw; (try dsimp only at hSw); (try have hlS := HLK.out _ hSw); have hcS := kcell hSw; clear hSw; go_simp; try with_reducible rfl)
                    try simp only [Act.put, List.getElem_toArray, List.getElem_cons_succ, List.getElem_cons_zero, List.setIfInBounds_toArray, List.set_cons_zero, List.set_cons_succ]
                    refine wpAnyH_take (i := 9) (v := ?v31_9) rfl (by kernel_rfl) (by kernel_rfl) (by kernel_rfl) (fun _ _ _ h => h) (Or.inl ⟨by rfl, ?y31_9⟩) (by assumption) ?r31_9
                    case' y31_9 => (intro w hSw; (try dsimp only at hSw); (try have hlS := HLK.out _ hSw); have hcS := kcell hSw; clear hSw; go_simp; try with_reducible rfl)
                    try simp only [Act.put, List.getElem_toArray, List.getElem_cons_succ, List.getElem_cons_zero, List.setIfInBounds_toArray, List.set_cons_zero, List.set_cons_succ]
                    refine wpAnyH_ready (rs := [1, 10]) (by kernel_rfl) (by simp) ?_
                    refine (AllReadyH.cons rfl (fun K hK => ?o31_10_1) (AllReadyH.cons rfl (fun K hK => ?o31_10_10) AllReadyH.nil))
                    case' o31_10_1 =>
                      go_simp
                      refine hK.out _ _ ?_ (fun hNext => ?_)
                      · try dsimp only
                        (repeat (first | (with_reducible exact Keeps.refl _ _) | exact hKeep.out | exact hKeepS.out _ | assumption | (with_reducible refine Keeps.drew ?_) | (with_reducible refine Keeps.drewN ?_ _) | (with_reducible refine Keeps.alloc ?_ _) | (with_reducible refine Keeps.setCell ?_ (.inl (by first | exact .inl rfl | exact .inr rfl)) _)))
                      clear hK K hHeld
                      have hHeld := hNext
                      clear hNext
                      (try dsimp only at hHeld)
                      try simp only [Act.put, List.getElem_toArray, List.getElem_cons_succ, List.getElem_cons_zero, List.setIfInBounds_toArray, List.set_cons_zero, List.set_cons_succ]
                      refine wpAnyH_ready (rs := [10]) (by kernel_rfl) (by simp) ?_
                      refine (AllReadyH.cons rfl (fun K hK => ?_) AllReadyH.nil)
                      go_simp
                      refine hK.out _ _ ?_ (fun hNext => ?_)
                      · try dsimp only
                        (repeat (first | (with_reducible exact Keeps.refl _ _) | exact hKeep.out | exact hKeepS.out _ | assumption | (with_reducible refine Keeps.drew ?_) | (with_reducible refine Keeps.drewN ?_ _) | (with_reducible refine Keeps.alloc ?_ _) | (with_reducible refine Keeps.setCell ?_ (.inl (by first | exact .inl rfl | exact .inr rfl)) _)))
                      clear hK K hHeld
                      have hHeld := hNext
                      clear hNext
                      (try dsimp only at hHeld)
                      try simp only [Act.put, List.getElem_toArray, List.getElem_cons_succ, List.getElem_cons_zero, List.setIfInBounds_toArray, List.set_cons_zero, List.set_cons_succ]
                      refine wpAnyH_ready (rs := [11]) (by kernel_rfl) (by simp) ?_
                      refine (AllReadyH.cons rfl (fun K hK => ?_) AllReadyH.nil)
                      (refine step_append_any _ (by rfl) (.tmp 66) (.tmp 75) _ (by rfl) w6.heap.size 35 i1 _ 1 24 Try.underlying23 hi1 jz0 jz1 jz2 (by rfl) (by omega) (.slice A8 N.length cap8) N.length vs (by rfl) (World.ownsRow.alloc (w := w3.drew) HOW7.out _) (w3.heap.size + 1) (some ⟨w3.heap.size, 0, none⟩) 1 1 [.slice Af r.length capf] (by rfl) ⟨rfl, fun _ => ⟨_, rfl, by simp, World.news_of_block (heap_alloc_new w3.drew _)⟩⟩ (by simp [Value.oneCell']) (by unfold maxLen; omega) (by omega) (by have := HBS7.out; simp; omega) ?_; intro v4 w4 hown4 hg4 hat4; obtain ⟨B4, cpb, hv4⟩ := owns_form hown4; subst hv4; have hKeep : Hid (Keeps (fewS wo.heap.size (.slice A8 N.length cap8)) w3 w4) := Keeps.trans (((Keeps.refl _ w3).drew).alloc _) (Keeps.of_grown hg4 (fun k hk => Or.inr hk)) (fun _ _ h => h); have hKeepS : Hid (∀ u, Keeps (fewS wo.heap.size (.slice A8 N.length cap8)) w3 (w4.setCell ⟨wo.heap.size, 1, none⟩ u)) := (fun u => hKeep.out.setCell (.inl (Or.inl rfl)) u); have hfb4 := ((hg4.block wo.heap.size (by simp; omega) (fun e => owns_not HOW7.out HFB7.out (by decide) e.symm)).trans (Below.heap_alloc _ _ _ (by simpa using l3))).trans HFB7.out; have j0 := cellOf hfb4 1; have j1 := unfrozenOf hfb4 1; have HFB4 := hide hfb4; have HOWN4 := hide hown4; have HG4 := hide hg4; clear hfb4 hown4 hat4 hg4)
                      (try dsimp only)
                      refine hK.out _ _ ?_ (fun hNext => ?_)
                      · try dsimp only
                        (repeat (first | (with_reducible exact Keeps.refl _ _) | exact hKeep.out | exact hKeepS.out _ | assumption | (with_reducible refine Keeps.drew ?_) | (with_reducible refine Keeps.drewN ?_ _) | (with_reducible refine Keeps.alloc ?_ _) | (with_reducible refine Keeps.setCell ?_ (.inl (by first | exact .inl rfl | exact .inr rfl)) _)))
                      clear hK K hHeld
                      have hHeld := hNext
                      clear hNext
                      (try dsimp only at hHeld)
                      try simp only [Act.put, List.getElem_toArray, List.getElem_cons_succ, List.getElem_cons_zero, List.setIfInBounds_toArray, List.set_cons_zero, List.set_cons_succ]
                      refine wpAnyH_take (i := 12) (v := ?v31_13) rfl (by kernel_rfl) (by kernel_rfl) (by kernel_rfl) (fun _ _ _ h => h) (Or.inl ⟨by rfl, ?y31_13⟩) (by assumption) ?r31_13
                      case' y31_13 => (intro w hSw; (try dsimp only at hSw); (try have hlS := HLK.out _ hSw); have hcS := kcell hSw; clear hSw; go_simp; try with_reducible rfl)
                      try simp only [Act.put, List.getElem_toArray, List.getElem_cons_succ, List.getElem_cons_zero, List.setIfInBounds_toArray, List.set_cons_zero, List.set_cons_succ]
                      refine wpAnyH_ready (rs := [13]) (by kernel_rfl) (by simp) ?_
                      refine (AllReadyH.cons rfl (fun K hK => ?_) AllReadyH.nil)
                      go_simp
                      refine hK.out _ _ ?_ (fun hNext => ?_)
                      · try dsimp only
                        (repeat (first | (with_reducible exact Keeps.refl _ _) | exact hKeep.out | exact hKeepS.out _ | assumption | (with_reducible refine Keeps.drew ?_) | (with_reducible refine Keeps.drewN ?_ _) | (with_reducible refine Keeps.alloc ?_ _) | (with_reducible refine Keeps.setCell ?_ (.inl (by first | exact .inl rfl | exact .inr rfl)) _)))
                      clear hK K hHeld
                      have hHeld := hNext
                      clear hNext
                      (try dsimp only at hHeld)
                      try simp only [Act.put, List.getElem_toArray, List.getElem_cons_succ, List.getElem_cons_zero, List.setIfInBounds_toArray, List.set_cons_zero, List.set_cons_succ]
                      refine wpAnyH_done (by kernel_rfl) ?_ _
                    case' o31_10_10 =>
                      go_simp
                      refine hK.out _ _ ?_ (fun hNext => ?_)
                      · try dsimp only
                        (repeat (first | (with_reducible exact Keeps.refl _ _) | exact hKeep.out | exact hKeepS.out _ | assumption | (with_reducible refine Keeps.drew ?_) | (with_reducible refine Keeps.drewN ?_ _) | (with_reducible refine Keeps.alloc ?_ _) | (with_reducible refine Keeps.setCell ?_ (.inl (by first | exact .inl rfl | exact .inr rfl)) _)))
                      clear hK K hHeld
                      have hHeld := hNext
                      clear hNext
                      (try dsimp only at hHeld)
                      try simp only [Act.put, List.getElem_toArray, List.getElem_cons_succ, List.getElem_cons_zero, List.setIfInBounds_toArray, List.set_cons_zero, List.set_cons_succ]
                      refine wpAnyH_ready (rs := [1]) (by kernel_rfl) (by simp) ?_
                      refine (AllReadyH.cons rfl (fun K hK => ?_) AllReadyH.nil)
                      go_simp
                      refine hK.out _ _ ?_ (fun hNext => ?_)
                      · try dsimp only
                        (repeat (first | (with_reducible exact Keeps.refl _ _) | exact hKeep.out | exact hKeepS.out _ | assumption | (with_reducible refine Keeps.drew ?_) | (with_reducible refine Keeps.drewN ?_ _) | (with_reducible refine Keeps.alloc ?_ _) | (with_reducible refine Keeps.setCell ?_ (.inl (by first | exact .inl rfl | exact .inr rfl)) _)))
                      clear hK K hHeld
                      have hHeld := hNext
                      clear hNext
                      (try dsimp only at hHeld)
                      try simp only [Act.put, List.getElem_toArray, List.getElem_cons_succ, List.getElem_cons_zero, List.setIfInBounds_toArray, List.set_cons_zero, List.set_cons_succ]
                      refine wpAnyH_ready (rs := [11]) (by kernel_rfl) (by simp) ?_
                      refine (AllReadyH.cons rfl (fun K hK => ?_) AllReadyH.nil)
                      (refine step_append_any _ (by rfl) (.tmp 66) (.tmp 75) _ (by rfl) w6.heap.size 35 i1 _ 1 24 Try.underlying23 hi1 jz0 jz1 jz2 (by rfl) (by omega) (.slice A8 N.length cap8) N.length vs (by rfl) (World.ownsRow.alloc (w := w3.drew) HOW7.out _) (w3.heap.size + 1) (some ⟨w3.heap.size, 0, none⟩) 1 1 [.slice Af r.length capf] (by rfl) ⟨rfl, fun _ => ⟨_, rfl, by simp, World.news_of_block (heap_alloc_new w3.drew _)⟩⟩ (by simp [Value.oneCell']) (by unfold maxLen; omega) (by omega) (by have := HBS7.out; simp; omega) ?_; intro v4 w4 hown4 hg4 hat4; obtain ⟨B4, cpb, hv4⟩ := owns_form hown4; subst hv4; have hKeep : Hid (Keeps (fewS wo.heap.size (.slice A8 N.length cap8)) w3 w4) := Keeps.trans (((Keeps.refl _ w3).drew).alloc _) (Keeps.of_grown hg4 (fun k hk => Or.inr hk)) (fun _ _ h => h); have hKeepS : Hid (∀ u, Keeps (fewS wo.heap.size (.slice A8 N.length cap8)) w3 (w4.setCell ⟨wo.heap.size, 1, none⟩ u)) := (fun u => hKeep.out.setCell (.inl (Or.inl rfl)) u); have hfb4 := ((hg4.block wo.heap.size (by simp; omega) (fun e => owns_not HOW7.out HFB7.out (by decide) e.symm)).trans (Below.heap_alloc _ _ _ (by simpa using l3))).trans HFB7.out; have j0 := cellOf hfb4 1; have j1 := unfrozenOf hfb4 1; have HFB4 := hide hfb4; have HOWN4 := hide hown4; have HG4 := hide hg4; clear hfb4 hown4 hat4 hg4)
                      (try dsimp only)
                      refine hK.out _ _ ?_ (fun hNext => ?_)
                      · try dsimp only
                        (repeat (first | (with_reducible exact Keeps.refl _ _) | exact hKeep.out | exact hKeepS.out _ | assumption | (with_reducible refine Keeps.drew ?_) | (with_reducible refine Keeps.drewN ?_ _) | (with_reducible refine Keeps.alloc ?_ _) | (with_reducible refine Keeps.setCell ?_ (.inl (by first | exact .inl rfl | exact .inr rfl)) _)))
                      clear hK K hHeld
                      have hHeld := hNext
                      clear hNext
                      (try dsimp only at hHeld)
                      try simp only [Act.put, List.getElem_toArray, List.getElem_cons_succ, List.getElem_cons_zero, List.setIfInBounds_toArray, List.set_cons_zero, List.set_cons_succ]
                      refine wpAnyH_take (i := 12) (v := ?v31_17) rfl (by kernel_rfl) (by kernel_rfl) (by kernel_rfl) (fun _ _ _ h => h) (Or.inl ⟨by rfl, ?y31_17⟩) (by assumption) ?r31_17
                      case' y31_17 => (intro w hSw; (try dsimp only at hSw); (try have hlS := HLK.out _ hSw); have hcS := kcell hSw; clear hSw; go_simp; try with_reducible rfl)
                      try simp only [Act.put, List.getElem_toArray, List.getElem_cons_succ, List.getElem_cons_zero, List.setIfInBounds_toArray, List.set_cons_zero, List.set_cons_succ]
                      refine wpAnyH_ready (rs := [13]) (by kernel_rfl) (by simp) ?_
                      refine (AllReadyH.cons rfl (fun K hK => ?_) AllReadyH.nil)
                      go_simp
                      refine hK.out _ _ ?_ (fun hNext => ?_)
                      · try dsimp only
                        (repeat (first | (with_reducible exact Keeps.refl _ _) | exact hKeep.out | exact hKeepS.out _ | assumption | (with_reducible refine Keeps.drew ?_) | (with_reducible refine Keeps.drewN ?_ _) | (with_reducible refine Keeps.alloc ?_ _) | (with_reducible refine Keeps.setCell ?_ (.inl (by first | exact .inl rfl | exact .inr rfl)) _)))
                      clear hK K hHeld
                      have hHeld := hNext
                      clear hNext
                      (try dsimp only at hHeld)
                      try simp only [Act.put, List.getElem_toArray, List.getElem_cons_succ, List.getElem_cons_zero, List.setIfInBounds_toArray, List.set_cons_zero, List.set_cons_succ]
                      refine wpAnyH_done (by kernel_rfl) ?_ _
                    all_goals
                      generalize hw9 : World.setCell _ _ _ = w9
                      have hfb9 : w9.heap[wo.heap.size]? = some (.cells #[.slice A m.opts.length cap, .slice B4 (N.length + 1) cpb] 25 (0, 0)) := by
                        rw [← hw9]; exact setCellOf HFB4.out _
                      have hoth : ∀ b, b ≠ wo.heap.size → w9.heap[b]? = w4.heap[b]? := fun b hb => by rw [← hw9]; exact Below.heap_setCell _ _ _ _ hb
                      have hs9 : w9.heap.size = w4.heap.size := by rw [← hw9]; simp [World.setCell]
                      have hk9 : Keeps (fewS wo.heap.size (.slice A8 N.length cap8)) w3 w9 := by rw [← hw9]; exact hKeepS.out _
                      have hB9 : Below wo.heap.size wo w9 := HB7.out.trans (hk9.below (by omega) (fun k hk => by
                        rcases hk with hk | hk
                        · omega
                        · have h1 := (HOW7.out.lt k hk).1; have h2 := HZ6.out; omega))
                      have hO9 : OFs w 35 w6.heap.size w9 (.slice B4 (N.length + 1) cpb) (rulesAt m N ++ [r]) (vs ++ [.slice Af r.length capf]) := by
                        refine OFs.push HO7.out HP1.out ?_
                        rw [HRL.out]
                        exact ownsRow_same HOWN4.out fun b hb => hoth b (fun e => owns_not HOWN4.out HFB4.out (by decide) (by rw [← e]; exact hb))
                      have hW9 : NStk w6.heap.size w9 v1 (N ++ [q]) := HW7.out.same fun b hb => hk9.block b (HW7.out.lt b hb).2 (fun hk => by
                        rcases hk with hk | hk
                        · have h1 := (HW7.out.lt b hb).1; have h2 := HZ6.out; omega
                        · exact owns_apart HW7.out HOW7.out (by decide) b hb hk)
                      have HFB9 := hide hfb9
                      have HB9 := hide hB9
                      have HO9 := hide hO9
                      have HW9 := hide hW9
                      clear hHeld hw9 hfb9 hoth hs9 hk9 hB9 hO9 hW9 u0 u1 y0 y1 z0 z1 s0 s1 s2 j0 j1
                      go_wp2_with fail
                      go_roundw
                      case rel =>
                        refine ⟨t + 1, _, vs ++ [.slice Af r.length capf], by omega, by go_num, by rw [HNX.out]; exact HW9.out, HFB9.out, ?_, HB9.out⟩
                        have e : rulesAt m (N ++ [q]) = rulesAt m N ++ [r] := by
                          unfold rulesAt
                          rw [List.map_append, List.map_cons, List.map_nil, HR.out]
                        rw [HNX.out, e]
                        exact HO9.out
                      case measure => simp [intOf]; omega
                · obtain rfl : t = L.length := by omega
                  have hN2' : N = kept m f j ++ List.range' (j + 1) (m.rules.length - (j + 1)) := by
                    rw [← HNN.out, List.take_length, ← HL.out, butN_left hjl]
                  have hfs := fewM_where m f (kept m f j) (j + 1)
                  rw [← hN2'] at hfs
                  have hNlt : ∀ k ∈ N, k < m.rules.length := fun k hk => by
                    rw [hN2'] at hk
                    rcases List.mem_append.1 hk with h | h
                    · have := kept_lt m f j k h; omega
                    · rw [List.mem_range'] at h
                      obtain ⟨q, _, hq⟩ := h
                      omega
                  have hferr := fewM_err HM.out hNlt (by omega)
                  have hBw := Below.to hB.out hBi.out (Nat.le_refl _)
                  have hfm : MoAt wr wr.heap.size (.slice A m.opts.length cap) (.slice A8 N.length cap8) (fewM m N) := ⟨(H.out.up hBw).o, hO.out.forms hBw⟩
                  have hva := Variants_any (fewM m N) _ _ wr hfm hferr hN2
                  have hal : ∀ x ∈ allM (fewM m N), x.length = m.opts.length := fun x hx => allM_len (m := fewM m N) hx
                  have hal4 := allM_le4 (m := fewM m N) hN2
                  obtain ⟨Q, hQ⟩ : ∃ Q, allM (fewM m N) = Q := ⟨_, rfl⟩
                  rw [hQ] at hva hfs hal hal4
                  have HVA := hide hva
                  have HFS := hide hfs
                  have HAL2 := hide hal
                  have HN2 := hide hN2'
                  have HBW := hide hBw
                  obtain ⟨S, hS9⟩ : ∃ S, corS m f (kept m f j) (j + 1) = S := ⟨_, rfl⟩
                  have HS9 := hide hS9
                  have HXR := hide (box_to hX.out hBi.out)
                  clear hN2' hfs hNlt hferr hBw hfm hva hal hQ hS9 c0 c1
                  have hw4 : ∀ (w8 : World) (v8 : Value), Vars w8 w8.heap.size v8 Q → Below wr.heap.size wr w8 → Calls Try.prog 75 #[v8, .slice Al f.length capl] w8 fun e w' => ∃ v, e = .returned v ∧ VStk (fun _ => False) w8.heap.size w' v S ∧ Below w8.heap.size w8 w' := fun w8 v8 hv8 hB8 => by
                    have h1 := Where_any m.opts.length Q f v8 (.slice Al f.length capl) w8 hv8 (HF.out.up (Below.to HBW.out hB8 (Nat.le_refl _))) HAL2.out HFV.out (by omega)
                    rwa [HFS.out, HS9.out] at h1
                  have HW4 := hide hw4
                  clear hw4
                  by_cases hS0 : S = []
                  · subst hS0
                    have hemp : (corS m f (kept m f j) (j + 1)).isEmpty = true := by rw [HS9.out]; rfl
                    have hst := left_step_yes hjl hemp
                    rw [← HN2.out] at hst
                    have HST := hide hst
                    clear hemp hst
                    go_wp2_with (first | (go_at_call 65; refine HVA.out.mono ?_; rintro e w8 ⟨v8, rfl, hv8, hB8⟩; obtain ⟨A9, cap9, hA9, _, _⟩ := hv8.form; subst hA9; have HV8 := hide hv8.rows; have HB8 := hide hB8; clear hv8 hB8) | (go_at_call 75; refine (HW4.out _ _ HV8.out HB8.out).mono ?_; rintro e w9 ⟨v9, rfl, hv9, hB9⟩; obtain ⟨A10, cap10, hA10, _, _⟩ := hv9.form; subst hA10; have HB9 : Hid (Below wr.heap.size wr w9) := Below.to HB8.out hB9 (Nat.le_refl _); clear hv9 hB9))
                    go_roundw
                    case rel =>
                      refine ⟨j + 1, by omega, by go_num, ?_, ?_, box_to HXR.out HB9.out⟩
                      · rw [← HST.out]
                        exact (hW.out.below HB9.out).base (by have := HZ6.out; have := hB.out.size; omega)
                      · exact Below.to (Below.to hB.out hBi.out (Nat.le_refl _)) HB9.out (Nat.le_refl _)
                    case measure => simp [intOf]; omega
                  · have hemp : (corS m f (kept m f j) (j + 1)).isEmpty = false := by
                      rw [HS9.out]
                      match S, hS0 with
                      | a :: r, _ => rfl
                    have hst := left_step_no hjl hemp
                    rw [HL.out] at hst
                    have HST := hide hst
                    have hSl : ((S.length : Int) == 0) = false := by
                      have := List.length_pos_iff.2 hS0
                      simp; omega
                    clear hemp hst hS0
                    go_wp2_with (first | (go_at_call 65; refine HVA.out.mono ?_; rintro e w8 ⟨v8, rfl, hv8, hB8⟩; obtain ⟨A9, cap9, hA9, _, _⟩ := hv8.form; subst hA9; have HV8 := hide hv8.rows; have HB8 := hide hB8; clear hv8 hB8) | (go_at_call 75; refine (HW4.out _ _ HV8.out HB8.out).mono ?_; rintro e w9 ⟨v9, rfl, hv9, hB9⟩; obtain ⟨A10, cap10, hA10, _, _⟩ := hv9.form; subst hA10; have HB9 : Hid (Below wr.heap.size wr w9) := Below.to HB8.out hB9 (Nat.le_refl _); clear hv9 hB9))
                    go_roundw
                    case rel =>
                      refine ⟨j + 1, by omega, by go_num, ?_, ?_, box_to HXR.out HB9.out⟩
                      · rw [← HST.out]
                        have h1 : NStk (w.heap.size + 1) wr (.slice A6 L.length cap6) L := hS.out.below hBi.out
                        exact h1.below HB9.out
                      · exact Below.to (Below.to hB.out hBi.out (Nat.le_refl _)) HB9.out (Nat.le_refl _)
                    case measure => simp [intOf]; omega
            · obtain rfl : j = m.rules.length := by omega
              have hLk : L = kept m f m.rules.length := by
                rw [← HL.out, Nat.sub_self]
                simp
              have HLK := hide hLk
              have HND := hide (Nods.of_own hS.out)
              clear hLk
              go_wp2_with fail
              go_ret2
              rw [HP.out.1, HP.out.2, ← HLK.out]
              exact ⟨_, rfl, HND.out, hB.out⟩
    · have hne : whereF (allM m) f ≠ [] := by rw [HM2.out]; exact hM0
      have HP := hide (cor_arg HE.out hne)
      have hMl : (0 : Int) < (M.length : Int) := by
        have := List.length_pos_iff.2 hM0
        omega
      clear hne hM0
      go_wp2_with (first | (go_at_call 65; refine (Variants_any m _ _ _ (H.out.up HB1.out) HM.out hN2).mono ?_; rintro e w3 ⟨v3, rfl, hv3, hB3⟩; obtain ⟨A3, cap3, hA3, _, _⟩ := hv3.form; subst hA3; have HV3 := hide hv3; have HB3 : Hid (Below w.heap.size w w3) := Below.to HB1.out hB3 (Nat.le_refl _); clear hv3 hB3 d0 d1) | (go_at_call 75; refine (Where_any m.opts.length (allM m) f _ _ _ HV3.out.rows (HF.out.up HB3.out) (fun x hx => allM_len hx) HFV.out (by have := allM_le4 hN2; omega)).mono ?_; rw [HM2.out]; rintro e w4 ⟨v4, rfl, hv4, hB4⟩; obtain ⟨A4, cap4, hA4, hc3, hc4⟩ := hv4.form; subst hA4; have HB4 : Hid (Below w.heap.size w w4) := Below.to HB3.out hB4 (Nat.le_refl _); clear hv4 hB4))
      go_ret2
      rw [HP.out.1, HP.out.2]
      exact CorP.none 1 HB4.out
  · have HP := hide (cor_err he)
    obtain ⟨z, hz⟩ : ∃ z, m.errF [f] = z := ⟨_, rfl⟩
    rw [hz] at he
    have hz1 : (z != 0) = true := by simpa using he
    have HZ := hide hz
    clear he hz
    go_wp2_with (go_at_call 27; refine HCK.out.mono ?_; rw [HZ.out]; rintro e w1 ⟨rfl, hB1⟩)
    go_ret2
    rw [HP.out.1, HP.out.2, HZ.out]
    exact CorP.none z (Below.to HB0.out hB1 (Nat.le_refl _))
end Go.Proofs.Ytohofcmikfkilaa
/- Whether two lists of numbers are equal: walk. The sublists of Core's answer: plain laws. -/
namespace Go.Proofs.Ytohofcmikfkilaa
open Go.RowKit
set_option linter.unusedVariables false
set_option linter.unusedSimpArgs false
set_option maxRecDepth 100000 in
set_option maxHeartbeats 2000000 in
theorem sameInts_any (a b : List Int) (u v : Value) (w : World) (ha : Ints w w.heap.size u a) (hb : Ints w w.heap.size v b) (hal : a.length ≤ 1000) (hbl : b.length ≤ maxLen) :
    Calls Try.prog 30 #[u, v] w fun e w' => e = .returned (.bool (decide (a = b))) ∧ Below w.heap.size w w' := by
  obtain ⟨A, b0, off, cap, rfl, hnc, hA, hc⟩ := ha
  obtain ⟨A', b1, off1, cap1, rfl, hnc1, hA1, hc1⟩ := hb
  unfold maxLen at hbl
  by_cases hl : a.length = b.length
  · have hl1 : ((a.length : Int) != (b.length : Int)) = false := by simp [hl]
    have HL := hide hl
    have HC := hide hc
    have HC1 := hide hc1
    have HA := hide hA
    have HA1 := hide hA1
    clear hl hc hc1 hA hA1
    go_enter Try.func30, Try.ntmps30
    go_wp2
    go_loopw [5] (fun i wr => ∃ k : Nat, k ≤ a.length ∧ i = .int .i64 k ∧ Hid (∀ j, j < k → a.getD j 0 = b.getD j 0) ∧ Below w.heap.size w wr) (fun i _ => a.length - (intOf i).toNat)
    case atStart => exact ⟨0, Nat.zero_le _, rfl, fun j hj => by omega, Below.refl _ _⟩
    case round =>
      obtain ⟨k, hk, rfl, hall, hB⟩ := hrel
      by_cases hkl : k < a.length
      · have hkb : k < b.length := by have := HL.out; omega
        obtain ⟨rfl, hbb⟩ : A = some ⟨b0, off, none⟩ ∧ b0 < w.heap.size := by
          rcases HA.out with h | h
          · exact h
          · omega
        obtain ⟨rfl, hbb1⟩ : A' = some ⟨b1, off1, none⟩ ∧ b1 < w.heap.size := by
          rcases HA1.out with h | h
          · exact h
          · omega
        obtain ⟨x, hx⟩ : ∃ x, a.getD k 0 = x := ⟨_, rfl⟩
        obtain ⟨y, hy⟩ : ∃ y, b.getD k 0 = y := ⟨_, rfl⟩
        have c0 : wr.cell? ⟨b0, off + k, none⟩ = some (.int .i64 x) := by
          have h1 := HC.out k 0 hkl (by omega)
          rw [Nat.mul_one, Nat.add_zero, hx] at h1
          exact (hB.cell (p := ⟨b0, off + k, none⟩) hbb).trans h1
        have c1 : wr.cell? ⟨b1, off1 + k, none⟩ = some (.int .i64 y) := by
          have h1 := HC1.out k 0 hkb (by omega)
          rw [Nat.mul_one, Nat.add_zero, hy] at h1
          exact (hB.cell (p := ⟨b1, off1 + k, none⟩) hbb1).trans h1
        have hsz := hB.size
        have l0 : b0 < wr.heap.size := by omega
        have l1 : b1 < wr.heap.size := by omega
        have j0 : (0 : Int) ≤ (k : Int) := by omega
        have j1 : (k : Int) < (a.length : Int) := by omega
        have j2 : (k : Int) < (b.length : Int) := by omega
        have HXY := hide (And.intro hx hy)
        clear hx hy
        by_cases hxy : x = y
        · have hne : (x != y) = false := by simp [hxy]
          have HE := hide hxy
          clear hxy
          go_wp2_with fail
          refine wp_region_held_drew (S := (fun w' => Below wr.heap.size wr w')) (by kernel_rfl) ?_ (fun hHeld => ?_)
          · try dsimp only
            exact (by repeat (first | exact Below.refl _ _ | assumption | refine Below.drew ?_ | refine Below.drewN ?_ _ | refine Below.allocT ?_ (Nat.le_refl _) _ | refine Below.setCell ?_ (by simp <;> omega) _ | refine Below.to ?_ (by assumption) (Nat.le_refl _)))
          refine wpAnyH_take (i := 0) (v := ?v32_0) rfl (by kernel_rfl) (by kernel_rfl) (by kernel_rfl) (fun _ _ _ h => h) (Or.inl ⟨by rfl, ?y32_0⟩) (by assumption) ?r32_0
          case' y32_0 => (intro w hSw; (try dsimp only at hSw); (try have hlS := HLK.out _ hSw); obtain ⟨hcS, hfS⟩ := bcell hSw; clear hSw; go_simp; try with_reducible rfl)
          try simp only [Act.put, List.getElem_toArray, List.getElem_cons_succ, List.getElem_cons_zero, List.setIfInBounds_toArray, List.set_cons_zero, List.set_cons_succ]
          refine wpAnyH_take (i := 1) (v := ?v32_1) rfl (by kernel_rfl) (by kernel_rfl) (by kernel_rfl) (fun _ _ _ h => h) (Or.inl ⟨by rfl, ?y32_1⟩) (by assumption) ?r32_1
          case' y32_1 => (intro w hSw; (try dsimp only at hSw); (try have hlS := HLK.out _ hSw); obtain ⟨hcS, hfS⟩ := bcell hSw; clear hSw; go_simp; try with_reducible rfl)
          try simp only [Act.put, List.getElem_toArray, List.getElem_cons_succ, List.getElem_cons_zero, List.setIfInBounds_toArray, List.set_cons_zero, List.set_cons_succ]
          refine wpAnyH_take (i := 2) (v := ?v32_2) rfl (by kernel_rfl) (by kernel_rfl) (by kernel_rfl) (fun _ _ _ h => h) (Or.inl ⟨by rfl, ?y32_2⟩) (by assumption) ?r32_2
          case' y32_2 => (intro w hSw; (try dsimp only at hSw); (try have hlS := HLK.out _ hSw); obtain ⟨hcS, hfS⟩ := bcell hSw; clear hSw; go_simp; try with_reducible rfl)
          try simp only [Act.put, List.getElem_toArray, List.getElem_cons_succ, List.getElem_cons_zero, List.setIfInBounds_toArray, List.set_cons_zero, List.set_cons_succ]
          refine wpAnyH_take (i := 3) (v := ?v32_3) rfl (by kernel_rfl) (by kernel_rfl) (by kernel_rfl) (fun _ _ _ h => h) (Or.inl ⟨by rfl, ?y32_3⟩) (by assumption) ?r32_3
          case' y32_3 => (intro w hSw; (try dsimp only at hSw); (try have hlS := HLK.out _ hSw); obtain ⟨hcS, hfS⟩ := bcell hSw; clear hSw; go_simp; try with_reducible rfl)
          try simp only [Act.put, List.getElem_toArray, List.getElem_cons_succ, List.getElem_cons_zero, List.setIfInBounds_toArray, List.set_cons_zero, List.set_cons_succ]
          refine wpAnyH_take (i := 4) (v := ?v32_4) rfl (by kernel_rfl) (by kernel_rfl) (by kernel_rfl) (fun _ _ _ h => h) (Or.inl ⟨by rfl, ?y32_4⟩) (by assumption) ?r32_4
          case' y32_4 => (intro w hSw; (try dsimp only at hSw); (try have hlS := HLK.out _ hSw); obtain ⟨hcS, hfS⟩ := bcell hSw; clear hSw; go_simp; try with_reducible rfl)
          try simp only [Act.put, List.getElem_toArray, List.getElem_cons_succ, List.getElem_cons_zero, List.setIfInBounds_toArray, List.set_cons_zero, List.set_cons_succ]
          refine wpAnyH_take (i := 5) (v := ?v32_5) rfl (by kernel_rfl) (by kernel_rfl) (by kernel_rfl) (fun _ _ _ h => h) (Or.inl ⟨by rfl, ?y32_5⟩) (by assumption) ?r32_5
          case' y32_5 => (intro w hSw; (try dsimp only at hSw); (try have hlS := HLK.out _ hSw); obtain ⟨hcS, hfS⟩ := bcell hSw; clear hSw; go_simp; try with_reducible rfl)
          try simp only [Act.put, List.getElem_toArray, List.getElem_cons_succ, List.getElem_cons_zero, List.setIfInBounds_toArray, List.set_cons_zero, List.set_cons_succ]
          refine wpAnyH_take (i := 6) (v := ?v32_6) rfl (by kernel_rfl) (by kernel_rfl) (by kernel_rfl) (fun _ _ _ h => h) (Or.inl ⟨by rfl, ?y32_6⟩) (by assumption) ?r32_6
          case' y32_6 => (intro w hSw; (try dsimp only at hSw); (try have hlS := HLK.out _ hSw); obtain ⟨hcS, hfS⟩ := bcell hSw; clear hSw; go_simp; try with_reducible rfl)
          try simp only [Act.put, List.getElem_toArray, List.getElem_cons_succ, List.getElem_cons_zero, List.setIfInBounds_toArray, List.set_cons_zero, List.set_cons_succ]
          refine wpAnyH_take (i := 7) (v := ?v32_7) rfl (by kernel_rfl) (by kernel_rfl) (by kernel_rfl) (fun _ _ _ h => h) (Or.inl ⟨by rfl, ?y32_7⟩) (by assumption) ?r32_7
          case' y32_7 => (intro w hSw; (try dsimp only at hSw); (try have hlS := HLK.out _ hSw); obtain ⟨hcS, hfS⟩ := bcell hSw; clear hSw; go_simp; try with_reducible rfl)
          try simp only [Act.put, List.getElem_toArray, List.getElem_cons_succ, List.getElem_cons_zero, List.setIfInBounds_toArray, List.set_cons_zero, List.set_cons_succ]
          refine wpAnyH_take (i := 8) (v := ?v32_8) rfl (by kernel_rfl) (by kernel_rfl) (by kernel_rfl) (fun _ _ _ h => h) (Or.inl ⟨by rfl, ?y32_8⟩) (by assumption) ?r32_8
          case' y32_8 => (intro w hSw; (try dsimp only at hSw); (try have hlS := HLK.out _ hSw); obtain ⟨hcS, hfS⟩ := bcell hSw; clear hSw; go_simp; try with_reducible rfl)
          try simp only [Act.put, List.getElem_toArray, List.getElem_cons_succ, List.getElem_cons_zero, List.setIfInBounds_toArray, List.set_cons_zero, List.set_cons_succ]
          refine wpAnyH_done (by kernel_rfl) ?_ _
          go_wp2_with fail
          go_roundw
          case rel => exact ⟨k + 1, by omega, by go_num, fun j hj => by
              rcases Nat.lt_or_ge j k with h | h
              · exact hall.out j h
              · rw [show j = k from by omega, HXY.out.1, HXY.out.2, HE.out], Below.to hB hHeld (Nat.le_refl _)⟩
          case measure => simp [intOf]; omega
        · have hne : (x != y) = true := by simpa using hxy
          have HE := hide hxy
          clear hxy
          go_wp2_with fail
          refine wp_region_held_drew (S := (fun w' => Below wr.heap.size wr w')) (by kernel_rfl) ?_ (fun hHeld => ?_)
          · try dsimp only
            exact (by repeat (first | exact Below.refl _ _ | assumption | refine Below.drew ?_ | refine Below.drewN ?_ _ | refine Below.allocT ?_ (Nat.le_refl _) _ | refine Below.setCell ?_ (by simp <;> omega) _ | refine Below.to ?_ (by assumption) (Nat.le_refl _)))
          refine wpAnyH_take (i := 0) (v := ?v33_0) rfl (by kernel_rfl) (by kernel_rfl) (by kernel_rfl) (fun _ _ _ h => h) (Or.inl ⟨by rfl, ?y33_0⟩) (by assumption) ?r33_0
          case' y33_0 => (intro w hSw; (try dsimp only at hSw); (try have hlS := HLK.out _ hSw); obtain ⟨hcS, hfS⟩ := bcell hSw; clear hSw; go_simp; try with_reducible rfl)
          try simp only [Act.put, List.getElem_toArray, List.getElem_cons_succ, List.getElem_cons_zero, List.setIfInBounds_toArray, List.set_cons_zero, List.set_cons_succ]
          refine wpAnyH_take (i := 1) (v := ?v33_1) rfl (by kernel_rfl) (by kernel_rfl) (by kernel_rfl) (fun _ _ _ h => h) (Or.inl ⟨by rfl, ?y33_1⟩) (by assumption) ?r33_1
          case' y33_1 => (intro w hSw; (try dsimp only at hSw); (try have hlS := HLK.out _ hSw); obtain ⟨hcS, hfS⟩ := bcell hSw; clear hSw; go_simp; try with_reducible rfl)
          try simp only [Act.put, List.getElem_toArray, List.getElem_cons_succ, List.getElem_cons_zero, List.setIfInBounds_toArray, List.set_cons_zero, List.set_cons_succ]
          refine wpAnyH_take (i := 2) (v := ?v33_2) rfl (by kernel_rfl) (by kernel_rfl) (by kernel_rfl) (fun _ _ _ h => h) (Or.inl ⟨by rfl, ?y33_2⟩) (by assumption) ?r33_2
          case' y33_2 => (intro w hSw; (try dsimp only at hSw); (try have hlS := HLK.out _ hSw); obtain ⟨hcS, hfS⟩ := bcell hSw; clear hSw; go_simp; try with_reducible rfl)
          try simp only [Act.put, List.getElem_toArray, List.getElem_cons_succ, List.getElem_cons_zero, List.setIfInBounds_toArray, List.set_cons_zero, List.set_cons_succ]
          refine wpAnyH_take (i := 3) (v := ?v33_3) rfl (by kernel_rfl) (by kernel_rfl) (by kernel_rfl) (fun _ _ _ h => h) (Or.inl ⟨by rfl, ?y33_3⟩) (by assumption) ?r33_3
          case' y33_3 => (intro w hSw; (try dsimp only at hSw); (try have hlS := HLK.out _ hSw); obtain ⟨hcS, hfS⟩ := bcell hSw; clear hSw; go_simp; try with_reducible rfl)
          try simp only [Act.put, List.getElem_toArray, List.getElem_cons_succ, List.getElem_cons_zero, List.setIfInBounds_toArray, List.set_cons_zero, List.set_cons_succ]
          refine wpAnyH_take (i := 4) (v := ?v33_4) rfl (by kernel_rfl) (by kernel_rfl) (by kernel_rfl) (fun _ _ _ h => h) (Or.inl ⟨by rfl, ?y33_4⟩) (by assumption) ?r33_4
          case' y33_4 => (intro w hSw; (try dsimp only at hSw); (try have hlS := HLK.out _ hSw); obtain ⟨hcS, hfS⟩ := bcell hSw; clear hSw; go_simp; try with_reducible rfl)
          try simp only [Act.put, List.getElem_toArray, List.getElem_cons_succ, List.getElem_cons_zero, List.setIfInBounds_toArray, List.set_cons_zero, List.set_cons_succ]
          refine wpAnyH_take (i := 5) (v := ?v33_5) rfl (by kernel_rfl) (by kernel_rfl) (by kernel_rfl) (fun _ _ _ h => h) (Or.inl ⟨by rfl, ?y33_5⟩) (by assumption) ?r33_5
          case' y33_5 => (intro w hSw; (try dsimp only at hSw); (try have hlS := HLK.out _ hSw); obtain ⟨hcS, hfS⟩ := bcell hSw; clear hSw; go_simp; try with_reducible rfl)
          try simp only [Act.put, List.getElem_toArray, List.getElem_cons_succ, List.getElem_cons_zero, List.setIfInBounds_toArray, List.set_cons_zero, List.set_cons_succ]
          refine wpAnyH_take (i := 6) (v := ?v33_6) rfl (by kernel_rfl) (by kernel_rfl) (by kernel_rfl) (fun _ _ _ h => h) (Or.inl ⟨by rfl, ?y33_6⟩) (by assumption) ?r33_6
          case' y33_6 => (intro w hSw; (try dsimp only at hSw); (try have hlS := HLK.out _ hSw); obtain ⟨hcS, hfS⟩ := bcell hSw; clear hSw; go_simp; try with_reducible rfl)
          try simp only [Act.put, List.getElem_toArray, List.getElem_cons_succ, List.getElem_cons_zero, List.setIfInBounds_toArray, List.set_cons_zero, List.set_cons_succ]
          refine wpAnyH_take (i := 7) (v := ?v33_7) rfl (by kernel_rfl) (by kernel_rfl) (by kernel_rfl) (fun _ _ _ h => h) (Or.inl ⟨by rfl, ?y33_7⟩) (by assumption) ?r33_7
          case' y33_7 => (intro w hSw; (try dsimp only at hSw); (try have hlS := HLK.out _ hSw); obtain ⟨hcS, hfS⟩ := bcell hSw; clear hSw; go_simp; try with_reducible rfl)
          try simp only [Act.put, List.getElem_toArray, List.getElem_cons_succ, List.getElem_cons_zero, List.setIfInBounds_toArray, List.set_cons_zero, List.set_cons_succ]
          refine wpAnyH_take (i := 8) (v := ?v33_8) rfl (by kernel_rfl) (by kernel_rfl) (by kernel_rfl) (fun _ _ _ h => h) (Or.inl ⟨by rfl, ?y33_8⟩) (by assumption) ?r33_8
          case' y33_8 => (intro w hSw; (try dsimp only at hSw); (try have hlS := HLK.out _ hSw); obtain ⟨hcS, hfS⟩ := bcell hSw; clear hSw; go_simp; try with_reducible rfl)
          try simp only [Act.put, List.getElem_toArray, List.getElem_cons_succ, List.getElem_cons_zero, List.setIfInBounds_toArray, List.set_cons_zero, List.set_cons_succ]
          refine wpAnyH_done (by kernel_rfl) ?_ _
          go_wp2_with fail
          go_ret
          refine ⟨ret_bool (Eq.symm (decide_eq_false fun e => HE.out ?_)), (by repeat (first | exact Below.refl _ _ | assumption | refine Below.drew ?_ | refine Below.drewN ?_ _ | refine Below.allocT ?_ (Nat.le_refl _) _ | refine Below.setCell ?_ (by simp <;> omega) _ | refine Below.to ?_ (by assumption) (Nat.le_refl _)))⟩
          rw [← HXY.out.1, ← HXY.out.2, e]
      · obtain rfl : k = a.length := by omega
        go_wp2
        go_ret
        refine ⟨ret_bool (Eq.symm (decide_eq_true ?_)), hB⟩
        apply List.ext_getElem HL.out
        intro i h1 h2
        have := hall.out i h1
        simpa [List.getD_eq_getElem?_getD, h1, h2] using this
  · have hl1 : ((a.length : Int) != (b.length : Int)) = true := by simp; omega
    have HL := hide hl
    clear hl hc hc1 hA hA1
    go_enter Try.func30, Try.ntmps30
    go_wp2
    go_ret
    exact ⟨ret_bool (Eq.symm (decide_eq_false fun e => HL.out (by rw [e]))), (by repeat (first | exact Below.refl _ _ | assumption | refine Below.drew ?_ | refine Below.drewN ?_ _ | refine Below.allocT ?_ (Nat.le_refl _) _ | refine Below.setCell ?_ (by simp <;> omega) _ | refine Below.to ?_ (by assumption) (Nat.le_refl _)))⟩
theorem Nods.ints {w : World} {B : Nat} {v : Value} {l : List Nat} (h : Nods w B v l) : Ints w B v (l.map fun (n : Nat) => (n : Int)) := by
  unfold Ints
  rw [List.length_map]
  refine Sl.congr h fun i j hi hj => ?_
  simp [hi]
/-- What is left of a list when one place is skipped, up to a place. -/
def skN (s : Int) (K : List Nat) : Nat → List Nat
  | 0 => []
  | t + 1 => if (t : Int) = s then skN s K t else skN s K t ++ [K.getD t 0]
theorem skN_no {s : Int} {K : List Nat} {t : Nat} (h : (t : Int) = s) : skN s K (t + 1) = skN s K t := by simp [skN, h]
theorem skN_yes {s : Int} {K : List Nat} {t : Nat} (h : (t : Int) ≠ s) : skN s K (t + 1) = skN s K t ++ [K.getD t 0] := by simp [skN, h]
theorem skN_neg {s : Int} {K : List Nat} (hs : s < 0) : ∀ t, t ≤ K.length → skN s K t = K.take t
  | 0, _ => by simp [skN]
  | t + 1, h => by rw [skN_yes (by omega), skN_neg hs t (by omega), take_getD (z := 0) (by omega)]
theorem skN_lo {s : Nat} {K : List Nat} : ∀ t, t ≤ s → t ≤ K.length → skN s K t = K.take t
  | 0, _, _ => by simp [skN]
  | t + 1, h, h2 => by rw [skN_yes (by omega), skN_lo t (by omega) (by omega), take_getD (z := 0) (by omega)]
theorem skN_hi {s : Nat} {K : List Nat} (hs : s < K.length) : ∀ d, s + 1 + d ≤ K.length → skN s K (s + 1 + d) = K.take s ++ (K.drop (s + 1)).take d
  | 0, _ => by rw [Nat.add_zero, skN_no rfl, skN_lo s (Nat.le_refl _) (by omega)]; simp
  | d + 1, h => by
    have h1 : (K.drop (s + 1)).getD d 0 = K.getD (s + 1 + d) 0 := by simp [List.getD_eq_getElem?_getD]
    rw [show s + 1 + (d + 1) = (s + 1 + d) + 1 by omega, skN_yes (by omega), skN_hi hs d (by omega), take_getD (z := 0) (l := K.drop (s + 1)) (by simp; omega), h1, List.append_assoc]
theorem skN_full {s : Nat} {K : List Nat} (hs : s < K.length) : skN s K K.length = K.take s ++ K.drop (s + 1) := by
  have h := skN_hi hs (K.length - (s + 1)) (by omega)
  rw [show s + 1 + (K.length - (s + 1)) = K.length by omega] at h
  rw [h]
  congr 1
  exact List.take_of_length_le (by rw [List.length_drop]; exact Nat.le_refl _)
theorem skN_mem {s : Int} {K : List Nat} : ∀ t, t ≤ K.length → ∀ x ∈ skN s K t, x ∈ K
  | 0, _, x, h => by simp [skN] at h
  | t + 1, ht, x, h => by
    unfold skN at h
    split at h
    · exact skN_mem t (by omega) x h
    · rcases List.mem_append.1 h with h | h
      · exact skN_mem t (by omega) x h
      · rw [List.mem_singleton] at h
        rw [h]
        exact getD_mem (by omega)
theorem skN_len {s : Int} {K : List Nat} : ∀ t, (skN s K t).length ≤ t
  | 0 => by simp [skN]
  | t + 1 => by
    have := skN_len (s := s) (K := K) t
    unfold skN
    split
    · omega
    · simp; omega
theorem fewM_all (m : Mo) (f : List Int) (K : List Nat) : whereF (allM (fewM m K)) f = corS m f K m.rules.length := by
  have h := fewM_where m f K m.rules.length
  rw [Nat.sub_self] at h
  simpa using h
theorem cor_inv {m : Mo} {f : List Int} (h : corE m f = 0) : m.errF [f] = 0 ∧ whereF (allM m) f = [] ∧ corL m f = kept m f m.rules.length := by
  unfold corE at h
  split at h
  · rename_i h1; exact absurd h h1
  · rename_i h1
    split at h
    · omega
    · rename_i h2
      have h3 : m.errF [f] = 0 := by omega
      have h4 : whereF (allM m) f = [] := Classical.byContradiction h2
      exact ⟨h3, h4, (cor_ok h3 h4).2⟩
theorem corS_zero (m : Mo) (f : List Int) : corS m f [] 0 = whereF (allM m) f := by
  unfold corS whereF allM
  rw [List.filter_filter]
  exact List.filter_congr fun x _ => by simp [rulesAt, allF]
/-- How many variants there are with some of Core's rules. -/
theorem core_why {m : Mo} {f : List Int} (h : corE m f = 0) (s : Int) (h1 : -1 ≤ s) (h2 : s < (corL m f).length) :
    (decide ((cntE (fewM m (skN s (corL m f) (corL m f).length)) f) = 0)) = decide (s < 0) := by
  obtain ⟨he, hw, hl⟩ := cor_inv h
  rw [hl] at h2 ⊢
  obtain ⟨hm, hf⟩ := Mo.okF he
  have hK := kept_lt m f m.rules.length
  have hlen := kept_len m f m.rules.length
  have h60 := (Mo.ok hm).2.1
  have hsl := skN_len (s := s) (K := kept m f m.rules.length) (kept m f m.rules.length).length
  have hfe := fewM_err hm (K := skN s (kept m f m.rules.length) (kept m f m.rules.length).length) (fun k hk => hK k (skN_mem _ (Nat.le_refl _) k hk)) (by omega)
  have hff := Mo.errF_one (m := fewM m (skN s (kept m f m.rules.length) (kept m f m.rules.length).length)) (f := f) hfe (hf f (by simp))
  rw [cnt_ok hff, fewM_all]
  by_cases hs : s < 0
  · rw [decide_eq_true hs, skN_neg hs _ (Nat.le_refl _), List.take_length]
    rw [kept_none (by rw [corS_zero]; exact hw) _ (Nat.le_refl _)]
    rfl
  · obtain ⟨n, rfl⟩ : ∃ n : Nat, s = (n : Int) := ⟨s.toNat, by omega⟩
    have hn : n < (kept m f m.rules.length).length := by omega
    rw [decide_eq_false hs, skN_full hn]
    have hsplit : kept m f m.rules.length = (kept m f m.rules.length).take n ++ (kept m f m.rules.length).getD n 0 :: (kept m f m.rules.length).drop (n + 1) := by
      have h3 := List.take_append_drop (n + 1) (kept m f m.rules.length)
      rw [take_getD (z := 0) hn, List.append_assoc] at h3
      exact h3.symm
    obtain ⟨x, q1, q2, q3, q4⟩ := kept_need m.rules.length (Nat.le_refl _) _ _ _ hsplit
    refine decide_eq_false fun e => ?_
    have h4 : corS m f ((kept m f m.rules.length).take n ++ (kept m f m.rules.length).drop (n + 1)) m.rules.length = [] := List.length_eq_zero_iff.1 e
    have h5 : x ∈ corS m f ((kept m f m.rules.length).take n ++ (kept m f m.rules.length).drop (n + 1)) m.rules.length := by
      unfold corS
      rw [List.mem_filter]
      refine ⟨exts_all _ x q1, ?_⟩
      rw [q2, q3, q4]
      rfl
    rw [h4] at h5
    simp at h5
end Go.Proofs.Ytohofcmikfkilaa

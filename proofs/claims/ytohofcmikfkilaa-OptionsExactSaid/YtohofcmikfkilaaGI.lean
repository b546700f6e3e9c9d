/- Group I of this claim's texts: walks and plain laws. -/
import Derived.Test.YtohofcmikfkilaaRows
import Derived.Test.YtohofcmikfkilaaGE
import Derived.Test.YtohofcmikfkilaaGH
import Derived.Deep.RegionHeld3
import Derived.Deep.DrawnRows
/- The first variant of the greatest sum, found by going through all. Plain laws. -/
namespace Go.Proofs.Ytohofcmikfkilaa
set_option linter.unusedVariables false
theorem fsum_snoc (v : Nat → Bool) : ∀ (l : List (List Int)) (ws : List Int) (k : Nat), l.length = ws.length → k < l.length → fsum v (l.take (k + 1)) ws = fsum v (l.take k) ws + if evF1 v (l.getD k []) then ws.getD k 0 else 0
  | [], ws, k, _, h => by simp at h
  | f :: l, [], k, h, _ => by simp at h
  | f :: l, x :: ws, 0, _, _ => by simp [fsum]
  | f :: l, x :: ws, k + 1, h, hk => by
    have ih := fsum_snoc v l ws k (by simpa using h) (by simpa using hk)
    simp only [List.take_succ_cons, fsum, List.getD_cons_succ]
    rw [ih]
    omega
/-- What has been found of the greatest sum when k variants have been gone through. -/
def FirstMax (vals : Nat → Int) (k : Nat) (best at_ : Int) : Prop :=
  (k = 0 ∧ best = 0 ∧ at_ = -1) ∨ ∃ a : Nat, at_ = a ∧ a < k ∧ vals a = best ∧ (∀ j, j < k → vals j ≤ best) ∧ ∀ j, j < a → vals j < best
theorem FirstMax.start (vals : Nat → Int) : FirstMax vals 0 0 (-1) := .inl ⟨rfl, rfl, rfl⟩
theorem FirstMax.take {vals : Nat → Int} {k : Nat} {best at_ : Int} (h : FirstMax vals k best at_) (hb : at_ < 0 ∨ best < vals k) : FirstMax vals (k + 1) (vals k) k := by
  have hlt : ∀ j, j < k → vals j < vals k := fun j hj => by
    rcases h with ⟨h1, h2, h3⟩ | ⟨a, h1, h2, h3, h4, h5⟩
    · omega
    · rcases hb with hb | hb
      · omega
      · have := h4 j hj
        omega
  refine .inr ⟨k, rfl, by omega, rfl, fun j hj => ?_, hlt⟩
  by_cases hjk : j = k
  · rw [hjk]; exact Int.le_refl _
  · have := hlt j (by omega)
    omega
theorem FirstMax.keep {vals : Nat → Int} {k : Nat} {best at_ : Int} (h : FirstMax vals k best at_) (h0 : 0 ≤ at_) (hb : vals k ≤ best) : FirstMax vals (k + 1) best at_ := by
  rcases h with ⟨h1, h2, h3⟩ | ⟨a, h1, h2, h3, h4, h5⟩
  · omega
  · exact .inr ⟨a, h1, by omega, h3, fun j hj => by
      by_cases hjk : j = k
      · subst hjk; exact hb
      · exact h4 j (by omega), h5⟩
theorem find_filter {α : Type} (l : List α) (q p : α → Bool) (h : ∀ x, p x = true → q x = true) : (l.filter q).find? p = l.find? p := by
  rw [List.find?_filter]
  congr 1
  funext x
  cases hp : p x
  · simp
  · simp [h x hp]
theorem find_first {α : Type} (z : α) (p : α → Bool) : ∀ (l : List α) (a : Nat), a < l.length → p (l.getD a z) = true → (∀ j, j < a → p (l.getD j z) = false) → l.find? p = some (l.getD a z)
  | [], a, h, _, _ => by simp at h
  | x :: l, 0, _, h, _ => by
    have h' : p x = true := by simpa using h
    simp [h']
  | x :: l, a + 1, hl, h, hj => by
    have h0 : p x = false := by simpa using hj 0 (by omega)
    have ih := find_first z p l a (by simpa using hl) (by simpa using h) (fun j hja => by have := hj (j + 1) (by omega); simpa using this)
    simp only [List.find?_cons, h0, List.getD_cons_succ]
    exact ih
theorem most_first {m : Mo} {l : List (List Int)} {ws : List Int} {best at_ : Int} (hw : ∀ x ∈ ws, -1000000 ≤ x ∧ x ≤ 1000000) (hl : l.length ≤ 1000) (h0 : allM m ≠ []) (h : FirstMax (fun j => fsum (vf ((allM m).getD j [])) l ws) (allM m).length best at_) :
    bestF m l ws = best ∧ ∃ a : Nat, at_ = a ∧ a < (allM m).length ∧ (exts m.opts.length []).find? (fun y => valF m l ws y == bestF m l ws) = some ((allM m).getD a []) := by
  have hbig := bestF_big hw hl (by rw [satM_true]; exact h0)
  rcases h with ⟨h1, _⟩ | ⟨a, h1, h2, h3, h4, h5⟩
  · exact absurd (List.length_eq_zero_iff.1 h1) h0
  · have hmem : ∀ j, j < (allM m).length → (allM m).getD j [] ∈ exts m.opts.length [] ∧ allF (vf ((allM m).getD j [])) m.rules = true := fun j hj => by
      have := getD_mem (z := []) hj
      unfold allM at this ⊢
      rw [List.mem_filter] at this
      exact this
    have hval : ∀ j, j < (allM m).length → valF m l ws ((allM m).getD j []) = fsum (vf ((allM m).getD j [])) l ws := fun j hj => by
      unfold valF
      rw [if_pos (hmem j hj).2]
    have hle : best ≤ bestF m l ws := by
      unfold bestF
      refine maxL_mem _ _ (List.mem_map.2 ⟨(allM m).getD a [], (hmem a h2).1, ?_⟩)
      rw [hval a h2]
      exact h3
    have hge : bestF m l ws ≤ best := by
      have h6 := maxL_attained _ hbig
      rw [List.mem_map] at h6
      obtain ⟨y, hy, hye⟩ := h6
      have hal : allF (vf y) m.rules = true := by
        cases hf : allF (vf y) m.rules with
        | true => rfl
        | false =>
          have h8 : valF m l ws y = leastI := by unfold valF; rw [if_neg (by simp [hf])]
          have h9 : bestF m l ws = leastI := hye.symm.trans h8
          omega
      have hyM : y ∈ allM m := by
        unfold allM
        rw [List.mem_filter]
        exact ⟨hy, hal⟩
      obtain ⟨j, hj, hje⟩ := List.getElem_of_mem hyM
      have hgd : (allM m).getD j [] = y := by rw [List.getD_eq_getElem?_getD, List.getElem?_eq_getElem hj, Option.getD_some, hje]
      have h7 : fsum (vf ((allM m).getD j [])) l ws ≤ best := h4 j hj
      have h8 := hval j hj
      rw [hgd] at h7 h8
      show maxL _ ≤ best
      rw [← hye, h8]
      exact h7
    have hbe : bestF m l ws = best := Int.le_antisymm hge hle
    refine ⟨hbe, a, h1, h2, ?_⟩
    have hp : ∀ y, (valF m l ws y == bestF m l ws) = true → allF (vf y) m.rules = true := fun y hy => by
      cases hf : allF (vf y) m.rules with
      | true => rfl
      | false =>
        unfold valF at hy
        rw [if_neg (by simp [hf])] at hy
        simp at hy
        omega
    rw [← find_filter (exts m.opts.length []) (fun x => allF (vf x) m.rules) _ hp]
    refine find_first [] _ (allM m) a h2 ?_ fun j hj => ?_
    · rw [hval a h2, hbe]
      simpa using h3
    · rw [hval j (by omega), hbe]
      have h9 : fsum (vf ((allM m).getD j [])) l ws < best := h5 j hj
      rw [beq_eq_false_iff_ne]
      omega
end Go.Proofs.Ytohofcmikfkilaa
/- The errors of a model and a list of formulas, as the elder program has them: walk. -/
namespace Go.Proofs.Ytohofcmikfkilaa
open Go.RowKit
set_option linter.unusedVariables false
set_option linter.unusedSimpArgs false
theorem rows_get {α : Type} {enc : α → Value} {z : α} {w : World} {B b off : Nat} {A : Option Addr} {L : List (List α)} {rv : Nat → Value} {k : Nat} (hA : A = some ⟨b, off, none⟩ ∧ b < B ∨ L.length = 0)
    (hc : ∀ i j, i < L.length → j < 1 → w.cell? ⟨b, off + (i * 1 + j), none⟩ = some (rv i)) (hr : ∀ i, i < L.length → GRow enc z w B (rv i) (L.getD i [])) (hk : k < L.length) :
    A = some ⟨b, off, none⟩ ∧ b < B ∧ ∃ Ax capx, w.cell? ⟨b, off + k, none⟩ = some (.slice Ax (L.getD k []).length capx) ∧ GRow enc z w B (.slice Ax (L.getD k []).length capx) (L.getD k []) := by
  rcases hA with ⟨h1, h2⟩ | h
  · have h3 := hr k hk
    obtain ⟨Ax, capx, hx⟩ := GRow.form h3
    have h4 := hc k 0 hk (by omega)
    rw [Nat.mul_one, Nat.add_zero, hx] at h4
    rw [hx] at h3
    exact ⟨h1, h2, Ax, capx, h4, h3⟩
  · omega
/-- The error of a model and a list of formulas. -/
def frmE (m : Mo) (l : List (List Int)) : Int := if m.err ≠ 0 then m.err else if 200 < l.length then 2 else if l.all (validF m.opts.length) = false then 11 else 0
theorem frm_err {m : Mo} {l : List (List Int)} (h : m.err ≠ 0) : frmE m l = m.err := by unfold frmE; rw [if_pos h]
theorem frm_many {m : Mo} {l : List (List Int)} (h : m.err = 0) (h2 : 200 < l.length) : frmE m l = 2 := by unfold frmE; rw [if_neg (by simp [h]), if_pos h2]
theorem frm_rest {m : Mo} {l : List (List Int)} (h : m.err = 0) (h2 : l.length ≤ 200) : frmE m l = m.errF l := by unfold frmE; rw [if_neg (by simp [h]), if_neg (by omega), Mo.errF_ok h]
theorem frm_ok {m : Mo} {l : List (List Int)} (h : frmE m l = 0) : m.errF l = 0 ∧ l.length ≤ 200 := by
  unfold frmE at h
  split at h
  · rename_i h1; exact absurd h h1
  · rename_i h1
    split at h
    · omega
    · rename_i h2
      refine ⟨?_, by omega⟩
      rw [Mo.errF_ok (by omega)]
      exact h
set_option maxRecDepth 100000 in
set_option maxHeartbeats 4000000 in
theorem rcheckForms_any (m : Mo) (l : List (List Int)) (ov rv lv : Value) (w : World) (hs : SizedM m) (hl : Sized l) (h : MoAt w w.heap.size ov rv m) (hf : Forms w w.heap.size lv l) :
    Calls Try.prog 64 #[.agg #[ov, rv], lv] w fun e w' => e = .returned (.int .i64 (frmE m l)) ∧ Below w.heap.size w w' := by
  obtain ⟨A, cap, hov⟩ := Sl.form h.o
  obtain ⟨Ar, capr, hrv⟩ := h.r.form
  obtain ⟨fvs, ⟨Al, bl, offl, capl, rfl, hncl, hAl, hcl⟩, hfi⟩ := hf
  have H := hide h
  have HS := hide hs
  have HAL := hide hAl
  have HCL := hide hcl
  have HFI := hide hfi
  have HL := hide hl
  subst hov hrv
  clear h hs hAl hcl hfi hl
  go_enter Try.func64, Try.ntmps64
  go_upto_region 1 with (fail)
  generalize hw0 : World.alloc _ _ = w0
  obtain ⟨hb0, hB0, hs0⟩ := alloc1 hw0
  clear hw0
  have HX0 : Hid (MoBox w0 w.heap.size (.slice A m.opts.length cap) (.slice Ar m.rules.length capr)) := hb0
  have HB0 := hide hB0
  have c0 := cellOf hb0 0
  have c1 := cellOf hb0 1
  have hck := rCheckModel_any m (.slice A m.opts.length cap) (.slice Ar m.rules.length capr) w0 HS.out (H.out.up hB0)
  have HCK := hide hck
  clear hb0 hB0 hs0 hck
  by_cases he : m.err = 0
  · have HE := hide he
    clear he
    go_upto_region 4 with (go_at_call 25; refine HCK.out.mono ?_; rw [HE.out]; rintro e w1 ⟨rfl, hB1⟩; have HX1 := hide (box_to HX0.out hB1); have HB1 : Hid (Below w.heap.size w w1) := Below.to HB0.out hB1 (Nat.le_refl _); clear hB1 c0 c1)
    by_cases h200 : (200 : Int) < (l.length : Int)
    · have hee := frm_many HE.out (l := l) (by omega)
      have HEE := hide hee
      clear hee
      go_wp2_with fail
      go_ret
      exact ⟨ret_int HEE.out.symm, HB1.out⟩
    · have hee := frm_rest HE.out (l := l) (by omega)
      rw [Mo.errF_ok HE.out] at hee
      have HEE := hide hee
      clear hee
      go_wp2_with fail
      go_loopw [6] (fun i wr => ∃ t : Nat, t ≤ l.length ∧ i = .int .i64 t ∧ Hid (∀ j, j < t → validF m.opts.length (l.getD j []) = true) ∧ Hid (Below w1.heap.size w1 wr)) (fun i _ => l.length - (intOf i).toNat)
      case atStart => exact ⟨0, Nat.zero_le _, rfl, fun j hj => by omega, Below.refl _ _⟩
      case round =>
        obtain ⟨t, ht, rfl, hva, hBi⟩ := hrel
        have hbx := box_to HX1.out hBi.out
        have x0 := cellOf hbx 0
        have x1 := cellOf hbx 1
        have hsl2 := box_lt hbx
        have hBr := Below.to HB1.out hBi.out (Nat.le_refl _)
        have HBR := hide hBr
        clear hbx
        by_cases htl : t < l.length
        · obtain ⟨rfl, hbb, Af, capf, q0, q1⟩ := rows_get (enc := Value.int .i64) (z := 0) HAL.out HCL.out HFI.out htl
          obtain ⟨f, hfe⟩ : ∃ f, l.getD t [] = f := ⟨_, rfl⟩
          rw [hfe] at q0 q1
          have hfm : f ∈ l := by rw [← hfe]; exact getD_mem htl
          have hfs := HL.out.2 f hfm
          have c0 : wr.cell? ⟨bl, offl + t, none⟩ = some (.slice Af f.length capf) := (hBr.cell (p := ⟨bl, offl + t, none⟩) hbb).trans q0
          have lb : bl < wr.heap.size := Nat.lt_of_lt_of_le hbb hBr.size
          have hvv : ∀ W, Below wr.heap.size wr W → Calls Try.prog 71 #[.slice Af f.length capf, .int .i64 m.opts.length] W fun e w' => e = .returned (.bool (validF m.opts.length f)) ∧ W = w' :=
            fun W hW => rValid_any f m.opts.length _ w.heap.size W hfs (GRow.below (enc := Value.int .i64) (z := 0) q1 (Below.to HBR.out hW (Nat.le_refl _)))
          have it0 : (0 : Int) ≤ (t : Int) := by omega
          have it2 : (t : Int) < (l.length : Int) := by omega
          have HF := hide hfe
          cases hvf : validF m.opts.length f with
          | true =>
            rw [hvf] at hvv
            have HVV := hide hvv
            have HVF := hide hvf
            clear hfm q0 q1 hfe hvv hvf hBr
            go_wp2_with fail
            refine wp_region_held_drew (S := (fun w' => Below wr.heap.size wr w')) (by kernel_rfl) ?_ (fun hHeld => ?_)
            · try dsimp only
              exact (by repeat (first | exact Below.refl _ _ | assumption | refine Below.drew ?_ | refine Below.drewN ?_ _ | refine Below.allocT ?_ (Nat.le_refl _) _ | refine Below.setCell ?_ (by simp <;> omega) _ | refine Below.to ?_ (by assumption) (Nat.le_refl _)))
            refine wpAnyH_take (i := 0) (v := ?v22_0) rfl (by kernel_rfl) (by kernel_rfl) (by kernel_rfl) (fun _ _ _ h => h) (Or.inl ⟨by rfl, ?y22_0⟩) (by assumption) ?r22_0
            case' y22_0 => (intro w hSw; (try dsimp only at hSw); (try have hlS := HLK.out _ hSw); obtain ⟨hcS, hfS⟩ := bcell hSw; clear hSw; go_simp; try with_reducible rfl)
            try simp only [Act.put, List.getElem_toArray, List.getElem_cons_succ, List.getElem_cons_zero, List.setIfInBounds_toArray, List.set_cons_zero, List.set_cons_succ]
            refine wpAnyH_take (i := 1) (v := ?v22_1) rfl (by kernel_rfl) (by kernel_rfl) (by kernel_rfl) (fun _ _ _ h => h) (Or.inl ⟨by rfl, ?y22_1⟩) (by assumption) ?r22_1
            case' y22_1 => (intro w hSw; (try dsimp only at hSw); (try have hlS := HLK.out _ hSw); obtain ⟨hcS, hfS⟩ := bcell hSw; clear hSw; go_simp; try with_reducible rfl)
            try simp only [Act.put, List.getElem_toArray, List.getElem_cons_succ, List.getElem_cons_zero, List.setIfInBounds_toArray, List.set_cons_zero, List.set_cons_succ]
            refine wpAnyH_take (i := 2) (v := ?v22_2) rfl (by kernel_rfl) (by kernel_rfl) (by kernel_rfl) (fun _ _ _ h => h) (Or.inl ⟨by rfl, ?y22_2⟩) (by assumption) ?r22_2
            case' y22_2 => (intro w hSw; (try dsimp only at hSw); (try have hlS := HLK.out _ hSw); obtain ⟨hcS, hfS⟩ := bcell hSw; clear hSw; go_simp; try with_reducible rfl)
            try simp only [Act.put, List.getElem_toArray, List.getElem_cons_succ, List.getElem_cons_zero, List.setIfInBounds_toArray, List.set_cons_zero, List.set_cons_succ]
            refine wpAnyH_take (i := 3) (v := ?v22_3) rfl (by kernel_rfl) (by kernel_rfl) (by kernel_rfl) (fun _ _ _ h => h) (Or.inl ⟨by rfl, ?y22_3⟩) (by assumption) ?r22_3
            case' y22_3 => (intro w hSw; (try dsimp only at hSw); (try have hlS := HLK.out _ hSw); obtain ⟨hcS, hfS⟩ := bcell hSw; clear hSw; go_simp; try with_reducible rfl)
            try simp only [Act.put, List.getElem_toArray, List.getElem_cons_succ, List.getElem_cons_zero, List.setIfInBounds_toArray, List.set_cons_zero, List.set_cons_succ]
            refine wpAnyH_take (i := 4) (v := ?v22_4) rfl (by kernel_rfl) (by kernel_rfl) (by kernel_rfl) (fun _ _ _ h => h) (Or.inl ⟨by rfl, ?y22_4⟩) (by assumption) ?r22_4
            case' y22_4 => (intro w hSw; (try dsimp only at hSw); (try have hlS := HLK.out _ hSw); obtain ⟨hcS, hfS⟩ := bcell hSw; clear hSw; go_simp; try with_reducible rfl)
            try simp only [Act.put, List.getElem_toArray, List.getElem_cons_succ, List.getElem_cons_zero, List.setIfInBounds_toArray, List.set_cons_zero, List.set_cons_succ]
            refine wpAnyH_take (i := 5) (v := ?v22_5) rfl (by kernel_rfl) (by kernel_rfl) (by kernel_rfl) (fun _ _ _ h => h) (Or.inl ⟨by rfl, ?y22_5⟩) (by assumption) ?r22_5
            case' y22_5 => (intro w hSw; (try dsimp only at hSw); (try have hlS := HLK.out _ hSw); obtain ⟨hcS, hfS⟩ := bcell hSw; clear hSw; go_simp; try with_reducible rfl)
            try simp only [Act.put, List.getElem_toArray, List.getElem_cons_succ, List.getElem_cons_zero, List.setIfInBounds_toArray, List.set_cons_zero, List.set_cons_succ]
            refine wpAnyH_take (i := 6) (v := ?v22_6) rfl (by kernel_rfl) (by kernel_rfl) (by kernel_rfl) (fun _ _ _ h => h) (Or.inl ⟨by rfl, ?y22_6⟩) (by assumption) ?r22_6
            case' y22_6 => (intro w hSw; (try dsimp only at hSw); (try have hlS := HLK.out _ hSw); obtain ⟨hcS, hfS⟩ := bcell hSw; clear hSw; go_simp; try with_reducible rfl)
            try simp only [Act.put, List.getElem_toArray, List.getElem_cons_succ, List.getElem_cons_zero, List.setIfInBounds_toArray, List.set_cons_zero, List.set_cons_succ]
            refine wpAnyH_ready (rs := [7]) (by kernel_rfl) (by simp) ?_
            refine AllReadyH.cons rfl (fun K hK => ?_) AllReadyH.nil
            go_simp
            ((go_at_call 71; refine (HVV.out _ (by repeat (first | exact Below.refl _ _ | assumption | refine Below.drew ?_ | refine Below.drewN ?_ _ | refine Below.allocT ?_ (Nat.le_refl _) _ | refine Below.setCell ?_ (by simp <;> omega) _ | refine Below.to ?_ (by assumption) (Nat.le_refl _)))).mono ?_; rintro e w1 ⟨rfl, rfl⟩))
            (try dsimp only)
            refine hK.out _ _ ?_ (fun hNext => ?_)
            · try dsimp only
              exact (by repeat (first | exact Below.refl _ _ | assumption | refine Below.drew ?_ | refine Below.drewN ?_ _ | refine Below.allocT ?_ (Nat.le_refl _) _ | refine Below.setCell ?_ (by simp <;> omega) _ | refine Below.to ?_ (by assumption) (Nat.le_refl _)))
            clear hK K hHeld
            have hHeld := hNext
            clear hNext
            (try dsimp only at hHeld)
            try simp only [Act.put, List.getElem_toArray, List.getElem_cons_succ, List.getElem_cons_zero, List.setIfInBounds_toArray, List.set_cons_zero, List.set_cons_succ]
            refine wpAnyH_take (i := 8) (v := ?v22_8) rfl (by kernel_rfl) (by kernel_rfl) (by kernel_rfl) (fun _ _ _ h => h) (Or.inl ⟨by rfl, ?y22_8⟩) (by assumption) ?r22_8
            case' y22_8 => (intro w hSw; (try dsimp only at hSw); (try have hlS := HLK.out _ hSw); obtain ⟨hcS, hfS⟩ := bcell hSw; clear hSw; go_simp; try with_reducible rfl)
            try simp only [Act.put, List.getElem_toArray, List.getElem_cons_succ, List.getElem_cons_zero, List.setIfInBounds_toArray, List.set_cons_zero, List.set_cons_succ]
            refine wpAnyH_done (by kernel_rfl) ?_ _
            go_wp2_with fail
            go_roundw
            case rel => exact ⟨t + 1, by omega, by go_num, fun j hj => by
                rcases Nat.lt_or_ge j t with h | h
                · exact hva.out j h
                · rw [show j = t from by omega, HF.out]; exact HVF.out, Below.to hBi.out hHeld (Nat.le_refl _)⟩
            case measure => simp [intOf]; omega
          | false =>
            rw [hvf] at hvv
            have HVV := hide hvv
            have hee : frmE m l = 11 := by rw [HEE.out, if_pos (not_valid htl (by rw [hfe]; exact hvf))]
            have HE2 := hide hee
            clear hfm q0 q1 hfe hvv hvf hBr hee
            go_wp2_with fail
            refine wp_region_held_drew (S := (fun w' => Below wr.heap.size wr w')) (by kernel_rfl) ?_ (fun hHeld => ?_)
            · try dsimp only
              exact (by repeat (first | exact Below.refl _ _ | assumption | refine Below.drew ?_ | refine Below.drewN ?_ _ | refine Below.allocT ?_ (Nat.le_refl _) _ | refine Below.setCell ?_ (by simp <;> omega) _ | refine Below.to ?_ (by assumption) (Nat.le_refl _)))
            refine wpAnyH_take (i := 0) (v := ?v23_0) rfl (by kernel_rfl) (by kernel_rfl) (by kernel_rfl) (fun _ _ _ h => h) (Or.inl ⟨by rfl, ?y23_0⟩) (by assumption) ?r23_0
            case' y23_0 => (intro w hSw; (try dsimp only at hSw); (try have hlS := HLK.out _ hSw); obtain ⟨hcS, hfS⟩ := bcell hSw; clear hSw; go_simp; try with_reducible rfl)
            try simp only [Act.put, List.getElem_toArray, List.getElem_cons_succ, List.getElem_cons_zero, List.setIfInBounds_toArray, List.set_cons_zero, List.set_cons_succ]
            refine wpAnyH_take (i := 1) (v := ?v23_1) rfl (by kernel_rfl) (by kernel_rfl) (by kernel_rfl) (fun _ _ _ h => h) (Or.inl ⟨by rfl, ?y23_1⟩) (by assumption) ?r23_1
            case' y23_1 => (intro w hSw; (try dsimp only at hSw); (try have hlS := HLK.out _ hSw); obtain ⟨hcS, hfS⟩ := bcell hSw; clear hSw; go_simp; try with_reducible rfl)
            try simp only [Act.put, List.getElem_toArray, List.getElem_cons_succ, List.getElem_cons_zero, List.setIfInBounds_toArray, List.set_cons_zero, List.set_cons_succ]
            refine wpAnyH_take (i := 2) (v := ?v23_2) rfl (by kernel_rfl) (by kernel_rfl) (by kernel_rfl) (fun _ _ _ h => h) (Or.inl ⟨by rfl, ?y23_2⟩) (by assumption) ?r23_2
            case' y23_2 => (intro w hSw; (try dsimp only at hSw); (try have hlS := HLK.out _ hSw); obtain ⟨hcS, hfS⟩ := bcell hSw; clear hSw; go_simp; try with_reducible rfl)
            try simp only [Act.put, List.getElem_toArray, List.getElem_cons_succ, List.getElem_cons_zero, List.setIfInBounds_toArray, List.set_cons_zero, List.set_cons_succ]
            refine wpAnyH_take (i := 3) (v := ?v23_3) rfl (by kernel_rfl) (by kernel_rfl) (by kernel_rfl) (fun _ _ _ h => h) (Or.inl ⟨by rfl, ?y23_3⟩) (by assumption) ?r23_3
            case' y23_3 => (intro w hSw; (try dsimp only at hSw); (try have hlS := HLK.out _ hSw); obtain ⟨hcS, hfS⟩ := bcell hSw; clear hSw; go_simp; try with_reducible rfl)
            try simp only [Act.put, List.getElem_toArray, List.getElem_cons_succ, List.getElem_cons_zero, List.setIfInBounds_toArray, List.set_cons_zero, List.set_cons_succ]
            refine wpAnyH_take (i := 4) (v := ?v23_4) rfl (by kernel_rfl) (by kernel_rfl) (by kernel_rfl) (fun _ _ _ h => h) (Or.inl ⟨by rfl, ?y23_4⟩) (by assumption) ?r23_4
            case' y23_4 => (intro w hSw; (try dsimp only at hSw); (try have hlS := HLK.out _ hSw); obtain ⟨hcS, hfS⟩ := bcell hSw; clear hSw; go_simp; try with_reducible rfl)
            try simp only [Act.put, List.getElem_toArray, List.getElem_cons_succ, List.getElem_cons_zero, List.setIfInBounds_toArray, List.set_cons_zero, List.set_cons_succ]
            refine wpAnyH_take (i := 5) (v := ?v23_5) rfl (by kernel_rfl) (by kernel_rfl) (by kernel_rfl) (fun _ _ _ h => h) (Or.inl ⟨by rfl, ?y23_5⟩) (by assumption) ?r23_5
            case' y23_5 => (intro w hSw; (try dsimp only at hSw); (try have hlS := HLK.out _ hSw); obtain ⟨hcS, hfS⟩ := bcell hSw; clear hSw; go_simp; try with_reducible rfl)
            try simp only [Act.put, List.getElem_toArray, List.getElem_cons_succ, List.getElem_cons_zero, List.setIfInBounds_toArray, List.set_cons_zero, List.set_cons_succ]
            refine wpAnyH_take (i := 6) (v := ?v23_6) rfl (by kernel_rfl) (by kernel_rfl) (by kernel_rfl) (fun _ _ _ h => h) (Or.inl ⟨by rfl, ?y23_6⟩) (by assumption) ?r23_6
            case' y23_6 => (intro w hSw; (try dsimp only at hSw); (try have hlS := HLK.out _ hSw); obtain ⟨hcS, hfS⟩ := bcell hSw; clear hSw; go_simp; try with_reducible rfl)
            try simp only [Act.put, List.getElem_toArray, List.getElem_cons_succ, List.getElem_cons_zero, List.setIfInBounds_toArray, List.set_cons_zero, List.set_cons_succ]
            refine wpAnyH_ready (rs := [7]) (by kernel_rfl) (by simp) ?_
            refine AllReadyH.cons rfl (fun K hK => ?_) AllReadyH.nil
            go_simp
            ((go_at_call 71; refine (HVV.out _ (by repeat (first | exact Below.refl _ _ | assumption | refine Below.drew ?_ | refine Below.drewN ?_ _ | refine Below.allocT ?_ (Nat.le_refl _) _ | refine Below.setCell ?_ (by simp <;> omega) _ | refine Below.to ?_ (by assumption) (Nat.le_refl _)))).mono ?_; rintro e w1 ⟨rfl, rfl⟩))
            (try dsimp only)
            refine hK.out _ _ ?_ (fun hNext => ?_)
            · try dsimp only
              exact (by repeat (first | exact Below.refl _ _ | assumption | refine Below.drew ?_ | refine Below.drewN ?_ _ | refine Below.allocT ?_ (Nat.le_refl _) _ | refine Below.setCell ?_ (by simp <;> omega) _ | refine Below.to ?_ (by assumption) (Nat.le_refl _)))
            clear hK K hHeld
            have hHeld := hNext
            clear hNext
            (try dsimp only at hHeld)
            try simp only [Act.put, List.getElem_toArray, List.getElem_cons_succ, List.getElem_cons_zero, List.setIfInBounds_toArray, List.set_cons_zero, List.set_cons_succ]
            refine wpAnyH_take (i := 8) (v := ?v23_8) rfl (by kernel_rfl) (by kernel_rfl) (by kernel_rfl) (fun _ _ _ h => h) (Or.inl ⟨by rfl, ?y23_8⟩) (by assumption) ?r23_8
            case' y23_8 => (intro w hSw; (try dsimp only at hSw); (try have hlS := HLK.out _ hSw); obtain ⟨hcS, hfS⟩ := bcell hSw; clear hSw; go_simp; try with_reducible rfl)
            try simp only [Act.put, List.getElem_toArray, List.getElem_cons_succ, List.getElem_cons_zero, List.setIfInBounds_toArray, List.set_cons_zero, List.set_cons_succ]
            refine wpAnyH_done (by kernel_rfl) ?_ _
            go_wp2_with fail
            go_ret
            exact ⟨ret_int HE2.out.symm, Below.to HBR.out hHeld (Nat.le_refl _)⟩
        · have hee : frmE m l = 0 := by rw [HEE.out, if_neg (by rw [all_valid fun j hj => hva.out j (by omega)]; simp)]
          have HE2 := hide hee
          clear hee hBr
          go_wp2_with fail
          go_ret
          exact ⟨ret_int HE2.out.symm, HBR.out⟩
  · have hee := frm_err (l := l) he
    obtain ⟨z, hz⟩ : ∃ z, m.err = z := ⟨_, rfl⟩
    rw [hz] at he hee
    have hz1 : (z != 0) = true := by simpa using he
    have HZ := hide hz
    have HEE := hide hee
    clear he hz hee
    go_wp2_with (go_at_call 25; refine HCK.out.mono ?_; rw [HZ.out]; rintro e w1 ⟨rfl, hB1⟩)
    go_ret
    exact ⟨ret_int HEE.out.symm, Below.to HB0.out hB1 (Nat.le_refl _)⟩
end Go.Proofs.Ytohofcmikfkilaa
/- The greatest sum as the elder program has it: walk. -/
namespace Go.Proofs.Ytohofcmikfkilaa
open Go.RowKit
set_option linter.unusedVariables false
set_option linter.unusedSimpArgs false
/-- Whether weights are in their range. -/
def wOk (ws : List Int) : Bool := ws.all fun x => decide (-1000000 ≤ x) && decide (x ≤ 1000000)
theorem wOk_iff {ws : List Int} : wOk ws = true ↔ ∀ x ∈ ws, -1000000 ≤ x ∧ x ≤ 1000000 := by simp [wOk]
theorem wOk_not {ws : List Int} {k : Nat} (hk : k < ws.length) (h : ¬ (-1000000 ≤ ws.getD k 0 ∧ ws.getD k 0 ≤ 1000000)) : wOk ws = false := by
  cases hw : wOk ws with
  | false => rfl
  | true => exact absurd (wOk_iff.1 hw _ (getD_mem hk)) h
theorem wOk_all {ws : List Int} (h : ∀ k, k < ws.length → -1000000 ≤ ws.getD k 0 ∧ ws.getD k 0 ≤ 1000000) : wOk ws = true := by
  rw [wOk_iff]
  intro x hx
  obtain ⟨j, hj, rfl⟩ := List.getElem_of_mem hx
  have := h j hj
  simpa [hj] using this
/-- What Most returns. -/
def mosE (m : Mo) (l : List (List Int)) (ws : List Int) : Int := if frmE m l ≠ 0 then frmE m l else if ws.length ≠ l.length ∨ wOk ws = false then 1 else if allM m = [] then 12 else 0
def mosN (m : Mo) (l : List (List Int)) (ws : List Int) : Int := if mosE m l ws = 0 then bestF m l ws else 0
def mosX (m : Mo) (l : List (List Int)) (ws : List Int) : List Bool := if mosE m l ws = 0 then ((exts m.opts.length []).find? (fun y => valF m l ws y == bestF m l ws)).getD [] else []
theorem mos_bad {m : Mo} {l : List (List Int)} {ws : List Int} {z : Int} (h : mosE m l ws = z) (hz : z ≠ 0) : mosN m l ws = 0 ∧ mosX m l ws = [] := by
  unfold mosN mosX
  rw [h, if_neg hz, if_neg hz]
  exact ⟨rfl, rfl⟩
theorem mos_frm {m : Mo} {l : List (List Int)} {ws : List Int} (h : frmE m l ≠ 0) : mosE m l ws = frmE m l := by unfold mosE; rw [if_pos h]
theorem mos_arg {m : Mo} {l : List (List Int)} {ws : List Int} (h : frmE m l = 0) (h2 : ws.length ≠ l.length ∨ wOk ws = false) : mosE m l ws = 1 := by unfold mosE; rw [if_neg (by simp [h]), if_pos h2]
theorem mos_none {m : Mo} {l : List (List Int)} {ws : List Int} (h : frmE m l = 0) (h2 : ws.length = l.length) (h3 : wOk ws = true) (h4 : allM m = []) : mosE m l ws = 12 := by unfold mosE; rw [if_neg (by simp [h]), if_neg (by simp [h2, h3]), if_pos h4]
theorem mos_ok {m : Mo} {l : List (List Int)} {ws : List Int} (h : frmE m l = 0) (h2 : ws.length = l.length) (h3 : wOk ws = true) (h4 : allM m ≠ []) : mosE m l ws = 0 := by unfold mosE; rw [if_neg (by simp [h]), if_neg (by simp [h2, h3]), if_neg h4]
def MosP (n : Int) (x : List Bool) (er : Int) (w : World) (e : Ending) (w' : World) : Prop := ∃ v, e = .returned (.tuple #[.int .i64 n, v, .int .i64 er]) ∧ Bols w' w'.heap.size v x ∧ Below w.heap.size w w'
theorem MosP.bad {m : Mo} {l : List (List Int)} {ws : List Int} {z : Int} {w w' : World} (h : mosE m l ws = z) (hz : z ≠ 0) (hb : Below w.heap.size w w') : MosP (mosN m l ws) (mosX m l ws) (mosE m l ws) w (.returned (.tuple #[.int .i64 0, .slice none 0 0, .int .i64 z])) w' := by
  obtain ⟨h1, h2⟩ := mos_bad h hz
  rw [h1, h2, h]
  exact ⟨_, rfl, Sl.nil _ _ _ _, hb⟩
set_option maxRecDepth 100000 in
set_option maxHeartbeats 8000000 in
theorem rMost_any (m : Mo) (l : List (List Int)) (ws : List Int) (ov rv lv wv : Value) (w : World) (hs : SizedM m) (hl : Sized l) (h : MoAt w w.heap.size ov rv m) (hf : Forms w w.heap.size lv l) (hws : Ints w w.heap.size wv ws) (hwl : ws.length ≤ maxLen) (hN : m.err = 0 → m.opts.length ≤ 12) :
    Calls Try.prog 22 #[.agg #[ov, rv], lv, wv] w (MosP (mosN m l ws) (mosX m l ws) (mosE m l ws) w) := by
  obtain ⟨A, cap, hov⟩ := Sl.form h.o
  obtain ⟨Ar, capr, hrv⟩ := h.r.form
  have HFO := hide hf
  obtain ⟨fvs, ⟨Al, bl, offl, capl, rfl, hncl, hAl, hcl⟩, hfi⟩ := hf
  obtain ⟨Aw, bw, offw, capw, rfl, hncw, hAw, hcw⟩ := hws
  have H := hide h
  have HS := hide hs
  have HAL := hide hAl
  have HCL := hide hcl
  have HFI := hide hfi
  have HL := hide hl
  have HAW := hide hAw
  have HCW := hide hcw
  have HN := hide hN
  unfold maxLen at hwl
  subst hov hrv
  clear h hs hAl hcl hfi hl hAw hcw hN
  go_enter Try.func22, Try.ntmps22
  go_upto_region 1 with (fail)
  generalize hw0 : World.alloc _ _ = w0
  obtain ⟨hb0, hB0, hs0⟩ := alloc1 hw0
  clear hw0
  have HX0 : Hid (MoBox w0 w.heap.size (.slice A m.opts.length cap) (.slice Ar m.rules.length capr)) := hb0
  have HB0 := hide hB0
  have c0 := cellOf hb0 0
  have c1 := cellOf hb0 1
  have hck := rcheckForms_any m l (.slice A m.opts.length cap) (.slice Ar m.rules.length capr) (.slice Al l.length capl) w0 HS.out HL.out (H.out.up hB0) (HFO.out.up hB0)
  have HCK := hide hck
  clear hb0 hB0 hs0 hck
  by_cases he : frmE m l = 0
  · have HE := hide he
    obtain ⟨heF, hl200⟩ := frm_ok he
    have HEF := hide (Mo.okF heF)
    have hN2 := HN.out (Mo.okF heF).1
    clear he heF
    go_upto_region 4 with (go_at_call 64; refine HCK.out.mono ?_; rw [HE.out]; rintro e w1 ⟨rfl, hB1⟩; have HX1 := hide (box_to HX0.out hB1); have HB1 : Hid (Below w.heap.size w w1) := Below.to HB0.out hB1 (Nat.le_refl _); clear hB1 c0 c1)
    by_cases hlw : ws.length = l.length
    · have hlw1 : ((ws.length : Int) != (l.length : Int)) = false := by simp [hlw]
      have HLW := hide hlw
      have hlw2 : ws.length ≤ 200 := by omega
      clear hlw
      go_wp2_with fail
      go_loop [10] (fun i => ∃ k : Nat, k ≤ ws.length ∧ i = .int .i64 k ∧ Hid (∀ j, j < k → -1000000 ≤ ws.getD j 0 ∧ ws.getD j 0 ≤ 1000000)) (fun i => ws.length - (intOf i).toNat)
      case atStart => exact ⟨0, Nat.zero_le _, rfl, fun j hj => by omega⟩
      case round =>
        obtain ⟨k, hk, rfl, hall⟩ := hrel
        by_cases hkl : k < ws.length
        · obtain ⟨rfl, hbb⟩ : Aw = some ⟨bw, offw, none⟩ ∧ bw < w.heap.size := by
            rcases HAW.out with h | h
            · exact h
            · omega
          obtain ⟨x, hx⟩ : ∃ x, ws.getD k 0 = x := ⟨_, rfl⟩
          have c2 : w1.cell? ⟨bw, offw + k, none⟩ = some (.int .i64 x) := by
            have h1 := HCW.out k 0 hkl (by omega)
            rw [Nat.mul_one, Nat.add_zero, hx] at h1
            exact (HB1.out.cell (p := ⟨bw, offw + k, none⟩) hbb).trans h1
          have j1 : (k : Int) < (ws.length : Int) := by omega
          have HX := hide hx
          clear hx
          by_cases h1 : x < -1000000
          · have hee := mos_arg HE.out (l := l) (.inr (wOk_not hkl (by rw [HX.out]; omega)))
            have HEE := hide hee
            clear hee
            go_wp2_with fail
            go_ret3
            exact MosP.bad HEE.out (by omega) HB1.out
          · by_cases h2 : 1000000 < x
            · have hee := mos_arg HE.out (l := l) (.inr (wOk_not hkl (by rw [HX.out]; omega)))
              have HEE := hide hee
              clear hee
              go_wp2_with fail
              go_ret3
              exact MosP.bad HEE.out (by omega) HB1.out
            · go_wp2_with fail
              go_round
              case rel => exact ⟨k + 1, by omega, by go_num, fun j hj => by
                  rcases Nat.lt_or_ge j k with h | h
                  · exact hall.out j h
                  · rw [show j = k from by omega, HX.out]; omega⟩
              case measure => simp [intOf]; omega
        · have hwok := wOk_all (fun j hj => hall.out j (by omega))
          have HWOK := hide hwok
          have hbx := HX1.out
          have x0 := cellOf hbx 0
          have x1 := cellOf hbx 1
          have hle := allM_le4 hN2
          obtain ⟨M, hM⟩ : ∃ M, allM m = M := ⟨_, rfl⟩
          have HM := hide hM
          rw [hM] at hle
          clear hwok hbx hM
          by_cases hM0 : M = []
          · subst hM0
            have hee := mos_none HE.out HLW.out HWOK.out HM.out
            have HEE := hide hee
            clear hee
            go_wp2_with (go_at_call 65; refine (Variants_any m _ _ _ (H.out.up HB1.out) HEF.out.1 hN2).mono ?_; rw [HM.out]; rintro e w2 ⟨v2, rfl, hv2, hB2⟩; obtain ⟨A2, cap2, hA2, _, _⟩ := hv2.form; subst hA2; have HB2 : Hid (Below w.heap.size w w2) := Below.to HB1.out hB2 (Nat.le_refl _); clear hv2 hB2)
            go_ret3
            exact MosP.bad HEE.out (by omega) HB2.out
          · have hee := mos_ok HE.out HLW.out HWOK.out (by rw [HM.out]; exact hM0)
            have HEE := hide hee
            have hMl : ((M.length : Int) == 0) = false := by
              have := List.length_pos_iff.2 hM0
              simp; omega
            have HM0 := hide hM0
            clear hee hM0
            go_wp2_with (go_at_call 65; refine (Variants_any m _ _ _ (H.out.up HB1.out) HEF.out.1 hN2).mono ?_; rw [HM.out]; rintro e w2 ⟨v2, rfl, hv2, hB2⟩; obtain ⟨A2, cap2, hA2, _, _⟩ := hv2.form; subst hA2; have HV2 := hide hv2.rows; have HB2 : Hid (Below w.heap.size w w2) := Below.to HB1.out hB2 (Nat.le_refl _); clear hv2 hB2)
            obtain ⟨rvs, ⟨A9, bm, offm, cap9, hse, hncm, hAm, hcm⟩, hrm⟩ := HV2.out
            injection hse with e1 e2 e3
            subst e1 e3
            have HAM := hide hAm
            have HCM := hide hcm
            have HRM := hide hrm
            clear hAm hcm hrm e2
            go_loopw [12, 13, 14] (fun bv av i wr => ∃ (k : Nat) (b a : Int), k ≤ M.length ∧ i = .int .i64 k ∧ bv = .int .i64 b ∧ av = .int .i64 a ∧ Hid (FirstMax (fun j => fsum (vf (M.getD j [])) l ws) k b a) ∧ Hid (Below w2.heap.size w2 wr)) (fun _ _ i _ => M.length - (intOf i).toNat)
            case atStart => exact ⟨0, 0, -1, Nat.zero_le _, rfl, rfl, rfl, FirstMax.start _, Below.refl _ _⟩
            case round =>
              obtain ⟨k, b, a, hk, rfl, rfl, rfl, hFM, hB⟩ := hrel
              by_cases hkl : k < M.length
              · obtain ⟨rfl, hbm, Ax, capx, q0, q1⟩ := rows_get (enc := Value.bool) (z := false) HAM.out HCM.out HRM.out hkl
                obtain ⟨x, hx⟩ : ∃ x, M.getD k [] = x := ⟨_, rfl⟩
                rw [hx] at q0 q1
                have hxN : x.length = m.opts.length := allM_len (m := m) (by rw [HM.out, ← hx]; exact getD_mem hkl)
                have hsum : Hid (fsum (vf (M.getD k [])) l ws = fsum (vf x) l ws) := by rw [hx]; exact hide rfl
                obtain ⟨wo, hwo⟩ : ∃ wo : World, wo = wr := ⟨_, rfl⟩
                subst hwo
                have hBW := Below.to HB2.out hB.out (Nat.le_refl _)
                have HBW := hide hBW
                have HXN := hide hxN
                have HQ0 := hide q0
                have HQ1 := hide q1
                have hsz2 := HB2.out.size
                clear hx q0 q1 hxN hBW
                go_wp2_with fail
                go_loopw [15, 16] (fun sv i wr => ∃ t : Nat, t ≤ l.length ∧ i = .int .i64 t ∧ sv = .int .i64 (fsum (vf x) (l.take t) ws) ∧ Hid (Below wo.heap.size wo wr)) (fun _ i _ => l.length - (intOf i).toNat)
                case atStart => exact ⟨0, Nat.zero_le _, rfl, by simp [fsum], Below.refl _ _⟩
                case round =>
                  obtain ⟨t, ht, rfl, rfl, hBi⟩ := hrel
                  have hBr2 := Below.to hB.out hBi.out (Nat.le_refl _)
                  have hBr := Below.to HBW.out hBi.out (Nat.le_refl _)
                  have HBR := hide hBr
                  have HBR2 := hide hBr2
                  have hfb := fsum_bd (vf x) (l.take t) ws (wOk_iff.1 HWOK.out)
                  have hlt200 : ((l.take t).length : Int) ≤ 200 := by simp; omega
                  by_cases htl : t < l.length
                  · obtain ⟨rfl, hbb, Af, capf, p0, p1⟩ := rows_get (enc := Value.int .i64) (z := 0) HAL.out HCL.out HFI.out htl
                    obtain ⟨f, hfe⟩ : ∃ f, l.getD t [] = f := ⟨_, rfl⟩
                    rw [hfe] at p0 p1
                    have hfv : validF m.opts.length f = true := HEF.out.2 f (by rw [← hfe]; exact getD_mem htl)
                    have c0 : wr.cell? ⟨bl, offl + t, none⟩ = some (.slice Af f.length capf) := (hBr.cell (p := ⟨bl, offl + t, none⟩) hbb).trans p0
                    have c1 : wr.cell? ⟨bm, offm + k, none⟩ = some (.slice Ax x.length capx) := (hBr2.cell (p := ⟨bm, offm + k, none⟩) hbm).trans HQ0.out
                    have l0 : bl < wr.heap.size := Nat.lt_of_lt_of_le hbb hBr.size
                    have l1 : bm < wr.heap.size := Nat.lt_of_lt_of_le hbm hBr2.size
                    have htr : ∀ W, Below wr.heap.size wr W → Calls Try.prog 66 #[.slice Af f.length capf, .slice Ax x.length capx] W fun e w' => e = .returned (.bool (evF1 (vf x) f)) ∧ W = w' :=
                      fun W hW => True_any f m.opts.length x _ _ w2.heap.size W (GRow.more (enc := Value.int .i64) (z := 0) (GRow.below (enc := Value.int .i64) (z := 0) p1 (Below.to HBR.out hW (Nat.le_refl _))) hsz2) (GRow.below (enc := Value.bool) (z := false) HQ1.out (Below.to HBR2.out hW (Nat.le_refl _))) HXN.out hfv
                    have hsn := fsum_snoc (vf x) l ws t HLW.out.symm htl
                    rw [hfe] at hsn
                    obtain ⟨s, hs⟩ : ∃ s, fsum (vf x) (l.take t) ws = s := ⟨_, rfl⟩
                    rw [hs] at hsn hfb
                    rw [hs]
                    have j0 : (t : Int) < (l.length : Int) := by omega
                    have j1 : (k : Int) < (M.length : Int) := by omega
                    have j2 : -200000000 ≤ s := by omega
                    have j3 : s ≤ 200000000 := by omega
                    obtain ⟨rfl, hbw⟩ : Aw = some ⟨bw, offw, none⟩ ∧ bw < w.heap.size := by
                      rcases HAW.out with h | h
                      · exact h
                      · have := HLW.out; omega
                    have htw : t < ws.length := by have := HLW.out; omega
                    obtain ⟨y, hy⟩ : ∃ y, ws.getD t 0 = y := ⟨_, rfl⟩
                    rw [hy] at hsn
                    have hyb := wOk_iff.1 HWOK.out y (by rw [← hy]; exact getD_mem htw)
                    obtain ⟨j4, j5⟩ := hyb
                    have c2 : wr.cell? ⟨bw, offw + t, none⟩ = some (.int .i64 y) := by
                      have h1 := HCW.out t 0 htw (by omega)
                      rw [Nat.mul_one, Nat.add_zero, hy] at h1
                      exact (hBr.cell (p := ⟨bw, offw + t, none⟩) hbw).trans h1
                    have c2' : ∀ W, Below wr.heap.size wr W → W.cell? ⟨bw, offw + t, none⟩ = some (.int .i64 y) := fun W hW => (hW.cell (p := ⟨bw, offw + t, none⟩) (Nat.lt_of_lt_of_le hbw HBR.out.size)).trans c2
                    have j6 : (t : Int) < (ws.length : Int) := by omega
                    have HC2 := hide c2'
                    have HP1 := hide p1
                    clear p0 p1 hfe hs hy hfb hBr hBr2 c2 c2' hfv
                    cases hev : evF1 (vf x) f with
                    | true =>
                      rw [hev] at htr hsn
                      have HT := hide htr
                      have HSN := hide hsn
                      clear hev htr hsn
                      go_wp2_with fail
                      refine wp_region_held_drew (S := (fun w' => Below wr.heap.size wr w')) (by kernel_rfl) ?_ (fun hHeld => ?_)
                      · try dsimp only
                        exact (by repeat (first | exact Below.refl _ _ | assumption | refine Below.drew ?_ | refine Below.drewN ?_ _ | refine Below.allocT ?_ (Nat.le_refl _) _ | refine Below.setCell ?_ (by simp <;> omega) _ | refine Below.to ?_ (by assumption) (Nat.le_refl _)))
                      refine wpAnyH_take (i := 0) (v := ?v24_0) rfl (by kernel_rfl) (by kernel_rfl) (by kernel_rfl) (fun _ _ _ h => h) (Or.inl ⟨by rfl, ?y24_0⟩) (by assumption) ?r24_0
                      case' y24_0 => (intro w hSw; (try dsimp only at hSw); (try have hlS := HLK.out _ hSw); obtain ⟨hcS, hfS⟩ := bcell hSw; clear hSw; go_simp; try with_reducible rfl)
                      try simp only [Act.put, List.getElem_toArray, List.getElem_cons_succ, List.getElem_cons_zero, List.setIfInBounds_toArray, List.set_cons_zero, List.set_cons_succ]
                      refine wpAnyH_take (i := 1) (v := ?v24_1) rfl (by kernel_rfl) (by kernel_rfl) (by kernel_rfl) (fun _ _ _ h => h) (Or.inl ⟨by rfl, ?y24_1⟩) (by assumption) ?r24_1
                      case' y24_1 => (intro w hSw; (try dsimp only at hSw); (try have hlS := HLK.out _ hSw); obtain ⟨hcS, hfS⟩ := bcell hSw; clear hSw; go_simp; try with_reducible rfl)
                      try simp only [Act.put, List.getElem_toArray, List.getElem_cons_succ, List.getElem_cons_zero, List.setIfInBounds_toArray, List.set_cons_zero, List.set_cons_succ]
                      refine wpAnyH_take (i := 2) (v := ?v24_2) rfl (by kernel_rfl) (by kernel_rfl) (by kernel_rfl) (fun _ _ _ h => h) (Or.inl ⟨by rfl, ?y24_2⟩) (by assumption) ?r24_2
                      case' y24_2 => (intro w hSw; (try dsimp only at hSw); (try have hlS := HLK.out _ hSw); obtain ⟨hcS, hfS⟩ := bcell hSw; clear hSw; go_simp; try with_reducible rfl)
                      try simp only [Act.put, List.getElem_toArray, List.getElem_cons_succ, List.getElem_cons_zero, List.setIfInBounds_toArray, List.set_cons_zero, List.set_cons_succ]
                      refine wpAnyH_take (i := 3) (v := ?v24_3) rfl (by kernel_rfl) (by kernel_rfl) (by kernel_rfl) (fun _ _ _ h => h) (Or.inl ⟨by rfl, ?y24_3⟩) (by assumption) ?r24_3
                      case' y24_3 => (intro w hSw; (try dsimp only at hSw); (try have hlS := HLK.out _ hSw); obtain ⟨hcS, hfS⟩ := bcell hSw; clear hSw; go_simp; try with_reducible rfl)
                      try simp only [Act.put, List.getElem_toArray, List.getElem_cons_succ, List.getElem_cons_zero, List.setIfInBounds_toArray, List.set_cons_zero, List.set_cons_succ]
                      refine wpAnyH_take (i := 4) (v := ?v24_4) rfl (by kernel_rfl) (by kernel_rfl) (by kernel_rfl) (fun _ _ _ h => h) (Or.inl ⟨by rfl, ?y24_4⟩) (by assumption) ?r24_4
                      case' y24_4 => (intro w hSw; (try dsimp only at hSw); (try have hlS := HLK.out _ hSw); obtain ⟨hcS, hfS⟩ := bcell hSw; clear hSw; go_simp; try with_reducible rfl)
                      try simp only [Act.put, List.getElem_toArray, List.getElem_cons_succ, List.getElem_cons_zero, List.setIfInBounds_toArray, List.set_cons_zero, List.set_cons_succ]
                      refine wpAnyH_take (i := 5) (v := ?v24_5) rfl (by kernel_rfl) (by kernel_rfl) (by kernel_rfl) (fun _ _ _ h => h) (Or.inl ⟨by rfl, ?y24_5⟩) (by assumption) ?r24_5
                      case' y24_5 => (intro w hSw; (try dsimp only at hSw); (try have hlS := HLK.out _ hSw); obtain ⟨hcS, hfS⟩ := bcell hSw; clear hSw; go_simp; try with_reducible rfl)
                      try simp only [Act.put, List.getElem_toArray, List.getElem_cons_succ, List.getElem_cons_zero, List.setIfInBounds_toArray, List.set_cons_zero, List.set_cons_succ]
                      refine wpAnyH_take (i := 6) (v := ?v24_6) rfl (by kernel_rfl) (by kernel_rfl) (by kernel_rfl) (fun _ _ _ h => h) (Or.inl ⟨by rfl, ?y24_6⟩) (by assumption) ?r24_6
                      case' y24_6 => (intro w hSw; (try dsimp only at hSw); (try have hlS := HLK.out _ hSw); obtain ⟨hcS, hfS⟩ := bcell hSw; clear hSw; go_simp; try with_reducible rfl)
                      try simp only [Act.put, List.getElem_toArray, List.getElem_cons_succ, List.getElem_cons_zero, List.setIfInBounds_toArray, List.set_cons_zero, List.set_cons_succ]
                      refine wpAnyH_take (i := 7) (v := ?v24_7) rfl (by kernel_rfl) (by kernel_rfl) (by kernel_rfl) (fun _ _ _ h => h) (Or.inl ⟨by rfl, ?y24_7⟩) (by assumption) ?r24_7
                      case' y24_7 => (intro w hSw; (try dsimp only at hSw); (try have hlS := HLK.out _ hSw); obtain ⟨hcS, hfS⟩ := bcell hSw; clear hSw; go_simp; try with_reducible rfl)
                      try simp only [Act.put, List.getElem_toArray, List.getElem_cons_succ, List.getElem_cons_zero, List.setIfInBounds_toArray, List.set_cons_zero, List.set_cons_succ]
                      refine wpAnyH_ready (rs := [8]) (by kernel_rfl) (by simp) ?_
                      refine AllReadyH.cons rfl (fun K hK => ?_) AllReadyH.nil
                      go_simp
                      ((go_at_call 66; refine (HT.out _ (by repeat (first | exact Below.refl _ _ | assumption | refine Below.drew ?_ | refine Below.drewN ?_ _ | refine Below.allocT ?_ (Nat.le_refl _) _ | refine Below.setCell ?_ (by simp <;> omega) _ | refine Below.to ?_ (by assumption) (Nat.le_refl _)))).mono ?_; rintro e w1 ⟨rfl, rfl⟩))
                      (try dsimp only)
                      refine hK.out _ _ ?_ (fun hNext => ?_)
                      · try dsimp only
                        exact (by repeat (first | exact Below.refl _ _ | assumption | refine Below.drew ?_ | refine Below.drewN ?_ _ | refine Below.allocT ?_ (Nat.le_refl _) _ | refine Below.setCell ?_ (by simp <;> omega) _ | refine Below.to ?_ (by assumption) (Nat.le_refl _)))
                      clear hK K hHeld
                      have hHeld := hNext
                      clear hNext
                      (try dsimp only at hHeld)
                      try simp only [Act.put, List.getElem_toArray, List.getElem_cons_succ, List.getElem_cons_zero, List.setIfInBounds_toArray, List.set_cons_zero, List.set_cons_succ]
                      refine wpAnyH_done (by kernel_rfl) ?_ _
                      have c2 := HC2.out _ hHeld
                      go_wp2_with fail
                      go_roundw
                      case rel => exact ⟨t + 1, by omega, by go_num, by rw [HSN.out]; rfl, Below.to hBi.out hHeld (Nat.le_refl _)⟩
                      case measure => simp [intOf]; omega
                    | false =>
                      rw [hev] at htr hsn
                      have HT := hide htr
                      have HSN := hide hsn
                      clear hev htr hsn
                      go_wp2_with fail
                      refine wp_region_held_drew (S := (fun w' => Below wr.heap.size wr w')) (by kernel_rfl) ?_ (fun hHeld => ?_)
                      · try dsimp only
                        exact (by repeat (first | exact Below.refl _ _ | assumption | refine Below.drew ?_ | refine Below.drewN ?_ _ | refine Below.allocT ?_ (Nat.le_refl _) _ | refine Below.setCell ?_ (by simp <;> omega) _ | refine Below.to ?_ (by assumption) (Nat.le_refl _)))
                      refine wpAnyH_take (i := 0) (v := ?v25_0) rfl (by kernel_rfl) (by kernel_rfl) (by kernel_rfl) (fun _ _ _ h => h) (Or.inl ⟨by rfl, ?y25_0⟩) (by assumption) ?r25_0
                      case' y25_0 => (intro w hSw; (try dsimp only at hSw); (try have hlS := HLK.out _ hSw); obtain ⟨hcS, hfS⟩ := bcell hSw; clear hSw; go_simp; try with_reducible rfl)
                      try simp only [Act.put, List.getElem_toArray, List.getElem_cons_succ, List.getElem_cons_zero, List.setIfInBounds_toArray, List.set_cons_zero, List.set_cons_succ]
                      refine wpAnyH_take (i := 1) (v := ?v25_1) rfl (by kernel_rfl) (by kernel_rfl) (by kernel_rfl) (fun _ _ _ h => h) (Or.inl ⟨by rfl, ?y25_1⟩) (by assumption) ?r25_1
                      case' y25_1 => (intro w hSw; (try dsimp only at hSw); (try have hlS := HLK.out _ hSw); obtain ⟨hcS, hfS⟩ := bcell hSw; clear hSw; go_simp; try with_reducible rfl)
                      try simp only [Act.put, List.getElem_toArray, List.getElem_cons_succ, List.getElem_cons_zero, List.setIfInBounds_toArray, List.set_cons_zero, List.set_cons_succ]
                      refine wpAnyH_take (i := 2) (v := ?v25_2) rfl (by kernel_rfl) (by kernel_rfl) (by kernel_rfl) (fun _ _ _ h => h) (Or.inl ⟨by rfl, ?y25_2⟩) (by assumption) ?r25_2
                      case' y25_2 => (intro w hSw; (try dsimp only at hSw); (try have hlS := HLK.out _ hSw); obtain ⟨hcS, hfS⟩ := bcell hSw; clear hSw; go_simp; try with_reducible rfl)
                      try simp only [Act.put, List.getElem_toArray, List.getElem_cons_succ, List.getElem_cons_zero, List.setIfInBounds_toArray, List.set_cons_zero, List.set_cons_succ]
                      refine wpAnyH_take (i := 3) (v := ?v25_3) rfl (by kernel_rfl) (by kernel_rfl) (by kernel_rfl) (fun _ _ _ h => h) (Or.inl ⟨by rfl, ?y25_3⟩) (by assumption) ?r25_3
                      case' y25_3 => (intro w hSw; (try dsimp only at hSw); (try have hlS := HLK.out _ hSw); obtain ⟨hcS, hfS⟩ := bcell hSw; clear hSw; go_simp; try with_reducible rfl)
                      try simp only [Act.put, List.getElem_toArray, List.getElem_cons_succ, List.getElem_cons_zero, List.setIfInBounds_toArray, List.set_cons_zero, List.set_cons_succ]
                      refine wpAnyH_take (i := 4) (v := ?v25_4) rfl (by kernel_rfl) (by kernel_rfl) (by kernel_rfl) (fun _ _ _ h => h) (Or.inl ⟨by rfl, ?y25_4⟩) (by assumption) ?r25_4
                      case' y25_4 => (intro w hSw; (try dsimp only at hSw); (try have hlS := HLK.out _ hSw); obtain ⟨hcS, hfS⟩ := bcell hSw; clear hSw; go_simp; try with_reducible rfl)
                      try simp only [Act.put, List.getElem_toArray, List.getElem_cons_succ, List.getElem_cons_zero, List.setIfInBounds_toArray, List.set_cons_zero, List.set_cons_succ]
                      refine wpAnyH_take (i := 5) (v := ?v25_5) rfl (by kernel_rfl) (by kernel_rfl) (by kernel_rfl) (fun _ _ _ h => h) (Or.inl ⟨by rfl, ?y25_5⟩) (by assumption) ?r25_5
                      case' y25_5 => (intro w hSw; (try dsimp only at hSw); (try have hlS := HLK.out _ hSw); obtain ⟨hcS, hfS⟩ := bcell hSw; clear hSw; go_simp; try with_reducible rfl)
                      try simp only [Act.put, List.getElem_toArray, List.getElem_cons_succ, List.getElem_cons_zero, List.setIfInBounds_toArray, List.set_cons_zero, List.set_cons_succ]
                      refine wpAnyH_take (i := 6) (v := ?v25_6) rfl (by kernel_rfl) (by kernel_rfl) (by kernel_rfl) (fun _ _ _ h => h) (Or.inl ⟨by rfl, ?y25_6⟩) (by assumption) ?r25_6
                      case' y25_6 => (intro w hSw; (try dsimp only at hSw); (try have hlS := HLK.out _ hSw); obtain ⟨hcS, hfS⟩ := bcell hSw; clear hSw; go_simp; try with_reducible rfl)
                      try simp only [Act.put, List.getElem_toArray, List.getElem_cons_succ, List.getElem_cons_zero, List.setIfInBounds_toArray, List.set_cons_zero, List.set_cons_succ]
                      refine wpAnyH_take (i := 7) (v := ?v25_7) rfl (by kernel_rfl) (by kernel_rfl) (by kernel_rfl) (fun _ _ _ h => h) (Or.inl ⟨by rfl, ?y25_7⟩) (by assumption) ?r25_7
                      case' y25_7 => (intro w hSw; (try dsimp only at hSw); (try have hlS := HLK.out _ hSw); obtain ⟨hcS, hfS⟩ := bcell hSw; clear hSw; go_simp; try with_reducible rfl)
                      try simp only [Act.put, List.getElem_toArray, List.getElem_cons_succ, List.getElem_cons_zero, List.setIfInBounds_toArray, List.set_cons_zero, List.set_cons_succ]
                      refine wpAnyH_ready (rs := [8]) (by kernel_rfl) (by simp) ?_
                      refine AllReadyH.cons rfl (fun K hK => ?_) AllReadyH.nil
                      go_simp
                      ((go_at_call 66; refine (HT.out _ (by repeat (first | exact Below.refl _ _ | assumption | refine Below.drew ?_ | refine Below.drewN ?_ _ | refine Below.allocT ?_ (Nat.le_refl _) _ | refine Below.setCell ?_ (by simp <;> omega) _ | refine Below.to ?_ (by assumption) (Nat.le_refl _)))).mono ?_; rintro e w1 ⟨rfl, rfl⟩))
                      (try dsimp only)
                      refine hK.out _ _ ?_ (fun hNext => ?_)
                      · try dsimp only
                        exact (by repeat (first | exact Below.refl _ _ | assumption | refine Below.drew ?_ | refine Below.drewN ?_ _ | refine Below.allocT ?_ (Nat.le_refl _) _ | refine Below.setCell ?_ (by simp <;> omega) _ | refine Below.to ?_ (by assumption) (Nat.le_refl _)))
                      clear hK K hHeld
                      have hHeld := hNext
                      clear hNext
                      (try dsimp only at hHeld)
                      try simp only [Act.put, List.getElem_toArray, List.getElem_cons_succ, List.getElem_cons_zero, List.setIfInBounds_toArray, List.set_cons_zero, List.set_cons_succ]
                      refine wpAnyH_done (by kernel_rfl) ?_ _
                      go_wp2_with fail
                      go_roundw
                      case rel => exact ⟨t + 1, by omega, by go_num, by rw [HSN.out]; simp, Below.to hBi.out hHeld (Nat.le_refl _)⟩
                      case measure => simp [intOf]; omega
                  · obtain rfl : t = l.length := by omega
                    rw [List.take_length]
                    obtain ⟨s, hs⟩ : ∃ s, fsum (vf x) l ws = s := ⟨_, rfl⟩
                    have hsum2 : Hid (fsum (vf (M.getD k [])) l ws = s) := hsum.out.trans hs
                    rw [hs]
                    clear hs hfb hBr hBr2
                    have htake : a < 0 ∨ b < s → FirstMax (fun j => fsum (vf (M.getD j [])) l ws) (k + 1) s k := fun hh => by
                      have h1 := hFM.out.take (k := k) (by show a < 0 ∨ b < fsum (vf (M.getD k [])) l ws; rw [hsum2.out]; exact hh)
                      have h2 : FirstMax (fun j => fsum (vf (M.getD j [])) l ws) (k + 1) (fsum (vf (M.getD k [])) l ws) k := h1
                      rwa [hsum2.out] at h2
                    have hkeep : 0 ≤ a → s ≤ b → FirstMax (fun j => fsum (vf (M.getD j [])) l ws) (k + 1) b a := fun h0 h1 =>
                      hFM.out.keep h0 (by show fsum (vf (M.getD k [])) l ws ≤ b; rw [hsum2.out]; exact h1)
                    have HT := hide htake
                    have HK := hide hkeep
                    have hB2 : Hid (Below w2.heap.size w2 wr) := Below.to hB.out hBi.out (Nat.le_refl _)
                    clear htake hkeep
                    by_cases ha : a < 0
                    · go_wp2_with fail
                      go_roundw
                      case rel => exact ⟨k + 1, s, k, by omega, by go_num, rfl, rfl, HT.out (.inl ha), hB2.out⟩
                      case measure => simp [intOf]; omega
                    · by_cases hbs : b < s
                      · go_wp2_with fail
                        go_roundw
                        case rel => exact ⟨k + 1, s, k, by omega, by go_num, rfl, rfl, HT.out (.inr hbs), hB2.out⟩
                        case measure => simp [intOf]; omega
                      · go_wp2_with fail
                        go_roundw
                        case rel => exact ⟨k + 1, b, a, by omega, by go_num, rfl, rfl, HK.out (by omega) (by omega), hB2.out⟩
                        case measure => simp [intOf]; omega
              · obtain rfl : k = M.length := by omega
                obtain ⟨hbe, a0, rfl, ha0, hfind⟩ := most_first (m := m) (l := l) (ws := ws) (best := b) (at_ := a) (wOk_iff.1 HWOK.out) (by omega) (by rw [HM.out]; exact HM0.out) (by rw [HM.out]; exact hFM.out)
                rw [HM.out] at ha0 hfind
                obtain ⟨rfl, hbm, Ax, capx, q0, q1⟩ := rows_get (enc := Value.bool) (z := false) HAM.out HCM.out HRM.out ha0
                obtain ⟨x, hx⟩ : ∃ x, M.getD a0 [] = x := ⟨_, rfl⟩
                rw [hx] at q0 q1 hfind
                have c1 : wr.cell? ⟨bm, offm + a0, none⟩ = some (.slice Ax x.length capx) := (hB.out.cell (p := ⟨bm, offm + a0, none⟩) hbm).trans q0
                have l1 : bm < wr.heap.size := Nat.lt_of_lt_of_le hbm hB.out.size
                have j0 : (a0 : Int) < (M.length : Int) := by omega
                have HQ1 := hide q1
                have HFD := hide hfind
                have HBE := hide hbe
                clear q0 q1 hx hfind hbe
                go_wp2_with fail
                refine wp_region_held_drew (S := (fun w' => Below wr.heap.size wr w')) (by kernel_rfl) ?_ (fun hHeld => ?_)
                · try dsimp only
                  exact (by repeat (first | exact Below.refl _ _ | assumption | refine Below.drew ?_ | refine Below.drewN ?_ _ | refine Below.allocT ?_ (Nat.le_refl _) _ | refine Below.setCell ?_ (by simp <;> omega) _ | refine Below.to ?_ (by assumption) (Nat.le_refl _)))
                refine wpAnyH_take (i := 0) (v := ?v26_0) rfl (by kernel_rfl) (by kernel_rfl) (by kernel_rfl) (fun _ _ _ h => h) (Or.inl ⟨by rfl, ?y26_0⟩) (by assumption) ?r26_0
                case' y26_0 => (intro w hSw; (try dsimp only at hSw); (try have hlS := HLK.out _ hSw); obtain ⟨hcS, hfS⟩ := bcell hSw; clear hSw; go_simp; try with_reducible rfl)
                try simp only [Act.put, List.getElem_toArray, List.getElem_cons_succ, List.getElem_cons_zero, List.setIfInBounds_toArray, List.set_cons_zero, List.set_cons_succ]
                refine wpAnyH_take (i := 1) (v := ?v26_1) rfl (by kernel_rfl) (by kernel_rfl) (by kernel_rfl) (fun _ _ _ h => h) (Or.inl ⟨by rfl, ?y26_1⟩) (by assumption) ?r26_1
                case' y26_1 => (intro w hSw; (try dsimp only at hSw); (try have hlS := HLK.out _ hSw); obtain ⟨hcS, hfS⟩ := bcell hSw; clear hSw; go_simp; try with_reducible rfl)
                try simp only [Act.put, List.getElem_toArray, List.getElem_cons_succ, List.getElem_cons_zero, List.setIfInBounds_toArray, List.set_cons_zero, List.set_cons_succ]
                refine wpAnyH_take (i := 2) (v := ?v26_2) rfl (by kernel_rfl) (by kernel_rfl) (by kernel_rfl) (fun _ _ _ h => h) (Or.inl ⟨by rfl, ?y26_2⟩) (by assumption) ?r26_2
                case' y26_2 => (intro w hSw; (try dsimp only at hSw); (try have hlS := HLK.out _ hSw); obtain ⟨hcS, hfS⟩ := bcell hSw; clear hSw; go_simp; try with_reducible rfl)
                try simp only [Act.put, List.getElem_toArray, List.getElem_cons_succ, List.getElem_cons_zero, List.setIfInBounds_toArray, List.set_cons_zero, List.set_cons_succ]
                refine wpAnyH_take (i := 3) (v := ?v26_3) rfl (by kernel_rfl) (by kernel_rfl) (by kernel_rfl) (fun _ _ _ h => h) (Or.inl ⟨by rfl, ?y26_3⟩) (by assumption) ?r26_3
                case' y26_3 => (intro w hSw; (try dsimp only at hSw); (try have hlS := HLK.out _ hSw); obtain ⟨hcS, hfS⟩ := bcell hSw; clear hSw; go_simp; try with_reducible rfl)
                try simp only [Act.put, List.getElem_toArray, List.getElem_cons_succ, List.getElem_cons_zero, List.setIfInBounds_toArray, List.set_cons_zero, List.set_cons_succ]
                refine wpAnyH_take (i := 4) (v := ?v26_4) rfl (by kernel_rfl) (by kernel_rfl) (by kernel_rfl) (fun _ _ _ h => h) (Or.inl ⟨by rfl, ?y26_4⟩) (by assumption) ?r26_4
                case' y26_4 => (intro w hSw; (try dsimp only at hSw); (try have hlS := HLK.out _ hSw); obtain ⟨hcS, hfS⟩ := bcell hSw; clear hSw; go_simp; try with_reducible rfl)
                try simp only [Act.put, List.getElem_toArray, List.getElem_cons_succ, List.getElem_cons_zero, List.setIfInBounds_toArray, List.set_cons_zero, List.set_cons_succ]
                refine wpAnyH_take (i := 5) (v := ?v26_5) rfl (by kernel_rfl) (by kernel_rfl) (by kernel_rfl) (fun _ _ _ h => h) (Or.inl ⟨by rfl, ?y26_5⟩) (by assumption) ?r26_5
                case' y26_5 => (intro w hSw; (try dsimp only at hSw); (try have hlS := HLK.out _ hSw); obtain ⟨hcS, hfS⟩ := bcell hSw; clear hSw; go_simp; try with_reducible rfl)
                try simp only [Act.put, List.getElem_toArray, List.getElem_cons_succ, List.getElem_cons_zero, List.setIfInBounds_toArray, List.set_cons_zero, List.set_cons_succ]
                refine wpAnyH_take (i := 6) (v := ?v26_6) rfl (by kernel_rfl) (by kernel_rfl) (by kernel_rfl) (fun _ _ _ h => h) (Or.inl ⟨by rfl, ?y26_6⟩) (by assumption) ?r26_6
                case' y26_6 => (intro w hSw; (try dsimp only at hSw); (try have hlS := HLK.out _ hSw); obtain ⟨hcS, hfS⟩ := bcell hSw; clear hSw; go_simp; try with_reducible rfl)
                try simp only [Act.put, List.getElem_toArray, List.getElem_cons_succ, List.getElem_cons_zero, List.setIfInBounds_toArray, List.set_cons_zero, List.set_cons_succ]
                refine wpAnyH_take (i := 7) (v := ?v26_7) rfl (by kernel_rfl) (by kernel_rfl) (by kernel_rfl) (fun _ _ _ h => h) (Or.inl ⟨by rfl, ?y26_7⟩) (by assumption) ?r26_7
                case' y26_7 => (intro w hSw; (try dsimp only at hSw); (try have hlS := HLK.out _ hSw); obtain ⟨hcS, hfS⟩ := bcell hSw; clear hSw; go_simp; try with_reducible rfl)
                try simp only [Act.put, List.getElem_toArray, List.getElem_cons_succ, List.getElem_cons_zero, List.setIfInBounds_toArray, List.set_cons_zero, List.set_cons_succ]
                refine wpAnyH_done (by kernel_rfl) ?_ _
                go_wp2_with fail
                go_ret3
                have hx1 : mosX m l ws = x := by unfold mosX; rw [HEE.out, if_pos rfl, HFD.out]; rfl
                have hn1 : mosN m l ws = b := by unfold mosN; rw [HEE.out, if_pos rfl, HBE.out]
                rw [hx1, hn1, HEE.out]
                refine ⟨_, rfl, Sl.more (GRow.below (enc := Value.bool) (z := false) HQ1.out (Below.to hB.out hHeld (Nat.le_refl _))) (Below.to hB.out hHeld (Nat.le_refl _)).size, Below.to (Below.to HB2.out hB.out (Nat.le_refl _)) hHeld (Nat.le_refl _)⟩
    · have hlw1 : ((ws.length : Int) != (l.length : Int)) = true := by simp; omega
      have hee := mos_arg HE.out (ws := ws) (.inl hlw)
      have HEE := hide hee
      clear hee hlw
      go_wp2_with fail
      go_ret3
      exact MosP.bad HEE.out (by omega) HB1.out
  · have hee := mos_frm (ws := ws) he
    obtain ⟨z, hz⟩ : ∃ z, frmE m l = z := ⟨_, rfl⟩
    rw [hz] at he hee
    have hz1 : (z != 0) = true := by simpa using he
    have HZ := hide hz
    have HEE := hide hee
    have HZ0 := hide he
    clear he hz hee
    go_wp2_with (go_at_call 64; refine HCK.out.mono ?_; rw [HZ.out]; rintro e w1 ⟨rfl, hB1⟩)
    go_ret3
    exact MosP.bad HEE.out HZ0.out (Below.to HB0.out hB1 (Nat.le_refl _))
end Go.Proofs.Ytohofcmikfkilaa
/- The greatest sum, with its errors: walk. -/
namespace Go.Proofs.Ytohofcmikfkilaa
open Go.RowKit
set_option linter.unusedVariables false
set_option linter.unusedSimpArgs false
set_option maxRecDepth 100000 in
set_option maxHeartbeats 4000000 in
theorem Most_model (m : Mo) (l : List (List Int)) (ws : List Int) (ov rv lv wv : Value) (w : World) (hs : SizedM m) (hl : Sized l) (h : MoAt w w.heap.size ov rv m) (hf : Forms w w.heap.size lv l) (hws : Ints w w.heap.size wv ws) (hwl : ws.length ≤ maxLen) (hm : m.err ≠ 0) :
    Calls Try.prog 21 #[.agg #[ov, rv], lv, wv] w (MosP (mosN m l ws) (mosX m l ws) (mosE m l ws) w) := by
  obtain ⟨A, cap, hov⟩ := Sl.form h.o
  obtain ⟨Ar, capr, hrv⟩ := h.r.form
  have H := hide h
  have HF := hide hf
  have HS := hide hs
  have HL := hide hl
  obtain ⟨Al, capl, hlv⟩ := hf.form
  obtain ⟨Aw, bw, offw, capw, rfl, hncw, hAw, hcw⟩ := hws
  have HAW := hide hAw
  have HCW := hide hcw
  subst hov hrv hlv
  unfold maxLen at hwl
  have hee := mos_frm (ws := ws) (l := l) (by rw [frm_err hm]; exact hm)
  rw [frm_err hm] at hee
  obtain ⟨z, hz⟩ : ∃ z, m.err = z := ⟨_, rfl⟩
  rw [hz] at hm hee
  have hz1 : (z != 0) = true := by simpa using hm
  have HM := hide hz
  have HEE := hide hee
  have HZ0 := hide hm
  clear h hf hs hl hAw hcw hm hz hee
  go_enter Try.func21, Try.ntmps21
  go_upto_region 1 with (fail)
  generalize hw0 : World.alloc _ _ = w0
  obtain ⟨hb0, hB0, hs0⟩ := alloc1 hw0
  clear hw0
  have c0 := cellOf hb0 0
  have c1 := cellOf hb0 1
  have HX0 : Hid (MoBox w0 w.heap.size (.slice A m.opts.length cap) (.slice Ar m.rules.length capr)) := hb0
  have HB0 := hide hB0
  have hck := CheckModel_any m (.slice A m.opts.length cap) (.slice Ar m.rules.length capr) w0 HS.out (H.out.up hB0)
  have HCK := hide hck
  clear hb0 hB0 hs0 hck
  go_wp2_with (go_at_call 24; refine HCK.out.mono ?_; rw [HM.out]; rintro e w1 ⟨rfl, hB1⟩; have hbx := box_to HX0.out hB1; have d0 := cellOf hbx 0; have d1 := cellOf hbx 1; have HB1 : Hid (Below w.heap.size w w1) := Below.to HB0.out hB1 (Nat.le_refl _); clear hbx hB1 c0 c1)
  go_ret3
  exact MosP.bad HEE.out HZ0.out HB1.out
set_option maxRecDepth 100000 in
set_option maxHeartbeats 4000000 in
theorem Most_many (m : Mo) (l : List (List Int)) (ws : List Int) (ov rv lv wv : Value) (w : World) (hs : SizedM m) (hl : Sized l) (h : MoAt w w.heap.size ov rv m) (hf : Forms w w.heap.size lv l) (hws : Ints w w.heap.size wv ws) (hwl : ws.length ≤ maxLen) (hm : m.err = 0) (h200 : 200 < l.length) :
    Calls Try.prog 21 #[.agg #[ov, rv], lv, wv] w (MosP (mosN m l ws) (mosX m l ws) (mosE m l ws) w) := by
  obtain ⟨A, cap, hov⟩ := Sl.form h.o
  obtain ⟨Ar, capr, hrv⟩ := h.r.form
  have H := hide h
  have HF := hide hf
  have HS := hide hs
  have HL := hide hl
  obtain ⟨Al, capl, hlv⟩ := hf.form
  obtain ⟨Aw, bw, offw, capw, rfl, hncw, hAw, hcw⟩ := hws
  have HAW := hide hAw
  have HCW := hide hcw
  subst hov hrv hlv
  unfold maxLen at hwl
  have hee := mos_frm (ws := ws) (l := l) (by rw [frm_many hm h200]; omega)
  rw [frm_many hm h200] at hee
  have hz1 : (200 : Int) < (l.length : Int) := by omega
  have HM := hide hm
  have HEE := hide hee
  clear h hf hs hl hAw hcw hm hee h200
  go_enter Try.func21, Try.ntmps21
  go_upto_region 1 with (fail)
  generalize hw0 : World.alloc _ _ = w0
  obtain ⟨hb0, hB0, hs0⟩ := alloc1 hw0
  clear hw0
  have c0 := cellOf hb0 0
  have c1 := cellOf hb0 1
  have HX0 : Hid (MoBox w0 w.heap.size (.slice A m.opts.length cap) (.slice Ar m.rules.length capr)) := hb0
  have HB0 := hide hB0
  have hck := CheckModel_any m (.slice A m.opts.length cap) (.slice Ar m.rules.length capr) w0 HS.out (H.out.up hB0)
  have HCK := hide hck
  clear hb0 hB0 hs0 hck
  go_wp2_with (go_at_call 24; refine HCK.out.mono ?_; rw [HM.out]; rintro e w1 ⟨rfl, hB1⟩; have hbx := box_to HX0.out hB1; have d0 := cellOf hbx 0; have d1 := cellOf hbx 1; have HB1 : Hid (Below w.heap.size w w1) := Below.to HB0.out hB1 (Nat.le_refl _); clear hbx hB1 c0 c1)
  go_ret3
  exact MosP.bad HEE.out (by omega) HB1.out
set_option maxRecDepth 100000 in
set_option maxHeartbeats 4000000 in
theorem Most_form (m : Mo) (l : List (List Int)) (ws : List Int) (ov rv lv wv : Value) (w : World) (hs : SizedM m) (hl : Sized l) (h : MoAt w w.heap.size ov rv m) (hf : Forms w w.heap.size lv l) (hws : Ints w w.heap.size wv ws) (hwl : ws.length ≤ maxLen) (hm : m.err = 0) (h200 : l.length ≤ 200) (he : m.errF l ≠ 0) :
    Calls Try.prog 21 #[.agg #[ov, rv], lv, wv] w (MosP (mosN m l ws) (mosX m l ws) (mosE m l ws) w) := by
  obtain ⟨A, cap, hov⟩ := Sl.form h.o
  obtain ⟨Ar, capr, hrv⟩ := h.r.form
  have H := hide h
  have HF := hide hf
  have HS := hide hs
  have HL := hide hl
  obtain ⟨Al, capl, hlv⟩ := hf.form
  obtain ⟨Aw, bw, offw, capw, rfl, hncw, hAw, hcw⟩ := hws
  have HAW := hide hAw
  have HCW := hide hcw
  subst hov hrv hlv
  unfold maxLen at hwl
  have hee := mos_frm (ws := ws) (l := l) (by rw [frm_rest hm h200]; exact he)
  rw [frm_rest hm h200] at hee
  have hz1 : ¬ (200 : Int) < (l.length : Int) := by omega
  obtain ⟨z, hz⟩ : ∃ z, m.errF l = z := ⟨_, rfl⟩
  have HE0 := hide he
  rw [hz] at he hee
  have hz2 : (z != 0) = true := by simpa using he
  have HM := hide hm
  have HZ := hide hz
  have HZ0 := hide he
  have HEE := hide hee
  clear h hf hs hl hAw hcw hm hee h200 he hz
  go_enter Try.func21, Try.ntmps21
  go_upto_region 1 with (fail)
  generalize hw0 : World.alloc _ _ = w0
  obtain ⟨hb0, hB0, hs0⟩ := alloc1 hw0
  clear hw0
  have c0 := cellOf hb0 0
  have c1 := cellOf hb0 1
  have HX0 : Hid (MoBox w0 w.heap.size (.slice A m.opts.length cap) (.slice Ar m.rules.length capr)) := hb0
  have HB0 := hide hB0
  have hck := CheckModel_any m (.slice A m.opts.length cap) (.slice Ar m.rules.length capr) w0 HS.out (H.out.up hB0)
  have HCK := hide hck
  clear hb0 hB0 hs0 hck
  go_wp2_with (first | (go_at_call 24; refine HCK.out.mono ?_; rw [HM.out]; rintro e w1 ⟨rfl, hB1⟩; have hbx := box_to HX0.out hB1; have d0 := cellOf hbx 0; have d1 := cellOf hbx 1; have HB1 : Hid (Below w.heap.size w w1) := Below.to HB0.out hB1 (Nat.le_refl _); clear hbx hB1 c0 c1) | (go_at_call 60; refine (begin_err m l _ _ _ _ HS.out HL.out (H.out.up HB1.out) (HF.out.up HB1.out) HE0.out).mono ?_; rw [HZ.out]; rintro e w2 ⟨rfl, hB2⟩; have HB2 : Hid (Below w.heap.size w w2) := Below.to HB1.out hB2 (Nat.le_refl _); clear hB2))
  go_ret3
  exact MosP.bad HEE.out HZ0.out HB2.out
set_option maxRecDepth 100000 in
set_option maxHeartbeats 4000000 in
theorem Most_arg (m : Mo) (l : List (List Int)) (ws : List Int) (ov rv lv wv : Value) (w : World) (hs : SizedM m) (hl : Sized l) (h : MoAt w w.heap.size ov rv m) (hf : Forms w w.heap.size lv l) (hws : Ints w w.heap.size wv ws) (hwl : ws.length ≤ maxLen) (he : m.errF l = 0) (hN : m.opts.length ≤ 12) (h200 : l.length ≤ 200) (hlw : ws.length ≠ l.length) :
    Calls Try.prog 21 #[.agg #[ov, rv], lv, wv] w (MosP (mosN m l ws) (mosX m l ws) (mosE m l ws) w) := by
  obtain ⟨A, cap, hov⟩ := Sl.form h.o
  obtain ⟨Ar, capr, hrv⟩ := h.r.form
  have H := hide h
  have HF := hide hf
  have HS := hide hs
  have HL := hide hl
  obtain ⟨Al, capl, hlv⟩ := hf.form
  obtain ⟨Aw, bw, offw, capw, rfl, hncw, hAw, hcw⟩ := hws
  have HAW := hide hAw
  have HCW := hide hcw
  subst hov hrv hlv
  unfold maxLen at hwl
  have hm := (Mo.okF he).1
  have hee := mos_arg (m := m) (ws := ws) (l := l) (by rw [frm_rest hm h200]; exact he) (.inl hlw)
  have hz1 : ¬ (200 : Int) < (l.length : Int) := by omega
  have hz2 : ((ws.length : Int) != (l.length : Int)) = true := by simp; omega
  have HE := hide he
  have HM := hide hm
  have HEE := hide hee
  clear h hf hs hl hAw hcw hm hee h200 he hlw
  go_enter Try.func21, Try.ntmps21
  go_upto_region 1 with (fail)
  generalize hw0 : World.alloc _ _ = w0
  obtain ⟨hb0, hB0, hs0⟩ := alloc1 hw0
  clear hw0
  have c0 := cellOf hb0 0
  have c1 := cellOf hb0 1
  have HX0 : Hid (MoBox w0 w.heap.size (.slice A m.opts.length cap) (.slice Ar m.rules.length capr)) := hb0
  have HB0 := hide hB0
  have hck := CheckModel_any m (.slice A m.opts.length cap) (.slice Ar m.rules.length capr) w0 HS.out (H.out.up hB0)
  have HCK := hide hck
  clear hb0 hB0 hs0 hck
  go_wp2_with (first | (go_at_call 24; refine HCK.out.mono ?_; rw [HM.out]; rintro e w1 ⟨rfl, hB1⟩; have hbx := box_to HX0.out hB1; have d0 := cellOf hbx 0; have d1 := cellOf hbx 1; have HB1 : Hid (Below w.heap.size w w1) := Below.to HB0.out hB1 (Nat.le_refl _); clear hbx hB1 c0 c1) | (go_at_call 60; refine (begin_ok m l _ _ _ _ HS.out HL.out (H.out.up HB1.out) (HF.out.up HB1.out) HE.out hN).mono ?_; rintro e w2 ⟨F, n, rfl, r1⟩; have R1 : Hid (BegR m w w2 F n) := r1.of HB1.out; clear r1 d0 d1))
  go_ret3
  exact MosP.bad HEE.out (by omega) R1.out.below
set_option maxRecDepth 100000 in
set_option maxHeartbeats 4000000 in
theorem Most_loop (m : Mo) (l : List (List Int)) (ws : List Int) (ov rv lv wv : Value) (w : World) (hs : SizedM m) (hl : Sized l) (h : MoAt w w.heap.size ov rv m) (hf : Forms w w.heap.size lv l) (hws : Ints w w.heap.size wv ws) (hwl : ws.length ≤ maxLen) (he : m.errF l = 0) (hN : m.opts.length ≤ 12) (h200 : l.length ≤ 200) (hlw : ws.length = l.length) (hno : wOk ws = true → allM m = []) :
    Calls Try.prog 21 #[.agg #[ov, rv], lv, wv] w (MosP (mosN m l ws) (mosX m l ws) (mosE m l ws) w) := by
  obtain ⟨A, cap, hov⟩ := Sl.form h.o
  obtain ⟨Ar, capr, hrv⟩ := h.r.form
  have H := hide h
  have HF := hide hf
  have HS := hide hs
  have HL := hide hl
  obtain ⟨Al, capl, hlv⟩ := hf.form
  obtain ⟨Aw, bw, offw, capw, rfl, hncw, hAw, hcw⟩ := hws
  have HAW := hide hAw
  have HCW := hide hcw
  subst hov hrv hlv
  unfold maxLen at hwl
  have hm := (Mo.okF he).1
  have hfr : frmE m l = 0 := by rw [frm_rest hm h200]; exact he
  have hz1 : ¬ (200 : Int) < (l.length : Int) := by omega
  have hz2 : ((ws.length : Int) != (l.length : Int)) = false := by rw [hlw]; simp
  have hz4 : (ws.length : Int) ≤ 200 := by omega
  have HE := hide he
  have HM := hide hm
  have HFR := hide hfr
  have HLW := hide hlw
  have HNO := hide hno
  clear h hf hs hl hAw hcw hm hfr h200 he hlw hno
  go_enter Try.func21, Try.ntmps21
  go_upto_region 1 with (fail)
  generalize hw0 : World.alloc _ _ = w0
  obtain ⟨hb0, hB0, hs0⟩ := alloc1 hw0
  clear hw0
  have c0 := cellOf hb0 0
  have c1 := cellOf hb0 1
  have HX0 : Hid (MoBox w0 w.heap.size (.slice A m.opts.length cap) (.slice Ar m.rules.length capr)) := hb0
  have HB0 := hide hB0
  have hck := CheckModel_any m (.slice A m.opts.length cap) (.slice Ar m.rules.length capr) w0 HS.out (H.out.up hB0)
  have HCK := hide hck
  clear hb0 hB0 hs0 hck
  go_wp2_with (first | (go_at_call 24; refine HCK.out.mono ?_; rw [HM.out]; rintro e w1 ⟨rfl, hB1⟩; have hbx := box_to HX0.out hB1; have d0 := cellOf hbx 0; have d1 := cellOf hbx 1; have HB1 : Hid (Below w.heap.size w w1) := Below.to HB0.out hB1 (Nat.le_refl _); clear hbx hB1 c0 c1) | (go_at_call 60; refine (begin_ok m l _ _ _ _ HS.out HL.out (H.out.up HB1.out) (HF.out.up HB1.out) HE.out hN).mono ?_; rintro e w2 ⟨F, n, rfl, r1⟩; have R1 : Hid (BegR m w w2 F n) := r1.of HB1.out; clear r1 d0 d1))
  go_loop [44] (fun i => ∃ k : Nat, k ≤ ws.length ∧ i = .int .i64 k ∧ Hid (∀ j, j < k → -1000000 ≤ ws.getD j 0 ∧ ws.getD j 0 ≤ 1000000)) (fun i => ws.length - (intOf i).toNat)
  case atStart => exact ⟨0, Nat.zero_le _, rfl, fun j hj => by omega⟩
  case round =>
    obtain ⟨k, hk, rfl, hall⟩ := hrel
    by_cases hkl : k < ws.length
    · obtain ⟨rfl, hbb⟩ : Aw = some ⟨bw, offw, none⟩ ∧ bw < w.heap.size := by
        rcases HAW.out with h | h
        · exact h
        · omega
      obtain ⟨x, hx⟩ : ∃ x, ws.getD k 0 = x := ⟨_, rfl⟩
      have c2 : w2.cell? ⟨bw, offw + k, none⟩ = some (.int .i64 x) := by
        have h1 := HCW.out k 0 hkl (by omega)
        rw [Nat.mul_one, Nat.add_zero, hx] at h1
        exact (R1.out.below.cell (p := ⟨bw, offw + k, none⟩) hbb).trans h1
      have j1 : (k : Int) < (ws.length : Int) := by omega
      have HX := hide hx
      clear hx
      by_cases h1 : x < -1000000
      · have hee := mos_arg HFR.out (l := l) (.inr (wOk_not hkl (by rw [HX.out]; omega)))
        have HEE := hide hee
        clear hee
        go_wp2_with fail
        go_ret3
        exact MosP.bad HEE.out (by omega) R1.out.below
      · by_cases h2 : 1000000 < x
        · have hee := mos_arg HFR.out (l := l) (.inr (wOk_not hkl (by rw [HX.out]; omega)))
          have HEE := hide hee
          clear hee
          go_wp2_with fail
          go_ret3
          exact MosP.bad HEE.out (by omega) R1.out.below
        · go_wp2_with fail
          go_round
          case rel => exact ⟨k + 1, by omega, by go_num, fun j hj => by
              rcases Nat.lt_or_ge j k with h | h
              · exact hall.out j h
              · rw [show j = k from by omega, HX.out]; omega⟩
          case measure => simp [intOf]; omega
    · have hwok := wOk_all (fun j hj => hall.out j (by omega))
      have hnone := HNO.out hwok
      have hee := mos_none HFR.out HLW.out hwok hnone
      have hn0 : n = 0 := by
        rcases Nat.eq_zero_or_pos n with h0 | h0
        · exact h0
        · exfalso
          refine sat_ne R1.out.here.wf R1.out.lt (l := []) (by omega) (Nat.zero_le _) ?_
          rw [satM_node (m := m) (p := fun _ => true) R1.out.N (fun v => by rw [R1.out.ev v, Bool.and_true]), satM_true]
          exact hnone
      have HEE := hide hee
      clear hwok hnone hee
      subst hn0
      go_wp2_with fail
      go_ret3
      exact MosP.bad HEE.out (by omega) R1.out.below
theorem Most_any (m : Mo) (l : List (List Int)) (ws : List Int) (ov rv lv wv : Value) (w : World) (hs : SizedM m) (hl : Sized l) (h : MoAt w w.heap.size ov rv m) (hf : Forms w w.heap.size lv l) (hws : Ints w w.heap.size wv ws) (hwl : ws.length ≤ maxLen) (hN : m.err = 0 → m.opts.length ≤ 12) :
    Calls Try.prog 21 #[.agg #[ov, rv], lv, wv] w (MosP (mosN m l ws) (mosX m l ws) (mosE m l ws) w) := by
  by_cases hm : m.err = 0
  · by_cases h200 : l.length ≤ 200
    · by_cases he : m.errF l = 0
      · by_cases hlw : ws.length = l.length
        · by_cases hno : wOk ws = true → allM m = []
          · exact Most_loop m l ws ov rv lv wv w hs hl h hf hws hwl he (hN hm) h200 hlw hno
          · have hw : wOk ws = true := by
              cases hw : wOk ws with
              | true => rfl
              | false => exact absurd (fun h => by simp [hw] at h) hno
            have ha : allM m ≠ [] := fun h => hno fun _ => h
            have hee := mos_ok (by rw [frm_rest hm h200]; exact he) hlw hw ha
            refine (Most_ok m l ws ov rv lv wv w hs hl h hf hws he (hN hm) h200 hlw (wOk_iff.1 hw) (by rw [satM_true]; exact ha)).mono ?_
            rintro e w' ⟨v, x, h1, h2, h3, h4, h5⟩
            have hx1 : mosX m l ws = x := by unfold mosX; rw [hee, if_pos rfl, h2]; rfl
            have hn1 : mosN m l ws = bestF m l ws := by unfold mosN; rw [hee, if_pos rfl]
            rw [hx1, hn1, hee]
            exact ⟨v, h1, h4, h5⟩
        · exact Most_arg m l ws ov rv lv wv w hs hl h hf hws hwl he (hN hm) h200 hlw
      · exact Most_form m l ws ov rv lv wv w hs hl h hf hws hwl hm h200 he
    · exact Most_many m l ws ov rv lv wv w hs hl h hf hws hwl hm (by omega)
  · exact Most_model m l ws ov rv lv wv w hs hl h hf hws hwl hm
end Go.Proofs.Ytohofcmikfkilaa

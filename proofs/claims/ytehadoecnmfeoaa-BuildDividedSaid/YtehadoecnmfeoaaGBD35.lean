/- Part 35 of this claim's texts: walks and plain laws. -/
import Derived.Test.YtehadoecnmfeoaaRows
import Derived.Test.YtehadoecnmfeoaaGBD30
import Derived.Test.YtehadoecnmfeoaaGBD29
import Derived.Test.YtehadoecnmfeoaaGBD11
import Derived.Test.YtehadoecnmfeoaaGBD19
import Derived.Test.YtehadoecnmfeoaaGBD15
import Derived.Test.YtehadoecnmfeoaaGBD27
import Derived.Deep.DeepMust
import Derived.Deep.RegionHeld3
import Derived.Deep.DrawnRows
/- What Divide returns is right: plain laws. -/
namespace Go.Proofs.Ytehadoecnmfeoaa
set_option linter.unusedVariables false
set_option linter.unusedSimpArgs false
/-- What holds of the modules of the first n wires. -/
structure DivJ (l : Lo) (n : Nat) (D : List Md) : Prop where
  tg : ∀ i, i < D.length → ∀ w : Nat, (w : Int) ∈ (D.getD i Md.o).ws → w < n ∧ tgB l.m (D.getD i Md.o).f (fmW l w) = true ∧ sometB l.m (fmW l w) = true
  apart : ∀ i j, i < D.length → j < D.length → i ≠ j → tgB l.m (D.getD i Md.o).f (D.getD j Md.o).f = false
  asc : ∀ i, i < D.length → wiresB n (D.getD i Md.o).ws = true
  one : ∀ w, w < n → sometB l.m (fmW l w) = true → ∃ i, i < D.length ∧ (w : Int) ∈ (D.getD i Md.o).ws
theorem tgB_symm (m : Mo) (f g : List Int) : tgB m f g = tgB m g f := by
  unfold tgB
  congr 1
  funext x
  exact Bool.beq_comm
theorem tgB_self (m : Mo) (f : List Int) : tgB m f f = true := by unfold tgB; simp
theorem tgB_trans {m : Mo} {f g h : List Int} (h1 : tgB m f g = true) (h2 : tgB m g h = true) : tgB m f h = true := by
  unfold tgB at *
  rw [List.all_eq_true] at *
  intro x hx
  have a := h1 x hx
  have b := h2 x hx
  simp only [beq_iff_eq] at *
  rw [a, b]
theorem wireOk_mono {n n' : Nat} {ws : List Int} (hn : n ≤ n') (h : wiresB n ws = true) : wiresB n' ws = true := by
  refine List.all_eq_true.2 fun k hk => ?_
  have hk2 : k < ws.length := by simpa using hk
  have h1 := wires_at h hk2
  unfold wireOk
  simp only [Bool.and_eq_true, btw_iff, Bool.or_eq_true, decide_eq_true_eq]
  refine ⟨⟨h1.1, by omega⟩, ?_⟩
  rcases Nat.eq_zero_or_pos k with h0 | h0
  · exact .inl h0
  · exact .inr (h1.2.2 h0)
theorem wiresB_snoc {n : Nat} {ws : List Int} (h : wiresB n ws = true) : wiresB (n + 1) (ws ++ [(n : Int)]) = true := by
  refine List.all_eq_true.2 fun k hk => ?_
  have hk2 : k < ws.length + 1 := by simpa using hk
  unfold wireOk
  simp only [Bool.and_eq_true, btw_iff, Bool.or_eq_true, decide_eq_true_eq]
  rw [getD_snoc, getD_snoc]
  by_cases h1 : k < ws.length
  · have h2 := wires_at h h1
    rw [if_pos h1]
    refine ⟨⟨h2.1, by omega⟩, ?_⟩
    rcases Nat.eq_zero_or_pos k with h0 | h0
    · exact .inl h0
    · rw [if_pos (by omega)]; exact .inr (h2.2.2 h0)
  · rw [if_neg h1, if_pos (by omega)]
    refine ⟨⟨by omega, by omega⟩, ?_⟩
    rcases Nat.eq_zero_or_pos k with h0 | h0
    · exact .inl h0
    · rw [if_pos (by omega)]
      have h2 := wires_at h (show k - 1 < ws.length by omega)
      exact .inr (by omega)
theorem DivJ.zero (l : Lo) : DivJ l 0 [] := ⟨fun i hi => absurd hi (by simp), fun i j hi => absurd hi (by simp), fun i hi => absurd hi (by simp), fun w hw => absurd hw (by omega)⟩
theorem DivJ.step {l : Lo} {n : Nat} {D : List Md} (h : DivJ l n D) : DivJ l (n + 1) (divS l D n) := by
  unfold divS
  by_cases hs : sometB l.m (fmW l n) = true
  case neg =>
    rw [if_neg hs]
    refine ⟨fun i hi w hw => ?_, h.apart, fun i hi => wireOk_mono (Nat.le_succ n) (h.asc i hi), fun w hw hsw => ?_⟩
    · have := h.tg i hi w hw
      exact ⟨by omega, this.2⟩
    · rcases Nat.lt_or_ge w n with h1 | h1
      · exact h.one w h1 hsw
      · rw [show w = n by omega] at hsw
        exact absurd hsw hs
  case pos =>
  rw [if_pos hs]
  by_cases hf : 0 ≤ fndD l D n
  case pos =>
    rw [if_pos hf]
    have hk := fndD_lt hf
    obtain ⟨k, hke⟩ : ∃ k, (fndD l D n).toNat = k := ⟨_, rfl⟩
    have hfk : fndD l D n = (k : Int) := by omega
    rw [hke] at hk ⊢
    have htk : tgB l.m (D.getD k Md.o).f (fmW l n) = true := by
      have key : ∀ (L : List Md) (p : Md → Bool) (j : Nat), idxI p L = (j : Int) → p (L.getD j Md.o) = true := by
        intro L p
        induction L with
        | nil =>
          intro j h
          have h2 : (-1 : Int) = (j : Int) := h
          omega
        | cons a t ih =>
          intro j h
          unfold idxI at h
          split at h
          · rename_i h2
            rw [show j = 0 by omega]
            exact h2
          · split at h
            · omega
            · obtain ⟨j0, rfl⟩ : ∃ j0, j = j0 + 1 := ⟨j - 1, by omega⟩
              exact ih j0 (by omega)
      exact key D (fun d => tgB l.m d.f (fmW l n)) k hfk
    have hlen : (putD D k n).length = D.length := by unfold putD; rw [List.length_set]
    have hD : ∀ i, (putD D k n).getD i Md.o = if i = k then ⟨(D.getD k Md.o).f, (D.getD k Md.o).ws ++ [(n : Int)]⟩ else D.getD i Md.o := fun i => getD_set9 D _ _ hk i
    have hDf : ∀ i, ((putD D k n).getD i Md.o).f = (D.getD i Md.o).f := fun i => by
      rw [hD i]
      by_cases e : i = k
      · rw [if_pos e, e]
      · rw [if_neg e]
    refine ⟨fun i hi w hw => ?_, fun i j hi hj hij => ?_, fun i hi => ?_, fun w hw hsw => ?_⟩
    · rw [hlen] at hi
      rw [hDf i]
      rw [hD i] at hw
      by_cases e : i = k
      · rw [if_pos e] at hw
        rcases List.mem_append.1 hw with h1 | h1
        · have := h.tg k hk w h1
          rw [e]
          exact ⟨by omega, this.2⟩
        · have h2 : (w : Int) = (n : Int) := by simpa using h1
          have h3 : w = n := by omega
          subst h3
          rw [e]
          exact ⟨by omega, htk, hs⟩
      · rw [if_neg e] at hw
        have := h.tg i hi w hw
        exact ⟨by omega, this.2⟩
    · rw [hlen] at hi hj
      rw [hDf i, hDf j]
      exact h.apart i j hi hj hij
    · rw [hlen] at hi
      rw [hD i]
      by_cases e : i = k
      · rw [if_pos e]; exact wiresB_snoc (h.asc k hk)
      · rw [if_neg e]; exact wireOk_mono (Nat.le_succ n) (h.asc i hi)
    · rcases Nat.lt_or_ge w n with h1 | h1
      · obtain ⟨i, hi, hw2⟩ := h.one w h1 hsw
        refine ⟨i, by rw [hlen]; exact hi, ?_⟩
        rw [hD i]
        by_cases e : i = k
        · rw [if_pos e]
          rw [e] at hw2
          exact List.mem_append_left _ hw2
        · rw [if_neg e]; exact hw2
      · refine ⟨k, by rw [hlen]; exact hk, ?_⟩
        rw [hD k, if_pos rfl, show w = n by omega]
        exact List.mem_append_right _ (by simp)
  case neg =>
    rw [if_neg hf]
    have hno : ∀ i, i < D.length → tgB l.m (D.getD i Md.o).f (fmW l n) = false := fun i hi => by
      cases hc : tgB l.m (D.getD i Md.o).f (fmW l n) with
      | false => rfl
      | true =>
        have h1 := idxI_any (fun d : Md => tgB l.m d.f (fmW l n)) D
        have h2 : D.any (fun d : Md => tgB l.m d.f (fmW l n)) = true := by
          rw [List.any_eq_true]
          refine ⟨D.getD i Md.o, ?_, hc⟩
          rw [List.getD_eq_getElem?_getD, List.getElem?_eq_getElem hi]
          exact List.getElem_mem hi
        rw [h2, decide_eq_true_eq] at h1
        exact absurd h1 hf
    have hlen : (D ++ [(⟨fmW l n, [(n : Int)]⟩ : Md)]).length = D.length + 1 := by simp
    have hD : ∀ i, (D ++ [(⟨fmW l n, [(n : Int)]⟩ : Md)]).getD i Md.o = if i < D.length then D.getD i Md.o else if i = D.length then ⟨fmW l n, [(n : Int)]⟩ else Md.o := fun i => getD_snoc D _ _ i
    refine ⟨fun i hi w hw => ?_, fun i j hi hj hij => ?_, fun i hi => ?_, fun w hw hsw => ?_⟩
    · rw [hlen] at hi
      rw [hD i] at hw ⊢
      by_cases e : i < D.length
      · rw [if_pos e] at hw ⊢
        have := h.tg i e w hw
        exact ⟨by omega, this.2⟩
      · rw [if_neg e, if_pos (by omega)] at hw ⊢
        have h2 : (w : Int) = (n : Int) := by simpa using hw
        have h3 : w = n := by omega
        subst h3
        exact ⟨by omega, tgB_self _ _, hs⟩
    · rw [hlen] at hi hj
      rw [hD i, hD j]
      by_cases e : i < D.length
      · rw [if_pos e]
        by_cases e2 : j < D.length
        · rw [if_pos e2]; exact h.apart i j e e2 hij
        · rw [if_neg e2, if_pos (by omega)]; exact hno i e
      · rw [if_neg e, if_pos (by omega)]
        by_cases e2 : j < D.length
        · rw [if_pos e2, tgB_symm]; exact hno j e2
        · omega
    · rw [hlen] at hi
      rw [hD i]
      by_cases e : i < D.length
      · rw [if_pos e]; exact wireOk_mono (Nat.le_succ n) (h.asc i e)
      · rw [if_neg e, if_pos (by omega)]
        exact wiresB_snoc (n := n) (ws := []) rfl
    · rw [hlen]
      rcases Nat.lt_or_ge w n with h1 | h1
      · obtain ⟨i, hi, hw2⟩ := h.one w h1 hsw
        refine ⟨i, by omega, ?_⟩
        rw [hD i, if_pos hi]
        exact hw2
      · refine ⟨D.length, by omega, ?_⟩
        rw [hD, if_neg (Nat.lt_irrefl _), if_pos rfl, show w = n by omega]
        simp
theorem divN_j (l : Lo) : ∀ n, DivJ l n (divN l n)
  | 0 => DivJ.zero l
  | n + 1 => (divN_j l n).step
/-- No wire is in two modules. -/
theorem DivJ.same {l : Lo} {n : Nat} {D : List Md} (h : DivJ l n D) {i j w : Nat} (hi : i < D.length) (hj : j < D.length) (h1 : (w : Int) ∈ (D.getD i Md.o).ws) (h2 : (w : Int) ∈ (D.getD j Md.o).ws) : i = j := by
  rcases Nat.decEq i j with hij | hij
  · have a := (h.tg i hi w h1).2.1
    have b := (h.tg j hj w h2).2.1
    rw [tgB_symm] at b
    have c := h.apart i j hi hj hij
    rw [tgB_trans a b] at c
    cases c
  · exact hij
theorem filter_one {p : Md → Bool} : ∀ {D : List Md}, (∀ i j, i < D.length → j < D.length → p (D.getD i Md.o) = true → p (D.getD j Md.o) = true → i = j) → (D.filter p).length ≤ 1
  | [], _ => Nat.zero_le _
  | a :: D, h => by
    have ih := filter_one (p := p) (D := D) fun i j hi hj h1 h2 => by
      have := h (i + 1) (j + 1) (by simp; omega) (by simp; omega) h1 h2
      omega
    rw [List.filter_cons]
    by_cases hp : p a = true
    · rw [if_pos hp]
      have h0 : D.filter p = [] := by
        rw [List.filter_eq_nil_iff]
        intro d hd hpd
        obtain ⟨k, hk, he⟩ := List.mem_iff_getElem.1 hd
        have := h 0 (k + 1) (by simp) (by simp; omega) hp (by
          show p (D.getD k Md.o) = true
          rw [List.getD_eq_getElem?_getD, List.getElem?_eq_getElem hk, Option.getD_some, he]
          exact hpd)
        omega
      rw [h0]
      exact Nat.le_refl _
    · rw [if_neg hp]; exact ih
/-- Of what Divide returns nothing is wrong. -/
theorem div_right {l : Lo} (h : l.err = 0) : bldE l (divL l) = 0 := by
  have ok := Lo.err_ok h
  have hd : divL l = divN l l.ws.length := by unfold divL; rw [if_pos h]
  have hi := divN_i l l.ws.length
  have hj := divN_j l l.ws.length
  rw [hd]
  have hr : ∀ d ∈ divN l l.ws.length, rightB l d = true := fun d hd => by
    obtain ⟨k, hk, he⟩ := List.mem_iff_getElem.1 hd
    have e : (divN l l.ws.length).getD k Md.o = d := by rw [List.getD_eq_getElem?_getD, List.getElem?_eq_getElem hk, Option.getD_some, he]
    unfold rightB
    rw [← e, hj.asc k hk]
    obtain ⟨w0, t, h4, h5, h6, h7⟩ := hi.at_ k hk
    rw [h6]
    exact (LoOk.wi ok (show w0 < l.ws.length by omega)).2
  unfold bldE
  rw [if_neg (by simp [h]), if_neg]
  rw [List.all_eq_true.2 hr]
  have h1 := hi.len
  have h2 := ok.w60
  simp
  omega
theorem div_cnt {l : Lo} (h : l.err = 0) {w : Nat} (hw : w < l.ws.length) {x : List Bool} (hx : x ∈ allM l.m) : cntV (withL (divL l) w) x = if evF1 (vf x) (fmW l w) then 1 else 0 := by
  have hd : divL l = divN l l.ws.length := by unfold divL; rw [if_pos h]
  have hj := divN_j l l.ws.length
  rw [hd]
  obtain ⟨D, hD⟩ : ∃ D, divN l l.ws.length = D := ⟨_, rfl⟩
  rw [hD] at hj ⊢
  have hmem : ∀ i, i < D.length → (mdIn w (D.getD i Md.o) = true ↔ (w : Int) ∈ (D.getD i Md.o).ws) := fun i hi => by unfold mdIn; simp
  have hle : (D.filter (mdIn w)).length ≤ 1 := filter_one fun i j hi hj2 h1 h2 => hj.same hi hj2 ((hmem i hi).1 h1) ((hmem j hj2).1 h2)
  have hev : ∀ f ∈ withL D w, evF1 (vf x) f = evF1 (vf x) (fmW l w) ∧ sometB l.m (fmW l w) = true := fun f hf => by
    unfold withL at hf
    obtain ⟨d, hd, rfl⟩ := List.mem_map.1 hf
    obtain ⟨hd1, hd2⟩ := List.mem_filter.1 hd
    obtain ⟨k, hk, he⟩ := List.mem_iff_getElem.1 hd1
    have e : D.getD k Md.o = d := by rw [List.getD_eq_getElem?_getD, List.getElem?_eq_getElem hk, Option.getD_some, he]
    rw [← e] at hd2 ⊢
    obtain ⟨_, a, b⟩ := hj.tg k hk w ((hmem k hk).1 hd2)
    unfold tgB at a
    have := List.all_eq_true.1 a x hx
    exact ⟨by simpa using this, b⟩
  unfold cntV
  have hll : (withL D w).length ≤ 1 := by unfold withL; rw [List.length_map]; exact hle
  cases hc : evF1 (vf x) (fmW l w) with
  | false =>
    rw [if_neg (by simp)]
    have h0 : (withL D w).filter (fun g => evF1 (vf x) g) = [] := by
      rw [List.filter_eq_nil_iff]
      intro f hf
      rw [(hev f hf).1, hc]
      simp
    rw [h0]
    rfl
  | true =>
    rw [if_pos rfl]
    have hsome : sometB l.m (fmW l w) = true := by
      unfold sometB
      rw [List.any_eq_true]
      exact ⟨x, hx, hc⟩
    obtain ⟨i, hi, hwi⟩ := hj.one w hw hsome
    have hin : (D.getD i Md.o).f ∈ withL D w := by
      unfold withL
      refine List.mem_map.2 ⟨D.getD i Md.o, List.mem_filter.2 ⟨?_, (hmem i hi).2 hwi⟩, rfl⟩
      rw [List.getD_eq_getElem?_getD, List.getElem?_eq_getElem hi]
      exact List.getElem_mem hi
    have h1 : (D.getD i Md.o).f ∈ (withL D w).filter (fun g => evF1 (vf x) g) := List.mem_filter.2 ⟨hin, by rw [(hev _ hin).1]; exact hc⟩
    have h2 := List.length_pos_of_mem h1
    have h3 := List.length_filter_le (fun g => evF1 (vf x) g) (withL D w)
    omega
/-- An audit of what Divide returns finds nothing. -/
theorem div_audit {l : Lo} (h : l.err = 0) : audA l (divL l) = none := by
  cases hc : audA l (divL l) with
  | none => rfl
  | some r =>
    obtain ⟨hw, hx, hk, h1, h3⟩ := audA_is (div_right h) hc
    unfold kndN at hk
    rw [many_cnt (fun d hd => by
      have := (bldE_ok (div_right h)).ok d hd
      unfold rightB at this
      exact (Bool.and_eq_true_iff.1 this).1), div_cnt h hw hx] at hk
    have hf : fmW l r.1 = (l.ws.getD r.1 Wi.o).form := rfl
    rw [← hf] at hk
    unfold kndB at hk
    cases he : evF1 (vf r.2.2) (fmW l r.1) with
    | true => rw [he] at hk; simp at hk; omega
    | false => rw [he] at hk; simp at hk; omega
end Go.Proofs.Ytehadoecnmfeoaa
/- Rows of counts; in which modules a wire is: plain laws. -/
namespace Go.Proofs.Ytehadoecnmfeoaa
open Go.RowKit
set_option linter.unusedVariables false
set_option linter.unusedSimpArgs false
/-- A row of numbers in a box of its own. -/
def RowC (w : World) (g : Nat) (L : List Nat) : Prop := w.heap[g]? = some (.cells ((L.map fun (n : Nat) => Value.int .i64 n).toArray) 3 (0, 0))
theorem RowC.cell {w : World} {g k : Nat} {L : List Nat} (h : RowC w g L) (hk : k < L.length) : w.cell? ⟨g, k, none⟩ = some (.int .i64 ((L.getD k 0 : Nat) : Int)) := by
  rw [cellOf h k]
  simp [hk]
theorem RowC.set {w : World} {g k n : Nat} {L : List Nat} (h : RowC w g L) : RowC (w.setCell ⟨g, k, none⟩ (.int .i64 (n : Nat))) g (L.set k n) := by
  have h1 := setCellOf (i := k) h (.int .i64 (n : Nat))
  unfold RowC
  rw [h1]
  simp [List.map_set]
theorem RowC.to {w w' : World} {g : Nat} {L : List Nat} (h : RowC w g L) (hb : Below w.heap.size w w') : RowC w' g L := box_to h hb
theorem RowC.kept {w w' : World} {g g2 : Nat} {L : List Nat} (h : RowC w g L) (hb : w.grownBy w' (some g2)) (hne : g ≠ g2) : RowC w' g L := (hb.block g (box_lt h) (fun e => by injection e with e; exact hne e)).trans h
theorem RowC.drew {w : World} {g : Nat} {L : List Nat} (h : RowC w g L) : RowC w.drew g L := h
theorem rowC_made {w : World} {g n : Nat} (h : w.heap[g]? = some (.cells (madeCells #[.int .i64 0] n) 3 (0, 0))) : RowC w g (List.replicate n 0) := by
  unfold RowC
  rw [h, made_ints]
  simp
/-- A list over the first numbers. -/
def rngC (n : Nat) (f : Nat → Nat) : List Nat := (List.range n).map f
theorem rngC_len (n : Nat) (f : Nat → Nat) : (rngC n f).length = n := by simp [rngC]
theorem rngC_at {n : Nat} {f : Nat → Nat} {i : Nat} (h : i < n) : (rngC n f).getD i 0 = f i := by
  simp [rngC, h]
theorem rngC_set {n : Nat} {f g : Nat → Nat} {i : Nat} (h : ∀ b, b < n → g b = if b = i then g i else f b) : (rngC n f).set i (g i) = rngC n g := by
  apply List.ext_getElem
  · simp [rngC]
  · intro k h1 h2
    have hk : k < n := by simpa [rngC] using h1
    rw [List.getElem_set]
    by_cases e : i = k
    · subst e
      simp [rngC]
    · rw [if_neg e]
      have := h k hk
      rw [if_neg (fun q => e q.symm)] at this
      simp [rngC, this]
theorem rngC_congr {n : Nat} {f g : Nat → Nat} (h : ∀ b, b < n → f b = g b) : rngC n f = rngC n g := by
  unfold rngC
  refine List.map_congr_left fun b hb => h b (by simpa using hb)
theorem rngC_zero (n : Nat) : List.replicate n 0 = rngC n fun _ => 0 := by
  unfold rngC
  rw [List.map_const', List.length_range]
/-- How often a wire is in the first k modules. -/
def inC (D : List Md) (k b : Nat) : Nat := ((D.take k).map fun d => occ d b).sum
def occT (ws : List Int) (j b : Nat) : Nat := ((ws.take j).filter fun x => x == (b : Int)).length
theorem occT_le (ws : List Int) (j b : Nat) : occT ws j b ≤ j := by
  unfold occT
  refine Nat.le_trans (List.length_filter_le _ _) ?_
  exact List.length_take_le _ _
theorem occT_step {ws : List Int} {j : Nat} (h : j < ws.length) (b : Nat) : occT ws (j + 1) b = occT ws j b + if ws.getD j 0 == (b : Int) then 1 else 0 := by
  unfold occT
  rw [List.take_add_one, List.getElem?_eq_getElem h, List.filter_append, List.length_append, List.getD_eq_getElem?_getD, List.getElem?_eq_getElem h, Option.getD_some]
  congr 1
  show (List.filter _ [ws[j]]).length = _
  rw [List.filter_cons]
  cases ws[j] == (b : Int) with
  | true => rw [if_pos rfl, if_pos rfl]; rfl
  | false => rw [if_neg (by simp), if_neg (by simp)]; rfl
theorem inC_step {D : List Md} {k : Nat} (h : k < D.length) (b : Nat) : inC D (k + 1) b = inC D k b + occT (D.getD k Md.o).ws (D.getD k Md.o).ws.length b := by
  unfold inC occT
  rw [List.take_length, List.take_add_one, List.getElem?_eq_getElem h, List.map_append, List.sum_append, List.getD_eq_getElem?_getD, List.getElem?_eq_getElem h]
  simp [occ]
theorem inC_le {D : List Md} {n : Nat} (hD : ∀ i, i < D.length → (D.getD i Md.o).ws.length ≤ n) : ∀ k, k ≤ D.length → ∀ b, inC D k b ≤ k * n
  | 0, _, b => by simp [inC]
  | k + 1, h, b => by
    rw [inC_step (by omega) b]
    have h1 := inC_le hD k (by omega) b
    have h2 := occT_le (D.getD k Md.o).ws (D.getD k Md.o).ws.length b
    have h3 := hD k (by omega)
    rw [Nat.succ_mul]
    omega
theorem sum_filter (p : Md → Bool) (f : Md → Nat) : ∀ (D : List Md), (∀ d ∈ D, f d = if p d then 1 else 0) → (D.map f).sum = (D.filter p).length
  | [], _ => rfl
  | a :: D, h => by
    rw [List.map_cons, List.sum_cons, List.filter_cons, sum_filter p f D fun d hd => h d (by simp [hd]), h a (by simp)]
    cases p a with
    | true => rw [if_pos rfl, if_pos rfl, List.length_cons]; omega
    | false => rw [if_neg (by simp), if_neg (by simp)]; omega
/-- Each wire that belongs to some variant is in one module, the others in none. -/
theorem div_in {l : Lo} (h : l.err = 0) {w : Nat} (hw : w < l.ws.length) : inC (divL l) (divL l).length w = if sometB l.m (fmW l w) then 1 else 0 := by
  have hd : divL l = divN l l.ws.length := by unfold divL; rw [if_pos h]
  have hj := divN_j l l.ws.length
  have hr := (bldE_ok (div_right h)).ok
  rw [hd] at hr ⊢
  obtain ⟨D, hD⟩ : ∃ D, divN l l.ws.length = D := ⟨_, rfl⟩
  rw [hD] at hj hr ⊢
  have hmem : ∀ i, i < D.length → (mdIn w (D.getD i Md.o) = true ↔ (w : Int) ∈ (D.getD i Md.o).ws) := fun i hi => by unfold mdIn; simp
  have hle : (D.filter (mdIn w)).length ≤ 1 := filter_one fun i j hi hj2 h1 h2 => hj.same hi hj2 ((hmem i hi).1 h1) ((hmem j hj2).1 h2)
  have hs : inC D D.length w = (D.filter (mdIn w)).length := by
    unfold inC
    rw [List.take_length]
    refine sum_filter (mdIn w) (fun d => occ d w) D fun d hd => ?_
    have h1 := hr d hd
    unfold rightB at h1
    exact occ_one (Bool.and_eq_true_iff.1 h1).1 w
  rw [hs]
  cases hc : sometB l.m (fmW l w) with
  | true =>
    rw [if_pos rfl]
    obtain ⟨i, hi, hwi⟩ := hj.one w hw hc
    have h1 : D.getD i Md.o ∈ D.filter (mdIn w) := List.mem_filter.2 ⟨by
      rw [List.getD_eq_getElem?_getD, List.getElem?_eq_getElem hi]
      exact List.getElem_mem hi, (hmem i hi).2 hwi⟩
    have h2 := List.length_pos_of_mem h1
    omega
  | false =>
    rw [if_neg (by simp), List.length_eq_zero_iff, List.filter_eq_nil_iff]
    intro d hd hm
    obtain ⟨k, hk, he⟩ := List.mem_iff_getElem.1 hd
    have e : D.getD k Md.o = d := by rw [List.getD_eq_getElem?_getD, List.getElem?_eq_getElem hk, Option.getD_some, he]
    rw [← e] at hm
    have h3 := (hj.tg k hk w ((hmem k hk).1 hm)).2.2
    rw [hc] at h3
    cases h3
theorem div_apart {l : Lo} (h : l.err = 0) {i j : Nat} (hi : i < (divL l).length) (hj2 : j < (divL l).length) (hij : i ≠ j) : tgB l.m ((divL l).getD i Md.o).f ((divL l).getD j Md.o).f = false := by
  have hd : divL l = divN l l.ws.length := by unfold divL; rw [if_pos h]
  have hj := divN_j l l.ws.length
  rw [hd] at hi hj2 ⊢
  exact hj.apart i j hi hj2 hij
theorem div_wire {l : Lo} (h : l.err = 0) {i j : Nat} (hi : i < (divL l).length) (hj2 : j < ((divL l).getD i Md.o).ws.length) : 0 ≤ ((divL l).getD i Md.o).ws.getD j 0 ∧ ((divL l).getD i Md.o).ws.getD j 0 < (l.ws.length : Int) := by
  have hd : divL l = divN l l.ws.length := by unfold divL; rw [if_pos h]
  have hj := divN_j l l.ws.length
  rw [hd] at hi hj2 ⊢
  have h1 := wires_at (hj.asc i hi) hj2
  exact ⟨h1.1, h1.2.1⟩
end Go.Proofs.Ytehadoecnmfeoaa
/- How large a loom and modules are: walk. -/
namespace Go.Proofs.Ytehadoecnmfeoaa
open Go.RowKit
set_option linter.unusedVariables false
set_option linter.unusedSimpArgs false
def lrgB (l : Lo) (ms : List Md) : Bool := largeB l.m || (decide (12 < l.ws.length) && decide (l.ws.length ≤ 60)) || (decide (8 < ms.length) && decide (ms.length ≤ 60))
theorem lrg_small {l : Lo} {ms : List Md} (h : lrgB l ms = false) (he : l.m.err = 0) : l.m.opts.length ≤ 9 ∧ l.m.rules.length ≤ 12 := by
  unfold lrgB at h
  simp only [Bool.or_eq_false_iff] at h
  exact large_small h.1.1 he
set_option maxRecDepth 100000 in
set_option maxHeartbeats 4000000 in
theorem large12_any (ms : List Md) (Am : Option Addr) (qm : Nat) (A0 A1 A2 A3 A4 A5 : Option Addr) (q0 q1 q2 q3 q4 q5 : Nat) (l : Lo) (w : World) (h : LoA w w.heap.size A0 A1 A2 A3 A4 A5 q0 q1 q2 q3 q4 q5 l) :
    Calls Try.prog 12 #[.agg #[.slice A0 l.m.opts.length q0, .slice A1 l.m.rules.length q1, .slice A2 l.ss.length q2, .slice A3 l.us.length q3, .slice A4 l.ps.length q4, .slice A5 l.ws.length q5], .slice Am ms.length qm] w fun e w' => e = .returned (.bool (lrgB l ms)) ∧ Below w.heap.size w w' := by
  have H := hide h
  clear h
  cases hlg : largeB l.m with
  | true =>
    have HLG := hide hlg
    have HLB := hide hlg
    clear hlg
    have hr : lrgB l ms = true := by unfold lrgB; rw [HLG.out]; rfl
    have HR := hide hr
    clear hr HLB
    go_enter Try.func12, Try.ntmps12
    go_upto_region 1 with (fail)
    generalize hw0 : World.alloc _ _ = w0
    obtain ⟨hb0, hB0, hs0⟩ := alloc1 hw0
    have HB0 := hide hB0
    have HL0 : Hid (LoBox w0 w.heap.size A0 A1 A2 A3 A4 A5 q0 q1 q2 q3 q4 q5 l) := hb0
    have c0 := cellOf hb0 0; have c1 := cellOf hb0 1; have c2 := cellOf hb0 2; have c3 := cellOf hb0 3; have c4 := cellOf hb0 4; have c5 := cellOf hb0 5
    have hlb := box_lt hb0
    clear hw0 hb0 hB0 hs0
    go_wp2_with (go_at_call 29; refine (Large_any l.m _ _ _ (H.out.up HB0.out).m).mono ?_; rw [HLG.out]; rintro e w1 ⟨rfl, hB1⟩; have HL1 := hide (HL0.out.to hB1); have HB1 := hide (Below.to HB0.out hB1 (Nat.le_refl _)); clear hB1 c0 c1 c2 c3 c4 c5 hlb; have c0 := cellOf HL1.out 0; have c1 := cellOf HL1.out 1; have c2 := cellOf HL1.out 2; have c3 := cellOf HL1.out 3; have c4 := cellOf HL1.out 4; have c5 := cellOf HL1.out 5; have hlb := box_lt HL1.out)
    go_ret
    exact ⟨ret_bool HR.out.symm, HB1.out⟩
  | false =>
    have HLG := hide hlg
    have HLB := hide hlg
    clear hlg
    by_cases c1 : (12 : Int) < (l.ws.length : Int)
    · by_cases c2 : (l.ws.length : Int) ≤ 60
      · skip
        have hr : lrgB l ms = true := by unfold lrgB; rw [HLG.out, decide_eq_true (show 12 < l.ws.length by omega), decide_eq_true (show l.ws.length ≤ 60 by omega)]; rfl
        have d1 : decide ((12 : Int) < (l.ws.length : Int)) = true := decide_eq_true c1
        have d2 : decide ((l.ws.length : Int) ≤ 60) = true := decide_eq_true c2
        have HR := hide hr
        clear hr HLB
        go_enter Try.func12, Try.ntmps12
        go_upto_region 1 with (fail)
        generalize hw0 : World.alloc _ _ = w0
        obtain ⟨hb0, hB0, hs0⟩ := alloc1 hw0
        have HB0 := hide hB0
        have HL0 : Hid (LoBox w0 w.heap.size A0 A1 A2 A3 A4 A5 q0 q1 q2 q3 q4 q5 l) := hb0
        have c0 := cellOf hb0 0; have c1 := cellOf hb0 1; have c2 := cellOf hb0 2; have c3 := cellOf hb0 3; have c4 := cellOf hb0 4; have c5 := cellOf hb0 5
        have hlb := box_lt hb0
        clear hw0 hb0 hB0 hs0
        go_wp2_with (go_at_call 29; refine (Large_any l.m _ _ _ (H.out.up HB0.out).m).mono ?_; rw [HLG.out]; rintro e w1 ⟨rfl, hB1⟩; have HL1 := hide (HL0.out.to hB1); have HB1 := hide (Below.to HB0.out hB1 (Nat.le_refl _)); clear hB1 c0 c1 c2 c3 c4 c5 hlb; have c0 := cellOf HL1.out 0; have c1 := cellOf HL1.out 1; have c2 := cellOf HL1.out 2; have c3 := cellOf HL1.out 3; have c4 := cellOf HL1.out 4; have c5 := cellOf HL1.out 5; have hlb := box_lt HL1.out)
        go_ret
        exact ⟨ret_bool HR.out.symm, HB1.out⟩
      · skip
        by_cases c3 : (8 : Int) < (ms.length : Int)
        · skip
          have hr : lrgB l ms = decide ((ms.length : Int) ≤ 60) := by unfold lrgB; rw [HLG.out, decide_eq_false (show ¬ l.ws.length ≤ 60 by omega), Bool.and_false, decide_eq_true (show 8 < ms.length by omega), Bool.false_or, Bool.true_and]; exact decide_eq_decide.2 (by omega)
          have d1 : decide ((12 : Int) < (l.ws.length : Int)) = true := decide_eq_true c1
          have d2 : decide ((l.ws.length : Int) ≤ 60) = false := decide_eq_false c2
          have d3 : decide ((8 : Int) < (ms.length : Int)) = true := decide_eq_true c3
          have HR := hide hr
          clear hr HLB
          go_enter Try.func12, Try.ntmps12
          go_upto_region 1 with (fail)
          generalize hw0 : World.alloc _ _ = w0
          obtain ⟨hb0, hB0, hs0⟩ := alloc1 hw0
          have HB0 := hide hB0
          have HL0 : Hid (LoBox w0 w.heap.size A0 A1 A2 A3 A4 A5 q0 q1 q2 q3 q4 q5 l) := hb0
          have c0 := cellOf hb0 0; have c1 := cellOf hb0 1; have c2 := cellOf hb0 2; have c3 := cellOf hb0 3; have c4 := cellOf hb0 4; have c5 := cellOf hb0 5
          have hlb := box_lt hb0
          clear hw0 hb0 hB0 hs0
          go_wp2_with (go_at_call 29; refine (Large_any l.m _ _ _ (H.out.up HB0.out).m).mono ?_; rw [HLG.out]; rintro e w1 ⟨rfl, hB1⟩; have HL1 := hide (HL0.out.to hB1); have HB1 := hide (Below.to HB0.out hB1 (Nat.le_refl _)); clear hB1 c0 c1 c2 c3 c4 c5 hlb; have c0 := cellOf HL1.out 0; have c1 := cellOf HL1.out 1; have c2 := cellOf HL1.out 2; have c3 := cellOf HL1.out 3; have c4 := cellOf HL1.out 4; have c5 := cellOf HL1.out 5; have hlb := box_lt HL1.out)
          go_ret
          exact ⟨ret_bool HR.out.symm, HB1.out⟩
        · skip
          have hr : lrgB l ms = false := by unfold lrgB; rw [HLG.out, decide_eq_false (show ¬ l.ws.length ≤ 60 by omega), Bool.and_false, decide_eq_false (show ¬ 8 < ms.length by omega)]; simp
          have d1 : decide ((12 : Int) < (l.ws.length : Int)) = true := decide_eq_true c1
          have d2 : decide ((l.ws.length : Int) ≤ 60) = false := decide_eq_false c2
          have d3 : decide ((8 : Int) < (ms.length : Int)) = false := decide_eq_false c3
          have HR := hide hr
          clear hr HLB
          go_enter Try.func12, Try.ntmps12
          go_upto_region 1 with (fail)
          generalize hw0 : World.alloc _ _ = w0
          obtain ⟨hb0, hB0, hs0⟩ := alloc1 hw0
          have HB0 := hide hB0
          have HL0 : Hid (LoBox w0 w.heap.size A0 A1 A2 A3 A4 A5 q0 q1 q2 q3 q4 q5 l) := hb0
          have c0 := cellOf hb0 0; have c1 := cellOf hb0 1; have c2 := cellOf hb0 2; have c3 := cellOf hb0 3; have c4 := cellOf hb0 4; have c5 := cellOf hb0 5
          have hlb := box_lt hb0
          clear hw0 hb0 hB0 hs0
          go_wp2_with (go_at_call 29; refine (Large_any l.m _ _ _ (H.out.up HB0.out).m).mono ?_; rw [HLG.out]; rintro e w1 ⟨rfl, hB1⟩; have HL1 := hide (HL0.out.to hB1); have HB1 := hide (Below.to HB0.out hB1 (Nat.le_refl _)); clear hB1 c0 c1 c2 c3 c4 c5 hlb; have c0 := cellOf HL1.out 0; have c1 := cellOf HL1.out 1; have c2 := cellOf HL1.out 2; have c3 := cellOf HL1.out 3; have c4 := cellOf HL1.out 4; have c5 := cellOf HL1.out 5; have hlb := box_lt HL1.out)
          go_ret
          exact ⟨ret_bool HR.out.symm, HB1.out⟩
    · skip
      by_cases c3 : (8 : Int) < (ms.length : Int)
      · skip
        have hr : lrgB l ms = decide ((ms.length : Int) ≤ 60) := by unfold lrgB; rw [HLG.out, decide_eq_false (show ¬ 12 < l.ws.length by omega), Bool.false_and, decide_eq_true (show 8 < ms.length by omega), Bool.false_or, Bool.true_and]; exact decide_eq_decide.2 (by omega)
        have d1 : decide ((12 : Int) < (l.ws.length : Int)) = false := decide_eq_false c1
        have d3 : decide ((8 : Int) < (ms.length : Int)) = true := decide_eq_true c3
        have HR := hide hr
        clear hr HLB
        go_enter Try.func12, Try.ntmps12
        go_upto_region 1 with (fail)
        generalize hw0 : World.alloc _ _ = w0
        obtain ⟨hb0, hB0, hs0⟩ := alloc1 hw0
        have HB0 := hide hB0
        have HL0 : Hid (LoBox w0 w.heap.size A0 A1 A2 A3 A4 A5 q0 q1 q2 q3 q4 q5 l) := hb0
        have c0 := cellOf hb0 0; have c1 := cellOf hb0 1; have c2 := cellOf hb0 2; have c3 := cellOf hb0 3; have c4 := cellOf hb0 4; have c5 := cellOf hb0 5
        have hlb := box_lt hb0
        clear hw0 hb0 hB0 hs0
        go_wp2_with (go_at_call 29; refine (Large_any l.m _ _ _ (H.out.up HB0.out).m).mono ?_; rw [HLG.out]; rintro e w1 ⟨rfl, hB1⟩; have HL1 := hide (HL0.out.to hB1); have HB1 := hide (Below.to HB0.out hB1 (Nat.le_refl _)); clear hB1 c0 c1 c2 c3 c4 c5 hlb; have c0 := cellOf HL1.out 0; have c1 := cellOf HL1.out 1; have c2 := cellOf HL1.out 2; have c3 := cellOf HL1.out 3; have c4 := cellOf HL1.out 4; have c5 := cellOf HL1.out 5; have hlb := box_lt HL1.out)
        go_ret
        exact ⟨ret_bool HR.out.symm, HB1.out⟩
      · skip
        have hr : lrgB l ms = false := by unfold lrgB; rw [HLG.out, decide_eq_false (show ¬ 12 < l.ws.length by omega), Bool.false_and, decide_eq_false (show ¬ 8 < ms.length by omega)]; simp
        have d1 : decide ((12 : Int) < (l.ws.length : Int)) = false := decide_eq_false c1
        have d3 : decide ((8 : Int) < (ms.length : Int)) = false := decide_eq_false c3
        have HR := hide hr
        clear hr HLB
        go_enter Try.func12, Try.ntmps12
        go_upto_region 1 with (fail)
        generalize hw0 : World.alloc _ _ = w0
        obtain ⟨hb0, hB0, hs0⟩ := alloc1 hw0
        have HB0 := hide hB0
        have HL0 : Hid (LoBox w0 w.heap.size A0 A1 A2 A3 A4 A5 q0 q1 q2 q3 q4 q5 l) := hb0
        have c0 := cellOf hb0 0; have c1 := cellOf hb0 1; have c2 := cellOf hb0 2; have c3 := cellOf hb0 3; have c4 := cellOf hb0 4; have c5 := cellOf hb0 5
        have hlb := box_lt hb0
        clear hw0 hb0 hB0 hs0
        go_wp2_with (go_at_call 29; refine (Large_any l.m _ _ _ (H.out.up HB0.out).m).mono ?_; rw [HLG.out]; rintro e w1 ⟨rfl, hB1⟩; have HL1 := hide (HL0.out.to hB1); have HB1 := hide (Below.to HB0.out hB1 (Nat.le_refl _)); clear hB1 c0 c1 c2 c3 c4 c5 hlb; have c0 := cellOf HL1.out 0; have c1 := cellOf HL1.out 1; have c2 := cellOf HL1.out 2; have c3 := cellOf HL1.out 3; have c4 := cellOf HL1.out 4; have c5 := cellOf HL1.out 5; have hlb := box_lt HL1.out)
        go_ret
        exact ⟨ret_bool HR.out.symm, HB1.out⟩
end Go.Proofs.Ytehadoecnmfeoaa

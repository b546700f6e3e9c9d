/- Part 5 of this claim's texts: walks and plain laws. -/
import Derived.Test.YtmabfnddedffoaaRows
import Derived.Test.YtmabfnddedffoaaGLW4
import Derived.Test.YtmabfnddedffoaaGLW2
import Derived.Test.YtmabfnddedffoaaGLW3
import Derived.Deep.RegionHeld3
import Derived.Laws.EntriesVeiled
import Derived.Deep.DrawnRows
import Derived.Test.YtmabfnddedffoaaGLW0
/- CheckModel as the elder program has it: walk. -/
namespace Go.Proofs.Ytmabfnddedffoaa
open Go.RowKit
set_option linter.unusedVariables false
set_option linter.unusedSimpArgs false
theorem take_has {L : List (List UInt8)} {x : List UInt8} {t k : Nat} (ht : t < k) (hk : k ≤ L.length) (h : L.getD t [] = x) : (L.take k).contains x = true := by
  rw [List.contains_iff_exists_mem_beq]
  refine ⟨x, ?_, by simp⟩
  rw [← h]
  have hl : t < L.length := by omega
  rw [List.getD_eq_getElem?_getD, List.getElem?_eq_getElem hl, Option.getD_some]
  have hm := List.getElem_mem (l := L.take k) (n := t) (by simp; omega)
  rwa [List.getElem_take] at hm
theorem take_hasnt {L : List (List UInt8)} {x : List UInt8} {k : Nat} (hk : k ≤ L.length) (h : ∀ t, t < k → L.getD t [] ≠ x) : (L.take k).contains x = false := by
  rw [Bool.eq_false_iff]
  intro h1
  rw [List.contains_iff_exists_mem_beq] at h1
  obtain ⟨y, hy, he⟩ := h1
  obtain ⟨t, ht, rfl⟩ := List.mem_iff_getElem.1 hy
  have ht2 : t < k := by simp at ht; omega
  apply h t ht2
  rw [List.getD_eq_getElem?_getD, List.getElem?_eq_getElem (by omega), Option.getD_some]
  rw [List.getElem_take] at he
  exact (eq_of_beq he).symm
theorem all_valid {N : Nat} {l : List (List Int)} (h : ∀ t, t < l.length → validF N (l.getD t []) = true) : l.all (validF N) = true := by
  rw [List.all_eq_true]
  intro f hf
  obtain ⟨t, ht, rfl⟩ := List.mem_iff_getElem.1 hf
  have := h t ht
  rwa [List.getD_eq_getElem?_getD, List.getElem?_eq_getElem ht, Option.getD_some] at this
theorem not_valid {N t : Nat} {l : List (List Int)} (ht : t < l.length) (h : validF N (l.getD t []) = false) : l.all (validF N) = false := by
  rw [Bool.eq_false_iff]
  intro h1
  rw [List.all_eq_true] at h1
  have := h1 _ (getD_mem (z := []) ht)
  rw [h] at this
  cases this
set_option maxRecDepth 100000 in
set_option maxHeartbeats 8000000 in
theorem rCheckModel_any (m : Mo) (ov rv : Value) (w : World) (hs : SizedM m) (h : MoAt w w.heap.size ov rv m) :
    Calls Try.prog 74 #[.agg #[ov, rv]] w fun e w' => e = .returned (.int .i64 m.err) ∧ Below w.heap.size w w' := by
  obtain ⟨A, cap, hov⟩ := Sl.form h.o
  obtain ⟨Ar, capr, hrv⟩ := h.r.form
  by_cases h40 : 40 < m.opts.length
  · have he := Mo.err_many (m := m) (.inl h40)
    have HE := hide he
    have hi : decide ((40 : Int) < (m.opts.length : Int)) = true := by simp; omega
    subst hov hrv
    clear he h40 h
    go_enter Try.func74, Try.ntmps74
    go_wp2_with fail
    go_ret
    exact ⟨ret_int HE.out.symm, (by repeat (first | exact Below.refl _ _ | assumption | refine Below.drew ?_ | refine Below.drewN ?_ _ | refine Below.allocT ?_ (Nat.le_refl _) _ | refine Below.setCell ?_ (by simp <;> omega) _ | refine Below.to ?_ (by assumption) (Nat.le_refl _)))⟩
  by_cases h60 : 60 < m.rules.length
  · have he := Mo.err_many (m := m) (.inr h60)
    have HE := hide he
    have hi : decide ((40 : Int) < (m.opts.length : Int)) = false := by simp; omega
    have hj : decide ((60 : Int) < (m.rules.length : Int)) = true := by simp; omega
    subst hov hrv
    clear he h40 h60 h
    go_enter Try.func74, Try.ntmps74
    go_wp2_with fail
    go_ret
    exact ⟨ret_int HE.out.symm, (by repeat (first | exact Below.refl _ _ | assumption | refine Below.drew ?_ | refine Below.drewN ?_ _ | refine Below.allocT ?_ (Nat.le_refl _) _ | refine Below.setCell ?_ (by simp <;> omega) _ | refine Below.to ?_ (by assumption) (Nat.le_refl _)))⟩
  have hi : decide ((40 : Int) < (m.opts.length : Int)) = false := by simp; omega
  have hj : decide ((60 : Int) < (m.rules.length : Int)) = false := by simp; omega
  have hn := h.o
  have hr := h.r
  subst hov
  obtain ⟨A', b, off, cap', h1, hnc, hA, hc⟩ := hn
  injection h1 with e1 _ e3
  subst e1 e3
  obtain ⟨fvs, ⟨Al, bl, offl, capl, hl1, hncl, hAl, hcl⟩, hfi⟩ := hr
  subst hl1
  injection hrv with e1 _ e3
  subst e1 e3
  have HC := hide hc
  have HA := hide hA
  have HAL := hide hAl
  have HCL := hide hcl
  have HFI := hide hfi
  have HS := hide hs
  have h40' : m.opts.length ≤ 40 := by omega
  have h60' : m.rules.length ≤ 60 := by omega
  clear hc hA h hs h40 h60 hAl hcl hfi
  go_enter Try.func74, Try.ntmps74
  go_upto_region 1 with (fail)
  generalize hw0 : World.alloc _ _ = w0
  obtain ⟨hb0, hB0, hs0⟩ := alloc1 hw0
  clear hw0
  have HX0 : Hid (MoBox w0 w.heap.size (.slice A m.opts.length cap) (.slice Al m.rules.length capl)) := hb0
  have HB0 := hide hB0
  have c0 := cellOf hb0 0
  have c1 := cellOf hb0 1
  clear hb0 hB0 hs0
  go_wp2_with fail
  clear c0 c1
  go_loopw [3] (fun i wr => ∃ k : Nat, k ≤ m.opts.length ∧ i = .int .i64 k ∧ Hid (∀ j, j < k → namedB (m.names.getD j []) = true ∧ ([] ++ m.names.take j).contains (m.names.getD j []) = false) ∧ Hid (Below w0.heap.size w0 wr)) (fun i _ => m.opts.length - (intOf i).toNat)
  case atStart => exact ⟨0, Nat.zero_le _, rfl, fun j hj => by omega, Below.refl _ _⟩
  case round =>
    obtain ⟨k, hk, rfl, hall, hB⟩ := hrel
    obtain ⟨wo, hwo⟩ : ∃ wo : World, wo = wr := ⟨_, rfl⟩
    subst hwo
    have hbx := box_to HX0.out hB.out
    have HBX : Hid (MoBox wo w.heap.size (.slice A m.opts.length cap) (.slice Al m.rules.length capl)) := hbx
    have x0 := cellOf hbx 0
    have x1 := cellOf hbx 1
    have hsl := box_lt hbx
    clear hbx
    by_cases hlt : k < m.opts.length
    · obtain ⟨rfl, hbb⟩ : A = some ⟨b, off, none⟩ ∧ b < w.heap.size := by
        rcases HA.out with h | h
        · exact h
        · omega
      obtain ⟨x, hx⟩ : ∃ x, m.opts.getD k ByteArray.empty = x := ⟨_, rfl⟩
      have hBw := Below.to HB0.out hB.out (Nat.le_refl _)
      have hcl : wo.cell? ⟨b, off + k, none⟩ = some (.string x) := by
        have h1 := HC.out k 0 hlt (by omega)
        rw [Nat.mul_one, Nat.add_zero, hx] at h1
        exact (hBw.cell (p := ⟨b, off + k, none⟩) hbb).trans h1
      have HCK := hide hcl
      have hxs : x.size ≤ maxLen := HS.out.s x (by rw [← hx]; exact getD_mem hlt)
      have hnm : m.names.getD k [] = x.data.toList := by rw [names_get, hx]
      have HNM := hide hnm
      have HBW := hide hBw
      have ik0 : (0 : Int) ≤ (k : Int) := by omega
      have ik2 : (k : Int) < (m.opts.length : Int) := by omega
      have hna := rName_any x wo hxs
      clear hx hnm hBw
      by_cases hnb : namedB x.data.toList = true
      · rw [hnb] at hna
        have HNA := hide hna
        have HNB := hide hnb
        clear hna hnb
        go_wp2_with (go_at_call 134; refine HNA.out.mono ?_; rintro e w1 ⟨rfl, rfl⟩)
        clear x0 x1 hcl
        go_loopw [4] (fun i wr => ∃ t : Nat, t ≤ k ∧ i = .int .i64 t ∧ Hid (∀ j, j < t → m.names.getD j [] ≠ x.data.toList) ∧ Hid (Below wo.heap.size wo wr)) (fun i _ => k - (intOf i).toNat)
        case atStart => exact ⟨0, Nat.zero_le _, rfl, fun j hj => by omega, Below.refl _ _⟩
        case round =>
          obtain ⟨t, ht, rfl, hne, hBi⟩ := hrel
          by_cases htk : t < k
          · have hbx := box_to HBX.out hBi.out
            have x0 := cellOf hbx 0
            have x1 := cellOf hbx 1
            have hsl2 := box_lt hbx
            have hto : t < m.opts.length := by omega
            obtain ⟨y, hy⟩ : ∃ y, m.opts.getD t ByteArray.empty = y := ⟨_, rfl⟩
            have hBr := Below.to HBW.out hBi.out (Nat.le_refl _)
            have cy : wr.cell? ⟨b, off + t, none⟩ = some (.string y) := by
              have h1 := HC.out t 0 hto (by omega)
              rw [Nat.mul_one, Nat.add_zero, hy] at h1
              exact (hBr.cell (p := ⟨b, off + t, none⟩) hbb).trans h1
            have cx : wr.cell? ⟨b, off + k, none⟩ = some (.string x) := (hBi.out.cell (p := ⟨b, off + k, none⟩) (Nat.lt_of_lt_of_le hbb HBW.out.size)).trans HCK.out
            have lb : b < wr.heap.size := Nat.lt_of_lt_of_le hbb hBr.size
            have hnm : m.names.getD t [] = y.data.toList := by rw [names_get, hy]
            have HNY := hide hnm
            have it0 : (0 : Int) ≤ (t : Int) := by omega
            have it1 : (t : Int) < (k : Int) := by omega
            have it2 : (t : Int) < (m.opts.length : Int) := by omega
            have HBR := hide hBr
            clear hbx hy hBr hnm
            by_cases he : y.toList = x.toList
            · have he1 : (y.toList == x.toList) = true := by simp [he]
              have hbad : namesB [] m.names = false := namesB_at [] m.names k (by unfold Mo.names; simpa using hlt) hall.out (by
                rw [HNM.out, List.nil_append, take_has htk (by unfold Mo.names; simp; omega) (by rw [HNY.out, ← ByteArray.toList_eq, ← ByteArray.toList_eq]; exact he)]
                simp)
              have hee := Mo.err_name h40' h60' hbad
              have HE := hide hee
              clear hbad hee he
              go_wp2_with fail
              refine wp_region_held_drew (S := (fun w' => Below wr.heap.size wr w')) (by kernel_rfl) ?_ (fun hHeld => ?_)
              · try dsimp only
                exact (by repeat (first | exact Below.refl _ _ | assumption | refine Below.drew ?_ | refine Below.drewN ?_ _ | refine Below.allocT ?_ (Nat.le_refl _) _ | refine Below.setCell ?_ (by simp <;> omega) _ | refine Below.to ?_ (by assumption) (Nat.le_refl _)))
              refine wpAnyH_take (i := 0) (v := ?v1_0) rfl (by kernel_rfl) (by kernel_rfl) (by kernel_rfl) (fun _ _ _ h => h) (Or.inl ⟨by rfl, ?y1_0⟩) (by assumption) ?r1_0
              case' y1_0 => (intro w hSw; (try dsimp only at hSw); (try have hlS := HLK.out _ hSw); obtain ⟨hcS, hfS⟩ := bcell hSw; clear hSw; go_simp; try with_reducible rfl)
              try simp only [Act.put, zA, zB, zC, zD, zE, zF]
              refine wpAnyH_take (i := 1) (v := ?v1_1) rfl (by kernel_rfl) (by kernel_rfl) (by kernel_rfl) (fun _ _ _ h => h) (Or.inl ⟨by rfl, ?y1_1⟩) (by assumption) ?r1_1
              case' y1_1 => (intro w hSw; (try dsimp only at hSw); (try have hlS := HLK.out _ hSw); obtain ⟨hcS, hfS⟩ := bcell hSw; clear hSw; go_simp; try with_reducible rfl)
              try simp only [Act.put, zA, zB, zC, zD, zE, zF]
              refine wpAnyH_take (i := 2) (v := ?v1_2) rfl (by kernel_rfl) (by kernel_rfl) (by kernel_rfl) (fun _ _ _ h => h) (Or.inl ⟨by rfl, ?y1_2⟩) (by assumption) ?r1_2
              case' y1_2 => (intro w hSw; (try dsimp only at hSw); (try have hlS := HLK.out _ hSw); obtain ⟨hcS, hfS⟩ := bcell hSw; clear hSw; go_simp; try with_reducible rfl)
              try simp only [Act.put, zA, zB, zC, zD, zE, zF]
              refine wpAnyH_take (i := 3) (v := ?v1_3) rfl (by kernel_rfl) (by kernel_rfl) (by kernel_rfl) (fun _ _ _ h => h) (Or.inl ⟨by rfl, ?y1_3⟩) (by assumption) ?r1_3
              case' y1_3 => (intro w hSw; (try dsimp only at hSw); (try have hlS := HLK.out _ hSw); obtain ⟨hcS, hfS⟩ := bcell hSw; clear hSw; go_simp; try with_reducible rfl)
              try simp only [Act.put, zA, zB, zC, zD, zE, zF]
              refine wpAnyH_take (i := 4) (v := ?v1_4) rfl (by kernel_rfl) (by kernel_rfl) (by kernel_rfl) (fun _ _ _ h => h) (Or.inl ⟨by rfl, ?y1_4⟩) (by assumption) ?r1_4
              case' y1_4 => (intro w hSw; (try dsimp only at hSw); (try have hlS := HLK.out _ hSw); obtain ⟨hcS, hfS⟩ := bcell hSw; clear hSw; go_simp; try with_reducible rfl)
              try simp only [Act.put, zA, zB, zC, zD, zE, zF]
              refine wpAnyH_take (i := 5) (v := ?v1_5) rfl (by kernel_rfl) (by kernel_rfl) (by kernel_rfl) (fun _ _ _ h => h) (Or.inl ⟨by rfl, ?y1_5⟩) (by assumption) ?r1_5
              case' y1_5 => (intro w hSw; (try dsimp only at hSw); (try have hlS := HLK.out _ hSw); obtain ⟨hcS, hfS⟩ := bcell hSw; clear hSw; go_simp; try with_reducible rfl)
              try simp only [Act.put, zA, zB, zC, zD, zE, zF]
              refine wpAnyH_take (i := 6) (v := ?v1_6) rfl (by kernel_rfl) (by kernel_rfl) (by kernel_rfl) (fun _ _ _ h => h) (Or.inl ⟨by rfl, ?y1_6⟩) (by assumption) ?r1_6
              case' y1_6 => (intro w hSw; (try dsimp only at hSw); (try have hlS := HLK.out _ hSw); obtain ⟨hcS, hfS⟩ := bcell hSw; clear hSw; go_simp; try with_reducible rfl)
              try simp only [Act.put, zA, zB, zC, zD, zE, zF]
              refine wpAnyH_take (i := 7) (v := ?v1_7) rfl (by kernel_rfl) (by kernel_rfl) (by kernel_rfl) (fun _ _ _ h => h) (Or.inl ⟨by rfl, ?y1_7⟩) (by assumption) ?r1_7
              case' y1_7 => (intro w hSw; (try dsimp only at hSw); (try have hlS := HLK.out _ hSw); obtain ⟨hcS, hfS⟩ := bcell hSw; clear hSw; go_simp; try with_reducible rfl)
              try simp only [Act.put, zA, zB, zC, zD, zE, zF]
              refine wpAnyH_take (i := 8) (v := ?v1_8) rfl (by kernel_rfl) (by kernel_rfl) (by kernel_rfl) (fun _ _ _ h => h) (Or.inl ⟨by rfl, ?y1_8⟩) (by assumption) ?r1_8
              case' y1_8 => (intro w hSw; (try dsimp only at hSw); (try have hlS := HLK.out _ hSw); obtain ⟨hcS, hfS⟩ := bcell hSw; clear hSw; go_simp; try with_reducible rfl)
              try simp only [Act.put, zA, zB, zC, zD, zE, zF]
              refine wpAnyH_take (i := 9) (v := ?v1_9) rfl (by kernel_rfl) (by kernel_rfl) (by kernel_rfl) (fun _ _ _ h => h) (Or.inl ⟨by rfl, ?y1_9⟩) (by assumption) ?r1_9
              case' y1_9 => (intro w hSw; (try dsimp only at hSw); (try have hlS := HLK.out _ hSw); obtain ⟨hcS, hfS⟩ := bcell hSw; clear hSw; go_simp; try with_reducible rfl)
              try simp only [Act.put, zA, zB, zC, zD, zE, zF]
              refine wpAnyH_take (i := 10) (v := ?v1_10) rfl (by kernel_rfl) (by kernel_rfl) (by kernel_rfl) (fun _ _ _ h => h) (Or.inl ⟨by rfl, ?y1_10⟩) (by assumption) ?r1_10
              case' y1_10 => (intro w hSw; (try dsimp only at hSw); (try have hlS := HLK.out _ hSw); obtain ⟨hcS, hfS⟩ := bcell hSw; clear hSw; go_simp; try with_reducible rfl)
              try simp only [Act.put, zA, zB, zC, zD, zE, zF]
              refine wpAnyH_done (by kernel_rfl) ?_ _
              go_wp2_with fail
              go_ret
              exact ⟨ret_int HE.out.symm, Below.to HBR.out hHeld (Nat.le_refl _)⟩
            · have he1 : (y.toList == x.toList) = false := by simpa using he
              have HE := hide he
              clear he
              go_wp2_with fail
              refine wp_region_held_drew (S := (fun w' => Below wr.heap.size wr w')) (by kernel_rfl) ?_ (fun hHeld => ?_)
              · try dsimp only
                exact (by repeat (first | exact Below.refl _ _ | assumption | refine Below.drew ?_ | refine Below.drewN ?_ _ | refine Below.allocT ?_ (Nat.le_refl _) _ | refine Below.setCell ?_ (by simp <;> omega) _ | refine Below.to ?_ (by assumption) (Nat.le_refl _)))
              refine wpAnyH_take (i := 0) (v := ?v2_0) rfl (by kernel_rfl) (by kernel_rfl) (by kernel_rfl) (fun _ _ _ h => h) (Or.inl ⟨by rfl, ?y2_0⟩) (by assumption) ?r2_0
              case' y2_0 => (intro w hSw; (try dsimp only at hSw); (try have hlS := HLK.out _ hSw); obtain ⟨hcS, hfS⟩ := bcell hSw; clear hSw; go_simp; try with_reducible rfl)
              try simp only [Act.put, zA, zB, zC, zD, zE, zF]
              refine wpAnyH_take (i := 1) (v := ?v2_1) rfl (by kernel_rfl) (by kernel_rfl) (by kernel_rfl) (fun _ _ _ h => h) (Or.inl ⟨by rfl, ?y2_1⟩) (by assumption) ?r2_1
              case' y2_1 => (intro w hSw; (try dsimp only at hSw); (try have hlS := HLK.out _ hSw); obtain ⟨hcS, hfS⟩ := bcell hSw; clear hSw; go_simp; try with_reducible rfl)
              try simp only [Act.put, zA, zB, zC, zD, zE, zF]
              refine wpAnyH_take (i := 2) (v := ?v2_2) rfl (by kernel_rfl) (by kernel_rfl) (by kernel_rfl) (fun _ _ _ h => h) (Or.inl ⟨by rfl, ?y2_2⟩) (by assumption) ?r2_2
              case' y2_2 => (intro w hSw; (try dsimp only at hSw); (try have hlS := HLK.out _ hSw); obtain ⟨hcS, hfS⟩ := bcell hSw; clear hSw; go_simp; try with_reducible rfl)
              try simp only [Act.put, zA, zB, zC, zD, zE, zF]
              refine wpAnyH_take (i := 3) (v := ?v2_3) rfl (by kernel_rfl) (by kernel_rfl) (by kernel_rfl) (fun _ _ _ h => h) (Or.inl ⟨by rfl, ?y2_3⟩) (by assumption) ?r2_3
              case' y2_3 => (intro w hSw; (try dsimp only at hSw); (try have hlS := HLK.out _ hSw); obtain ⟨hcS, hfS⟩ := bcell hSw; clear hSw; go_simp; try with_reducible rfl)
              try simp only [Act.put, zA, zB, zC, zD, zE, zF]
              refine wpAnyH_take (i := 4) (v := ?v2_4) rfl (by kernel_rfl) (by kernel_rfl) (by kernel_rfl) (fun _ _ _ h => h) (Or.inl ⟨by rfl, ?y2_4⟩) (by assumption) ?r2_4
              case' y2_4 => (intro w hSw; (try dsimp only at hSw); (try have hlS := HLK.out _ hSw); obtain ⟨hcS, hfS⟩ := bcell hSw; clear hSw; go_simp; try with_reducible rfl)
              try simp only [Act.put, zA, zB, zC, zD, zE, zF]
              refine wpAnyH_take (i := 5) (v := ?v2_5) rfl (by kernel_rfl) (by kernel_rfl) (by kernel_rfl) (fun _ _ _ h => h) (Or.inl ⟨by rfl, ?y2_5⟩) (by assumption) ?r2_5
              case' y2_5 => (intro w hSw; (try dsimp only at hSw); (try have hlS := HLK.out _ hSw); obtain ⟨hcS, hfS⟩ := bcell hSw; clear hSw; go_simp; try with_reducible rfl)
              try simp only [Act.put, zA, zB, zC, zD, zE, zF]
              refine wpAnyH_take (i := 6) (v := ?v2_6) rfl (by kernel_rfl) (by kernel_rfl) (by kernel_rfl) (fun _ _ _ h => h) (Or.inl ⟨by rfl, ?y2_6⟩) (by assumption) ?r2_6
              case' y2_6 => (intro w hSw; (try dsimp only at hSw); (try have hlS := HLK.out _ hSw); obtain ⟨hcS, hfS⟩ := bcell hSw; clear hSw; go_simp; try with_reducible rfl)
              try simp only [Act.put, zA, zB, zC, zD, zE, zF]
              refine wpAnyH_take (i := 7) (v := ?v2_7) rfl (by kernel_rfl) (by kernel_rfl) (by kernel_rfl) (fun _ _ _ h => h) (Or.inl ⟨by rfl, ?y2_7⟩) (by assumption) ?r2_7
              case' y2_7 => (intro w hSw; (try dsimp only at hSw); (try have hlS := HLK.out _ hSw); obtain ⟨hcS, hfS⟩ := bcell hSw; clear hSw; go_simp; try with_reducible rfl)
              try simp only [Act.put, zA, zB, zC, zD, zE, zF]
              refine wpAnyH_take (i := 8) (v := ?v2_8) rfl (by kernel_rfl) (by kernel_rfl) (by kernel_rfl) (fun _ _ _ h => h) (Or.inl ⟨by rfl, ?y2_8⟩) (by assumption) ?r2_8
              case' y2_8 => (intro w hSw; (try dsimp only at hSw); (try have hlS := HLK.out _ hSw); obtain ⟨hcS, hfS⟩ := bcell hSw; clear hSw; go_simp; try with_reducible rfl)
              try simp only [Act.put, zA, zB, zC, zD, zE, zF]
              refine wpAnyH_take (i := 9) (v := ?v2_9) rfl (by kernel_rfl) (by kernel_rfl) (by kernel_rfl) (fun _ _ _ h => h) (Or.inl ⟨by rfl, ?y2_9⟩) (by assumption) ?r2_9
              case' y2_9 => (intro w hSw; (try dsimp only at hSw); (try have hlS := HLK.out _ hSw); obtain ⟨hcS, hfS⟩ := bcell hSw; clear hSw; go_simp; try with_reducible rfl)
              try simp only [Act.put, zA, zB, zC, zD, zE, zF]
              refine wpAnyH_take (i := 10) (v := ?v2_10) rfl (by kernel_rfl) (by kernel_rfl) (by kernel_rfl) (fun _ _ _ h => h) (Or.inl ⟨by rfl, ?y2_10⟩) (by assumption) ?r2_10
              case' y2_10 => (intro w hSw; (try dsimp only at hSw); (try have hlS := HLK.out _ hSw); obtain ⟨hcS, hfS⟩ := bcell hSw; clear hSw; go_simp; try with_reducible rfl)
              try simp only [Act.put, zA, zB, zC, zD, zE, zF]
              refine wpAnyH_done (by kernel_rfl) ?_ _
              go_wp2_with fail
              go_roundw
              case rel => exact ⟨t + 1, by omega, by go_num, fun j hj => by
                  rcases Nat.lt_or_ge j t with h | h
                  · exact hne.out j h
                  · rw [show j = t from by omega, HNY.out, ← ByteArray.toList_eq, ← ByteArray.toList_eq]; exact HE.out, Below.to hBi.out hHeld (Nat.le_refl _)⟩
              case measure => simp [intOf]; omega
          · obtain rfl : t = k := by omega
            have hct := take_hasnt (L := m.names) (x := x.data.toList) (k := t) (by unfold Mo.names; simp; omega) hne.out
            have HCT := hide hct
            clear hct
            go_wp2_with fail
            go_roundw
            case rel => exact ⟨t + 1, by omega, by go_num, fun j hj => by
                rcases Nat.lt_or_ge j t with h | h
                · exact hall.out j h
                · rw [show j = t from by omega, HNM.out, List.nil_append]; exact ⟨HNB.out, HCT.out⟩, Below.to hB.out hBi.out (Nat.le_refl _)⟩
            case measure => simp [intOf]; omega
      · have hnb' : namedB x.data.toList = false := by simpa using hnb
        rw [hnb'] at hna
        have HNA := hide hna
        have hbad : namesB [] m.names = false := namesB_at [] m.names k (by unfold Mo.names; simpa using hlt) hall.out (by rw [HNM.out, hnb']; rfl)
        have he := Mo.err_name h40' h60' hbad
        have HE := hide he
        clear hna hbad he hnb hnb'
        go_wp2_with (go_at_call 134; refine HNA.out.mono ?_; rintro e w1 ⟨rfl, rfl⟩)
        go_ret
        exact ⟨ret_int HE.out.symm, HBW.out⟩
    · have hgood : namesB [] m.names = true := namesB_all [] m.names (fun j hj => hall.out j (by unfold Mo.names at hj; simp at hj; omega))
      have he := Mo.err_rest h40' h60' hgood
      have HE := hide he
      have HBW : Hid (Below w.heap.size w wo) := Below.to HB0.out hB.out (Nat.le_refl _)
      clear hgood he
      go_wp2_with fail
      clear x0 x1
      go_loopw [5] (fun i wr => ∃ t : Nat, t ≤ m.rules.length ∧ i = .int .i64 t ∧ Hid (∀ j, j < t → validF m.opts.length (m.rules.getD j []) = true) ∧ Hid (Below wo.heap.size wo wr)) (fun i _ => m.rules.length - (intOf i).toNat)
      case atStart => exact ⟨0, Nat.zero_le _, rfl, fun j hj => by omega, Below.refl _ _⟩
      case round =>
        obtain ⟨t, ht, rfl, hva, hBi⟩ := hrel
        have hbx := box_to HBX.out hBi.out
        have x0 := cellOf hbx 0
        have x1 := cellOf hbx 1
        have hsl2 := box_lt hbx
        have hBr := Below.to HBW.out hBi.out (Nat.le_refl _)
        have HBR := hide hBr
        clear hbx
        by_cases htl : t < m.rules.length
        · obtain ⟨rfl, hbb⟩ : Al = some ⟨bl, offl, none⟩ ∧ bl < w.heap.size := by
            rcases HAL.out with h | h
            · exact h
            · omega
          obtain ⟨f, hfe⟩ : ∃ f, m.rules.getD t [] = f := ⟨_, rfl⟩
          have hfm : f ∈ m.rules := by rw [← hfe]; exact getD_mem htl
          have hfs := HS.out.r.2 f hfm
          have hin : Ints w w.heap.size (fvs t) f := by have := HFI.out t htl; rwa [hfe] at this
          obtain ⟨Af, capf, hff⟩ := Sl.form hin
          have c0 : wr.cell? ⟨bl, offl + t, none⟩ = some (.slice Af f.length capf) := by
            have h1 := HCL.out t 0 htl (by omega)
            rw [Nat.mul_one, Nat.add_zero, hff] at h1
            exact (hBr.cell (p := ⟨bl, offl + t, none⟩) hbb).trans h1
          have lb : bl < wr.heap.size := Nat.lt_of_lt_of_le hbb hBr.size
          rw [hff] at hin
          have hvv : ∀ W, Below wr.heap.size wr W → Calls Try.prog 135 #[.slice Af f.length capf, .int .i64 m.opts.length] W fun e w' => e = .returned (.bool (validF m.opts.length f)) ∧ W = w' :=
            fun W hW => rValid_any f m.opts.length _ w.heap.size W hfs (hin.below (Below.to HBR.out hW (Nat.le_refl _)))
          have it0 : (0 : Int) ≤ (t : Int) := by omega
          have it2 : (t : Int) < (m.rules.length : Int) := by omega
          have HF := hide hfe
          cases hvf : validF m.opts.length f with
          | true =>
            rw [hvf] at hvv
            have HVV := hide hvv
            have HVF := hide hvf
            clear hfm hin hff hfe hvv hvf hBr
            go_wp2_with fail
            refine wp_region_held_drew (S := (fun w' => Below wr.heap.size wr w')) (by kernel_rfl) ?_ (fun hHeld => ?_)
            · try dsimp only
              exact (by repeat (first | exact Below.refl _ _ | assumption | refine Below.drew ?_ | refine Below.drewN ?_ _ | refine Below.allocT ?_ (Nat.le_refl _) _ | refine Below.setCell ?_ (by simp <;> omega) _ | refine Below.to ?_ (by assumption) (Nat.le_refl _)))
            refine wpAnyH_take (i := 0) (v := ?v3_0) rfl (by kernel_rfl) (by kernel_rfl) (by kernel_rfl) (fun _ _ _ h => h) (Or.inl ⟨by rfl, ?y3_0⟩) (by assumption) ?r3_0
            case' y3_0 => (intro w hSw; (try dsimp only at hSw); (try have hlS := HLK.out _ hSw); obtain ⟨hcS, hfS⟩ := bcell hSw; clear hSw; go_simp; try with_reducible rfl)
            try simp only [Act.put, zA, zB, zC, zD, zE, zF]
            refine wpAnyH_take (i := 1) (v := ?v3_1) rfl (by kernel_rfl) (by kernel_rfl) (by kernel_rfl) (fun _ _ _ h => h) (Or.inl ⟨by rfl, ?y3_1⟩) (by assumption) ?r3_1
            case' y3_1 => (intro w hSw; (try dsimp only at hSw); (try have hlS := HLK.out _ hSw); obtain ⟨hcS, hfS⟩ := bcell hSw; clear hSw; go_simp; try with_reducible rfl)
            try simp only [Act.put, zA, zB, zC, zD, zE, zF]
            refine wpAnyH_take (i := 2) (v := ?v3_2) rfl (by kernel_rfl) (by kernel_rfl) (by kernel_rfl) (fun _ _ _ h => h) (Or.inl ⟨by rfl, ?y3_2⟩) (by assumption) ?r3_2
            case' y3_2 => (intro w hSw; (try dsimp only at hSw); (try have hlS := HLK.out _ hSw); obtain ⟨hcS, hfS⟩ := bcell hSw; clear hSw; go_simp; try with_reducible rfl)
            try simp only [Act.put, zA, zB, zC, zD, zE, zF]
            refine wpAnyH_take (i := 3) (v := ?v3_3) rfl (by kernel_rfl) (by kernel_rfl) (by kernel_rfl) (fun _ _ _ h => h) (Or.inl ⟨by rfl, ?y3_3⟩) (by assumption) ?r3_3
            case' y3_3 => (intro w hSw; (try dsimp only at hSw); (try have hlS := HLK.out _ hSw); obtain ⟨hcS, hfS⟩ := bcell hSw; clear hSw; go_simp; try with_reducible rfl)
            try simp only [Act.put, zA, zB, zC, zD, zE, zF]
            refine wpAnyH_take (i := 4) (v := ?v3_4) rfl (by kernel_rfl) (by kernel_rfl) (by kernel_rfl) (fun _ _ _ h => h) (Or.inl ⟨by rfl, ?y3_4⟩) (by assumption) ?r3_4
            case' y3_4 => (intro w hSw; (try dsimp only at hSw); (try have hlS := HLK.out _ hSw); obtain ⟨hcS, hfS⟩ := bcell hSw; clear hSw; go_simp; try with_reducible rfl)
            try simp only [Act.put, zA, zB, zC, zD, zE, zF]
            refine wpAnyH_take (i := 5) (v := ?v3_5) rfl (by kernel_rfl) (by kernel_rfl) (by kernel_rfl) (fun _ _ _ h => h) (Or.inl ⟨by rfl, ?y3_5⟩) (by assumption) ?r3_5
            case' y3_5 => (intro w hSw; (try dsimp only at hSw); (try have hlS := HLK.out _ hSw); obtain ⟨hcS, hfS⟩ := bcell hSw; clear hSw; go_simp; try with_reducible rfl)
            try simp only [Act.put, zA, zB, zC, zD, zE, zF]
            refine wpAnyH_take (i := 6) (v := ?v3_6) rfl (by kernel_rfl) (by kernel_rfl) (by kernel_rfl) (fun _ _ _ h => h) (Or.inl ⟨by rfl, ?y3_6⟩) (by assumption) ?r3_6
            case' y3_6 => (intro w hSw; (try dsimp only at hSw); (try have hlS := HLK.out _ hSw); obtain ⟨hcS, hfS⟩ := bcell hSw; clear hSw; go_simp; try with_reducible rfl)
            try simp only [Act.put, zA, zB, zC, zD, zE, zF]
            refine wpAnyH_take (i := 7) (v := ?v3_7) rfl (by kernel_rfl) (by kernel_rfl) (by kernel_rfl) (fun _ _ _ h => h) (Or.inl ⟨by rfl, ?y3_7⟩) (by assumption) ?r3_7
            case' y3_7 => (intro w hSw; (try dsimp only at hSw); (try have hlS := HLK.out _ hSw); obtain ⟨hcS, hfS⟩ := bcell hSw; clear hSw; go_simp; try with_reducible rfl)
            try simp only [Act.put, zA, zB, zC, zD, zE, zF]
            refine wpAnyH_ready (rs := [8]) (by kernel_rfl) (by simp) ?_
            refine AllReadyH.cons rfl (fun K hK => ?_) AllReadyH.nil
            go_simp
            ((go_at_call 135; refine (HVV.out _ (by repeat (first | exact Below.refl _ _ | assumption | refine Below.drew ?_ | refine Below.drewN ?_ _ | refine Below.allocT ?_ (Nat.le_refl _) _ | refine Below.setCell ?_ (by simp <;> omega) _ | refine Below.to ?_ (by assumption) (Nat.le_refl _)))).mono ?_; rintro e w1 ⟨rfl, rfl⟩))
            (try dsimp only)
            refine hK.out _ _ ?_ (fun hNext => ?_)
            · try dsimp only
              exact (by repeat (first | exact Below.refl _ _ | assumption | refine Below.drew ?_ | refine Below.drewN ?_ _ | refine Below.allocT ?_ (Nat.le_refl _) _ | refine Below.setCell ?_ (by simp <;> omega) _ | refine Below.to ?_ (by assumption) (Nat.le_refl _)))
            clear hK K hHeld
            have hHeld := hNext
            clear hNext
            (try dsimp only at hHeld)
            try simp only [Act.put, zA, zB, zC, zD, zE, zF]
            refine wpAnyH_take (i := 9) (v := ?v3_9) rfl (by kernel_rfl) (by kernel_rfl) (by kernel_rfl) (fun _ _ _ h => h) (Or.inl ⟨by rfl, ?y3_9⟩) (by assumption) ?r3_9
            case' y3_9 => (intro w hSw; (try dsimp only at hSw); (try have hlS := HLK.out _ hSw); obtain ⟨hcS, hfS⟩ := bcell hSw; clear hSw; go_simp; try with_reducible rfl)
            try simp only [Act.put, zA, zB, zC, zD, zE, zF]
            refine wpAnyH_done (by kernel_rfl) ?_ _
            go_wp2_with fail
            go_roundw
            case rel => exact ⟨t + 1, by omega, by go_num, fun j hj => by
                rcases Nat.lt_or_ge j t with h | h
                · exact hva.out j h
                · rw [show j = t from by omega, HF.out]; exact HVF.out, Below.to hBi.out hHeld (Nat.le_refl _)⟩
            case measure => simp [intOf]; omega
          | false =>
            rw [hvf] at hvv
            have HVV := hide hvv
            have hee : m.err = 11 := by rw [HE.out, if_pos (not_valid htl (by rw [hfe]; exact hvf))]
            have HEE := hide hee
            clear hfm hin hff hfe hvv hvf hBr hee
            go_wp2_with fail
            refine wp_region_held_drew (S := (fun w' => Below wr.heap.size wr w')) (by kernel_rfl) ?_ (fun hHeld => ?_)
            · try dsimp only
              exact (by repeat (first | exact Below.refl _ _ | assumption | refine Below.drew ?_ | refine Below.drewN ?_ _ | refine Below.allocT ?_ (Nat.le_refl _) _ | refine Below.setCell ?_ (by simp <;> omega) _ | refine Below.to ?_ (by assumption) (Nat.le_refl _)))
            refine wpAnyH_take (i := 0) (v := ?v4_0) rfl (by kernel_rfl) (by kernel_rfl) (by kernel_rfl) (fun _ _ _ h => h) (Or.inl ⟨by rfl, ?y4_0⟩) (by assumption) ?r4_0
            case' y4_0 => (intro w hSw; (try dsimp only at hSw); (try have hlS := HLK.out _ hSw); obtain ⟨hcS, hfS⟩ := bcell hSw; clear hSw; go_simp; try with_reducible rfl)
            try simp only [Act.put, zA, zB, zC, zD, zE, zF]
            refine wpAnyH_take (i := 1) (v := ?v4_1) rfl (by kernel_rfl) (by kernel_rfl) (by kernel_rfl) (fun _ _ _ h => h) (Or.inl ⟨by rfl, ?y4_1⟩) (by assumption) ?r4_1
            case' y4_1 => (intro w hSw; (try dsimp only at hSw); (try have hlS := HLK.out _ hSw); obtain ⟨hcS, hfS⟩ := bcell hSw; clear hSw; go_simp; try with_reducible rfl)
            try simp only [Act.put, zA, zB, zC, zD, zE, zF]
            refine wpAnyH_take (i := 2) (v := ?v4_2) rfl (by kernel_rfl) (by kernel_rfl) (by kernel_rfl) (fun _ _ _ h => h) (Or.inl ⟨by rfl, ?y4_2⟩) (by assumption) ?r4_2
            case' y4_2 => (intro w hSw; (try dsimp only at hSw); (try have hlS := HLK.out _ hSw); obtain ⟨hcS, hfS⟩ := bcell hSw; clear hSw; go_simp; try with_reducible rfl)
            try simp only [Act.put, zA, zB, zC, zD, zE, zF]
            refine wpAnyH_take (i := 3) (v := ?v4_3) rfl (by kernel_rfl) (by kernel_rfl) (by kernel_rfl) (fun _ _ _ h => h) (Or.inl ⟨by rfl, ?y4_3⟩) (by assumption) ?r4_3
            case' y4_3 => (intro w hSw; (try dsimp only at hSw); (try have hlS := HLK.out _ hSw); obtain ⟨hcS, hfS⟩ := bcell hSw; clear hSw; go_simp; try with_reducible rfl)
            try simp only [Act.put, zA, zB, zC, zD, zE, zF]
            refine wpAnyH_take (i := 4) (v := ?v4_4) rfl (by kernel_rfl) (by kernel_rfl) (by kernel_rfl) (fun _ _ _ h => h) (Or.inl ⟨by rfl, ?y4_4⟩) (by assumption) ?r4_4
            case' y4_4 => (intro w hSw; (try dsimp only at hSw); (try have hlS := HLK.out _ hSw); obtain ⟨hcS, hfS⟩ := bcell hSw; clear hSw; go_simp; try with_reducible rfl)
            try simp only [Act.put, zA, zB, zC, zD, zE, zF]
            refine wpAnyH_take (i := 5) (v := ?v4_5) rfl (by kernel_rfl) (by kernel_rfl) (by kernel_rfl) (fun _ _ _ h => h) (Or.inl ⟨by rfl, ?y4_5⟩) (by assumption) ?r4_5
            case' y4_5 => (intro w hSw; (try dsimp only at hSw); (try have hlS := HLK.out _ hSw); obtain ⟨hcS, hfS⟩ := bcell hSw; clear hSw; go_simp; try with_reducible rfl)
            try simp only [Act.put, zA, zB, zC, zD, zE, zF]
            refine wpAnyH_take (i := 6) (v := ?v4_6) rfl (by kernel_rfl) (by kernel_rfl) (by kernel_rfl) (fun _ _ _ h => h) (Or.inl ⟨by rfl, ?y4_6⟩) (by assumption) ?r4_6
            case' y4_6 => (intro w hSw; (try dsimp only at hSw); (try have hlS := HLK.out _ hSw); obtain ⟨hcS, hfS⟩ := bcell hSw; clear hSw; go_simp; try with_reducible rfl)
            try simp only [Act.put, zA, zB, zC, zD, zE, zF]
            refine wpAnyH_take (i := 7) (v := ?v4_7) rfl (by kernel_rfl) (by kernel_rfl) (by kernel_rfl) (fun _ _ _ h => h) (Or.inl ⟨by rfl, ?y4_7⟩) (by assumption) ?r4_7
            case' y4_7 => (intro w hSw; (try dsimp only at hSw); (try have hlS := HLK.out _ hSw); obtain ⟨hcS, hfS⟩ := bcell hSw; clear hSw; go_simp; try with_reducible rfl)
            try simp only [Act.put, zA, zB, zC, zD, zE, zF]
            refine wpAnyH_ready (rs := [8]) (by kernel_rfl) (by simp) ?_
            refine AllReadyH.cons rfl (fun K hK => ?_) AllReadyH.nil
            go_simp
            ((go_at_call 135; refine (HVV.out _ (by repeat (first | exact Below.refl _ _ | assumption | refine Below.drew ?_ | refine Below.drewN ?_ _ | refine Below.allocT ?_ (Nat.le_refl _) _ | refine Below.setCell ?_ (by simp <;> omega) _ | refine Below.to ?_ (by assumption) (Nat.le_refl _)))).mono ?_; rintro e w1 ⟨rfl, rfl⟩))
            (try dsimp only)
            refine hK.out _ _ ?_ (fun hNext => ?_)
            · try dsimp only
              exact (by repeat (first | exact Below.refl _ _ | assumption | refine Below.drew ?_ | refine Below.drewN ?_ _ | refine Below.allocT ?_ (Nat.le_refl _) _ | refine Below.setCell ?_ (by simp <;> omega) _ | refine Below.to ?_ (by assumption) (Nat.le_refl _)))
            clear hK K hHeld
            have hHeld := hNext
            clear hNext
            (try dsimp only at hHeld)
            try simp only [Act.put, zA, zB, zC, zD, zE, zF]
            refine wpAnyH_take (i := 9) (v := ?v4_9) rfl (by kernel_rfl) (by kernel_rfl) (by kernel_rfl) (fun _ _ _ h => h) (Or.inl ⟨by rfl, ?y4_9⟩) (by assumption) ?r4_9
            case' y4_9 => (intro w hSw; (try dsimp only at hSw); (try have hlS := HLK.out _ hSw); obtain ⟨hcS, hfS⟩ := bcell hSw; clear hSw; go_simp; try with_reducible rfl)
            try simp only [Act.put, zA, zB, zC, zD, zE, zF]
            refine wpAnyH_done (by kernel_rfl) ?_ _
            go_wp2_with fail
            go_ret
            exact ⟨ret_int HEE.out.symm, Below.to HBR.out hHeld (Nat.le_refl _)⟩
        · have hee : m.err = 0 := by rw [HE.out, if_neg (by rw [all_valid fun j hj => hva.out j (by omega)]; simp)]
          have HEE := hide hee
          clear hee hBr
          go_wp2_with fail
          go_ret
          exact ⟨ret_int HEE.out.symm, HBR.out⟩
end Go.Proofs.Ytmabfnddedffoaa
/- CheckFormula: walks. -/
namespace Go.Proofs.Ytmabfnddedffoaa
open Go.RowKit
set_option linter.unusedVariables false
set_option linter.unusedSimpArgs false
set_option maxRecDepth 100000 in
set_option maxHeartbeats 2000000 in
theorem rCheckFormula_any (m : Mo) (f : List Int) (ov rv fv : Value) (w : World) (hs : SizedM m) (hl : f.length ≤ maxLen) (h : MoAt w w.heap.size ov rv m) (hf : Ints w w.heap.size fv f) :
    Calls Try.prog 79 #[.agg #[ov, rv], fv] w fun e w' => e = .returned (.int .i64 (m.errF [f])) ∧ Below w.heap.size w w' := by
  obtain ⟨A, cap, hov⟩ := Sl.form h.o
  obtain ⟨Ar, capr, hrv⟩ := h.r.form
  obtain ⟨Al, capl, hlv⟩ := Sl.form hf
  have H := hide h
  have HF := hide hf
  have HS := hide hs
  subst hov hrv hlv
  clear h hf hs
  go_enter Try.func79, Try.ntmps79
  go_upto_region 1 with (fail)
  generalize hw0 : World.alloc _ _ = w0
  obtain ⟨hb0, hB0, hs0⟩ := alloc1 hw0
  clear hw0
  have HX0 : Hid (MoBox w0 w.heap.size (.slice A m.opts.length cap) (.slice Ar m.rules.length capr)) := hb0
  have HB0 := hide hB0
  have c0 := cellOf hb0 0
  have c1 := cellOf hb0 1
  have hck := rCheckModel_any m (.slice A m.opts.length cap) (.slice Ar m.rules.length capr) w0 HS.out (H.out.up hB0)
  have HCK := hide hck
  clear hb0 hB0 hs0 hck
  by_cases he : m.err = 0
  · have HE := hide he
    clear he
    go_upto_region 4 with (go_at_call 74; refine HCK.out.mono ?_; rw [HE.out]; rintro e w1 ⟨rfl, hB1⟩; have hbx := box_to HX0.out hB1; have d0 := cellOf hbx 0; have d1 := cellOf hbx 1; have HB1 : Hid (Below w.heap.size w w1) := Below.to HB0.out hB1 (Nat.le_refl _); clear hbx hB1 c0 c1)
    have hv := rValid_any f m.opts.length (.slice Al f.length capl) w.heap.size w1 hl (HF.out.below HB1.out)
    have HV := hide hv
    clear hv
    cases hvf : validF m.opts.length f with
    | true =>
      have HVF := hide hvf
      have hef : m.errF [f] = 0 := by rw [Mo.errF_ok HE.out, List.all_cons, HVF.out]; rfl
      have HEF := hide hef
      clear hvf hef
      go_wp2_with (go_at_call 135; refine HV.out.mono ?_; rw [HVF.out]; rintro e w2 ⟨rfl, rfl⟩)
      go_ret
      exact ⟨ret_int HEF.out.symm, HB1.out⟩
    | false =>
      have HVF := hide hvf
      have hef : m.errF [f] = 11 := by rw [Mo.errF_ok HE.out, List.all_cons, HVF.out]; rfl
      have HEF := hide hef
      clear hvf hef
      go_wp2_with (go_at_call 135; refine HV.out.mono ?_; rw [HVF.out]; rintro e w2 ⟨rfl, rfl⟩)
      go_ret
      exact ⟨ret_int HEF.out.symm, HB1.out⟩
  · obtain ⟨z, hz⟩ : ∃ z, m.err = z := ⟨_, rfl⟩
    rw [hz] at he
    have hz1 : (z != 0) = true := by simpa using he
    have hef : m.errF [f] = z := by rw [Mo.errF_err (by rw [hz]; exact he), hz]
    have HEF := hide hef
    have HZ := hide hz
    clear he hz hef
    go_wp2_with (go_at_call 74; refine HCK.out.mono ?_; rw [HZ.out]; rintro e w1 ⟨rfl, hB1⟩)
    go_ret
    exact ⟨ret_int HEF.out.symm, Below.to HB0.out hB1 (Nat.le_refl _)⟩
set_option maxRecDepth 100000 in
set_option maxHeartbeats 2000000 in
theorem CheckFormula_any (m : Mo) (f : List Int) (ov rv fv : Value) (w : World) (hs : SizedM m) (hl : f.length ≤ maxLen) (h : MoAt w w.heap.size ov rv m) (hf : Ints w w.heap.size fv f) :
    Calls Try.prog 73 #[.agg #[ov, rv], fv] w fun e w' => e = .returned (.int .i64 (m.errF [f])) ∧ Below w.heap.size w w' := by
  obtain ⟨A, cap, hov⟩ := Sl.form h.o
  obtain ⟨Ar, capr, hrv⟩ := h.r.form
  obtain ⟨Al, capl, hlv⟩ := Sl.form hf
  have H := hide h
  have HF := hide hf
  have HS := hide hs
  subst hov hrv hlv
  clear h hf hs
  go_enter Try.func73, Try.ntmps73
  go_upto_region 1 with (fail)
  generalize hw0 : World.alloc _ _ = w0
  obtain ⟨hb0, hB0, hs0⟩ := alloc1 hw0
  clear hw0
  have HB0 := hide hB0
  have c0 := cellOf hb0 0
  have c1 := cellOf hb0 1
  have hB2 : Below w.heap.size w (w0.alloc (.cells #[.slice Al f.length capl] 66 (0, 0))) := Below.allocT hB0 (Nat.le_refl _) _
  have hck := check_any m [f] (.slice A m.opts.length cap) (.slice Ar m.rules.length capr) (.slice (some ⟨w0.heap.size, 0, none⟩) 1 1) _ HS.out (sized_one hl) (H.out.up hB2) (forms_one (heap_new _ _ _ rfl) (by simp) (HF.out.up hB2))
  have HCK := hide hck
  have HB2 := hide hB2
  clear hb0 hB0 hs0 hck hB2
  go_wp2_with (go_at_call 133; refine HCK.out.mono ?_; rintro e w1 ⟨rfl, hB1⟩)
  go_ret
  exact ⟨rfl, Below.to HB2.out hB1 (Nat.le_refl _)⟩
end Go.Proofs.Ytmabfnddedffoaa
/- The checks of a plug, a pin and a wire: walks. -/
namespace Go.Proofs.Ytmabfnddedffoaa
open Go.RowKit
set_option linter.unusedVariables false
set_option linter.unusedSimpArgs false
theorem wi_cap {w : World} {B : Nat} {A : Option Addr} {m q : Nat} {l : List Wi} (h : Wis w B (.slice A m q) l) : m = l.length ∧ l.length ≤ q := by
  obtain ⟨fv, hs, _⟩ := h
  exact sl_cap hs
set_option maxRecDepth 100000 in
set_option maxHeartbeats 16000000 in
theorem ckWire_any (i : Nat) (x : Wi) (Af : Option Addr) (qf : Nat) (A0 A1 A2 A3 A4 A5 : Option Addr) (q0 q1 q2 q3 q4 q5 : Nat) (l : Lo) (lb sb : Nat) (w : World) (hi : i < l.ws.length) (hx : l.ws.getD i Wi.o = x) (hsz : x.name.size ≤ maxLen) (hfl : x.form.length ≤ maxLen) (hp : l.ps.length ≤ maxLen) (hw : l.ws.length ≤ maxLen) (hsm : SizedM l.m) (he : l.m.err = 0) (hL : LoBox w lb A0 A1 A2 A3 A4 A5 q0 q1 q2 q3 q4 q5 l) (hS : FnBox w sb 68 #[.pointer (some ⟨lb, 0, none⟩)] 109) (h : LoA w w.heap.size A0 A1 A2 A3 A4 A5 q0 q1 q2 q3 q4 q5 l) (hok : ∀ k, k < l.ps.length → plOk l k = true) (hf : Ints w w.heap.size (.slice Af x.form.length qf) x.form) :
    Calls Try.prog 70 #[.int .i64 i, .agg #[.string x.name, .int .i64 x.fp, .int .i64 x.fc, .int .i64 x.tp, .int .i64 x.tc, .int .i64 x.size, .slice Af x.form.length qf], .pointer (some ⟨lb, 0, none⟩), .pointer (some ⟨sb, 0, none⟩)] w fun e w' => e = .returned (.int .i64 (wiErr l i)) ∧ Below w.heap.size w w' := by
  have H := hide h
  have HL0 := hide hL
  have HSB := hide hS
  have HOK := hide hok
  have HFO := hide hf
  have HSZ := hide hsm
  have hEF : l.m.errF [x.form] = if validF l.m.opts.length x.form = true then 0 else 11 := by
    rw [Mo.errF_ok he, List.all_cons, List.all_nil, Bool.and_true]
    cases validF l.m.opts.length x.form <;> rfl
  clear h hL hS hok hf hsm
  cases hN : lowB (bytes x.name) with
  | false =>
    have hr : wiErr l i = 63 := by
      unfold wiErr
      have h2 : wiOk l i = false := by unfold wiOk; rw [hx]; rw [hN]; simp
      rw [h2]
      rfl
    rw [hr]
    clear hr
    have HN := hide hN
    obtain ⟨tw, htw⟩ : ∃ b, (l.ws.take i).any (fun q => bytes q.name == bytes x.name) = b := ⟨_, rfl⟩
    have HT' := hide htw
    clear htw
    clear hN
    clear hEF
    go_enter Try.func70, Try.ntmps70
    go_upto_region 1 with (fail)
    generalize hw0 : World.alloc _ _ = w0
    obtain ⟨hb0, hB0, hs0⟩ := alloc1 hw0
    have HP := hide hb0
    have HB0 := hide hB0
    have HL := hide (HL0.out.to hB0)
    have HS0 := hide (HSB.out.to hB0)
    have c0 := cellOf HL.out 5
    have hlb := box_lt HL.out
    have hct := contains_wires (fun q => bytes q.name == bytes x.name) (.pointer (some ⟨w.heap.size, 0, none⟩)) (.slice A5 i q5) (l.ws.take i) w0 (by simp; omega) (Wis.take (H.out.up hB0).w (by omega)) (fun j y Ag qg W _ _ hW => sameWi_any y x Ag Af qg qf x.form.length y.form.length _ W (box_to hb0 hW))
    have HCT := hide hct
    have hiq : (i : Int) ≤ (q5 : Int) := by have := wi_cap (H.out.up hB0).w; omega
    have hiq2 : (i : Int) ≤ (l.ws.length : Int) := by omega
    clear hb0 hB0 hs0 hw0 hct
    go_wp2_with (first | (go_at_call 71; refine HCT.out.mono ?_; rw [HT'.out]; rintro e w1 ⟨rfl, hB1⟩; have y0 := cellOf (HL.out.to hB1) 0; have y1 := cellOf (HL.out.to hB1) 1; have y2 := cellOf (HL.out.to hB1) 2; have y3 := cellOf (HL.out.to hB1) 3; have y4 := cellOf (HL.out.to hB1) 4; have y5 := cellOf (HL.out.to hB1) 5; have z0 := cellOf (box_to HP.out hB1) 0; have z1 := cellOf (box_to HP.out hB1) 1; have z2 := cellOf (box_to HP.out hB1) 2; have z3 := cellOf (box_to HP.out hB1) 3; have z4 := cellOf (box_to HP.out hB1) 4; have z5 := cellOf (box_to HP.out hB1) 5; have z6 := cellOf (box_to HP.out hB1) 6; have s0 := cellOf (HS0.out.to hB1) 0; have ly := box_lt (HL.out.to hB1); have lz := box_lt (box_to HP.out hB1); have ls := box_lt (HS0.out.to hB1); have HB1 := hide (Below.to HB0.out hB1 (Nat.le_refl _)); have HL1 := hide (HL.out.to hB1); have HS1 := hide (HS0.out.to hB1); have HP1 := hide (box_to HP.out hB1); clear hB1 c0) | (go_at_call 67; refine (low_any _ _ hsz).mono ?_; rw [show lowB x.name.data.toList = _ from HN.out]; rintro e w3 ⟨rfl, rfl⟩))
    go_ret
    exact ⟨rfl, HB1.out⟩
  | true =>
    cases hT : (l.ws.take i).any (fun q => bytes q.name == bytes x.name) with
    | true =>
      have hr : wiErr l i = 63 := by
        unfold wiErr
        have h2 : wiOk l i = false := by unfold wiOk; rw [hx]; rw [hN, hT]; simp
        rw [h2]
        rfl
      rw [hr]
      clear hr
      have HN := hide hN
      have HT' := hide hT
      clear hN hT
      clear hEF
      go_enter Try.func70, Try.ntmps70
      go_upto_region 1 with (fail)
      generalize hw0 : World.alloc _ _ = w0
      obtain ⟨hb0, hB0, hs0⟩ := alloc1 hw0
      have HP := hide hb0
      have HB0 := hide hB0
      have HL := hide (HL0.out.to hB0)
      have HS0 := hide (HSB.out.to hB0)
      have c0 := cellOf HL.out 5
      have hlb := box_lt HL.out
      have hct := contains_wires (fun q => bytes q.name == bytes x.name) (.pointer (some ⟨w.heap.size, 0, none⟩)) (.slice A5 i q5) (l.ws.take i) w0 (by simp; omega) (Wis.take (H.out.up hB0).w (by omega)) (fun j y Ag qg W _ _ hW => sameWi_any y x Ag Af qg qf x.form.length y.form.length _ W (box_to hb0 hW))
      have HCT := hide hct
      have hiq : (i : Int) ≤ (q5 : Int) := by have := wi_cap (H.out.up hB0).w; omega
      have hiq2 : (i : Int) ≤ (l.ws.length : Int) := by omega
      clear hb0 hB0 hs0 hw0 hct
      go_wp2_with (first | (go_at_call 71; refine HCT.out.mono ?_; rw [HT'.out]; rintro e w1 ⟨rfl, hB1⟩; have y0 := cellOf (HL.out.to hB1) 0; have y1 := cellOf (HL.out.to hB1) 1; have y2 := cellOf (HL.out.to hB1) 2; have y3 := cellOf (HL.out.to hB1) 3; have y4 := cellOf (HL.out.to hB1) 4; have y5 := cellOf (HL.out.to hB1) 5; have z0 := cellOf (box_to HP.out hB1) 0; have z1 := cellOf (box_to HP.out hB1) 1; have z2 := cellOf (box_to HP.out hB1) 2; have z3 := cellOf (box_to HP.out hB1) 3; have z4 := cellOf (box_to HP.out hB1) 4; have z5 := cellOf (box_to HP.out hB1) 5; have z6 := cellOf (box_to HP.out hB1) 6; have s0 := cellOf (HS0.out.to hB1) 0; have ly := box_lt (HL.out.to hB1); have lz := box_lt (box_to HP.out hB1); have ls := box_lt (HS0.out.to hB1); have HB1 := hide (Below.to HB0.out hB1 (Nat.le_refl _)); have HL1 := hide (HL.out.to hB1); have HS1 := hide (HS0.out.to hB1); have HP1 := hide (box_to HP.out hB1); clear hB1 c0) | (go_at_call 67; refine (low_any _ _ hsz).mono ?_; rw [show lowB x.name.data.toList = _ from HN.out]; rintro e w3 ⟨rfl, rfl⟩))
      go_ret
      exact ⟨rfl, HB1.out⟩
    | false =>
      cases hP : pinOk l x.fp x.fc with
      | false =>
        have hr : wiErr l i = 63 := by
          unfold wiErr
          have h2 : wiOk l i = false := by unfold wiOk; rw [hx]; rw [hN, hT, hP]; simp
          rw [h2]
          rfl
        rw [hr]
        clear hr
        have HN := hide hN
        have HT' := hide hT
        have HP_ := hide hP
        clear hN hT hP
        clear hEF
        go_enter Try.func70, Try.ntmps70
        go_upto_region 1 with (fail)
        generalize hw0 : World.alloc _ _ = w0
        obtain ⟨hb0, hB0, hs0⟩ := alloc1 hw0
        have HP := hide hb0
        have HB0 := hide hB0
        have HL := hide (HL0.out.to hB0)
        have HS0 := hide (HSB.out.to hB0)
        have c0 := cellOf HL.out 5
        have hlb := box_lt HL.out
        have hct := contains_wires (fun q => bytes q.name == bytes x.name) (.pointer (some ⟨w.heap.size, 0, none⟩)) (.slice A5 i q5) (l.ws.take i) w0 (by simp; omega) (Wis.take (H.out.up hB0).w (by omega)) (fun j y Ag qg W _ _ hW => sameWi_any y x Ag Af qg qf x.form.length y.form.length _ W (box_to hb0 hW))
        have HCT := hide hct
        have hiq : (i : Int) ≤ (q5 : Int) := by have := wi_cap (H.out.up hB0).w; omega
        have hiq2 : (i : Int) ≤ (l.ws.length : Int) := by omega
        clear hb0 hB0 hs0 hw0 hct
        go_wp2_with (first | (go_at_call 71; refine HCT.out.mono ?_; rw [HT'.out]; rintro e w1 ⟨rfl, hB1⟩; have y0 := cellOf (HL.out.to hB1) 0; have y1 := cellOf (HL.out.to hB1) 1; have y2 := cellOf (HL.out.to hB1) 2; have y3 := cellOf (HL.out.to hB1) 3; have y4 := cellOf (HL.out.to hB1) 4; have y5 := cellOf (HL.out.to hB1) 5; have z0 := cellOf (box_to HP.out hB1) 0; have z1 := cellOf (box_to HP.out hB1) 1; have z2 := cellOf (box_to HP.out hB1) 2; have z3 := cellOf (box_to HP.out hB1) 3; have z4 := cellOf (box_to HP.out hB1) 4; have z5 := cellOf (box_to HP.out hB1) 5; have z6 := cellOf (box_to HP.out hB1) 6; have s0 := cellOf (HS0.out.to hB1) 0; have ly := box_lt (HL.out.to hB1); have lz := box_lt (box_to HP.out hB1); have ls := box_lt (HS0.out.to hB1); have HB1 := hide (Below.to HB0.out hB1 (Nat.le_refl _)); have HL1 := hide (HL.out.to hB1); have HS1 := hide (HS0.out.to hB1); have HP1 := hide (box_to HP.out hB1); clear hB1 c0) | (go_at_call 67; refine (low_any _ _ hsz).mono ?_; rw [show lowB x.name.data.toList = _ from HN.out]; rintro e w3 ⟨rfl, rfl⟩) | (go_at_call 68; refine (pin_any x.fp x.fc _ _ _ _ _ _ _ _ _ _ _ _ l lb _ hp HL1.out (H.out.up HB1.out) HOK.out).mono ?_; rw [HP_.out]; rintro e w4 ⟨rfl, hB4⟩; have HB4 := hide (Below.to HB1.out hB4 (Nat.le_refl _)); have HL4 := hide (HL1.out.to hB4); have p0 := cellOf (box_to HP1.out hB4) 0; have p1 := cellOf (box_to HP1.out hB4) 1; have p2 := cellOf (box_to HP1.out hB4) 2; have p3 := cellOf (box_to HP1.out hB4) 3; have p4 := cellOf (box_to HP1.out hB4) 4; have p5 := cellOf (box_to HP1.out hB4) 5; have p6 := cellOf (box_to HP1.out hB4) 6; have r0 := cellOf (HL1.out.to hB4) 0; have r1 := cellOf (HL1.out.to hB4) 1; have r2 := cellOf (HL1.out.to hB4) 2; have r3 := cellOf (HL1.out.to hB4) 3; have r4 := cellOf (HL1.out.to hB4) 4; have r5 := cellOf (HL1.out.to hB4) 5; have s4 := cellOf (HS1.out.to hB4) 0; have HS4 := hide (HS1.out.to hB4); have HP4 := hide (box_to HP1.out hB4); have lp4 := box_lt (box_to HP1.out hB4); have ls4 := box_lt (HS1.out.to hB4); have ll4 := box_lt (HL1.out.to hB4); clear hB4 s0 z0 z1 z2 z3 z4 z5 z6 y0 y1 y2 y3 y4 y5 ly lz ls))
        go_ret
        exact ⟨rfl, HB4.out⟩
      | true =>
        cases hQ : pinOk l x.tp x.tc with
        | false =>
          have hr : wiErr l i = 63 := by
            unfold wiErr
            have h2 : wiOk l i = false := by unfold wiOk; rw [hx]; rw [hN, hT, hP, hQ]; simp
            rw [h2]
            rfl
          rw [hr]
          clear hr
          have HN := hide hN
          have HT' := hide hT
          have HP_ := hide hP
          have HQ_ := hide hQ
          clear hN hT hP hQ
          clear hEF
          go_enter Try.func70, Try.ntmps70
          go_upto_region 1 with (fail)
          generalize hw0 : World.alloc _ _ = w0
          obtain ⟨hb0, hB0, hs0⟩ := alloc1 hw0
          have HP := hide hb0
          have HB0 := hide hB0
          have HL := hide (HL0.out.to hB0)
          have HS0 := hide (HSB.out.to hB0)
          have c0 := cellOf HL.out 5
          have hlb := box_lt HL.out
          have hct := contains_wires (fun q => bytes q.name == bytes x.name) (.pointer (some ⟨w.heap.size, 0, none⟩)) (.slice A5 i q5) (l.ws.take i) w0 (by simp; omega) (Wis.take (H.out.up hB0).w (by omega)) (fun j y Ag qg W _ _ hW => sameWi_any y x Ag Af qg qf x.form.length y.form.length _ W (box_to hb0 hW))
          have HCT := hide hct
          have hiq : (i : Int) ≤ (q5 : Int) := by have := wi_cap (H.out.up hB0).w; omega
          have hiq2 : (i : Int) ≤ (l.ws.length : Int) := by omega
          clear hb0 hB0 hs0 hw0 hct
          go_wp2_with (first | (go_at_call 71; refine HCT.out.mono ?_; rw [HT'.out]; rintro e w1 ⟨rfl, hB1⟩; have y0 := cellOf (HL.out.to hB1) 0; have y1 := cellOf (HL.out.to hB1) 1; have y2 := cellOf (HL.out.to hB1) 2; have y3 := cellOf (HL.out.to hB1) 3; have y4 := cellOf (HL.out.to hB1) 4; have y5 := cellOf (HL.out.to hB1) 5; have z0 := cellOf (box_to HP.out hB1) 0; have z1 := cellOf (box_to HP.out hB1) 1; have z2 := cellOf (box_to HP.out hB1) 2; have z3 := cellOf (box_to HP.out hB1) 3; have z4 := cellOf (box_to HP.out hB1) 4; have z5 := cellOf (box_to HP.out hB1) 5; have z6 := cellOf (box_to HP.out hB1) 6; have s0 := cellOf (HS0.out.to hB1) 0; have ly := box_lt (HL.out.to hB1); have lz := box_lt (box_to HP.out hB1); have ls := box_lt (HS0.out.to hB1); have HB1 := hide (Below.to HB0.out hB1 (Nat.le_refl _)); have HL1 := hide (HL.out.to hB1); have HS1 := hide (HS0.out.to hB1); have HP1 := hide (box_to HP.out hB1); clear hB1 c0) | (go_at_call 67; refine (low_any _ _ hsz).mono ?_; rw [show lowB x.name.data.toList = _ from HN.out]; rintro e w3 ⟨rfl, rfl⟩) | (go_at_call 68; refine (pin_any x.tp x.tc _ _ _ _ _ _ _ _ _ _ _ _ l lb _ hp HL4.out (H.out.up HB4.out) HOK.out).mono ?_; rw [HQ_.out]; rintro e w6 ⟨rfl, hB6⟩; have HB6 := hide (Below.to HB4.out hB6 (Nat.le_refl _)); have o0 := cellOf (box_to HP4.out hB6) 0; have o1 := cellOf (box_to HP4.out hB6) 1; have o2 := cellOf (box_to HP4.out hB6) 2; have o3 := cellOf (box_to HP4.out hB6) 3; have o4 := cellOf (box_to HP4.out hB6) 4; have o5 := cellOf (box_to HP4.out hB6) 5; have o6 := cellOf (box_to HP4.out hB6) 6; have v0 := cellOf (HL4.out.to hB6) 0; have v1 := cellOf (HL4.out.to hB6) 1; have v2 := cellOf (HL4.out.to hB6) 2; have v3 := cellOf (HL4.out.to hB6) 3; have v4 := cellOf (HL4.out.to hB6) 4; have v5 := cellOf (HL4.out.to hB6) 5; have lp6 := box_lt (box_to HP4.out hB6); have ll6 := box_lt (HL4.out.to hB6); clear hB6 s4 p0 p1 p2 p3 p4 p5 p6 r0 r1 r2 r3 r4 r5 lp4 ls4 ll4) | (go_at_call 68; refine (pin_any x.fp x.fc _ _ _ _ _ _ _ _ _ _ _ _ l lb _ hp HL1.out (H.out.up HB1.out) HOK.out).mono ?_; rw [HP_.out]; rintro e w4 ⟨rfl, hB4⟩; have HB4 := hide (Below.to HB1.out hB4 (Nat.le_refl _)); have HL4 := hide (HL1.out.to hB4); have p0 := cellOf (box_to HP1.out hB4) 0; have p1 := cellOf (box_to HP1.out hB4) 1; have p2 := cellOf (box_to HP1.out hB4) 2; have p3 := cellOf (box_to HP1.out hB4) 3; have p4 := cellOf (box_to HP1.out hB4) 4; have p5 := cellOf (box_to HP1.out hB4) 5; have p6 := cellOf (box_to HP1.out hB4) 6; have r0 := cellOf (HL1.out.to hB4) 0; have r1 := cellOf (HL1.out.to hB4) 1; have r2 := cellOf (HL1.out.to hB4) 2; have r3 := cellOf (HL1.out.to hB4) 3; have r4 := cellOf (HL1.out.to hB4) 4; have r5 := cellOf (HL1.out.to hB4) 5; have s4 := cellOf (HS1.out.to hB4) 0; have HS4 := hide (HS1.out.to hB4); have HP4 := hide (box_to HP1.out hB4); have lp4 := box_lt (box_to HP1.out hB4); have ls4 := box_lt (HS1.out.to hB4); have ll4 := box_lt (HL1.out.to hB4); clear hB4 s0 z0 z1 z2 z3 z4 z5 z6 y0 y1 y2 y3 y4 y5 ly lz ls))
          go_ret
          exact ⟨rfl, HB6.out⟩
        | true =>
          cases hE : (decide (x.fp = x.tp) && decide (x.fc = x.tc)) with
          | true =>
            have hr : wiErr l i = 63 := by
              unfold wiErr
              have h2 : wiOk l i = false := by unfold wiOk; rw [hx]; rw [hN, hT, hP, hQ, hE]; simp
              rw [h2]
              rfl
            rw [hr]
            clear hr
            have HN := hide hN
            have HT' := hide hT
            have HP_ := hide hP
            have HQ_ := hide hQ
            clear hN hT hP hQ
            clear hEF
            obtain ⟨n1, n2⟩ : x.fp = x.tp ∧ x.fc = x.tc := by simpa using hE
            have m1 : (x.fp == x.tp) = true := by simp [n1]
            have m2 : (x.fc == x.tc) = true := by simp [n2]
            have N1 := hide n1
            have N2 := hide n2
            clear hE n1 n2
            go_enter Try.func70, Try.ntmps70
            go_upto_region 1 with (fail)
            generalize hw0 : World.alloc _ _ = w0
            obtain ⟨hb0, hB0, hs0⟩ := alloc1 hw0
            have HP := hide hb0
            have HB0 := hide hB0
            have HL := hide (HL0.out.to hB0)
            have HS0 := hide (HSB.out.to hB0)
            have c0 := cellOf HL.out 5
            have hlb := box_lt HL.out
            have hct := contains_wires (fun q => bytes q.name == bytes x.name) (.pointer (some ⟨w.heap.size, 0, none⟩)) (.slice A5 i q5) (l.ws.take i) w0 (by simp; omega) (Wis.take (H.out.up hB0).w (by omega)) (fun j y Ag qg W _ _ hW => sameWi_any y x Ag Af qg qf x.form.length y.form.length _ W (box_to hb0 hW))
            have HCT := hide hct
            have hiq : (i : Int) ≤ (q5 : Int) := by have := wi_cap (H.out.up hB0).w; omega
            have hiq2 : (i : Int) ≤ (l.ws.length : Int) := by omega
            clear hb0 hB0 hs0 hw0 hct
            go_wp2_with (first | (go_at_call 71; refine HCT.out.mono ?_; rw [HT'.out]; rintro e w1 ⟨rfl, hB1⟩; have y0 := cellOf (HL.out.to hB1) 0; have y1 := cellOf (HL.out.to hB1) 1; have y2 := cellOf (HL.out.to hB1) 2; have y3 := cellOf (HL.out.to hB1) 3; have y4 := cellOf (HL.out.to hB1) 4; have y5 := cellOf (HL.out.to hB1) 5; have z0 := cellOf (box_to HP.out hB1) 0; have z1 := cellOf (box_to HP.out hB1) 1; have z2 := cellOf (box_to HP.out hB1) 2; have z3 := cellOf (box_to HP.out hB1) 3; have z4 := cellOf (box_to HP.out hB1) 4; have z5 := cellOf (box_to HP.out hB1) 5; have z6 := cellOf (box_to HP.out hB1) 6; have s0 := cellOf (HS0.out.to hB1) 0; have ly := box_lt (HL.out.to hB1); have lz := box_lt (box_to HP.out hB1); have ls := box_lt (HS0.out.to hB1); have HB1 := hide (Below.to HB0.out hB1 (Nat.le_refl _)); have HL1 := hide (HL.out.to hB1); have HS1 := hide (HS0.out.to hB1); have HP1 := hide (box_to HP.out hB1); clear hB1 c0) | (go_at_call 67; refine (low_any _ _ hsz).mono ?_; rw [show lowB x.name.data.toList = _ from HN.out]; rintro e w3 ⟨rfl, rfl⟩) | (go_at_call 68; refine (pin_any x.tp x.tc _ _ _ _ _ _ _ _ _ _ _ _ l lb _ hp HL4.out (H.out.up HB4.out) HOK.out).mono ?_; rw [HQ_.out]; rintro e w6 ⟨rfl, hB6⟩; have HB6 := hide (Below.to HB4.out hB6 (Nat.le_refl _)); have o0 := cellOf (box_to HP4.out hB6) 0; have o1 := cellOf (box_to HP4.out hB6) 1; have o2 := cellOf (box_to HP4.out hB6) 2; have o3 := cellOf (box_to HP4.out hB6) 3; have o4 := cellOf (box_to HP4.out hB6) 4; have o5 := cellOf (box_to HP4.out hB6) 5; have o6 := cellOf (box_to HP4.out hB6) 6; have v0 := cellOf (HL4.out.to hB6) 0; have v1 := cellOf (HL4.out.to hB6) 1; have v2 := cellOf (HL4.out.to hB6) 2; have v3 := cellOf (HL4.out.to hB6) 3; have v4 := cellOf (HL4.out.to hB6) 4; have v5 := cellOf (HL4.out.to hB6) 5; have lp6 := box_lt (box_to HP4.out hB6); have ll6 := box_lt (HL4.out.to hB6); clear hB6 s4 p0 p1 p2 p3 p4 p5 p6 r0 r1 r2 r3 r4 r5 lp4 ls4 ll4) | (go_at_call 68; refine (pin_any x.fp x.fc _ _ _ _ _ _ _ _ _ _ _ _ l lb _ hp HL1.out (H.out.up HB1.out) HOK.out).mono ?_; rw [HP_.out]; rintro e w4 ⟨rfl, hB4⟩; have HB4 := hide (Below.to HB1.out hB4 (Nat.le_refl _)); have HL4 := hide (HL1.out.to hB4); have p0 := cellOf (box_to HP1.out hB4) 0; have p1 := cellOf (box_to HP1.out hB4) 1; have p2 := cellOf (box_to HP1.out hB4) 2; have p3 := cellOf (box_to HP1.out hB4) 3; have p4 := cellOf (box_to HP1.out hB4) 4; have p5 := cellOf (box_to HP1.out hB4) 5; have p6 := cellOf (box_to HP1.out hB4) 6; have r0 := cellOf (HL1.out.to hB4) 0; have r1 := cellOf (HL1.out.to hB4) 1; have r2 := cellOf (HL1.out.to hB4) 2; have r3 := cellOf (HL1.out.to hB4) 3; have r4 := cellOf (HL1.out.to hB4) 4; have r5 := cellOf (HL1.out.to hB4) 5; have s4 := cellOf (HS1.out.to hB4) 0; have HS4 := hide (HS1.out.to hB4); have HP4 := hide (box_to HP1.out hB4); have lp4 := box_lt (box_to HP1.out hB4); have ls4 := box_lt (HS1.out.to hB4); have ll4 := box_lt (HL1.out.to hB4); clear hB4 s0 z0 z1 z2 z3 z4 z5 z6 y0 y1 y2 y3 y4 y5 ly lz ls))
            go_ret
            exact ⟨rfl, HB6.out⟩
          | false =>
            cases hZ : btw x.size 1 10000 with
            | false =>
              have hr : wiErr l i = 63 := by
                unfold wiErr
                have h2 : wiOk l i = false := by unfold wiOk; rw [hx]; rw [hN, hT, hP, hQ, hE, hZ]; simp
                rw [h2]
                rfl
              rw [hr]
              clear hr
              have HN := hide hN
              have HT' := hide hT
              have HP_ := hide hP
              have HQ_ := hide hQ
              have HZ := hide hZ
              clear hN hT hP hQ hZ
              clear hEF
              by_cases n1 : x.fp = x.tp
              · have m1 : (x.fp == x.tp) = true := by simp [n1]
                have m2 : (x.fc == x.tc) = false := by simpa [n1] using hE
                clear n1 hE
                go_enter Try.func70, Try.ntmps70
                go_upto_region 1 with (fail)
                generalize hw0 : World.alloc _ _ = w0
                obtain ⟨hb0, hB0, hs0⟩ := alloc1 hw0
                have HP := hide hb0
                have HB0 := hide hB0
                have HL := hide (HL0.out.to hB0)
                have HS0 := hide (HSB.out.to hB0)
                have c0 := cellOf HL.out 5
                have hlb := box_lt HL.out
                have hct := contains_wires (fun q => bytes q.name == bytes x.name) (.pointer (some ⟨w.heap.size, 0, none⟩)) (.slice A5 i q5) (l.ws.take i) w0 (by simp; omega) (Wis.take (H.out.up hB0).w (by omega)) (fun j y Ag qg W _ _ hW => sameWi_any y x Ag Af qg qf x.form.length y.form.length _ W (box_to hb0 hW))
                have HCT := hide hct
                have hiq : (i : Int) ≤ (q5 : Int) := by have := wi_cap (H.out.up hB0).w; omega
                have hiq2 : (i : Int) ≤ (l.ws.length : Int) := by omega
                clear hb0 hB0 hs0 hw0 hct
                go_wp2_with (first | (go_at_call 71; refine HCT.out.mono ?_; rw [HT'.out]; rintro e w1 ⟨rfl, hB1⟩; have y0 := cellOf (HL.out.to hB1) 0; have y1 := cellOf (HL.out.to hB1) 1; have y2 := cellOf (HL.out.to hB1) 2; have y3 := cellOf (HL.out.to hB1) 3; have y4 := cellOf (HL.out.to hB1) 4; have y5 := cellOf (HL.out.to hB1) 5; have z0 := cellOf (box_to HP.out hB1) 0; have z1 := cellOf (box_to HP.out hB1) 1; have z2 := cellOf (box_to HP.out hB1) 2; have z3 := cellOf (box_to HP.out hB1) 3; have z4 := cellOf (box_to HP.out hB1) 4; have z5 := cellOf (box_to HP.out hB1) 5; have z6 := cellOf (box_to HP.out hB1) 6; have s0 := cellOf (HS0.out.to hB1) 0; have ly := box_lt (HL.out.to hB1); have lz := box_lt (box_to HP.out hB1); have ls := box_lt (HS0.out.to hB1); have HB1 := hide (Below.to HB0.out hB1 (Nat.le_refl _)); have HL1 := hide (HL.out.to hB1); have HS1 := hide (HS0.out.to hB1); have HP1 := hide (box_to HP.out hB1); clear hB1 c0) | (go_at_call 67; refine (low_any _ _ hsz).mono ?_; rw [show lowB x.name.data.toList = _ from HN.out]; rintro e w3 ⟨rfl, rfl⟩) | (go_at_call 68; refine (pin_any x.tp x.tc _ _ _ _ _ _ _ _ _ _ _ _ l lb _ hp HL4.out (H.out.up HB4.out) HOK.out).mono ?_; rw [HQ_.out]; rintro e w6 ⟨rfl, hB6⟩; have HB6 := hide (Below.to HB4.out hB6 (Nat.le_refl _)); have o0 := cellOf (box_to HP4.out hB6) 0; have o1 := cellOf (box_to HP4.out hB6) 1; have o2 := cellOf (box_to HP4.out hB6) 2; have o3 := cellOf (box_to HP4.out hB6) 3; have o4 := cellOf (box_to HP4.out hB6) 4; have o5 := cellOf (box_to HP4.out hB6) 5; have o6 := cellOf (box_to HP4.out hB6) 6; have v0 := cellOf (HL4.out.to hB6) 0; have v1 := cellOf (HL4.out.to hB6) 1; have v2 := cellOf (HL4.out.to hB6) 2; have v3 := cellOf (HL4.out.to hB6) 3; have v4 := cellOf (HL4.out.to hB6) 4; have v5 := cellOf (HL4.out.to hB6) 5; have lp6 := box_lt (box_to HP4.out hB6); have ll6 := box_lt (HL4.out.to hB6); clear hB6 s4 p0 p1 p2 p3 p4 p5 p6 r0 r1 r2 r3 r4 r5 lp4 ls4 ll4) | (go_at_call 68; refine (pin_any x.fp x.fc _ _ _ _ _ _ _ _ _ _ _ _ l lb _ hp HL1.out (H.out.up HB1.out) HOK.out).mono ?_; rw [HP_.out]; rintro e w4 ⟨rfl, hB4⟩; have HB4 := hide (Below.to HB1.out hB4 (Nat.le_refl _)); have HL4 := hide (HL1.out.to hB4); have p0 := cellOf (box_to HP1.out hB4) 0; have p1 := cellOf (box_to HP1.out hB4) 1; have p2 := cellOf (box_to HP1.out hB4) 2; have p3 := cellOf (box_to HP1.out hB4) 3; have p4 := cellOf (box_to HP1.out hB4) 4; have p5 := cellOf (box_to HP1.out hB4) 5; have p6 := cellOf (box_to HP1.out hB4) 6; have r0 := cellOf (HL1.out.to hB4) 0; have r1 := cellOf (HL1.out.to hB4) 1; have r2 := cellOf (HL1.out.to hB4) 2; have r3 := cellOf (HL1.out.to hB4) 3; have r4 := cellOf (HL1.out.to hB4) 4; have r5 := cellOf (HL1.out.to hB4) 5; have s4 := cellOf (HS1.out.to hB4) 0; have HS4 := hide (HS1.out.to hB4); have HP4 := hide (box_to HP1.out hB4); have lp4 := box_lt (box_to HP1.out hB4); have ls4 := box_lt (HS1.out.to hB4); have ll4 := box_lt (HL1.out.to hB4); clear hB4 s0 z0 z1 z2 z3 z4 z5 z6 y0 y1 y2 y3 y4 y5 ly lz ls) | (go_at_call 54; refine (withinB_any _ _ _ _ _ HZ.out).mono ?_; rintro e w5 ⟨rfl, rfl⟩))
                go_ret
                exact ⟨rfl, HB6.out⟩
              · have m1 : (x.fp == x.tp) = false := by simpa using n1
                clear n1 hE
                go_enter Try.func70, Try.ntmps70
                go_upto_region 1 with (fail)
                generalize hw0 : World.alloc _ _ = w0
                obtain ⟨hb0, hB0, hs0⟩ := alloc1 hw0
                have HP := hide hb0
                have HB0 := hide hB0
                have HL := hide (HL0.out.to hB0)
                have HS0 := hide (HSB.out.to hB0)
                have c0 := cellOf HL.out 5
                have hlb := box_lt HL.out
                have hct := contains_wires (fun q => bytes q.name == bytes x.name) (.pointer (some ⟨w.heap.size, 0, none⟩)) (.slice A5 i q5) (l.ws.take i) w0 (by simp; omega) (Wis.take (H.out.up hB0).w (by omega)) (fun j y Ag qg W _ _ hW => sameWi_any y x Ag Af qg qf x.form.length y.form.length _ W (box_to hb0 hW))
                have HCT := hide hct
                have hiq : (i : Int) ≤ (q5 : Int) := by have := wi_cap (H.out.up hB0).w; omega
                have hiq2 : (i : Int) ≤ (l.ws.length : Int) := by omega
                clear hb0 hB0 hs0 hw0 hct
                go_wp2_with (first | (go_at_call 71; refine HCT.out.mono ?_; rw [HT'.out]; rintro e w1 ⟨rfl, hB1⟩; have y0 := cellOf (HL.out.to hB1) 0; have y1 := cellOf (HL.out.to hB1) 1; have y2 := cellOf (HL.out.to hB1) 2; have y3 := cellOf (HL.out.to hB1) 3; have y4 := cellOf (HL.out.to hB1) 4; have y5 := cellOf (HL.out.to hB1) 5; have z0 := cellOf (box_to HP.out hB1) 0; have z1 := cellOf (box_to HP.out hB1) 1; have z2 := cellOf (box_to HP.out hB1) 2; have z3 := cellOf (box_to HP.out hB1) 3; have z4 := cellOf (box_to HP.out hB1) 4; have z5 := cellOf (box_to HP.out hB1) 5; have z6 := cellOf (box_to HP.out hB1) 6; have s0 := cellOf (HS0.out.to hB1) 0; have ly := box_lt (HL.out.to hB1); have lz := box_lt (box_to HP.out hB1); have ls := box_lt (HS0.out.to hB1); have HB1 := hide (Below.to HB0.out hB1 (Nat.le_refl _)); have HL1 := hide (HL.out.to hB1); have HS1 := hide (HS0.out.to hB1); have HP1 := hide (box_to HP.out hB1); clear hB1 c0) | (go_at_call 67; refine (low_any _ _ hsz).mono ?_; rw [show lowB x.name.data.toList = _ from HN.out]; rintro e w3 ⟨rfl, rfl⟩) | (go_at_call 68; refine (pin_any x.tp x.tc _ _ _ _ _ _ _ _ _ _ _ _ l lb _ hp HL4.out (H.out.up HB4.out) HOK.out).mono ?_; rw [HQ_.out]; rintro e w6 ⟨rfl, hB6⟩; have HB6 := hide (Below.to HB4.out hB6 (Nat.le_refl _)); have o0 := cellOf (box_to HP4.out hB6) 0; have o1 := cellOf (box_to HP4.out hB6) 1; have o2 := cellOf (box_to HP4.out hB6) 2; have o3 := cellOf (box_to HP4.out hB6) 3; have o4 := cellOf (box_to HP4.out hB6) 4; have o5 := cellOf (box_to HP4.out hB6) 5; have o6 := cellOf (box_to HP4.out hB6) 6; have v0 := cellOf (HL4.out.to hB6) 0; have v1 := cellOf (HL4.out.to hB6) 1; have v2 := cellOf (HL4.out.to hB6) 2; have v3 := cellOf (HL4.out.to hB6) 3; have v4 := cellOf (HL4.out.to hB6) 4; have v5 := cellOf (HL4.out.to hB6) 5; have lp6 := box_lt (box_to HP4.out hB6); have ll6 := box_lt (HL4.out.to hB6); clear hB6 s4 p0 p1 p2 p3 p4 p5 p6 r0 r1 r2 r3 r4 r5 lp4 ls4 ll4) | (go_at_call 68; refine (pin_any x.fp x.fc _ _ _ _ _ _ _ _ _ _ _ _ l lb _ hp HL1.out (H.out.up HB1.out) HOK.out).mono ?_; rw [HP_.out]; rintro e w4 ⟨rfl, hB4⟩; have HB4 := hide (Below.to HB1.out hB4 (Nat.le_refl _)); have HL4 := hide (HL1.out.to hB4); have p0 := cellOf (box_to HP1.out hB4) 0; have p1 := cellOf (box_to HP1.out hB4) 1; have p2 := cellOf (box_to HP1.out hB4) 2; have p3 := cellOf (box_to HP1.out hB4) 3; have p4 := cellOf (box_to HP1.out hB4) 4; have p5 := cellOf (box_to HP1.out hB4) 5; have p6 := cellOf (box_to HP1.out hB4) 6; have r0 := cellOf (HL1.out.to hB4) 0; have r1 := cellOf (HL1.out.to hB4) 1; have r2 := cellOf (HL1.out.to hB4) 2; have r3 := cellOf (HL1.out.to hB4) 3; have r4 := cellOf (HL1.out.to hB4) 4; have r5 := cellOf (HL1.out.to hB4) 5; have s4 := cellOf (HS1.out.to hB4) 0; have HS4 := hide (HS1.out.to hB4); have HP4 := hide (box_to HP1.out hB4); have lp4 := box_lt (box_to HP1.out hB4); have ls4 := box_lt (HS1.out.to hB4); have ll4 := box_lt (HL1.out.to hB4); clear hB4 s0 z0 z1 z2 z3 z4 z5 z6 y0 y1 y2 y3 y4 y5 ly lz ls) | (go_at_call 54; refine (withinB_any _ _ _ _ _ HZ.out).mono ?_; rintro e w5 ⟨rfl, rfl⟩))
                go_ret
                exact ⟨rfl, HB6.out⟩
            | true =>
              have hr : wiErr l i = mustE (validF l.m.opts.length x.form) 11 := by
                unfold wiErr
                have h2 : wiOk l i = true := by unfold wiOk; rw [hx]; rw [hN, hT, hP, hQ, hE, hZ]; rfl
                rw [h2, hx]
                cases validF l.m.opts.length x.form <;> rfl
              rw [hr]
              clear hr
              have HN := hide hN
              have HT' := hide hT
              have HP_ := hide hP
              have HQ_ := hide hQ
              have HZ := hide hZ
              clear hN hT hP hQ hZ
              have hef := hEF
              obtain ⟨ef, hef2⟩ : ∃ e, validF l.m.opts.length x.form = e := ⟨_, rfl⟩
              rw [hef2] at hef ⊢
              have hvb : ((if ef = true then (0 : Int) else 11) == 0) = ef := by cases ef <;> rfl
              obtain ⟨en, hen⟩ : ∃ n : Int, (if ef = true then (0 : Int) else 11) = n := ⟨_, rfl⟩
              rw [hen] at hef hvb
              have HEF := hide hef
              clear hef hef2 hen
              clear hEF
              by_cases n1 : x.fp = x.tp
              · have m1 : (x.fp == x.tp) = true := by simp [n1]
                have m2 : (x.fc == x.tc) = false := by simpa [n1] using hE
                clear n1 hE
                go_enter Try.func70, Try.ntmps70
                go_upto_region 1 with (fail)
                generalize hw0 : World.alloc _ _ = w0
                obtain ⟨hb0, hB0, hs0⟩ := alloc1 hw0
                have HP := hide hb0
                have HB0 := hide hB0
                have HL := hide (HL0.out.to hB0)
                have HS0 := hide (HSB.out.to hB0)
                have c0 := cellOf HL.out 5
                have hlb := box_lt HL.out
                have hct := contains_wires (fun q => bytes q.name == bytes x.name) (.pointer (some ⟨w.heap.size, 0, none⟩)) (.slice A5 i q5) (l.ws.take i) w0 (by simp; omega) (Wis.take (H.out.up hB0).w (by omega)) (fun j y Ag qg W _ _ hW => sameWi_any y x Ag Af qg qf x.form.length y.form.length _ W (box_to hb0 hW))
                have HCT := hide hct
                have hiq : (i : Int) ≤ (q5 : Int) := by have := wi_cap (H.out.up hB0).w; omega
                have hiq2 : (i : Int) ≤ (l.ws.length : Int) := by omega
                clear hb0 hB0 hs0 hw0 hct
                go_wp2_with (first | (go_at_call 71; refine HCT.out.mono ?_; rw [HT'.out]; rintro e w1 ⟨rfl, hB1⟩; have y0 := cellOf (HL.out.to hB1) 0; have y1 := cellOf (HL.out.to hB1) 1; have y2 := cellOf (HL.out.to hB1) 2; have y3 := cellOf (HL.out.to hB1) 3; have y4 := cellOf (HL.out.to hB1) 4; have y5 := cellOf (HL.out.to hB1) 5; have z0 := cellOf (box_to HP.out hB1) 0; have z1 := cellOf (box_to HP.out hB1) 1; have z2 := cellOf (box_to HP.out hB1) 2; have z3 := cellOf (box_to HP.out hB1) 3; have z4 := cellOf (box_to HP.out hB1) 4; have z5 := cellOf (box_to HP.out hB1) 5; have z6 := cellOf (box_to HP.out hB1) 6; have s0 := cellOf (HS0.out.to hB1) 0; have ly := box_lt (HL.out.to hB1); have lz := box_lt (box_to HP.out hB1); have ls := box_lt (HS0.out.to hB1); have HB1 := hide (Below.to HB0.out hB1 (Nat.le_refl _)); have HL1 := hide (HL.out.to hB1); have HS1 := hide (HS0.out.to hB1); have HP1 := hide (box_to HP.out hB1); clear hB1 c0) | (go_at_call 67; refine (low_any _ _ hsz).mono ?_; rw [show lowB x.name.data.toList = _ from HN.out]; rintro e w3 ⟨rfl, rfl⟩) | (go_at_call 68; refine (pin_any x.tp x.tc _ _ _ _ _ _ _ _ _ _ _ _ l lb _ hp HL4.out (H.out.up HB4.out) HOK.out).mono ?_; rw [HQ_.out]; rintro e w6 ⟨rfl, hB6⟩; have HB6 := hide (Below.to HB4.out hB6 (Nat.le_refl _)); have o0 := cellOf (box_to HP4.out hB6) 0; have o1 := cellOf (box_to HP4.out hB6) 1; have o2 := cellOf (box_to HP4.out hB6) 2; have o3 := cellOf (box_to HP4.out hB6) 3; have o4 := cellOf (box_to HP4.out hB6) 4; have o5 := cellOf (box_to HP4.out hB6) 5; have o6 := cellOf (box_to HP4.out hB6) 6; have v0 := cellOf (HL4.out.to hB6) 0; have v1 := cellOf (HL4.out.to hB6) 1; have v2 := cellOf (HL4.out.to hB6) 2; have v3 := cellOf (HL4.out.to hB6) 3; have v4 := cellOf (HL4.out.to hB6) 4; have v5 := cellOf (HL4.out.to hB6) 5; have lp6 := box_lt (box_to HP4.out hB6); have ll6 := box_lt (HL4.out.to hB6); clear hB6 s4 p0 p1 p2 p3 p4 p5 p6 r0 r1 r2 r3 r4 r5 lp4 ls4 ll4) | (go_at_call 68; refine (pin_any x.fp x.fc _ _ _ _ _ _ _ _ _ _ _ _ l lb _ hp HL1.out (H.out.up HB1.out) HOK.out).mono ?_; rw [HP_.out]; rintro e w4 ⟨rfl, hB4⟩; have HB4 := hide (Below.to HB1.out hB4 (Nat.le_refl _)); have HL4 := hide (HL1.out.to hB4); have p0 := cellOf (box_to HP1.out hB4) 0; have p1 := cellOf (box_to HP1.out hB4) 1; have p2 := cellOf (box_to HP1.out hB4) 2; have p3 := cellOf (box_to HP1.out hB4) 3; have p4 := cellOf (box_to HP1.out hB4) 4; have p5 := cellOf (box_to HP1.out hB4) 5; have p6 := cellOf (box_to HP1.out hB4) 6; have r0 := cellOf (HL1.out.to hB4) 0; have r1 := cellOf (HL1.out.to hB4) 1; have r2 := cellOf (HL1.out.to hB4) 2; have r3 := cellOf (HL1.out.to hB4) 3; have r4 := cellOf (HL1.out.to hB4) 4; have r5 := cellOf (HL1.out.to hB4) 5; have s4 := cellOf (HS1.out.to hB4) 0; have HS4 := hide (HS1.out.to hB4); have HP4 := hide (box_to HP1.out hB4); have lp4 := box_lt (box_to HP1.out hB4); have ls4 := box_lt (HS1.out.to hB4); have ll4 := box_lt (HL1.out.to hB4); clear hB4 s0 z0 z1 z2 z3 z4 z5 z6 y0 y1 y2 y3 y4 y5 ly lz ls) | (go_at_call 54; refine (withinB_any _ _ _ _ _ HZ.out).mono ?_; rintro e w5 ⟨rfl, rfl⟩) | (go_at_call 73; refine (CheckFormula_any l.m x.form _ _ _ _ HSZ.out hfl (H.out.up HB6.out).m (HFO.out.up HB6.out)).mono ?_; rw [HEF.out]; rintro e w8 ⟨rfl, hB8⟩; have HB8 := hide (Below.to HB6.out hB8 (Nat.le_refl _)); clear hB8) | (go_at_call 57; refine (must_any _ _ _).mono ?_; rintro e w9 ⟨rfl, rfl⟩))
                go_ret
                exact ⟨rfl, HB8.out⟩
              · have m1 : (x.fp == x.tp) = false := by simpa using n1
                clear n1 hE
                go_enter Try.func70, Try.ntmps70
                go_upto_region 1 with (fail)
                generalize hw0 : World.alloc _ _ = w0
                obtain ⟨hb0, hB0, hs0⟩ := alloc1 hw0
                have HP := hide hb0
                have HB0 := hide hB0
                have HL := hide (HL0.out.to hB0)
                have HS0 := hide (HSB.out.to hB0)
                have c0 := cellOf HL.out 5
                have hlb := box_lt HL.out
                have hct := contains_wires (fun q => bytes q.name == bytes x.name) (.pointer (some ⟨w.heap.size, 0, none⟩)) (.slice A5 i q5) (l.ws.take i) w0 (by simp; omega) (Wis.take (H.out.up hB0).w (by omega)) (fun j y Ag qg W _ _ hW => sameWi_any y x Ag Af qg qf x.form.length y.form.length _ W (box_to hb0 hW))
                have HCT := hide hct
                have hiq : (i : Int) ≤ (q5 : Int) := by have := wi_cap (H.out.up hB0).w; omega
                have hiq2 : (i : Int) ≤ (l.ws.length : Int) := by omega
                clear hb0 hB0 hs0 hw0 hct
                go_wp2_with (first | (go_at_call 71; refine HCT.out.mono ?_; rw [HT'.out]; rintro e w1 ⟨rfl, hB1⟩; have y0 := cellOf (HL.out.to hB1) 0; have y1 := cellOf (HL.out.to hB1) 1; have y2 := cellOf (HL.out.to hB1) 2; have y3 := cellOf (HL.out.to hB1) 3; have y4 := cellOf (HL.out.to hB1) 4; have y5 := cellOf (HL.out.to hB1) 5; have z0 := cellOf (box_to HP.out hB1) 0; have z1 := cellOf (box_to HP.out hB1) 1; have z2 := cellOf (box_to HP.out hB1) 2; have z3 := cellOf (box_to HP.out hB1) 3; have z4 := cellOf (box_to HP.out hB1) 4; have z5 := cellOf (box_to HP.out hB1) 5; have z6 := cellOf (box_to HP.out hB1) 6; have s0 := cellOf (HS0.out.to hB1) 0; have ly := box_lt (HL.out.to hB1); have lz := box_lt (box_to HP.out hB1); have ls := box_lt (HS0.out.to hB1); have HB1 := hide (Below.to HB0.out hB1 (Nat.le_refl _)); have HL1 := hide (HL.out.to hB1); have HS1 := hide (HS0.out.to hB1); have HP1 := hide (box_to HP.out hB1); clear hB1 c0) | (go_at_call 67; refine (low_any _ _ hsz).mono ?_; rw [show lowB x.name.data.toList = _ from HN.out]; rintro e w3 ⟨rfl, rfl⟩) | (go_at_call 68; refine (pin_any x.tp x.tc _ _ _ _ _ _ _ _ _ _ _ _ l lb _ hp HL4.out (H.out.up HB4.out) HOK.out).mono ?_; rw [HQ_.out]; rintro e w6 ⟨rfl, hB6⟩; have HB6 := hide (Below.to HB4.out hB6 (Nat.le_refl _)); have o0 := cellOf (box_to HP4.out hB6) 0; have o1 := cellOf (box_to HP4.out hB6) 1; have o2 := cellOf (box_to HP4.out hB6) 2; have o3 := cellOf (box_to HP4.out hB6) 3; have o4 := cellOf (box_to HP4.out hB6) 4; have o5 := cellOf (box_to HP4.out hB6) 5; have o6 := cellOf (box_to HP4.out hB6) 6; have v0 := cellOf (HL4.out.to hB6) 0; have v1 := cellOf (HL4.out.to hB6) 1; have v2 := cellOf (HL4.out.to hB6) 2; have v3 := cellOf (HL4.out.to hB6) 3; have v4 := cellOf (HL4.out.to hB6) 4; have v5 := cellOf (HL4.out.to hB6) 5; have lp6 := box_lt (box_to HP4.out hB6); have ll6 := box_lt (HL4.out.to hB6); clear hB6 s4 p0 p1 p2 p3 p4 p5 p6 r0 r1 r2 r3 r4 r5 lp4 ls4 ll4) | (go_at_call 68; refine (pin_any x.fp x.fc _ _ _ _ _ _ _ _ _ _ _ _ l lb _ hp HL1.out (H.out.up HB1.out) HOK.out).mono ?_; rw [HP_.out]; rintro e w4 ⟨rfl, hB4⟩; have HB4 := hide (Below.to HB1.out hB4 (Nat.le_refl _)); have HL4 := hide (HL1.out.to hB4); have p0 := cellOf (box_to HP1.out hB4) 0; have p1 := cellOf (box_to HP1.out hB4) 1; have p2 := cellOf (box_to HP1.out hB4) 2; have p3 := cellOf (box_to HP1.out hB4) 3; have p4 := cellOf (box_to HP1.out hB4) 4; have p5 := cellOf (box_to HP1.out hB4) 5; have p6 := cellOf (box_to HP1.out hB4) 6; have r0 := cellOf (HL1.out.to hB4) 0; have r1 := cellOf (HL1.out.to hB4) 1; have r2 := cellOf (HL1.out.to hB4) 2; have r3 := cellOf (HL1.out.to hB4) 3; have r4 := cellOf (HL1.out.to hB4) 4; have r5 := cellOf (HL1.out.to hB4) 5; have s4 := cellOf (HS1.out.to hB4) 0; have HS4 := hide (HS1.out.to hB4); have HP4 := hide (box_to HP1.out hB4); have lp4 := box_lt (box_to HP1.out hB4); have ls4 := box_lt (HS1.out.to hB4); have ll4 := box_lt (HL1.out.to hB4); clear hB4 s0 z0 z1 z2 z3 z4 z5 z6 y0 y1 y2 y3 y4 y5 ly lz ls) | (go_at_call 54; refine (withinB_any _ _ _ _ _ HZ.out).mono ?_; rintro e w5 ⟨rfl, rfl⟩) | (go_at_call 73; refine (CheckFormula_any l.m x.form _ _ _ _ HSZ.out hfl (H.out.up HB6.out).m (HFO.out.up HB6.out)).mono ?_; rw [HEF.out]; rintro e w8 ⟨rfl, hB8⟩; have HB8 := hide (Below.to HB6.out hB8 (Nat.le_refl _)); clear hB8) | (go_at_call 57; refine (must_any _ _ _).mono ?_; rintro e w9 ⟨rfl, rfl⟩))
                go_ret
                exact ⟨rfl, HB8.out⟩
end Go.Proofs.Ytmabfnddedffoaa
/- Check: the walk. -/
namespace Go.Proofs.Ytmabfnddedffoaa
open Go.RowKit
set_option linter.unusedVariables false
set_option linter.unusedSimpArgs false
theorem firstE_mustE (p : Nat → Bool) {c : Int} (hc : c ≠ 0) (n : Nat) : firstE (fun i => mustE (p i) c) n = mustE ((List.range n).all p) c := by
  have h := firstE_must p hc n
  unfold mustE
  rw [h]
  cases (List.range n).all p <;> simp
theorem Ru.ok_in {l : Lo} (h : l.us.all (Ru.ok l.ss) = true) : RunsIn l := by
  intro x hx
  have h1 := List.all_eq_true.1 h x hx
  unfold Ru.ok at h1
  simp only [Bool.and_eq_true, btw_iff] at h1
  obtain ⟨⟨⟨⟨⟨h2, h3⟩, _⟩, _⟩, _⟩, _⟩ := h1
  omega
theorem getD_all {α : Type} {z : α} {l : List α} {R : α → Prop} (h : ∀ x ∈ l, R x) {i : Nat} (hi : i < l.length) : R (l.getD i z) := h _ (getD_mem3 hi)
section
variable {l : Lo}
theorem err_m (h : l.m.err ≠ 0) : l.err = l.m.err := by unfold Lo.err; rw [if_pos h]
theorem err_many (h : l.m.err = 0) (h2 : l.many = true) : l.err = 2 := by unfold Lo.err; rw [if_neg (by simp [h]), if_pos h2]
theorem err_spot (h : l.m.err = 0) (h2 : l.many = false) (h3 : l.ss.all Sp.ok = false) : l.err = 60 := by unfold Lo.err; rw [if_neg (by simp [h]), if_neg (by simp [h2]), if_pos h3]
theorem err_len (h : l.m.err = 0) (h2 : l.many = false) (h3 : l.ss.all Sp.ok = true) (h4 : l.ss.length = 0 ∨ l.us.length + 1 ≠ l.ss.length) : l.err = 61 := by unfold Lo.err; rw [if_neg (by simp [h]), if_neg (by simp [h2]), if_neg (by simp [h3]), if_pos h4]
theorem err_run (h : l.m.err = 0) (h2 : l.many = false) (h3 : l.ss.all Sp.ok = true) (h4 : ¬ (l.ss.length = 0 ∨ l.us.length + 1 ≠ l.ss.length)) (h5 : l.us.all (Ru.ok l.ss) = false) : l.err = 61 := by unfold Lo.err; rw [if_neg (by simp [h]), if_neg (by simp [h2]), if_neg (by simp [h3]), if_neg h4, if_pos h5]
theorem err_full (h : l.m.err = 0) (h2 : l.many = false) (h3 : l.ss.all Sp.ok = true) (h4 : ¬ (l.ss.length = 0 ∨ l.us.length + 1 ≠ l.ss.length)) (h5 : l.us.all (Ru.ok l.ss) = true) (h6 : l.full = false) : l.err = 61 := by unfold Lo.err; rw [if_neg (by simp [h]), if_neg (by simp [h2]), if_neg (by simp [h3]), if_neg h4, if_neg (by simp [h5]), if_pos h6]
theorem err_plug (h : l.m.err = 0) (h2 : l.many = false) (h3 : l.ss.all Sp.ok = true) (h4 : ¬ (l.ss.length = 0 ∨ l.us.length + 1 ≠ l.ss.length)) (h5 : l.us.all (Ru.ok l.ss) = true) (h6 : l.full = true) (h7 : (List.range l.ps.length).all (plOk l) = false) : l.err = 62 := by unfold Lo.err; rw [if_neg (by simp [h]), if_neg (by simp [h2]), if_neg (by simp [h3]), if_neg h4, if_neg (by simp [h5]), if_neg (by simp [h6]), if_pos h7]
theorem err_wire (h : l.m.err = 0) (h2 : l.many = false) (h3 : l.ss.all Sp.ok = true) (h4 : ¬ (l.ss.length = 0 ∨ l.us.length + 1 ≠ l.ss.length)) (h5 : l.us.all (Ru.ok l.ss) = true) (h6 : l.full = true) (h7 : (List.range l.ps.length).all (plOk l) = true) : l.err = wiresErr l l.ws.length := by unfold Lo.err; rw [if_neg (by simp [h]), if_neg (by simp [h2]), if_neg (by simp [h3]), if_neg h4, if_neg (by simp [h5]), if_neg (by simp [h6]), if_neg (by simp [h7])]
end
set_option maxRecDepth 100000 in
set_option maxHeartbeats 8000000 in
theorem Check_any (A0 A1 A2 A3 A4 A5 : Option Addr) (q0 q1 q2 q3 q4 q5 : Nat) (l : Lo) (w : World) (hs : SizedL l) (h : LoA w w.heap.size A0 A1 A2 A3 A4 A5 q0 q1 q2 q3 q4 q5 l) :
    Calls Try.prog 17 #[.agg #[.slice A0 l.m.opts.length q0, .slice A1 l.m.rules.length q1, .slice A2 l.ss.length q2, .slice A3 l.us.length q3, .slice A4 l.ps.length q4, .slice A5 l.ws.length q5]] w fun e w' => e = .returned (.int .i64 l.err) ∧ Below w.heap.size w w' := by
  have H := hide h
  have HS := hide hs
  clear h hs
  go_enter Try.func17, Try.ntmps17
  go_upto_region 1 with (fail)
  generalize hw0 : World.alloc _ _ = w0
  obtain ⟨hb0, hB0, hs0⟩ := alloc1 hw0
  have HL0 : Hid (LoBox w0 w.heap.size A0 A1 A2 A3 A4 A5 q0 q1 q2 q3 q4 q5 l) := hb0
  have HB0 := hide hB0
  have c0 := cellOf hb0 0; have c1 := cellOf hb0 1; have c2 := cellOf hb0 2; have c3 := cellOf hb0 3; have c4 := cellOf hb0 4; have c5 := cellOf hb0 5
  have hlb := box_lt hb0
  have hck := CheckModel_any l.m _ _ w0 HS.out.m (H.out.up hB0).m
  have HCK := hide hck
  clear hw0 hb0 hB0 hs0 hck
  by_cases he : l.m.err = 0
  case neg =>
    obtain ⟨z, hz⟩ : ∃ z, l.m.err = z := ⟨_, rfl⟩
    have hz1 : (z != 0) = true := by rw [← hz]; simpa using he
    have hz2 : l.err = z := by rw [err_m he, hz]
    have HZ := hide hz
    have HZ2 := hide hz2
    clear hz hz2 he
    go_wp2_with (go_at_call 52; refine HCK.out.mono ?_; rw [HZ.out]; rintro e w1 ⟨rfl, hB1⟩)
    go_ret
    exact ⟨ret_int HZ2.out.symm, Below.to HB0.out hB1 (Nat.le_refl _)⟩
  case pos =>
  have HE := hide he
  clear he
  go_upto_region 4 with (go_at_call 52; refine HCK.out.mono ?_; rw [HE.out]; rintro e w1 ⟨rfl, hB1⟩; have d0 := cellOf (HL0.out.to hB1) 0; have d1 := cellOf (HL0.out.to hB1) 1; have d2 := cellOf (HL0.out.to hB1) 2; have d3 := cellOf (HL0.out.to hB1) 3; have d4 := cellOf (HL0.out.to hB1) 4; have d5 := cellOf (HL0.out.to hB1) 5; have hlb1 := box_lt (HL0.out.to hB1); have HL1 := hide (HL0.out.to hB1); have HB1 := hide (Below.to HB0.out hB1 (Nat.le_refl _)); clear hB1 c0 c1 c2 c3 c4 c5 hlb)
  by_cases t0 : (40 : Int) < (l.ss.length : Int)
  · have hz2 := err_many HE.out (show l.many = true by unfold Lo.many; rw [decide_eq_true (by omega : 40 < l.ss.length)]; simp)
    have HZ2 := hide hz2
    clear hz2
    go_wp2_with fail
    go_ret
    exact ⟨ret_int HZ2.out.symm, HB1.out⟩
  by_cases t1 : (40 : Int) < (l.us.length : Int)
  · have hz2 := err_many HE.out (show l.many = true by unfold Lo.many; rw [decide_eq_true (by omega : 40 < l.us.length)]; simp)
    have HZ2 := hide hz2
    clear hz2
    go_wp2_with fail
    go_ret
    exact ⟨ret_int HZ2.out.symm, HB1.out⟩
  by_cases t2 : (30 : Int) < (l.ps.length : Int)
  · have hz2 := err_many HE.out (show l.many = true by unfold Lo.many; rw [decide_eq_true (by omega : 30 < l.ps.length)]; simp)
    have HZ2 := hide hz2
    clear hz2
    go_wp2_with fail
    go_ret
    exact ⟨ret_int HZ2.out.symm, HB1.out⟩
  by_cases t3 : (60 : Int) < (l.ws.length : Int)
  · have hz2 := err_many HE.out (show l.many = true by unfold Lo.many; rw [decide_eq_true (by omega : 60 < l.ws.length)]; simp)
    have HZ2 := hide hz2
    clear hz2
    go_wp2_with fail
    go_ret
    exact ⟨ret_int HZ2.out.symm, HB1.out⟩
  have m1 : l.many = false := by unfold Lo.many; rw [decide_eq_false (by omega : ¬ 40 < l.ss.length), decide_eq_false (by omega : ¬ 40 < l.us.length), decide_eq_false (by omega : ¬ 30 < l.ps.length), decide_eq_false (by omega : ¬ 60 < l.ws.length)]; rfl
  have HM := hide m1
  have n1 : l.ss.length ≤ 40 := by omega
  have n2 : l.us.length ≤ 40 := by omega
  have n3 : l.ps.length ≤ 30 := by omega
  have n4 : l.ws.length ≤ 60 := by omega
  clear m1
  go_upto_region 7 with (fail)
  generalize hw2 : World.alloc _ _ = w2
  obtain ⟨hb2, hB2, hs2⟩ := alloc1 hw2
  have HP2 : Hid (FnBox w2 w1.heap.size 53 #[] 94) := hb2
  have HL2 := hide (HL1.out.to hB2)
  have HB2 := hide (Below.to HB1.out hB2 (Nat.le_refl _))
  have e0 := cellOf (HL1.out.to hB2) 0; have e1 := cellOf (HL1.out.to hB2) 1; have e2 := cellOf (HL1.out.to hB2) 2; have e3 := cellOf (HL1.out.to hB2) 3; have e4 := cellOf (HL1.out.to hB2) 4; have e5 := cellOf (HL1.out.to hB2) 5
  have hlb2 := box_lt (HL1.out.to hB2)
  have hfs := first_spot (fun i => mustE ((l.ss.getD i Sp.o).ok) 60) (.pointer (some ⟨w1.heap.size, 0, none⟩)) A0 A1 A2 A3 A4 A5 q0 q1 q2 q3 q4 q5 l w2 HS.out.s (H.out.up HB2.out) (fun i x W hi hx hW => by
    rw [hx]
    exact ckSpot_any i x _ W (FnBox.to HP2.out hW))
  rw [firstE_mustE _ (by decide), all_range Sp.o Sp.ok l.ss] at hfs
  have HFS := hide hfs
  clear hw2 hb2 hB2 hs2 hfs d0 d1 d2 d3 d4 d5 hlb1 HB0 HL0 HCK
  cases hsp : l.ss.all Sp.ok with
  | false =>
    have hz2 := err_spot HE.out HM.out hsp
    have HZ2 := hide hz2
    have HSP := hide hsp
    clear hz2 hsp
    have hmu : mustE false 60 = 60 := rfl
    go_wp2_with (go_at_call 55; refine HFS.out.mono ?_; rw [HSP.out, hmu]; rintro e w3 ⟨rfl, hB3⟩)
    go_ret
    exact ⟨ret_int HZ2.out.symm, Below.to HB2.out hB3 (Nat.le_refl _)⟩
  | true =>
  have HSP := hide hsp
  have hmu : mustE true 60 = 0 := rfl
  clear hsp
  go_upto_region 11 with (go_at_call 55; refine HFS.out.mono ?_; rw [HSP.out, hmu]; rintro e w3 ⟨rfl, hB3⟩; have HL3 := hide (HL2.out.to hB3); have HB3 := hide (Below.to HB2.out hB3 (Nat.le_refl _)); clear hB3 e0 e1 e2 e3 e4 e5 hlb2)
  generalize hw4 : World.alloc _ _ = w4
  obtain ⟨hb4, hB4, hs4⟩ := alloc1 hw4
  have HSB4 : Hid (FnBox w4 w3.heap.size 58 #[.pointer (some ⟨w.heap.size, 0, none⟩)] 94) := hb4
  have HL4 := hide (HL3.out.to hB4)
  have HB4 := hide (Below.to HB3.out hB4 (Nat.le_refl _))
  have f0 := cellOf (HL3.out.to hB4) 0; have f1 := cellOf (HL3.out.to hB4) 1; have f2 := cellOf (HL3.out.to hB4) 2; have f3 := cellOf (HL3.out.to hB4) 3; have f4 := cellOf (HL3.out.to hB4) 4; have f5 := cellOf (HL3.out.to hB4) 5
  have hlb4 := box_lt (HL3.out.to hB4)
  clear hw4 hb4 hB4 hs4 HFS HP2 hmu HL1 HB1
  by_cases h0 : l.ss.length = 0
  · have hz2 := err_len HE.out HM.out HSP.out (.inl h0)
    have HZ2 := hide hz2
    have g0 : ((l.ss.length : Int) == 0) = true := by simp [h0]
    clear hz2 h0
    go_wp2_with fail
    go_ret
    exact ⟨ret_int HZ2.out.symm, HB4.out⟩
  have g0 : ((l.ss.length : Int) == 0) = false := by simp; exact fun e => h0 (by rw [e]; rfl)
  have p0 : 0 < l.ss.length := by omega
  by_cases h1 : l.us.length + 1 = l.ss.length
  case neg =>
    have hz2 := err_len HE.out HM.out HSP.out (.inr h1)
    have HZ2 := hide hz2
    have g1 : ((l.us.length : Int) != (l.ss.length : Int) - 1) = true := by simp; omega
    clear hz2 h1 h0
    go_wp2_with fail
    go_ret
    exact ⟨ret_int HZ2.out.symm, HB4.out⟩
  case pos =>
  have g1 : ((l.us.length : Int) != (l.ss.length : Int) - 1) = false := by simp; omega
  have HLEN : Hid (¬ (l.ss.length = 0 ∨ l.us.length + 1 ≠ l.ss.length)) := by show ¬ _; omega
  have hspb : ∀ x ∈ l.ss, x.ok = true := List.all_eq_true.1 HSP.out
  have hfr := first_run (fun i => mustE (Ru.ok l.ss (l.us.getD i Ru.o)) 61) (.pointer (some ⟨w3.heap.size, 0, none⟩)) (.pointer (some ⟨w.heap.size, 0, none⟩)) A0 A1 A2 A3 A4 A5 q0 q1 q2 q3 q4 q5 l w4 HS.out.u (H.out.up HB4.out) (fun i x W hi hx hW => by
    rw [hx]
    exact ckRun_any i x.a x.b x.len x.room A0 A1 A2 A3 A4 A5 q0 q1 q2 q3 q4 q5 l w3.heap.size w.heap.size W HS.out.s (HL4.out.to hW) (FnBox.to HSB4.out hW) ((H.out.up HB4.out).up hW) hspb)
  rw [firstE_mustE _ (by decide), all_range Ru.o (Ru.ok l.ss) l.us] at hfr
  have HFR := hide hfr
  clear hfr h0 h1 hspb
  cases hru : l.us.all (Ru.ok l.ss) with
  | false =>
    have hz2 := err_run HE.out HM.out HSP.out HLEN.out hru
    have HZ2 := hide hz2
    have HRU := hide hru
    clear hz2 hru
    have hmu : mustE false 61 = 61 := rfl
    go_wp2_with (go_at_call 59; refine HFR.out.mono ?_; rw [HRU.out, hmu]; rintro e w5 ⟨rfl, hB5⟩)
    go_ret
    exact ⟨ret_int HZ2.out.symm, Below.to HB4.out hB5 (Nat.le_refl _)⟩
  | true =>
  have HRU := hide hru
  have hrin := Ru.ok_in hru
  have HRIN := hide hrin
  have hmu : mustE true 61 = 0 := rfl
  clear hru hrin
  go_upto_region 16 with (go_at_call 59; refine HFR.out.mono ?_; rw [HRU.out, hmu]; rintro e w5 ⟨rfl, hB5⟩; have HL5 := hide (HL4.out.to hB5); have HB5 := hide (Below.to HB4.out hB5 (Nat.le_refl _)); have HSB5 := hide (FnBox.to HSB4.out hB5); clear hB5 f0 f1 f2 f3 f4 f5 hlb4)
  have k0 := cellOf HL5.out 0; have k1 := cellOf HL5.out 1; have k2 := cellOf HL5.out 2; have k3 := cellOf HL5.out 3; have k4 := cellOf HL5.out 4; have k5 := cellOf HL5.out 5
  have hlb5 := box_lt HL5.out
  obtain ⟨S, hS⟩ : ∃ S, stR l.rs (-1) 0 l.ss.length = S := ⟨_, rfl⟩
  have HSS := hide hS
  have hsl : S.length ≤ l.ss.length := by rw [← hS]; exact stR_len p0 HRIN.out.rs _
  have hfu : l.full = decide (S.length = l.ss.length) := by unfold Lo.full; rw [hS]
  have HFU := hide hfu
  clear hS hfu hmu HFR HL4 HB4 HSB4 HL3 HB3 HL2 HB2
  refine wp_region_held_drew (S := (fun w' => Below w5.heap.size w5 w')) (by kernel_rfl) ?_ (fun hHeld => ?_)
  · try dsimp only
    exact (by repeat (first | exact Below.refl _ _ | assumption | refine Below.drew ?_ | refine Below.drewN ?_ _ | refine Below.allocT ?_ (Nat.le_refl _) _ | refine Below.setCell ?_ (by simp <;> omega) _ | refine Below.to ?_ (by assumption) (Nat.le_refl _)))
  refine wpAnyH_take (i := 0) (v := ?v1_0) rfl (by kernel_rfl) (by kernel_rfl) (by kernel_rfl) (fun _ _ _ h => h) (Or.inl ⟨by rfl, ?y1_0⟩) (by assumption) ?r1_0
  case' y1_0 => (intro w hSw; (try dsimp only at hSw); (try have hlS := HLK.out _ hSw); obtain ⟨hcS, hfS⟩ := bcell hSw; clear hSw; go_simp; try with_reducible rfl)
  try simp only [Act.put, zA, zB, zC, zD, zE, zF]
  refine wpAnyH_take (i := 3) (v := ?v1_3) rfl (by kernel_rfl) (by kernel_rfl) (by kernel_rfl) (fun _ _ _ h => h) (Or.inl ⟨by rfl, ?y1_3⟩) (by assumption) ?r1_3
  case' y1_3 => (intro w hSw; (try dsimp only at hSw); (try have hlS := HLK.out _ hSw); obtain ⟨hcS, hfS⟩ := bcell hSw; clear hSw; go_simp; try with_reducible rfl)
  try simp only [Act.put, zA, zB, zC, zD, zE, zF]
  refine wpAnyH_take (i := 4) (v := ?v1_4) rfl (by kernel_rfl) (by kernel_rfl) (by kernel_rfl) (fun _ _ _ h => h) (Or.inl ⟨by rfl, ?y1_4⟩) (by assumption) ?r1_4
  case' y1_4 => (intro w hSw; (try dsimp only at hSw); (try have hlS := HLK.out _ hSw); obtain ⟨hcS, hfS⟩ := bcell hSw; clear hSw; go_simp; try with_reducible rfl)
  try simp only [Act.put, zA, zB, zC, zD, zE, zF]
  refine wpAnyH_take (i := 5) (v := ?v1_5) rfl (by kernel_rfl) (by kernel_rfl) (by kernel_rfl) (fun _ _ _ h => h) (Or.inl ⟨by rfl, ?y1_5⟩) (by assumption) ?r1_5
  case' y1_5 => (intro w hSw; (try dsimp only at hSw); (try have hlS := HLK.out _ hSw); obtain ⟨hcS, hfS⟩ := bcell hSw; clear hSw; go_simp; try with_reducible rfl)
  try simp only [Act.put, zA, zB, zC, zD, zE, zF]
  refine wpAnyH_ready (rs := [1]) (by kernel_rfl) (by simp) ?_
  refine AllReadyH.cons rfl (fun K hK => ?_) AllReadyH.nil
  go_simp
  ((go_at_call 62; refine (reached_any A0 A1 A2 A3 A4 A5 q0 q1 q2 q3 q4 q5 l 0 (-1) _ ((H.out.up HB5.out).up (by assumption)) HRIN.out p0 n1 n2).mono ?_; rintro e w6 ⟨v6, rfl, hn6, hB6⟩; rw [HSS.out] at hn6; obtain ⟨A6, q6, hv6⟩ := Sl.form hn6; subst hv6; clear hn6))
  (try dsimp only)
  refine hK.out _ _ ?_ (fun hNext => ?_)
  · try dsimp only
    exact (by repeat (first | exact Below.refl _ _ | assumption | refine Below.drew ?_ | refine Below.drewN ?_ _ | refine Below.allocT ?_ (Nat.le_refl _) _ | refine Below.setCell ?_ (by simp <;> omega) _ | refine Below.to ?_ (by assumption) (Nat.le_refl _)))
  clear hK K hHeld
  have hHeld := hNext
  clear hNext
  (try dsimp only at hHeld)
  try simp only [Act.put, zA, zB, zC, zD, zE, zF]
  refine wpAnyH_take (i := 2) (v := ?v1_2) rfl (by kernel_rfl) (by kernel_rfl) (by kernel_rfl) (fun _ _ _ h => h) (Or.inl ⟨by rfl, ?y1_2⟩) (by assumption) ?r1_2
  case' y1_2 => (intro w hSw; (try dsimp only at hSw); (try have hlS := HLK.out _ hSw); obtain ⟨hcS, hfS⟩ := bcell hSw; clear hSw; go_simp; try with_reducible rfl)
  try simp only [Act.put, zA, zB, zC, zD, zE, zF]
  refine wpAnyH_take (i := 6) (v := ?v1_6) rfl (by kernel_rfl) (by kernel_rfl) (by kernel_rfl) (fun _ _ _ h => h) (Or.inl ⟨by rfl, ?y1_6⟩) (by assumption) ?r1_6
  case' y1_6 => (intro w hSw; (try dsimp only at hSw); (try have hlS := HLK.out _ hSw); obtain ⟨hcS, hfS⟩ := bcell hSw; clear hSw; go_simp; try with_reducible rfl)
  try simp only [Act.put, zA, zB, zC, zD, zE, zF]
  refine wpAnyH_done (by kernel_rfl) ?_ _
  have HB6 := hide (Below.to HB5.out hHeld (Nat.le_refl _))
  have HL6 := hide (HL5.out.to hHeld)
  have HSB6 := hide (FnBox.to HSB5.out hHeld)
  clear hHeld k0 k1 k2 k3 k4 k5 hlb5
  by_cases hfl : S.length = l.ss.length
  case neg =>
    have hz2 := err_full HE.out HM.out HSP.out HLEN.out HRU.out (by rw [HFU.out, decide_eq_false hfl])
    have HZ2 := hide hz2
    have g2 : ((S.length : Int) != (l.ss.length : Int)) = true := by simp; omega
    clear hz2 hfl
    go_wp2_with fail
    go_ret
    exact ⟨ret_int HZ2.out.symm, HB6.out⟩
  case pos =>
  have HFL : Hid (l.full = true) := by show _ = _; rw [HFU.out, decide_eq_true hfl]
  have g2 : ((S.length : Int) != (l.ss.length : Int)) = false := by simp; omega
  clear hfl
  have m0 := cellOf HL6.out 0; have m1 := cellOf HL6.out 1; have m2 := cellOf HL6.out 2; have m3 := cellOf HL6.out 3; have m4 := cellOf HL6.out 4; have m5 := cellOf HL6.out 5
  have hlb6 := box_lt HL6.out
  have hfp := first_plug (fun i => mustE (plOk l i) 62) (.pointer (some ⟨w.heap.size, 0, none⟩)) (.pointer (some ⟨w3.heap.size, 0, none⟩)) A0 A1 A2 A3 A4 A5 q0 q1 q2 q3 q4 q5 l _ HS.out.p (H.out.up HB6.out) (fun i x W hi hx hW =>
    ckPlug_any i x A0 A1 A2 A3 A4 A5 q0 q1 q2 q3 q4 q5 l w.heap.size w3.heap.size W hi hx (by rw [← hx]; exact getD_all HS.out.pn hi) HS.out.s HS.out.p (HL6.out.to hW) (FnBox.to HSB6.out hW) ((H.out.up HB6.out).up hW))
  rw [firstE_mustE _ (by decide)] at hfp
  have HFP := hide hfp
  clear hfp
  cases hpl : (List.range l.ps.length).all (plOk l) with
  | false =>
    have hz2 := err_plug HE.out HM.out HSP.out HLEN.out HRU.out HFL.out hpl
    have HZ2 := hide hz2
    have HPL := hide hpl
    clear hz2 hpl
    have hmu : mustE false 62 = 62 := rfl
    go_wp2_with (go_at_call 63; refine HFP.out.mono ?_; rw [HPL.out, hmu]; rintro e w7 ⟨rfl, hB7⟩)
    go_ret
    exact ⟨ret_int HZ2.out.symm, Below.to HB6.out hB7 (Nat.le_refl _)⟩
  | true =>
  have HPL := hide hpl
  have hmu : mustE true 62 = 0 := rfl
  clear hpl
  have hpok : ∀ k, k < l.ps.length → plOk l k = true := fun k hk => List.all_eq_true.1 HPL.out k (by simpa using hk)
  have HPOK := hide hpok
  clear hpok
  go_upto_region 22 with (go_at_call 63; refine HFP.out.mono ?_; rw [HPL.out, hmu]; rintro e w7 ⟨rfl, hB7⟩; have HL7 := hide (HL6.out.to hB7); have HB7 := hide (Below.to HB6.out hB7 (Nat.le_refl _)); clear hB7 m0 m1 m2 m3 m4 m5 hlb6)
  generalize hw8 : World.alloc _ _ = w8
  obtain ⟨hb8, hB8, hs8⟩ := alloc1 hw8
  have HPB8 : Hid (FnBox w8 w7.heap.size 68 #[.pointer (some ⟨w.heap.size, 0, none⟩)] 109) := hb8
  have HL8 := hide (HL7.out.to hB8)
  have HB8 := hide (Below.to HB7.out hB8 (Nat.le_refl _))
  have o0 := cellOf (HL7.out.to hB8) 0; have o1 := cellOf (HL7.out.to hB8) 1; have o2 := cellOf (HL7.out.to hB8) 2; have o3 := cellOf (HL7.out.to hB8) 3; have o4 := cellOf (HL7.out.to hB8) 4; have o5 := cellOf (HL7.out.to hB8) 5
  have hlb8 := box_lt (HL7.out.to hB8)
  have hfw := first_wire (wiErr l) (.pointer (some ⟨w.heap.size, 0, none⟩)) (.pointer (some ⟨w7.heap.size, 0, none⟩)) A0 A1 A2 A3 A4 A5 q0 q1 q2 q3 q4 q5 l w8 HS.out.w (H.out.up HB8.out) (fun i x Af qf W hi hx hW hf =>
    ckWire_any i x Af qf A0 A1 A2 A3 A4 A5 q0 q1 q2 q3 q4 q5 l w.heap.size w7.heap.size W hi hx (by rw [← hx]; exact (getD_all HS.out.wn hi).1) (by rw [← hx]; exact (getD_all HS.out.wn hi).2) HS.out.p HS.out.w HS.out.m HE.out (HL8.out.to hW) (FnBox.to HPB8.out hW) ((H.out.up HB8.out).up hW) HPOK.out hf)
  rw [firstE_wires, ← err_wire HE.out HM.out HSP.out HLEN.out HRU.out HFL.out HPL.out] at hfw
  have HFW := hide hfw
  clear hw8 hb8 hB8 hs8 hfw
  go_wp2_with (go_at_call 69; refine HFW.out.mono ?_; rintro e w9 ⟨rfl, hB9⟩)
  go_ret
  exact ⟨rfl, Below.to HB8.out hB9 (Nat.le_refl _)⟩
end Go.Proofs.Ytmabfnddedffoaa
/- The wires through a run; the example of the laws: plain. -/
namespace Go.Proofs.Ytmabfnddedffoaa
set_option linter.unusedVariables false
set_option linter.unusedSimpArgs false
set_option linter.unusedSectionVars false
/-- The spots of a wire's plugs. -/
def endF (l : Lo) (i : Nat) : Nat := (l.ps.getD (l.ws.getD i Wi.o).fp.toNat Pl.o).spot.toNat
def endT (l : Lo) (i : Nat) : Nat := (l.ps.getD (l.ws.getD i Wi.o).tp.toNat Pl.o).spot.toNat
def sideL (l : Lo) (run : Nat) : List Nat := stR l.rs run (l.rs.getD run (0, 0)).1 l.ss.length
def thruB (l : Lo) (run i : Nat) : Bool := decide (endF l i ∈ sideL l run) != decide (endT l i ∈ sideL l run)
def thruL (l : Lo) (run : Nat) : List Nat := (List.range l.ws.length).filter (thruB l run)
def runLen (l : Lo) (k : Nat) : Int := (l.us.getD k Ru.o).len
section
variable {l : Lo} (h : LoOk l)
include h
theorem LoOk.wi {i : Nat} (hi : i < l.ws.length) : wiOk l i = true ∧ validF l.m.opts.length (l.ws.getD i Wi.o).form = true := by
  have h1 := h.ws i hi
  unfold wiErr at h1
  by_cases h2 : wiOk l i = false
  · rw [if_pos h2] at h1; omega
  · rw [if_neg h2] at h1
    by_cases h3 : validF l.m.opts.length (l.ws.getD i Wi.o).form = false
    · rw [if_pos h3] at h1; omega
    · exact ⟨by simpa using h2, by simpa using h3⟩
theorem LoOk.pin {p c : Int} (hp : pinOk l p c = true) : 0 ≤ p ∧ p.toNat < l.ps.length ∧ 0 ≤ (l.ps.getD p.toNat Pl.o).spot ∧ (l.ps.getD p.toNat Pl.o).spot.toNat < l.ss.length := by
  unfold pinOk at hp
  simp only [Bool.and_eq_true, btw_iff] at hp
  obtain ⟨⟨h1, h2⟩, _⟩ := hp
  have h3 := h.ps p.toNat (by omega)
  unfold plOk at h3
  simp only [Bool.and_eq_true, btw_iff] at h3
  obtain ⟨⟨_, h4, h5⟩, _⟩ := h3
  exact ⟨h1, by omega, h4, by omega⟩
theorem LoOk.ends {i : Nat} (hi : i < l.ws.length) : endF l i < l.ss.length ∧ endT l i < l.ss.length := by
  have h1 := (h.wi hi).1
  unfold wiOk at h1
  simp only [Bool.and_eq_true] at h1
  obtain ⟨⟨⟨⟨_, h2⟩, h3⟩, _⟩, _⟩ := h1
  exact ⟨(h.pin h2).2.2.2, (h.pin h3).2.2.2⟩
theorem LoOk.len {k : Nat} (hk : k < l.us.length) : 1 ≤ runLen l k ∧ runLen l k ≤ 1000000 := by
  have h1 := h.us (l.us.getD k Ru.o) (by rw [List.getD_eq_getElem?_getD, List.getElem?_eq_getElem hk]; exact List.getElem_mem hk)
  unfold Ru.ok at h1
  simp only [Bool.and_eq_true, btw_iff] at h1
  obtain ⟨⟨⟨_, h2⟩, _⟩, _⟩ := h1
  exact h2
/-- A wire goes through a run exactly if the run parts its ends. -/
theorem LoOk.thru {run i : Nat} (hr : run < l.us.length) (hi : i < l.ws.length) : thruB l run i = true ↔ ¬ Rch l.rs run (endF l i) (endT l i) := by
  have hrl : run < l.rs.length := by rw [rs_len]; exact hr
  obtain ⟨a, b, hab⟩ : ∃ a b, l.rs.getD run (0, 0) = (a, b) := ⟨_, _, rfl⟩
  have he := h.ends hi
  have hlt := h.tree.lt run hrl
  unfold thruB sideL
  rw [hab] at hlt ⊢
  exact h.tree.side_list hrl (.inl hab) he.1 he.2 (stR_ends hlt.1 h.tree.lt)
/-- .. and that is: if it is on its way. -/
theorem LoOk.way {run i : Nat} (hr : run < l.us.length) (hi : i < l.ws.length) {w : Int} {P : List Nat} (hP : WayP l.rs w (endF l i) P (endT l i)) : run ∈ P ↔ thruB l run i = true := by
  rw [h.thru hr hi]
  exact (hP.mem h.tree).2 run (by rw [rs_len]; exact hr)
/-- There is one way between two spots. -/
theorem LoOk.way_some {x z : Nat} (hx : x < l.ss.length) (hz : z < l.ss.length) : ∃ P, WayP l.rs (-1) x P z :=
  WayP.some h.tree _ (Nat.le_refl _) (.inl rfl) (h.tree.all' hx hz)
end
end Go.Proofs.Ytmabfnddedffoaa
/- The nearest spot to some: the first of the least sum: plain. -/
namespace Go.Proofs.Ytmabfnddedffoaa
set_option linter.unusedVariables false
set_option linter.unusedSimpArgs false
set_option linter.unusedSectionVars false
/-- The first of the first m + 1 numbers with the least value, and that value. -/
def bestN (f : Nat → Int) : Nat → Nat × Int
  | 0 => (0, f 0)
  | m + 1 => if f (m + 1) < (bestN f m).2 then (m + 1, f (m + 1)) else bestN f m
/-- The sum of the distances from a spot to given ones. -/
noncomputable def sumD (l : Lo) (s : Nat) (ts : List Nat) : Int := (ts.map fun t => distN l.rs (runLen l) s t).sum
/-- What Splice answers of a valid loom. -/
noncomputable def spliceN (l : Lo) (ts : List Nat) : Nat × Int := bestN (fun s => sumD l s ts) (l.ss.length - 1)
end Go.Proofs.Ytmabfnddedffoaa
/- The runs that join spots, as both programs find them: plain. -/
namespace Go.Proofs.Ytmabfnddedffoaa
set_option linter.unusedVariables false
set_option linter.unusedSimpArgs false
set_option linter.unusedSectionVars false
section
variable {l : Lo} (h : LoOk l)
include h
/-- Some of the spots lie on the first side of a run and some do not: the run parts two of them. -/
theorem LoOk.both {k : Nat} (hk : k < l.us.length) {ts : List Nat} (ht : ∀ t ∈ ts, t < l.ss.length) :
    ((∃ x ∈ ts, Rch l.rs k (l.rs.getD k (0, 0)).1 x) ∧ ∃ y ∈ ts, ¬ Rch l.rs k (l.rs.getD k (0, 0)).1 y) ↔ ∃ x ∈ ts, ∃ y ∈ ts, ¬ Rch l.rs k x y := by
  have hkl : k < l.rs.length := by rw [rs_len]; exact hk
  obtain ⟨a, b, hab⟩ : ∃ a b, l.rs.getD k (0, 0) = (a, b) := ⟨_, _, rfl⟩
  rw [hab]
  simp only
  constructor
  · rintro ⟨⟨x, hx, h1⟩, y, hy, h2⟩
    exact ⟨x, hx, y, hy, fun q => h2 (h1.trans q)⟩
  · rintro ⟨x, hx, y, hy, hn⟩
    have hp := h.tree.part hkl (.inl hab) (ht x hx) (ht y hy)
    by_cases h1 : Rch l.rs k a x
    · exact ⟨⟨x, hx, h1⟩, y, hy, fun q => hn (h1.symm.trans q)⟩
    · by_cases h2 : Rch l.rs k a y
      · exact ⟨⟨y, hy, h2⟩, x, hx, h1⟩
      · exact absurd (hp.1 ⟨fun q => absurd q h1, fun q => absurd q h2⟩) hn
open Classical in
/-- One round of Joined. -/
theorem LoOk.join_step {k : Nat} (hk : k < l.us.length) {ts : List Nat} (ht : ∀ t ∈ ts, t < l.ss.length) (c : Bool)
    (hc : c = true ↔ ((∃ x ∈ ts, Rch l.rs k (l.rs.getD k (0, 0)).1 x) ∧ ∃ y ∈ ts, ¬ Rch l.rs k (l.rs.getD k (0, 0)).1 y)) :
    (if c = true then runLen l k else 0) = if ∃ x ∈ ts, ∃ y ∈ ts, ¬ Rch l.rs k x y then runLen l k else 0 := by
  by_cases hq : ∃ x ∈ ts, ∃ y ∈ ts, ¬ Rch l.rs k x y
  · rw [if_pos hq, if_pos (hc.2 ((h.both hk ht).2 hq))]
  · rw [if_neg hq, if_neg (fun q => hq ((h.both hk ht).1 (hc.1 q)))]
end
end Go.Proofs.Ytmabfnddedffoaa
/- The ends of a wire, the wires through a run: walks. -/
namespace Go.Proofs.Ytmabfnddedffoaa
open Go.RowKit
set_option linter.unusedVariables false
set_option linter.unusedSimpArgs false
theorem LoOk.runsIn {l : Lo} (h : LoOk l) : RunsIn l := by
  intro x hx
  have h1 := h.us x hx
  unfold Ru.ok at h1
  simp only [Bool.and_eq_true, btw_iff] at h1
  obtain ⟨⟨⟨⟨⟨h2, h3⟩, _⟩, _⟩, _⟩, _⟩ := h1
  omega
theorem LoOk.pos {l : Lo} (h : LoOk l) : 0 < l.ss.length := by have := h.tree.len; omega
theorem LoOk.wpin {l : Lo} (h : LoOk l) {i : Nat} (hi : i < l.ws.length) : (0 ≤ (l.ws.getD i Wi.o).fp ∧ (l.ws.getD i Wi.o).fp.toNat < l.ps.length ∧ 0 ≤ (l.ps.getD (l.ws.getD i Wi.o).fp.toNat Pl.o).spot) ∧ (0 ≤ (l.ws.getD i Wi.o).tp ∧ (l.ws.getD i Wi.o).tp.toNat < l.ps.length ∧ 0 ≤ (l.ps.getD (l.ws.getD i Wi.o).tp.toNat Pl.o).spot) := by
  obtain ⟨h1, _⟩ := h.wi hi
  unfold wiOk at h1
  simp only [Bool.and_eq_true] at h1
  obtain ⟨⟨⟨⟨_, h2⟩, h3⟩, _⟩, _⟩ := h1
  obtain ⟨a1, a2, a3, _⟩ := h.pin h2
  obtain ⟨b1, b2, b3, _⟩ := h.pin h3
  exact ⟨⟨a1, a2, a3⟩, b1, b2, b3⟩
set_option maxRecDepth 100000 in
set_option maxHeartbeats 2000000 in
theorem ends_any (x : Wi) (Af : Option Addr) (n qf : Nat) (A0 A1 A2 A3 A4 A5 : Option Addr) (q0 q1 q2 q3 q4 q5 : Nat) (l : Lo) (w : World) (h : LoA w w.heap.size A0 A1 A2 A3 A4 A5 q0 q1 q2 q3 q4 q5 l) (hf0 : 0 ≤ x.fp) (hf : x.fp.toNat < l.ps.length) (ht0 : 0 ≤ x.tp) (ht : x.tp.toNat < l.ps.length) (hpl : l.ps.length ≤ 30) :
    Calls Try.prog 102 #[.agg #[.slice A0 l.m.opts.length q0, .slice A1 l.m.rules.length q1, .slice A2 l.ss.length q2, .slice A3 l.us.length q3, .slice A4 l.ps.length q4, .slice A5 l.ws.length q5], .agg #[.string x.name, .int .i64 x.fp, .int .i64 x.fc, .int .i64 x.tp, .int .i64 x.tc, .int .i64 x.size, .slice Af n qf]] w fun e w' => e = .returned (.tuple #[.int .i64 (l.ps.getD x.fp.toNat Pl.o).spot, .int .i64 (l.ps.getD x.tp.toNat Pl.o).spot]) ∧ Below w.heap.size w w' := by
  obtain ⟨bf, off, y, HY, rfl, hbb, hq, e0, e1, e2⟩ := h.pl hf
  obtain ⟨bf', off', z, HZ, he, hbb', hq', f0, f1, f2⟩ := h.pl ht
  injection he with he
  injection he with he1 he2
  subst he1 he2
  rw [HY.out, HZ.out]
  obtain ⟨nm, fp, fc, tp, tc, size, form⟩ := x
  simp only at hf0 hf ht0 ht HY HZ e0 e1 e2 f0 f1 f2 ⊢
  obtain ⟨kf, rfl⟩ := Int.eq_ofNat_of_zero_le hf0
  obtain ⟨kt, rfl⟩ := Int.eq_ofNat_of_zero_le ht0
  rw [Int.toNat_natCast] at hf HY e0 e1 e2
  rw [Int.toNat_natCast] at ht HZ f0 f1 f2
  have ikf : (kf : Int) < (l.ps.length : Int) := by omega
  have ikt : (kt : Int) < (l.ps.length : Int) := by omega
  have iq : (l.ps.length : Int) ≤ (q4 : Int) := by omega
  clear hf0 ht0 h
  go_enter Try.func102, Try.ntmps102
  go_upto_region 1 with (fail)
  generalize hw0 : World.alloc _ _ = w0
  obtain ⟨hb0, hb1, hB0, hs0⟩ := alloc2 hw0
  have c4 := cellOf hb0 4
  have d1 := cellOf hb1 1
  have d3 := cellOf hb1 3
  have l0 := box_lt hb0
  have l1 := box_lt hb1
  have l2 : bf < w0.heap.size := by omega
  have g1 := (hB0.cell (p := ⟨bf, off + kf * 3 + 1, none⟩) hbb).trans e1
  have g2 := (hB0.cell (p := ⟨bf, off + kt * 3 + 1, none⟩) hbb).trans f1
  have HB0 := hide hB0
  clear hw0 hb0 hb1 hB0 hs0 e0 e1 e2 f0 f1 f2
  refine wp_region_held_drew (S := (fun w' => Below w0.heap.size w0 w')) (by kernel_rfl) ?_ (fun hHeld => ?_)
  · try dsimp only
    exact (by repeat (first | exact Below.refl _ _ | assumption | refine Below.drew ?_ | refine Below.drewN ?_ _ | refine Below.allocT ?_ (Nat.le_refl _) _ | refine Below.setCell ?_ (by simp <;> omega) _ | refine Below.to ?_ (by assumption) (Nat.le_refl _)))
  refine wpAnyH_take (i := 0) (v := ?v1_0) rfl (by kernel_rfl) (by kernel_rfl) (by kernel_rfl) (fun _ _ _ h => h) (Or.inl ⟨by rfl, ?y1_0⟩) (by assumption) ?r1_0
  case' y1_0 => (intro w hSw; (try dsimp only at hSw); (try have hlS := HLK.out _ hSw); obtain ⟨hcS, hfS⟩ := bcell hSw; clear hSw; go_simp; try with_reducible rfl)
  try simp only [Act.put, zA, zB, zC, zD, zE, zF]
  refine wpAnyH_take (i := 1) (v := ?v1_1) rfl (by kernel_rfl) (by kernel_rfl) (by kernel_rfl) (fun _ _ _ h => h) (Or.inl ⟨by rfl, ?y1_1⟩) (by assumption) ?r1_1
  case' y1_1 => (intro w hSw; (try dsimp only at hSw); (try have hlS := HLK.out _ hSw); obtain ⟨hcS, hfS⟩ := bcell hSw; clear hSw; go_simp; try with_reducible rfl)
  try simp only [Act.put, zA, zB, zC, zD, zE, zF]
  refine wpAnyH_take (i := 2) (v := ?v1_2) rfl (by kernel_rfl) (by kernel_rfl) (by kernel_rfl) (fun _ _ _ h => h) (Or.inl ⟨by rfl, ?y1_2⟩) (by assumption) ?r1_2
  case' y1_2 => (intro w hSw; (try dsimp only at hSw); (try have hlS := HLK.out _ hSw); obtain ⟨hcS, hfS⟩ := bcell hSw; clear hSw; go_simp; try with_reducible rfl)
  try simp only [Act.put, zA, zB, zC, zD, zE, zF]
  refine wpAnyH_take (i := 3) (v := ?v1_3) rfl (by kernel_rfl) (by kernel_rfl) (by kernel_rfl) (fun _ _ _ h => h) (Or.inl ⟨by rfl, ?y1_3⟩) (by assumption) ?r1_3
  case' y1_3 => (intro w hSw; (try dsimp only at hSw); (try have hlS := HLK.out _ hSw); obtain ⟨hcS, hfS⟩ := bcell hSw; clear hSw; go_simp; try with_reducible rfl)
  try simp only [Act.put, zA, zB, zC, zD, zE, zF]
  refine wpAnyH_take (i := 4) (v := ?v1_4) rfl (by kernel_rfl) (by kernel_rfl) (by kernel_rfl) (fun _ _ _ h => h) (Or.inl ⟨by rfl, ?y1_4⟩) (by assumption) ?r1_4
  case' y1_4 => (intro w hSw; (try dsimp only at hSw); (try have hlS := HLK.out _ hSw); obtain ⟨hcS, hfS⟩ := bcell hSw; clear hSw; go_simp; try with_reducible rfl)
  try simp only [Act.put, zA, zB, zC, zD, zE, zF]
  refine wpAnyH_take (i := 5) (v := ?v1_5) rfl (by kernel_rfl) (by kernel_rfl) (by kernel_rfl) (fun _ _ _ h => h) (Or.inl ⟨by rfl, ?y1_5⟩) (by assumption) ?r1_5
  case' y1_5 => (intro w hSw; (try dsimp only at hSw); (try have hlS := HLK.out _ hSw); obtain ⟨hcS, hfS⟩ := bcell hSw; clear hSw; go_simp; try with_reducible rfl)
  try simp only [Act.put, zA, zB, zC, zD, zE, zF]
  refine wpAnyH_take (i := 6) (v := ?v1_6) rfl (by kernel_rfl) (by kernel_rfl) (by kernel_rfl) (fun _ _ _ h => h) (Or.inl ⟨by rfl, ?y1_6⟩) (by assumption) ?r1_6
  case' y1_6 => (intro w hSw; (try dsimp only at hSw); (try have hlS := HLK.out _ hSw); obtain ⟨hcS, hfS⟩ := bcell hSw; clear hSw; go_simp; try with_reducible rfl)
  try simp only [Act.put, zA, zB, zC, zD, zE, zF]
  refine wpAnyH_take (i := 7) (v := ?v1_7) rfl (by kernel_rfl) (by kernel_rfl) (by kernel_rfl) (fun _ _ _ h => h) (Or.inl ⟨by rfl, ?y1_7⟩) (by assumption) ?r1_7
  case' y1_7 => (intro w hSw; (try dsimp only at hSw); (try have hlS := HLK.out _ hSw); obtain ⟨hcS, hfS⟩ := bcell hSw; clear hSw; go_simp; try with_reducible rfl)
  try simp only [Act.put, zA, zB, zC, zD, zE, zF]
  refine wpAnyH_take (i := 8) (v := ?v1_8) rfl (by kernel_rfl) (by kernel_rfl) (by kernel_rfl) (fun _ _ _ h => h) (Or.inl ⟨by rfl, ?y1_8⟩) (by assumption) ?r1_8
  case' y1_8 => (intro w hSw; (try dsimp only at hSw); (try have hlS := HLK.out _ hSw); obtain ⟨hcS, hfS⟩ := bcell hSw; clear hSw; go_simp; try with_reducible rfl)
  try simp only [Act.put, zA, zB, zC, zD, zE, zF]
  refine wpAnyH_take (i := 9) (v := ?v1_9) rfl (by kernel_rfl) (by kernel_rfl) (by kernel_rfl) (fun _ _ _ h => h) (Or.inl ⟨by rfl, ?y1_9⟩) (by assumption) ?r1_9
  case' y1_9 => (intro w hSw; (try dsimp only at hSw); (try have hlS := HLK.out _ hSw); obtain ⟨hcS, hfS⟩ := bcell hSw; clear hSw; go_simp; try with_reducible rfl)
  try simp only [Act.put, zA, zB, zC, zD, zE, zF]
  refine wpAnyH_take (i := 10) (v := ?v1_10) rfl (by kernel_rfl) (by kernel_rfl) (by kernel_rfl) (fun _ _ _ h => h) (Or.inl ⟨by rfl, ?y1_10⟩) (by assumption) ?r1_10
  case' y1_10 => (intro w hSw; (try dsimp only at hSw); (try have hlS := HLK.out _ hSw); obtain ⟨hcS, hfS⟩ := bcell hSw; clear hSw; go_simp; try with_reducible rfl)
  try simp only [Act.put, zA, zB, zC, zD, zE, zF]
  refine wpAnyH_take (i := 11) (v := ?v1_11) rfl (by kernel_rfl) (by kernel_rfl) (by kernel_rfl) (fun _ _ _ h => h) (Or.inl ⟨by rfl, ?y1_11⟩) (by assumption) ?r1_11
  case' y1_11 => (intro w hSw; (try dsimp only at hSw); (try have hlS := HLK.out _ hSw); obtain ⟨hcS, hfS⟩ := bcell hSw; clear hSw; go_simp; try with_reducible rfl)
  try simp only [Act.put, zA, zB, zC, zD, zE, zF]
  refine wpAnyH_take (i := 12) (v := ?v1_12) rfl (by kernel_rfl) (by kernel_rfl) (by kernel_rfl) (fun _ _ _ h => h) (Or.inl ⟨by rfl, ?y1_12⟩) (by assumption) ?r1_12
  case' y1_12 => (intro w hSw; (try dsimp only at hSw); (try have hlS := HLK.out _ hSw); obtain ⟨hcS, hfS⟩ := bcell hSw; clear hSw; go_simp; try with_reducible rfl)
  try simp only [Act.put, zA, zB, zC, zD, zE, zF]
  refine wpAnyH_take (i := 13) (v := ?v1_13) rfl (by kernel_rfl) (by kernel_rfl) (by kernel_rfl) (fun _ _ _ h => h) (Or.inl ⟨by rfl, ?y1_13⟩) (by assumption) ?r1_13
  case' y1_13 => (intro w hSw; (try dsimp only at hSw); (try have hlS := HLK.out _ hSw); obtain ⟨hcS, hfS⟩ := bcell hSw; clear hSw; go_simp; try with_reducible rfl)
  try simp only [Act.put, zA, zB, zC, zD, zE, zF]
  refine wpAnyH_take (i := 14) (v := ?v1_14) rfl (by kernel_rfl) (by kernel_rfl) (by kernel_rfl) (fun _ _ _ h => h) (Or.inl ⟨by rfl, ?y1_14⟩) (by assumption) ?r1_14
  case' y1_14 => (intro w hSw; (try dsimp only at hSw); (try have hlS := HLK.out _ hSw); obtain ⟨hcS, hfS⟩ := bcell hSw; clear hSw; go_simp; try with_reducible rfl)
  try simp only [Act.put, zA, zB, zC, zD, zE, zF]
  refine wpAnyH_take (i := 15) (v := ?v1_15) rfl (by kernel_rfl) (by kernel_rfl) (by kernel_rfl) (fun _ _ _ h => h) (Or.inl ⟨by rfl, ?y1_15⟩) (by assumption) ?r1_15
  case' y1_15 => (intro w hSw; (try dsimp only at hSw); (try have hlS := HLK.out _ hSw); obtain ⟨hcS, hfS⟩ := bcell hSw; clear hSw; go_simp; try with_reducible rfl)
  try simp only [Act.put, zA, zB, zC, zD, zE, zF]
  refine wpAnyH_take (i := 16) (v := ?v1_16) rfl (by kernel_rfl) (by kernel_rfl) (by kernel_rfl) (fun _ _ _ h => h) (Or.inl ⟨by rfl, ?y1_16⟩) (by assumption) ?r1_16
  case' y1_16 => (intro w hSw; (try dsimp only at hSw); (try have hlS := HLK.out _ hSw); obtain ⟨hcS, hfS⟩ := bcell hSw; clear hSw; go_simp; try with_reducible rfl)
  try simp only [Act.put, zA, zB, zC, zD, zE, zF]
  refine wpAnyH_take (i := 17) (v := ?v1_17) rfl (by kernel_rfl) (by kernel_rfl) (by kernel_rfl) (fun _ _ _ h => h) (Or.inl ⟨by rfl, ?y1_17⟩) (by assumption) ?r1_17
  case' y1_17 => (intro w hSw; (try dsimp only at hSw); (try have hlS := HLK.out _ hSw); obtain ⟨hcS, hfS⟩ := bcell hSw; clear hSw; go_simp; try with_reducible rfl)
  try simp only [Act.put, zA, zB, zC, zD, zE, zF]
  refine wpAnyH_done (by kernel_rfl) ?_ _
  go_wp2_with fail
  go_ret2
  exact ⟨rfl, Below.to HB0.out hHeld (Nat.le_refl _)⟩
theorem filter_range_succ (p : Nat → Bool) (k : Nat) : (List.range (k + 1)).filter p = if p k then (List.range k).filter p ++ [k] else (List.range k).filter p := by
  rw [List.range_succ, List.filter_append]
  cases h : p k <;> simp [h]
theorem filter_range_len (p : Nat → Bool) (k : Nat) : ((List.range k).filter p).length ≤ k := by
  have := List.length_filter_le p (List.range k)
  simpa using this
set_option maxRecDepth 100000 in
set_option maxHeartbeats 4000000 in
theorem through_any (run : Nat) (A0 A1 A2 A3 A4 A5 : Option Addr) (q0 q1 q2 q3 q4 q5 : Nat) (l : Lo) (w : World) (h : LoA w w.heap.size A0 A1 A2 A3 A4 A5 q0 q1 q2 q3 q4 q5 l) (ok : LoOk l) (hr : run < l.us.length) :
    Calls Try.prog 110 #[.agg #[.slice A0 l.m.opts.length q0, .slice A1 l.m.rules.length q1, .slice A2 l.ss.length q2, .slice A3 l.us.length q3, .slice A4 l.ps.length q4, .slice A5 l.ws.length q5], .int .i64 run] w fun e w' => ∃ v, e = .returned v ∧ Nods w' w'.heap.size v (thruL l run) ∧ Below w.heap.size w w' := by
  obtain ⟨i0, hi0, iz0, iz1, iz2⟩ := info_parts infoInt
  have H := hide h
  have OK := hide ok
  have hin := ok.runsIn
  have u40 := ok.u40
  have s40 := ok.s40
  have w60 := ok.w60
  have p30 := ok.p30
  obtain ⟨bu, offu, r, HRU, rfl, hbu, hq3, e0, e1, e2, e3⟩ := h.ru hr
  have hrin := hin r (by rw [← HRU.out]; exact getD_mem3 hr)
  obtain ⟨ra, rb, rl, rr⟩ := r
  simp only at hrin e0 e1 e2 e3
  obtain ⟨ka, rfl⟩ := Int.eq_ofNat_of_zero_le hrin.1
  have hka : ka < l.ss.length := by omega
  have hside : sideL l run = stR l.rs run ka l.ss.length := by
    unfold sideL
    rw [rs_getD l hr, HRU.out]
    rfl
  obtain ⟨S, hS⟩ : ∃ S, stR l.rs run ka l.ss.length = S := ⟨_, rfl⟩
  have HSI : Hid (sideL l run = S) := hside.trans hS
  have HSS := hide hS
  have HIN := hide hin
  have hSl : S.length ≤ 40 := by rw [← hS]; exact Nat.le_trans (stR_len hka hin.rs _) s40
  have ir : (run : Int) < (l.us.length : Int) := by omega
  have iq : (l.us.length : Int) ≤ (q3 : Int) := by omega
  clear hside hS hin hrin ok h
  go_enter Try.func110, Try.ntmps110
  go_upto_region 1 with (fail)
  generalize hw0 : World.alloc _ _ = w0
  obtain ⟨hb0, hB0, hs0⟩ := alloc1 hw0
  have HL0 : Hid (LoBox w0 w.heap.size A0 A1 A2 (some ⟨bu, offu, none⟩) A4 A5 q0 q1 q2 q3 q4 q5 l) := hb0
  have c0 := cellOf hb0 0; have c1 := cellOf hb0 1; have c2 := cellOf hb0 2; have c3 := cellOf hb0 3; have c4 := cellOf hb0 4; have c5 := cellOf hb0 5
  have l0 := box_lt hb0
  have l2 : bu < w0.heap.size := by omega
  have g0 := (hB0.cell (p := ⟨bu, offu + run * 4, none⟩) hbu).trans e0
  have HB0 := hide hB0
  have HH0 := hide (H.out.up hB0)
  clear hw0 hb0 hB0 hs0 e0 e1 e2 e3
  refine wp_region_held_drew (S := (fun w' => Below w0.heap.size w0 w')) (by kernel_rfl) ?_ (fun hHeld => ?_)
  · try dsimp only
    exact (by repeat (first | exact Below.refl _ _ | assumption | refine Below.drew ?_ | refine Below.drewN ?_ _ | refine Below.allocT ?_ (Nat.le_refl _) _ | refine Below.setCell ?_ (by simp <;> omega) _ | refine Below.to ?_ (by assumption) (Nat.le_refl _)))
  refine wpAnyH_take (i := 0) (v := ?v2_0) rfl (by kernel_rfl) (by kernel_rfl) (by kernel_rfl) (fun _ _ _ h => h) (Or.inl ⟨by rfl, ?y2_0⟩) (by assumption) ?r2_0
  case' y2_0 => (intro w hSw; (try dsimp only at hSw); (try have hlS := HLK.out _ hSw); obtain ⟨hcS, hfS⟩ := bcell hSw; clear hSw; go_simp; try with_reducible rfl)
  try simp only [Act.put, zA, zB, zC, zD, zE, zF]
  refine wpAnyH_take (i := 1) (v := ?v2_1) rfl (by kernel_rfl) (by kernel_rfl) (by kernel_rfl) (fun _ _ _ h => h) (Or.inl ⟨by rfl, ?y2_1⟩) (by assumption) ?r2_1
  case' y2_1 => (intro w hSw; (try dsimp only at hSw); (try have hlS := HLK.out _ hSw); obtain ⟨hcS, hfS⟩ := bcell hSw; clear hSw; go_simp; try with_reducible rfl)
  try simp only [Act.put, zA, zB, zC, zD, zE, zF]
  refine wpAnyH_take (i := 2) (v := ?v2_2) rfl (by kernel_rfl) (by kernel_rfl) (by kernel_rfl) (fun _ _ _ h => h) (Or.inl ⟨by rfl, ?y2_2⟩) (by assumption) ?r2_2
  case' y2_2 => (intro w hSw; (try dsimp only at hSw); (try have hlS := HLK.out _ hSw); obtain ⟨hcS, hfS⟩ := bcell hSw; clear hSw; go_simp; try with_reducible rfl)
  try simp only [Act.put, zA, zB, zC, zD, zE, zF]
  refine wpAnyH_take (i := 3) (v := ?v2_3) rfl (by kernel_rfl) (by kernel_rfl) (by kernel_rfl) (fun _ _ _ h => h) (Or.inl ⟨by rfl, ?y2_3⟩) (by assumption) ?r2_3
  case' y2_3 => (intro w hSw; (try dsimp only at hSw); (try have hlS := HLK.out _ hSw); obtain ⟨hcS, hfS⟩ := bcell hSw; clear hSw; go_simp; try with_reducible rfl)
  try simp only [Act.put, zA, zB, zC, zD, zE, zF]
  refine wpAnyH_take (i := 4) (v := ?v2_4) rfl (by kernel_rfl) (by kernel_rfl) (by kernel_rfl) (fun _ _ _ h => h) (Or.inl ⟨by rfl, ?y2_4⟩) (by assumption) ?r2_4
  case' y2_4 => (intro w hSw; (try dsimp only at hSw); (try have hlS := HLK.out _ hSw); obtain ⟨hcS, hfS⟩ := bcell hSw; clear hSw; go_simp; try with_reducible rfl)
  try simp only [Act.put, zA, zB, zC, zD, zE, zF]
  refine wpAnyH_take (i := 5) (v := ?v2_5) rfl (by kernel_rfl) (by kernel_rfl) (by kernel_rfl) (fun _ _ _ h => h) (Or.inl ⟨by rfl, ?y2_5⟩) (by assumption) ?r2_5
  case' y2_5 => (intro w hSw; (try dsimp only at hSw); (try have hlS := HLK.out _ hSw); obtain ⟨hcS, hfS⟩ := bcell hSw; clear hSw; go_simp; try with_reducible rfl)
  try simp only [Act.put, zA, zB, zC, zD, zE, zF]
  refine wpAnyH_take (i := 6) (v := ?v2_6) rfl (by kernel_rfl) (by kernel_rfl) (by kernel_rfl) (fun _ _ _ h => h) (Or.inl ⟨by rfl, ?y2_6⟩) (by assumption) ?r2_6
  case' y2_6 => (intro w hSw; (try dsimp only at hSw); (try have hlS := HLK.out _ hSw); obtain ⟨hcS, hfS⟩ := bcell hSw; clear hSw; go_simp; try with_reducible rfl)
  try simp only [Act.put, zA, zB, zC, zD, zE, zF]
  refine wpAnyH_take (i := 7) (v := ?v2_7) rfl (by kernel_rfl) (by kernel_rfl) (by kernel_rfl) (fun _ _ _ h => h) (Or.inl ⟨by rfl, ?y2_7⟩) (by assumption) ?r2_7
  case' y2_7 => (intro w hSw; (try dsimp only at hSw); (try have hlS := HLK.out _ hSw); obtain ⟨hcS, hfS⟩ := bcell hSw; clear hSw; go_simp; try with_reducible rfl)
  try simp only [Act.put, zA, zB, zC, zD, zE, zF]
  refine wpAnyH_ready (rs := [8]) (by kernel_rfl) (by simp) ?_
  refine AllReadyH.cons rfl (fun K hK => ?_) AllReadyH.nil
  go_simp
  ((go_at_call 62; refine (reached_any A0 A1 A2 (some ⟨bu, offu, none⟩) A4 A5 q0 q1 q2 q3 q4 q5 l ka run _ (HH0.out.up (by assumption)) HIN.out hka s40 u40).mono ?_; rintro e w6 ⟨v6, rfl, hn6, hB6⟩; rw [HSS.out] at hn6; obtain ⟨A6, q6, hv6⟩ := Sl.form hn6; subst hv6; have HN6 := hide hn6; clear hn6))
  (try dsimp only)
  refine hK.out _ _ ?_ (fun hNext => ?_)
  · try dsimp only
    exact (by repeat (first | exact Below.refl _ _ | assumption | refine Below.drew ?_ | refine Below.drewN ?_ _ | refine Below.allocT ?_ (Nat.le_refl _) _ | refine Below.setCell ?_ (by simp <;> omega) _ | refine Below.to ?_ (by assumption) (Nat.le_refl _)))
  clear hK K hHeld
  have hHeld := hNext
  clear hNext
  (try dsimp only at hHeld)
  try simp only [Act.put, zA, zB, zC, zD, zE, zF]
  refine wpAnyH_take (i := 9) (v := ?v2_9) rfl (by kernel_rfl) (by kernel_rfl) (by kernel_rfl) (fun _ _ _ h => h) (Or.inl ⟨by rfl, ?y2_9⟩) (by assumption) ?r2_9
  case' y2_9 => (intro w hSw; (try dsimp only at hSw); (try have hlS := HLK.out _ hSw); obtain ⟨hcS, hfS⟩ := bcell hSw; clear hSw; go_simp; try with_reducible rfl)
  try simp only [Act.put, zA, zB, zC, zD, zE, zF]
  refine wpAnyH_done (by kernel_rfl) ?_ _
  have HB6 := hide (Below.to HB0.out hHeld (Nat.le_refl _))
  have HL6 := hide (HL0.out.to hHeld)
  have R0 : Hid (ReaS w w6 w6.heap.size w.heap.size A0 A1 A2 (some ⟨bu, offu, none⟩) A4 A5 q0 q1 q2 q3 q4 q5 l (.slice none 0 0) []) := ReaS.mk' HB6.out HL6.out (World.ownsRow_nil _ _ _ _) ⟨HB6.out.size, Nat.le_refl _⟩
  have d0 := cellOf HL6.out 0; have d1 := cellOf HL6.out 1; have d2 := cellOf HL6.out 2; have d3 := cellOf HL6.out 3; have d4 := cellOf HL6.out 4; have d5 := cellOf HL6.out 5
  have l6 := box_lt HL6.out
  clear hB6 hHeld c0 c1 c2 c3 c4 c5 l0 g0
  go_wp2_with fail
  clear d0 d1 d2 d3 d4 d5 l6
  go_loopw [4, 6, 7, 8, 9, 22] (fun o _ _ _ _ i wr => ∃ (k : Nat) (A : Option Addr) (cap : Nat) (T : List Nat), i = .int .i64 k ∧ o = .slice A T.length cap ∧ k ≤ l.ws.length ∧ Hid ((List.range k).filter (thruB l run) = T) ∧ Hid (Below w6.heap.size w6 wr) ∧ Hid (ReaS w wr w6.heap.size w.heap.size A0 A1 A2 (some ⟨bu, offu, none⟩) A4 A5 q0 q1 q2 q3 q4 q5 l (.slice A T.length cap) T)) (fun _ _ _ _ _ i _ => l.ws.length - (intOf i).toNat)
  case atStart => exact ⟨0, _, _, [], rfl, rfl, Nat.zero_le _, rfl, Below.refl _ _, R0.out⟩
  case round =>
    obtain ⟨k, A, cap, T, rfl, rfl, hk, HT, HBr, R⟩ := hrel
    have hTl : T.length ≤ 60 := by rw [← HT.out]; exact Nat.le_trans (filter_range_len _ _) (by omega)
    by_cases hkl : k < l.ws.length
    · obtain ⟨bw, offw, x, Af, qf, HX, rfl, hbw, hq5, HFO, e0, e1, e2, e3, e4, e5, e6⟩ := (H.out.below R.out.below).wi hkl
      obtain ⟨⟨a1, a2, a3⟩, b1, b2, b3⟩ := OK.out.wpin hkl
      rw [HX.out] at a1 a2 a3 b1 b2 b3
      have lbw : bw < wr.heap.size := Nat.lt_of_lt_of_le hbw R.out.below.size
      have ik : (k : Int) < (l.ws.length : Int) := by omega
      have iq5 : (l.ws.length : Int) ≤ (q5 : Int) := by omega
      obtain ⟨ef, hef⟩ := Int.eq_ofNat_of_zero_le a3
      obtain ⟨et, het⟩ := Int.eq_ofNat_of_zero_le b3
      have hth : thruB l run k = (decide (ef ∈ S) != decide (et ∈ S)) := by
        unfold thruB endF endT
        rw [HX.out, hef, het, HSI.out, Int.toNat_natCast, Int.toNat_natCast]
      obtain ⟨ca, hca⟩ : ∃ c, decide (ef ∈ S) = c := ⟨_, rfl⟩
      obtain ⟨cb, hcb⟩ : ∃ c, decide (et ∈ S) = c := ⟨_, rfl⟩
      rw [hca, hcb] at hth
      have HTH := hide hth
      have HCA := hide hca
      have HCB := hide hcb
      clear hth hca hcb a3 b3
      go_upto_region 5 with (fail)
      generalize hw1 : World.alloc _ _ = w1
      obtain ⟨hb1, hB1, hs1⟩ := alloc1 hw1
      have R1 := hide (R.out.to hB1)
      have HBr1 := hide (Below.to HBr.out hB1 (Nat.le_refl _))
      have HB1 := hide (Below.to R.out.below hB1 (Nat.le_refl _))
      have d0 := cellOf (R.out.to hB1).box 0; have d1 := cellOf (R.out.to hB1).box 1; have d2 := cellOf (R.out.to hB1).box 2; have d3 := cellOf (R.out.to hB1).box 3; have d4 := cellOf (R.out.to hB1).box 4; have d5 := cellOf (R.out.to hB1).box 5
      have z0 := cellOf hb1 0; have z1 := cellOf hb1 1; have z2 := cellOf hb1 2; have z3 := cellOf hb1 3; have z4 := cellOf hb1 4; have z5 := cellOf hb1 5; have z6 := cellOf hb1 6
      have l1 := box_lt hb1
      have l2 := box_lt (R.out.to hB1).box
      have hen := ends_any x Af x.form.length qf A0 A1 A2 _ A4 _ q0 q1 q2 q3 q4 q5 l w1 (H.out.up HB1.out) a1 a2 b1 b2 p30
      rw [hef, het] at hen
      have HEN := hide hen
      clear hw1 hb1 hB1 hs1 e0 e1 e2 e3 e4 e5 e6 hen hef het
      cases ca
      case false =>
        cases cb
        case false =>
          have HY : Hid (thruB l run k = false) := HTH.out
          go_wp2_with (first | (go_at_call 102; refine HEN.out.mono ?_; rintro e w2 ⟨rfl, hB2⟩; have R2 := hide (R1.out.to hB2); have HN2 := hide (HN6.out.up (Below.to HBr1.out hB2 (Nat.le_refl _))); have HBr2 := hide (Below.to HBr1.out hB2 (Nat.le_refl _)); clear hB2 d0 d1 d2 d3 d4 d5 l1 l2) | (go_at_call 99; refine (containsN_any S _ _ _ _ _ (by unfold maxLen; omega) HN2.out (by first | exact HCA.out | exact HCB.out)).mono ?_; rintro e w4 ⟨rfl, rfl⟩))
          go_roundw
          case rel => exact ⟨k + 1, _, _, T, by go_num, rfl, by omega, by show _ = _; rw [filter_range_succ, HY.out, if_neg (by simp), HT.out], HBr2.out, R2.out⟩
          case measure => simp [intOf]; omega
        case true =>
          have HY : Hid (thruB l run k = true) := HTH.out
          go_wp2_with (first | (go_at_call 102; refine HEN.out.mono ?_; rintro e w2 ⟨rfl, hB2⟩; have R2 := hide (R1.out.to hB2); have HN2 := hide (HN6.out.up (Below.to HBr1.out hB2 (Nat.le_refl _))); have HBr2 := hide (Below.to HBr1.out hB2 (Nat.le_refl _)); clear hB2 d0 d1 d2 d3 d4 d5 l1 l2) | (go_at_call 99; refine (containsN_any S _ _ _ _ _ (by unfold maxLen; omega) HN2.out (by first | exact HCA.out | exact HCB.out)).mono ?_; rintro e w4 ⟨rfl, rfl⟩) | (at_builtin; go_must (refine wpList_append_own_at _ rfl (.tmp 40) (.tmp 42) _ rfl (w6.heap.size) 3 i0 _ 1 8 Try.underlying41 hi0 iz0 iz1 iz2 rfl (by omega) _ _ _ rfl ((R2.out.own).alloc _) ⟨w2.heap.size, 0, none⟩ 1 1 [.int .i64 (k : Nat)] rfl rfl (World.news_of_block (heap_alloc_new w2 _)) (by simp [Value.oneCell']) (by have h1 := hTl; unfold maxLen; omega) (by have h1 := hTl; omega) (by have h1 := R2.out.lt.2; simp; omega) ?_); intro v1 w3 hown1 hg1 _ hat1; obtain ⟨A6', cap6, hv6⟩ := owns_form hown1; subst hv6; have R5 := hide (R2.out.push hown1 hg1); have HBr3 := hide (Below.grown (Below.to HBr2.out ((Below.refl _ w2).alloc (Nat.le_refl _) _) (Nat.le_refl _)) hg1 (by have := R2.out.lt.2; simp; omega) (fun j hj => (R2.out.own.lt j hj).1)); clear hown1 hg1 hat1))
          go_roundw
          case rel => exact ⟨k + 1, A6', cap6, T ++ [k], by go_num, by rw [List.length_append, List.length_singleton], by omega, by show _ = _; rw [filter_range_succ, HY.out, if_pos rfl, HT.out], HBr3.out, by rw [List.length_append, List.length_singleton]; exact R5.out⟩
          case measure => simp [intOf]; omega
      case true =>
        cases cb
        case false =>
          have HY : Hid (thruB l run k = true) := HTH.out
          go_wp2_with (first | (go_at_call 102; refine HEN.out.mono ?_; rintro e w2 ⟨rfl, hB2⟩; have R2 := hide (R1.out.to hB2); have HN2 := hide (HN6.out.up (Below.to HBr1.out hB2 (Nat.le_refl _))); have HBr2 := hide (Below.to HBr1.out hB2 (Nat.le_refl _)); clear hB2 d0 d1 d2 d3 d4 d5 l1 l2) | (go_at_call 99; refine (containsN_any S _ _ _ _ _ (by unfold maxLen; omega) HN2.out (by first | exact HCA.out | exact HCB.out)).mono ?_; rintro e w4 ⟨rfl, rfl⟩) | (at_builtin; go_must (refine wpList_append_own_at _ rfl (.tmp 40) (.tmp 42) _ rfl (w6.heap.size) 3 i0 _ 1 8 Try.underlying41 hi0 iz0 iz1 iz2 rfl (by omega) _ _ _ rfl ((R2.out.own).alloc _) ⟨w2.heap.size, 0, none⟩ 1 1 [.int .i64 (k : Nat)] rfl rfl (World.news_of_block (heap_alloc_new w2 _)) (by simp [Value.oneCell']) (by have h1 := hTl; unfold maxLen; omega) (by have h1 := hTl; omega) (by have h1 := R2.out.lt.2; simp; omega) ?_); intro v1 w3 hown1 hg1 _ hat1; obtain ⟨A6', cap6, hv6⟩ := owns_form hown1; subst hv6; have R5 := hide (R2.out.push hown1 hg1); have HBr3 := hide (Below.grown (Below.to HBr2.out ((Below.refl _ w2).alloc (Nat.le_refl _) _) (Nat.le_refl _)) hg1 (by have := R2.out.lt.2; simp; omega) (fun j hj => (R2.out.own.lt j hj).1)); clear hown1 hg1 hat1))
          go_roundw
          case rel => exact ⟨k + 1, A6', cap6, T ++ [k], by go_num, by rw [List.length_append, List.length_singleton], by omega, by show _ = _; rw [filter_range_succ, HY.out, if_pos rfl, HT.out], HBr3.out, by rw [List.length_append, List.length_singleton]; exact R5.out⟩
          case measure => simp [intOf]; omega
        case true =>
          have HY : Hid (thruB l run k = false) := HTH.out
          go_wp2_with (first | (go_at_call 102; refine HEN.out.mono ?_; rintro e w2 ⟨rfl, hB2⟩; have R2 := hide (R1.out.to hB2); have HN2 := hide (HN6.out.up (Below.to HBr1.out hB2 (Nat.le_refl _))); have HBr2 := hide (Below.to HBr1.out hB2 (Nat.le_refl _)); clear hB2 d0 d1 d2 d3 d4 d5 l1 l2) | (go_at_call 99; refine (containsN_any S _ _ _ _ _ (by unfold maxLen; omega) HN2.out (by first | exact HCA.out | exact HCB.out)).mono ?_; rintro e w4 ⟨rfl, rfl⟩))
          go_roundw
          case rel => exact ⟨k + 1, _, _, T, by go_num, rfl, by omega, by show _ = _; rw [filter_range_succ, HY.out, if_neg (by simp), HT.out], HBr2.out, R2.out⟩
          case measure => simp [intOf]; omega
    · have hke : k = l.ws.length := by omega
      subst hke
      go_wp2_with fail
      go_ret
      exact ⟨_, rfl, by have := R.out.nd; rw [← HT.out] at this; unfold thruL; rw [HT.out] at this ⊢; exact this, R.out.below⟩
end Go.Proofs.Ytmabfnddedffoaa
/- The first variant of the greatest sum. Plain laws. -/
namespace Go.Proofs.Ytmabfnddedffoaa
set_option linter.unusedVariables false
/-- What is known of the nodes after some choices l. -/
structure Pick (ks : List Kn) (N : Nat) (ws : List Int) (nodes : List Nat) (M : Int) (l : List Bool) (ns : List Nat) : Prop where
  len : ns.length = nodes.length
  lt : ∀ n ∈ ns, n < ks.length
  top : ∀ n ∈ ns, l.length ≤ topK ks n
  val : ∀ y, valI ks (vf (l ++ y)) ns ws = valI ks (vf (l ++ y)) nodes ws
  best : bestK ks N nodes ws l = M
  find : (exts N []).find? (fun x => valI ks (vf x) nodes ws == M) = (exts (N - l.length) l).find? (fun x => valI ks (vf x) nodes ws == M)
section
variable {N : Nat} {ks : List Kn} (h : WF N ks) {ws : List Int} {nodes : List Nat} {M : Int}
include h
omit h in
theorem Pick.start (hn : ∀ n ∈ nodes, n < ks.length) (hM : bestK ks N nodes ws [] = M) : Pick ks N ws nodes M [] nodes :=
  ⟨rfl, hn, fun n _ => Nat.zero_le _, fun y => rfl, hM, rfl⟩
omit h in
theorem Pick.bestK {l : List Bool} {ns : List Nat} (p : Pick ks N ws nodes M l ns) : Go.Proofs.Ytmabfnddedffoaa.bestK ks N ns ws l = M := by
  rw [← p.best]
  unfold Go.Proofs.Ytmabfnddedffoaa.bestK
  congr 1
  refine List.map_congr_left fun x hx => ?_
  obtain ⟨y, rfl, _⟩ := exts_prefix hx
  exact p.val y
/-- What best gives for the nodes one step on. -/
theorem Pick.ahead {l : List Bool} {ns : List Nat} (p : Pick ks N ws nodes M l ns) (hl : l.length < N) (b : Bool) : Go.Proofs.Ytmabfnddedffoaa.bestK ks N (ns.map fun n => brK ks n l.length b) ws [] = Go.Proofs.Ytmabfnddedffoaa.bestK ks N nodes ws (l ++ [b]) := by
  have hlt : ∀ n ∈ ns.map fun n => brK ks n l.length b, n < ks.length := by
    intro n hm
    rw [List.mem_map] at hm
    obtain ⟨x, hx, rfl⟩ := hm
    exact brK_lt h (p.lt x hx) hl
  have htt : ∀ n ∈ ns.map fun n => brK ks n l.length b, l.length + 1 ≤ topK ks n := by
    intro n hm
    rw [List.mem_map] at hm
    obtain ⟨x, hx, rfl⟩ := hm
    exact brK_top h (p.lt x hx) hl (p.top x hx)
  have h1 := bestK_lift h (ws := ws) hlt (l.length + 1) 0 (by omega) (fun n hm => by have := htt n hm; omega)
  rw [show List.replicate 0 false = ([] : List Bool) from rfl, Nat.zero_add] at h1
  rw [h1, bestK_len h (l' := l ++ [b]) hlt (by simp) (fun n hm => by have := htt n hm; simp; omega), bestK_br h p.lt hl]
  unfold Go.Proofs.Ytmabfnddedffoaa.bestK
  congr 1
  refine List.map_congr_left fun x hx => ?_
  obtain ⟨y, rfl, _⟩ := exts_prefix hx
  rw [List.append_assoc]
  exact p.val _
omit h in
theorem bestK_find {l : List Bool} (hM : leastI < M) (hb : bestK ks N nodes ws l = M) : ((exts (N - l.length) l).find? fun x => valI ks (vf x) nodes ws == M).isSome = true := by
  rw [List.find?_isSome]
  have h1 := maxL_attained ((exts (N - l.length) l).map fun x => valI ks (vf x) nodes ws) (by unfold bestK at hb; rw [hb]; exact hM)
  rw [List.mem_map] at h1
  obtain ⟨x, hx, he⟩ := h1
  exact ⟨x, hx, by rw [he]; unfold bestK at hb; rw [hb]; simp⟩
omit h in
theorem bestK_none {l : List Bool} (hb : bestK ks N nodes ws l < M) : ((exts (N - l.length) l).find? fun x => valI ks (vf x) nodes ws == M) = none := by
  rw [List.find?_eq_none]
  intro x hx e
  have h1 := maxL_mem ((exts (N - l.length) l).map fun x => valI ks (vf x) nodes ws) (valI ks (vf x) nodes ws) (List.mem_map.2 ⟨x, hx, rfl⟩)
  have h2 : valI ks (vf x) nodes ws = M := by simpa using e
  unfold bestK at hb
  omega
theorem Pick.next {l : List Bool} {ns : List Nat} (p : Pick ks N ws nodes M l ns) (hl : l.length < N) (hM : leastI < M) {b : Bool} (hb : b = decide (Go.Proofs.Ytmabfnddedffoaa.bestK ks N nodes ws (l ++ [false]) < M)) : Pick ks N ws nodes M (l ++ [b]) (ns.map fun n => brK ks n l.length b) := by
  have hs := bestK_split (ks := ks) (nodes := nodes) (ws := ws) hl
  rw [p.best] at hs
  have hne : N - l.length = (N - (l ++ [false]).length) + 1 := by simp; omega
  have hx : (exts (N - l.length) l) = exts (N - (l ++ [false]).length) (l ++ [false]) ++ exts (N - (l ++ [true]).length) (l ++ [true]) := by
    rw [hne]; simp only [exts, List.length_append, List.length_singleton]
  refine ⟨by rw [List.length_map]; exact p.len, ?_, ?_, ?_, ?_, ?_⟩
  · intro n hm
    rw [List.mem_map] at hm
    obtain ⟨x, hx, rfl⟩ := hm
    exact brK_lt h (p.lt x hx) hl
  · intro n hm
    rw [List.mem_map] at hm
    obtain ⟨x, hx, rfl⟩ := hm
    have := brK_top h (b := b) (p.lt x hx) hl (p.top x hx)
    simp; omega
  · intro y
    have h1 := p.val ([b] ++ y)
    rw [← List.append_assoc] at h1
    rw [← h1]
    refine valI_congr (by simp) fun i hi => ?_
    have hi' : i < ns.length := by simpa using hi
    rw [getD_map _ _ 0 _ hi']
    exact brK_ev h (p.lt _ (by rw [List.getD_eq_getElem?_getD, List.getElem?_eq_getElem hi']; exact List.getElem_mem _)) hl _ (vf_at l b y)
  · cases b with
    | true =>
      have : Go.Proofs.Ytmabfnddedffoaa.bestK ks N nodes ws (l ++ [false]) < M := by simpa using hb.symm
      omega
    | false =>
      have : ¬ Go.Proofs.Ytmabfnddedffoaa.bestK ks N nodes ws (l ++ [false]) < M := by simpa using hb.symm
      omega
  · rw [p.find, hx, List.find?_append]
    cases b with
    | true =>
      have : Go.Proofs.Ytmabfnddedffoaa.bestK ks N nodes ws (l ++ [false]) < M := by simpa using hb.symm
      rw [bestK_none this]; rfl
    | false =>
      have : ¬ Go.Proofs.Ytmabfnddedffoaa.bestK ks N nodes ws (l ++ [false]) < M := by simpa using hb.symm
      have h2 := bestK_find (ks := ks) (N := N) (nodes := nodes) (ws := ws) (l := l ++ [false]) hM (by omega)
      obtain ⟨x, hx⟩ := Option.isSome_iff_exists.1 h2
      rw [hx]; rfl
omit h in
theorem Pick.finish {l : List Bool} {ns : List Nat} (p : Pick ks N ws nodes M l ns) (hl : l.length = N) (hM : leastI < M) : (exts N []).find? (fun x => valI ks (vf x) nodes ws == M) = some l := by
  have h1 := bestK_find hM p.best
  rw [p.find]
  rw [hl, Nat.sub_self] at h1 ⊢
  simp only [exts] at h1 ⊢
  rw [List.find?_cons] at h1 ⊢
  split
  · rfl
  · rename_i e
    rw [e] at h1
    simp at h1
end
/-! by formulas -/
def fsum (v : Nat → Bool) : List (List Int) → List Int → Int
  | f :: fs, x :: xs => (if evF1 v f then x else 0) + fsum v fs xs
  | _, _ => 0
/-- What a variant is worth: it has to be buildable. -/
def valF (m : Mo) (fs : List (List Int)) (ws : List Int) (x : List Bool) : Int := if allF (vf x) m.rules then fsum (vf x) fs ws else leastI
def bestF (m : Mo) (fs : List (List Int)) (ws : List Int) : Int := maxL ((exts m.opts.length []).map (valF m fs ws))
theorem wsum_fsum {ks : List Kn} {v : Nat → Bool} : ∀ {ns : List Nat} {fs : List (List Int)} {ws : List Int}, ns.length = fs.length → (∀ i, i < ns.length → ev ks v (ns.getD i 0) = evF1 v (fs.getD i [])) → wsum ks v ns ws = fsum v fs ws
  | [], [], ws, _, _ => by cases ws <;> rfl
  | x :: a, y :: b, [], _, _ => rfl
  | x :: a, y :: b, w :: ws, hl, h => by
    have h0 := h 0 (by simp)
    simp only [List.getD_cons_zero] at h0
    simp only [wsum, fsum, h0]
    rw [wsum_fsum (by simpa using hl) fun i hi => by have := h (i + 1) (by simpa using hi); simpa using this]
  | [], y :: b, _, hl, _ => by simp at hl
  | x :: a, [], _, hl, _ => by simp at hl
theorem valI_valF {ks : List Kn} {m : Mo} {n : Nat} {ns : List Nat} {fs : List (List Int)} {ws : List Int} {x : List Bool} (h0 : ev ks (vf x) n = allF (vf x) m.rules) (hl : ns.length = fs.length) (h : ∀ i, i < ns.length → ev ks (vf x) (ns.getD i 0) = evF1 (vf x) (fs.getD i [])) : valI ks (vf x) (n :: ns) ws = valF m fs ws x := by
  unfold valI valF
  simp only [h0]
  rw [wsum_fsum hl h]
end Go.Proofs.Ytmabfnddedffoaa

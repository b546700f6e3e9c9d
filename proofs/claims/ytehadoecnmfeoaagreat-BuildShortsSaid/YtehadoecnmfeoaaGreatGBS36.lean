/- Part 36 of this claim's texts: walks and plain laws. -/
import Derived.Test.YtehadoecnmfeoaaGreatRows
import Derived.Test.YtehadoecnmfeoaaGreatGBS35
import Derived.Test.YtehadoecnmfeoaaGreatGBS31
import Derived.Deep.DeepMust
import Derived.Deep.RegionHeld3
import Derived.Deep.DrawnRows
import Derived.Test.YtehadoecnmfeoaaGreatGBS3
import Derived.Test.YtehadoecnmfeoaaGreatGBS34
set_option linter.unusedVariables false
set_option linter.unusedSimpArgs false
set_option linter.unusedSectionVars false
namespace Go.Proofs.YtehadoecnmfeoaaGreat
section
variable {α : Type} (lt : α → α → Bool) (z : α)
def swapL (L : List α) (j : Nat) : List α := (L.set j (L.getD (j - 1) z)).set (j - 1) (L.getD j z)
def SrO (L : List α) (n : Nat) : Prop := ∀ p q, p < q → q < n → lt (L.getD q z) (L.getD p z) = false
structure SrI (L : List α) (j n : Nat) : Prop where
 so : ∀ p q, p < q → q ≤ n → p ≠ j → q ≠ j → lt (L.getD q z) (L.getD p z) = false
 gt : ∀ q, j < q → q ≤ n → lt (L.getD j z) (L.getD q z) = true
variable {lt z}
theorem getD_set73 {L : List α} {i j : Nat} {x : α} (hi : i < L.length) : (L.set i x).getD j z = if j = i then x else L.getD j z := by
 rw [List.getD_eq_getElem?_getD, List.getElem?_set]
 by_cases h : i = j
 ·
  subst h
  rw [if_pos rfl, if_pos hi, if_pos rfl]
  rfl
 ·
  rw [if_neg h, if_neg (fun e => h e.symm), ← List.getD_eq_getElem?_getD]
theorem swapL_len (L : List α) (j : Nat) : (swapL z L j).length = L.length := by simp [swapL]
theorem swapL_at {L : List α} {j i : Nat} (hj : j < L.length) (h0 : 0 < j) : (swapL z L j).getD i z = if i = j - 1 then L.getD j z else if i = j then L.getD (j - 1) z else L.getD i z := by
 unfold swapL
 rw [getD_set73 (by rw [List.length_set]; omega), getD_set73 hj]
theorem swapL_perm {L : List α} {j : Nat} (hj : j < L.length) (h0 : 0 < j) : (swapL z L j).Perm L := by
 obtain ⟨k, rfl⟩ : ∃ k, j = k + 1 := ⟨j - 1, by omega⟩
 have h1 : L = L.take k ++ (L.getD k z :: L.getD (k + 1) z :: L.drop (k + 2)) := by
  have e1 : L.drop k = L.getD k z :: L.drop (k + 1) := by
   rw [List.drop_eq_getElem_cons (by omega), List.getD_eq_getElem?_getD, List.getElem?_eq_getElem (by omega)]
   rfl
  have e2 : L.drop (k + 1) = L.getD (k + 1) z :: L.drop (k + 2) := by
   rw [List.drop_eq_getElem_cons (by omega), List.getD_eq_getElem?_getD, List.getElem?_eq_getElem (by omega)]
   rfl
  rw [← e2, ← e1, List.take_append_drop]
 have h2 : swapL z L (k + 1) = L.take k ++ (L.getD (k + 1) z :: L.getD k z :: L.drop (k + 2)) := by
  refine List.ext_getElem? fun i => ?_
  have hl : (L.take k).length = k := by simp; omega
  unfold swapL
  rw [show k + 1 - 1 = k by omega]
  rw [List.getElem?_set, List.length_set, List.getElem?_set]
  rcases Nat.lt_trichotomy i k with h | h | h
  ·
   rw [if_neg (by omega), if_neg (by omega), List.getElem?_append_left (by omega), List.getElem?_take_of_lt h]
  ·
   subst h
   rw [if_pos rfl, if_pos (by omega), List.getElem?_append_right (by omega), hl, Nat.sub_self]
   rfl
  ·
   rw [if_neg (by omega)]
   by_cases h3 : k + 1 = i
   ·
    subst h3
    rw [if_pos rfl, if_pos hj, List.getElem?_append_right (by omega), hl, show k + 1 - k = 1 by omega]
    rfl
   ·
    rw [if_neg h3, List.getElem?_append_right (by omega), hl]
    obtain ⟨d, hd⟩ : ∃ d, i = k + 2 + d := ⟨i - (k + 2), by omega⟩
    subst hd
    rw [show k + 2 + d - k = d + 1 + 1 by omega, List.getElem?_cons_succ, List.getElem?_cons_succ, List.getElem?_drop]
 rw [h2]
 conv => rhs; rw [h1]
 exact List.Perm.append_left _ (List.Perm.swap _ _ _)
theorem SrO.one (L : List α) : SrO lt z L 1 := fun p q h1 h2 => absurd h1 (by omega)
theorem SrO.start {L : List α} {n : Nat} (h : SrO lt z L n) : SrI lt z L n n :=
 ⟨fun p q h1 h2 h3 h4 => h p q h1 (by omega), fun q h1 h2 => absurd h1 (by omega)⟩
theorem SrI.step {L : List α} {j n : Nat} (h : SrI lt z L j n) (h0 : 0 < j) (hj : j ≤ n) (hn : n < L.length) (hl : lt (L.getD j z) (L.getD (j - 1) z) = true) : SrI lt z (swapL z L j) (j - 1) n := by
 refine ⟨fun p q h1 h2 h3 h4 => ?_, fun q h1 h2 => ?_⟩
 ·
  rw [swapL_at (by omega) h0, swapL_at (by omega) h0, if_neg h3, if_neg h4]
  by_cases h5 : p = j
  ·
   subst h5
   rw [if_pos rfl, if_neg (by omega)]
   exact h.so (p - 1) q (by omega) h2 (by omega) (by omega)
  ·
   rw [if_neg h5]
   by_cases h6 : q = j
   ·
    subst h6
    rw [if_pos rfl]
    exact h.so p (q - 1) (by omega) (by omega) h5 (by omega)
   ·
    rw [if_neg h6]
    exact h.so p q h1 h2 h5 h6
 ·
  rw [swapL_at (by omega) h0, swapL_at (by omega) h0, if_pos rfl, if_neg (by omega)]
  by_cases h6 : q = j
  ·
   subst h6
   rw [if_pos rfl]
   exact hl
  ·
   rw [if_neg h6]
   exact h.gt q (by omega) h2
theorem SrI.stop {L : List α} {j n : Nat} (ha : ∀ x y, lt x y = true → lt y x = false) (ht : ∀ x y u, lt x y = false → lt y u = false → lt x u = false) (h : SrI lt z L j n) (hj : j ≤ n) (hs : j = 0 ∨ lt (L.getD j z) (L.getD (j - 1) z) = false) : SrO lt z L (n + 1) := by
 intro p q h1 h2
 by_cases h5 : p = j
 ·
  subst h5
  exact ha _ _ (h.gt q h1 (by omega))
 ·
  by_cases h6 : q = j
  ·
   subst h6
   rcases hs with h7 | h7
   ·
    omega
   ·
    by_cases h8 : p = q - 1
    ·
     rw [h8]; exact h7
    ·
     exact ht _ _ _ h7 (h.so p (q - 1) (by omega) (by omega) h5 (by omega))
  ·
   exact h.so p q h1 (by omega) h5 h6
theorem SrO.pair {L : List α} (h : SrO lt z L L.length) {R : α → α → Prop} (hR : ∀ x y, lt y x = false → R x y ∨ R y x → lt x y = true) (hp : L.Pairwise fun x y => R x y ∨ R y x) : L.Pairwise fun x y => lt x y = true := by
 rw [List.pairwise_iff_getElem] at hp ⊢
 intro i j hi hj hij
 have h1 := h i j hij hj
 rw [List.getD_eq_getElem?_getD, List.getD_eq_getElem?_getD, List.getElem?_eq_getElem hi, List.getElem?_eq_getElem hj] at h1
 exact hR _ _ h1 (hp i j hi hj hij)
end
theorem srt_pins {L M : List Pn} (h : SrO ltP (0, 0) L L.length) (hp : L.Perm M) (hM : M.Pairwise fun x y => x ≠ y) : L = sortU M := by
 refine sortU_uniq ?_ fun a => hp.mem_iff
 refine h.pair (R := fun x y => x ≠ y) (fun x y h1 h2 => ?_) ?_
 ·
  have hne : y ≠ x := by rcases h2 with h2 | h2; exact fun e => h2 e.symm; exact h2
  exact ltP_total (by rw [h1]; simp) hne
 ·
  exact ((hp.pairwise_iff fun {x y} e => fun e2 => e e2.symm).2 hM).imp fun h => .inl h
theorem srt_nets {L M : List (List Pn)} (hi : NetI M) (h : SrO ltN [] L L.length) (hp : L.Perm M) : L = sortN M := by
 refine sortN_uniq hi ?_ fun a => hp.mem_iff
 refine h.pair (R := fun x y => hdP x ≠ hdP y) (fun x y h1 h2 => ?_) ?_
 ·
  have hne : hdP y ≠ hdP x := by rcases h2 with h2 | h2; exact fun e => h2 e.symm; exact h2
  exact ltP_total (by show ¬ ltN y x = true; rw [h1]; simp) hne
 ·
  exact ((hp.pairwise_iff fun {x y} e => fun e2 => e e2.symm).2 hi.heads).imp fun h => .inl h
theorem ltP_asym (x y : Pn) (h : ltP x y = true) : ltP y x = false := by
 cases h2 : ltP y x with
 | false => rfl
 | true => rw [ltP_iff] at h h2; omega
theorem ltP_ntrans (x y u : Pn) (h : ltP x y = false) (k : ltP y u = false) : ltP x u = false := by
 cases h2 : ltP x u with
 | false => rfl
 | true =>
  have h' : ¬ ltP x y = true := by rw [h]; simp
  have k' : ¬ ltP y u = true := by rw [k]; simp
  rw [ltP_iff] at h' k' h2
  omega
def bothR (o : List (List Pn)) (a b : Pn) : List Pn := bothL o a b ++ (if o.any (fun n => n.contains a) then [] else [a]) ++ (if o.any (fun n => n.contains b) || a == b then [] else [b])
theorem anyC_iff {o : List (List Pn)} {a : Pn} : o.any (fun n => n.contains a) = true ↔ ∃ net ∈ o, a ∈ net := by simp
theorem bothR_mem {o : List (List Pn)} {a b p : Pn} : p ∈ bothR o a b ↔ p ∈ a :: b :: bothL o a b := by
 have hin : ∀ x, (x = a ∨ x = b) → o.any (fun n => n.contains x) = true → x ∈ bothL o a b := fun x hx h => by
  obtain ⟨net, hn, hxn⟩ := anyC_iff.1 h
  refine bothL_mem.2 ⟨net, hn, touB_iff.2 ?_, hxn⟩
  rcases hx with e | e
  ·
   exact .inl (e ▸ hxn)
  ·
   exact .inr (e ▸ hxn)
 unfold bothR
 simp only [List.mem_append, List.mem_cons]
 constructor
 ·
  rintro ((h | h) | h)
  ·
   exact .inr (.inr h)
  ·
   split at h
   ·
    cases h
   ·
    exact .inl (by simpa using h)
  ·
   split at h
   ·
    cases h
   ·
    exact .inr (.inl (by simpa using h))
 ·
  rintro (h | h | h)
  ·
   subst h
   cases ha : o.any (fun n => n.contains p) with
   | true => exact .inl (.inl (hin p (.inl rfl) ha))
   | false => exact .inl (.inr (by simp))
  ·
   subst h
   cases hb : o.any (fun n => n.contains p) with
   | true => exact .inl (.inl (hin p (.inr rfl) hb))
   | false =>
    by_cases e : a = p
    ·
     subst e
     rw [hb]
     exact .inl (.inr (by simp))
    ·
     exact .inr (by simp [e])
  ·
   exact .inl (.inl h)
theorem bothL_nodup {o : List (List Pn)} (h : NetI o) (a b : Pn) : (bothL o a b).Pairwise fun x y => x ≠ y := by
 unfold bothL
 rw [List.pairwise_flatten]
 refine ⟨fun net hn => ?_, (h.apart.filter _).imp fun {m n} hap x hx y hy e => hap x hx (by rw [e]; exact hy)⟩
 refine (h.asc net (List.mem_filter.1 hn).1).imp fun {x y} hlt e => ?_
 rw [e, ltP_irr] at hlt
 cases hlt
theorem bothR_nodup {o : List (List Pn)} (h : NetI o) (a b : Pn) : (bothR o a b).Pairwise fun x y => x ≠ y := by
 have hna : ∀ x, o.any (fun n => n.contains x) = false → ∀ p ∈ bothL o a b, p ≠ x := fun x hx p hp e => by
  subst e
  obtain ⟨net, hn, _, hpn⟩ := bothL_mem.1 hp
  rw [anyC_iff.2 ⟨net, hn, hpn⟩] at hx
  cases hx
 unfold bothR
 refine List.pairwise_append.2 ⟨List.pairwise_append.2 ⟨bothL_nodup h a b, ?_, fun x hx y hy => ?_⟩, ?_, fun x hx y hy => ?_⟩
 ·
  split
  ·
   exact List.Pairwise.nil
  ·
   exact List.pairwise_singleton _ _
 ·
  split at hy
  ·
   cases hy
  ·
   rename_i hc
   have e : y = a := by simpa using hy
   subst e
   exact hna y (by simpa using hc) x hx
 ·
  split
  ·
   exact List.Pairwise.nil
  ·
   exact List.pairwise_singleton _ _
 ·
  split at hy
  ·
   cases hy
  ·
   rename_i hc
   have e : y = b := by simpa using hy
   subst e
   rw [Bool.or_eq_true, not_or] at hc
   rcases List.mem_append.1 hx with h1 | h1
   ·
    exact hna y (by simpa using hc.1) x h1
   ·
    split at h1
    ·
     cases h1
    ·
     have e2 : x = a := by simpa using h1
     subst e2
     intro e3
     exact hc.2 (by simp [e3])
theorem bothR_sort {o : List (List Pn)} (h : NetI o) {a b : Pn} {L : List Pn} (hs : SrO ltP (0, 0) L L.length) (hp : L.Perm (bothR o a b)) : L = sortU (a :: b :: bothL o a b) := by
 rw [srt_pins hs hp (bothR_nodup h a b)]
 exact sortU_uniq (sortU_sorted _) fun p => sortU_mem.trans bothR_mem
def atN (o : List (List Pn)) (p : Pn) : Nat := o.findIdx fun n => n.contains p
theorem atN_tou {o : List (List Pn)} (h : NetI o) (a b : Pn) {n : Nat} (hn : n < o.length) : touB a b (o.getD n []) = (n == atN o a || n == atN o b) := by
 have key : ∀ p, p ∈ o.getD n [] ↔ n = atN o p := fun p => by
  unfold atN
  constructor
  ·
   intro hp
   have hmem : ∃ x ∈ o, x.contains p = true := ⟨o.getD n [], getD_mem71 hn, by simpa using hp⟩
   have h1 : o.findIdx (fun n => n.contains p) < o.length := List.findIdx_lt_length.2 hmem
   have h2 := List.findIdx_getElem (w := h1)
   have h3 : p ∈ o[o.findIdx (fun n => n.contains p)] := by simpa using h2
   rcases Nat.lt_trichotomy n (o.findIdx fun n => n.contains p) with h4 | h4 | h4
   ·
    have h5 := List.not_of_lt_findIdx h4
    rw [List.getD_eq_getElem?_getD, List.getElem?_eq_getElem hn] at hp
    exact absurd (by simpa using hp) (by simpa using h5)
   ·
    exact h4
   ·
    have h5 := getD_inj71 h h1 hn h4
    rw [List.getD_eq_getElem?_getD, List.getElem?_eq_getElem h1] at h5
    exact absurd hp (h5 p h3)
  ·
   intro e
   have h1 : o.findIdx (fun n => n.contains p) < o.length := by omega
   have h2 := List.findIdx_getElem (w := h1)
   rw [List.getD_eq_getElem?_getD, List.getElem?_eq_getElem hn]
   have h3 : p ∈ o[o.findIdx (fun n => n.contains p)] := by simpa using h2
   simp only [← e] at h3
   exact h3
 rw [Bool.eq_iff_iff, touB_iff, key a, key b]
 simp
theorem atN_len {o : List (List Pn)} (p : Pn) : decide (atN o p = o.length) = !o.any (fun n => n.contains p) := by
 unfold atN
 cases h : o.any (fun n => n.contains p) with
 | true =>
  have h1 := List.findIdx_lt_length.2 (List.any_eq_true.1 h)
  exact decide_eq_false (by omega)
 | false =>
  refine decide_eq_true ?_
  refine Nat.le_antisymm List.findIdx_le_length (Nat.le_of_not_lt fun h1 => ?_)
  have h2 := List.any_eq_true.2 (List.findIdx_lt_length.1 h1)
  rw [h] at h2
  cases h2
end Go.Proofs.YtehadoecnmfeoaaGreat
namespace Go.Proofs.YtehadoecnmfeoaaGreat
open Go.RowKit Go.Sort Go.Shelf
theorem pinC_of (x y : Pn) : ltOf pinC x y = ltP x y := pinC_lt x y
theorem pinC_swo : SWO (ltOf pinC) where
 irrefl x := by rw [pinC_of]; exact ltP_irr x
 trans x y z h k := by
  rw [pinC_of] at h k ⊢
  exact ltP_trans _ _ _ h k
 ntrans x y z h k := by
  rw [pinC_of] at h k ⊢
  exact ltP_ntrans _ _ _ h k
set_option maxRecDepth 100000 in
theorem sortPins_own (Q : List Pn) (base : Nat) (v : Value) (w : World) (h60 : Q.length ≤ 1000000) (h : w.ownsRow base 74 2 v Q.length (rowV pnE Q)) :
  Calls Tryz.prog 183 #[v, .func (.func 184) #[] #[]] w fun e w' => e = .returned (.tuple #[]) ∧ ∃ Q' : List Pn, Q'.Perm Q ∧ SrO ltP (0, 0) Q' Q'.length ∧
   w'.ownsRow base 74 2 v Q'.length (rowV pnE Q') ∧ w.grownBy w' v.ownBlock := by
 have eg : ∀ args w, (callFunc 184 args).run Tryz.prog w = .ok (.enter 184 args) w := enters_of Tryz.func184 (by kernel_rfl) rfl
 rcases h.2 with ⟨h0, hl⟩ | ⟨g, cap, cur, rfl, hbg, hg, hnc, hcm, hcs, ht⟩
 ·
  obtain rfl : Q = [] := List.length_eq_zero_iff.1 hl
  subst h0
  have hcon := AnyF.slices_SortFunc_none sfLays_f183 none 0 (.func (.func 184) #[] #[]) w
  refine Calls.mono hcon ?_
  rintro e w' ⟨rfl, rfl⟩
  exact ⟨rfl, [], List.Perm.refl _, fun i j _ hj => absurd hj (by simp), h, only_refl _ _⟩
 ·
  have hgl : g < w.heap.size := (Array.getElem?_eq_some_iff.1 hg).1
  have hH : HoldsK pnE 2 w g 0 Q.toArray := by
   unfold HoldsK
   rw [flatK_row pnE_len]
   exact holds_row hg (by rw [rowV_len pnE_len]; exact ht)
  have hcon := AnyQ.slices_SortFunc sfLays_f183 2 Tryz.isAgg74 Tryz.sizeOf74 pnE pnE_len pnE_one pinC pinC_swo 184 #[] g 0 cap Q.toArray w eg (fun m os dk hs x y => comparePins_any x y _) hH hgl (by simp; omega)
  have e2 : Q.toArray.size = Q.length := by simp
  rw [e2] at hcon
  refine Calls.mono hcon ?_
  rintro e w' ⟨rfl, d', n, os, hp, hs, rfl⟩
  have hpl := perm_list (L := Q) (by rw [e2]; exact hp)
  obtain ⟨h1, h2⟩ := sortK_row (os := os) (n := n) pnE_len hbg hg hnc hcm hcs hpl
  refine ⟨rfl, d'.toList, hpl, fun i j hij hj => ?_, h1, h2⟩
  rw [← pinC_of]
  exact sorted_list (by rw [hp.1, e2]) hs (0, 0) i j hij hj
theorem GrQ.below {W w' : World} (h : GrQ W w') : Below W.heap.size W w' := by
 obtain ⟨q, os, rfl⟩ := h
 refine ⟨rfl, rfl, rfl, by simp, fun k hk => ?_⟩
 rw [heap_grow_old _ _ (by simpa using hk)]
 rfl
theorem GrQ.of_drew {W w' : World} (h : GrQ W.drew w') : GrQ W w' := by
 obtain ⟨q, os, rfl⟩ := h
 refine ⟨1 + q, os, ?_⟩
 congr 1
 show World.drewN (World.drewN W 1) q = _
 simp only [World.drewN, Nat.add_assoc]
set_option maxRecDepth 100000 in
theorem nets2_any (x y : Pn) (g1 g2 n1 c1 n2 c2 : Nat) (w : World) (h1 : 0 < n1) (h2 : 0 < n2) (hc1 : n1 ≤ c1) (hc2 : n2 ≤ c2) (a0 : w.cell? ⟨g1, 0, none⟩ = some (.int .i64 x.1)) (a1 : w.cell? ⟨g1, 1, none⟩ = some (.int .i64 x.2)) (b0 : w.cell? ⟨g2, 0, none⟩ = some (.int .i64 y.1)) (b1 : w.cell? ⟨g2, 1, none⟩ = some (.int .i64 y.2)) (l1 : g1 < w.heap.size) (l2 : g2 < w.heap.size) :
  Calls Tryz.prog 187 #[.slice (some ⟨g1, 0, none⟩) n1 c1, .slice (some ⟨g2, 0, none⟩) n2 c2] w fun e w' => e = .returned (.int .i64 (pinC x y)) ∧ GrQ w w' := by
 have i1 : (0 : Int) < (n1 : Int) := by omega
 have i2 : (0 : Int) < (n2 : Int) := by omega
 have j1 : (n1 : Int) ≤ (c1 : Int) := by omega
 have j2 : (n2 : Int) ≤ (c2 : Int) := by omega
 clear hc1 hc2
 go_enter Tryz.func187, Tryz.ntmps187
 go_upto_region 1 with (fail)
 refine wp_region_held_drew (S := (fun w' => Below w.heap.size w w')) (by kernel_rfl) ?_ (fun hHeld => ?_)
 ·
  try dsimp only
  exact zP
 refine zT 0 rfl ?_
 refine zT 1 rfl ?_
 refine zT 2 rfl ?_
 refine zT 3 rfl ?_
 refine zT 4 rfl ?_
 refine zT 5 rfl ?_
 refine wpAnyH_ready (rs := [6]) (by kernel_rfl) (by simp) ?_
 refine AllReadyH.cons rfl (fun K hK => ?_) AllReadyH.nil
 go_simp
 ((go_at_call 184; refine (comparePins_any x y _).mono ?_; rintro e w2 ⟨rfl, hq⟩; have hHeld := GrQ.below hq))
 (try dsimp only)
 refine hK.out _ _ zP fun hNext => ?_; clear hK K hHeld; have hHeld := hNext; clear hNext; (try dsimp only at hHeld); try simp only [zX]
 refine zT 7 rfl ?_
 refine wpAnyH_done (by kernel_rfl) ?_ _
 go_wp2_with fail
 go_ret
 exact ⟨rfl, hq.of_drew⟩
theorem heap_sortedE {α : Type} [Inhabited α] (enc : α → Value) {w : World} {g n : Nat} {os : Array Obj} {cur : Array Value} {e : TypeId} {fr : Nat × Nat} (d : Array α) (hb : w.heap[g]? = some (.cells cur e fr)) :
  (grow (putRow enc (Sort.ahead w n) g 0 d) os).heap[g]? = some (.cells (putCells enc 0 d cur) e fr) := by
 have hg : g < w.heap.size := (Array.getElem?_eq_some_iff.1 hb).1
 rw [heap_grow_old _ _ (by simpa using hg)]
 simp [putRow, mapBlock, Sort.ahead, Array.getElem?_modify, hb, onCells]
theorem grownBy_sortedE {α : Type} [Inhabited α] (enc : α → Value) {w : World} {g n : Nat} {os : Array Obj} (d : Array α) : w.grownBy (grow (putRow enc (Sort.ahead w n) g 0 d) os) (some g) := by
 refine ⟨rfl, rfl, rfl, by simp, fun k hk hne => ?_⟩
 rw [heap_grow_old _ _ (by simpa using hk)]
 have : g ≠ k := fun e => hne (by rw [e])
 simp [putRow, mapBlock, Sort.ahead, Array.getElem?_modify, this]
theorem take_putCellsE {α : Type} [Inhabited α] (enc : α → Value) (cur : Array Value) (ts : List α) (h : ts.length ≤ cur.size) : (putCells enc 0 ts.toArray cur).toList.take ts.length = ts.map enc := by
 apply List.ext_getElem?
 intro j
 by_cases hj : j < ts.length
 ·
  rw [List.getElem?_take_of_lt hj, Array.getElem?_toList]
  simp [putCells, hj, show j < cur.size by omega]
 ·
  rw [List.getElem?_take_eq_none (by omega), List.getElem?_eq_none (by simp; omega)]
theorem ownsRow_sortedE {α : Type} [Inhabited α] (enc : α → Value) {w : World} {base g cap n m : Nat} {e : TypeId} {os : Array Obj} {cur : Array Value} {ts : List α} (hl : ts.length = m) (hbase : base ≤ g) (hb : w.heap[g]? = some (.cells cur e (0, 0)))
  (h1 : m ≤ cap) (h2 : cap ≤ maxLen) (h3 : cur.size = cap * 1) :
  (grow (putRow enc (Sort.ahead w n) g 0 ts.toArray) os).ownsRow base e 1 (.slice (some ⟨g, 0, none⟩) m cap) m (ts.map enc) :=
 ⟨by simp [hl], .inr ⟨g, cap, _, rfl, hbase, heap_sortedE enc _ hb, h1, h2, by simp [putCells, h3], by rw [Nat.mul_one, ← hl]; exact take_putCellsE enc cur ts (by omega)⟩⟩
def clNt (n i : Nat) : Nat := if i < n then i else 0
theorem clNt_lt {n : Nat} (i : Nat) (h : 0 < n) : clNt n i < n := by unfold clNt; split <;> omega
theorem clNt_of {n i : Nat} (h : i < n) : clNt n i = i := if_pos h
def enNt (vs : List Value) (n i : Nat) : Value := vs.getD (clNt n i) undef
def cfNt (o : List (List Pn)) (i j : Nat) : Int := pinC (hdP (o.getD (clNt o.length i) [])) (hdP (o.getD (clNt o.length j) []))
theorem cfNt_of (o : List (List Pn)) (i j : Nat) : ltOf (cfNt o) i j = ltN (o.getD (clNt o.length i) []) (o.getD (clNt o.length j) []) := pinC_lt _ _
theorem cfNt_swo (o : List (List Pn)) : SWO (ltOf (cfNt o)) where
 irrefl x := by rw [cfNt_of]; exact ltP_irr _
 trans x y z h k := by
  rw [cfNt_of] at h k ⊢
  exact ltP_trans _ _ _ h k
 ntrans x y z h k := by
  rw [cfNt_of] at h k ⊢
  exact ltP_ntrans _ _ _ h k
theorem NetR.first {w : World} {b0 B : Nat} {o : List (List Pn)} {vs : List Value} (h : NetR w b0 B o vs) (hi : NetI o) {k : Nat} (hk : k < o.length) : ∃ g n c, vs.getD k undef = .slice (some ⟨g, 0, none⟩) n c ∧ 0 < n ∧ n ≤ c ∧ g < w.heap.size ∧ w.cell? ⟨g, 0, none⟩ = some (.int .i64 (hdP (o.getD k [])).1) ∧ w.cell? ⟨g, 1, none⟩ = some (.int .i64 (hdP (o.getD k [])).2) := by
 obtain ⟨h1, _⟩ := h k hk
 have hm : o.getD k [] ∈ o := by
  rw [List.getD_eq_getElem?_getD, List.getElem?_eq_getElem hk]
  exact List.getElem_mem hk
 have hne := hi.ne _ hm
 have hl : 0 < (o.getD k []).length := List.length_pos_iff.2 hne
 obtain ⟨A, q, hv⟩ := owns_form h1
 rw [hv] at h1
 obtain ⟨g, a, HA, hA1, _, hg, _, hq, c0, c1, _⟩ := own_pn h1 hl
 subst hA1
 have e : (o.getD k []).getD 0 (0, 0) = hdP (o.getD k []) := by
  unfold hdP
  cases o.getD k [] <;> rfl
 have e2 := HA.out
 rw [e] at e2
 rw [e2]
 exact ⟨g, _, q, hv, hl, hq, hg, by simpa using c0, by simpa using c1⟩
theorem sortNets_own (o : List (List Pn)) (vs : List Value) (v : Value) (b0 : Nat) (w : World) (hn : NetS w b0 w.heap.size v o vs) (hi : NetI o) (hne : o ≠ []) (hl : o.length ≤ 100000) :
  Calls Tryz.prog 186 #[v, .func (.func 187) #[] #[]] w fun e w' => e = .returned (.tuple #[]) ∧ (∃ vs', NetS w' b0 w'.heap.size v (sortN o) vs') ∧ (b0 ≤ w.heap.size → Below b0 w w') := by
 have eg : ∀ args w, (callFunc 187 args).run Tryz.prog w = .ok (.enter 187 args) w := enters_of Tryz.func187 (by kernel_rfl) rfl
 have hpos : 0 < o.length := List.length_pos_iff.2 hne
 rcases hn.own.2 with ⟨h0, hl0⟩ | ⟨g, cap, cur, rfl, hbg, hg, hnc, hcm, hcs, ht⟩
 ·
  omega
 have hgl : g < w.heap.size := (Array.getElem?_eq_some_iff.1 hg).1
 have hrow : ∀ W, w.grownBy W (some g) → NetR W b0 W.heap.size o vs := fun W hW i hi2 => by
  obtain ⟨h1, h2⟩ := hn.row i hi2
  refine ⟨owns_grown h1 hW hg (by decide), fun j hj => Nat.lt_of_lt_of_le (h2 j hj) hW.size⟩
 have hone : ∀ i, (enNt vs o.length i).oneCell' = true := fun i => by
  obtain ⟨g', n, c, hv, _⟩ := NetR.first hn.row hi (clNt_lt i hpos)
  unfold enNt
  rw [hv]
  rfl
 have hH : Holds (enNt vs o.length) w g 0 (List.range o.length).toArray := fun j hj => by
  have hj' : j < o.length := by simpa using hj
  refine ⟨?_, by simp [World.frozen?, hg]⟩
  have h1 := hn.own.cellAt j (by omega)
  have hj2 : j < vs.length := by rw [hn.len]; exact hj'
  rw [List.getElem?_eq_getElem hj2] at h1
  have e1 : (List.range o.length).toArray[j]! = j := by
   rw [getElem!_pos _ j hj]
   simp
  rw [e1, Nat.zero_add, h1]
  unfold enNt
  rw [clNt_of hj', List.getD_eq_getElem?_getD, List.getElem?_eq_getElem hj2]
  rfl
 have hcmp : CmpLays1 Tryz.prog 187 #[] (enNt vs o.length) (cfNt o) g 0 (List.range o.length).toArray.size w := fun m os dk hs x y => by
  have hgr : w.grownBy (sortWorld (enNt vs o.length) w g 0 m dk os) (some g) := grownBy_sortedE _ _
  obtain ⟨W, hW⟩ : ∃ W, sortWorld (enNt vs o.length) w g 0 m dk os = W := ⟨_, rfl⟩
  rw [hW] at hgr ⊢
  obtain ⟨g1, n1, c1, e1, p1, q1, r1, s1, t1⟩ := NetR.first (hrow W hgr) hi (clNt_lt x hpos)
  obtain ⟨g2, n2, c2, e2, p2, q2, r2, s2, t2⟩ := NetR.first (hrow W hgr) hi (clNt_lt y hpos)
  have h5 := nets2_any (hdP (o.getD (clNt o.length x) [])) (hdP (o.getD (clNt o.length y) [])) g1 g2 n1 c1 n2 c2 W p1 p2 q1 q2 s1 t1 s2 t2 r1 r2
  rw [← e1, ← e2] at h5
  exact h5
 have hcon := Any.slices_SortFunc sfLays_f186 (enNt vs o.length) hone (cfNt o) (cfNt_swo o) 187 #[] g 0 cap (List.range o.length).toArray w eg hcmp hH hgl (by simp; omega)
 have e2 : (List.range o.length).toArray.size = o.length := by simp
 rw [e2] at hcon
 refine Calls.mono hcon ?_
 rintro e w' ⟨rfl, d', n, os, hp, hs, rfl⟩
 have hpl := perm_list (L := List.range o.length) (by rw [e2]; exact hp)
 obtain ⟨D, hD⟩ : ∃ D, d'.toList = D := ⟨_, rfl⟩
 have hDl : D.length = o.length := by rw [← hD, hpl.length_eq, List.length_range]
 have hDm : ∀ i ∈ D, i < o.length := fun i hi => by rw [← hD] at hi; exact List.mem_range.1 (hpl.mem_iff.1 hi)
 have hgr : w.grownBy (sortWorld (enNt vs o.length) w g 0 n d' os) (some g) := grownBy_sortedE _ _
 have e3 : sortWorld (enNt vs o.length) w g 0 n d' os = grow (putRow (enNt vs o.length) (Sort.ahead w n) g 0 D.toArray) os := by rw [← hD, Array.toArray_toList]; rfl
 have hown : (sortWorld (enNt vs o.length) w g 0 n d' os).ownsRow b0 86 1 (.slice (some ⟨g, 0, none⟩) o.length cap) o.length (D.map (enNt vs o.length)) := by
  rw [e3]
  exact ownsRow_sortedE _ hDl hbg hg hnc hcm hcs
 have e4 : D.map (enNt vs o.length) = D.map fun i => vs.getD i undef := List.map_congr_left fun i hi => by
  unfold enNt
  rw [clNt_of (hDm i hi)]
 rw [e4] at hown
 have hsN : D.map (fun i => o.getD i []) = sortN o := by
  refine srt_nets hi (fun p q hpq hq => ?_) ?_
  ·
   rw [List.length_map] at hq
   have h6 := sorted_list (by rw [hp.1, e2]) hs 0 p q hpq (by rw [hD]; exact hq)
   rw [hD, cfNt_of] at h6
   have g1 : ∀ i, i < D.length → (D.map fun i => o.getD i []).getD i [] = o.getD (clNt o.length (D.getD i 0)) [] := fun i hi => by
    rw [List.getD_eq_getElem?_getD, List.getElem?_map, List.getD_eq_getElem?_getD (l := D), List.getElem?_eq_getElem hi]
    show o.getD D[i] [] = o.getD (clNt o.length D[i]) []
    rw [clNt_of (hDm _ (List.getElem_mem hi))]
   rw [g1 q hq, g1 p (by omega)]
   exact h6
  ·
   rw [hD] at hpl
   have h7 := hpl.map fun i => o.getD i []
   rw [map_rangeD] at h7
   exact h7
 refine ⟨rfl, ⟨D.map fun i => vs.getD i undef, ?_⟩, fun hbs => ?_⟩
 ·
  have h8 := NetS.kept (K := D) (hrow _ hgr) hn.small (by rw [hDl]; exact hown) (fun j hj => by have hj2 : some g = some j := hj; injection hj2 with hj2; have := hgr.size; omega) hDm
  rw [hsN] at h8
  exact h8
 ·
  exact (Below.refl b0 w).grown hgr hbs (fun k e => by injection e with e; omega)
end Go.Proofs.YtehadoecnmfeoaaGreat
namespace Go.Proofs.YtehadoecnmfeoaaGreat
def kepB (L : List Pn) (i : Nat) : Bool := i == 0 || !(L.getD i (0, 0) == L.getD (i - 1) (0, 0))
def kepC (L : List Pn) (k : Nat) : List Nat := (List.range k).filter (kepB L)
theorem kepC_succ (L : List Pn) (k : Nat) : kepC L (k + 1) = if kepB L k = true then kepC L k ++ [k] else kepC L k := by
 unfold kepC
 rw [List.range_succ, List.filter_append, List.filter_cons]
 cases kepB L k <;> simp
theorem kepC_le (L : List Pn) (k : Nat) : (kepC L k).length ≤ k := by
 have h := List.length_filter_le (kepB L) (List.range k)
 rw [List.length_range] at h
 exact h
theorem kepC_all {L : List Pn} : ∀ {k : Nat}, (∀ j, j < k → kepB L j = true) → kepC L k = List.range k
 | 0, _ => rfl
 | k + 1, h => by
  rw [kepC_succ, if_pos (h k (by omega)), kepC_all fun j hj => h j (by omega), List.range_succ]
def cmpP (L : List Pn) : List Pn := (kepC L L.length).map fun i => L.getD i (0, 0)
theorem cmpP_len (L : List Pn) : (cmpP L).length = (kepC L L.length).length := by simp [cmpP]
structure KepD (Y L : List Pn) (K : List Nat) : Prop where
 len : Y.length = L.length
 le : K.length ≤ L.length
 pre : Y.take K.length = K.map fun i => L.getD i (0, 0)
 rest : ∀ p, K.length ≤ p → Y[p]? = L[p]?
theorem KepD.start (L : List Pn) {k : Nat} (hk : k ≤ L.length) : KepD L L (List.range k) := by
 refine ⟨rfl, by simpa using hk, ?_, fun p _ => rfl⟩
 rw [List.length_range]
 apply List.ext_getElem
 ·
  rw [List.length_take, List.length_map, List.length_range]; omega
 ·
  intro i h1 h2
  rw [List.getElem_take, List.getElem_map, List.getElem_range, List.getD_eq_getElem?_getD, List.getElem?_eq_getElem]
  rfl
theorem KepD.keep {Y L : List Pn} {K : List Nat} (h : KepD Y L K) {j : Nat} (hj : K.length < L.length) : KepD (Y.set K.length (L.getD j (0, 0))) L (K ++ [j]) := by
 have hl := h.len
 refine ⟨by rw [List.length_set]; exact hl, by simp; omega, ?_, fun p hp => ?_⟩
 ·
  rw [List.length_append, List.length_singleton, List.take_add_one, List.take_set_of_le (Nat.le_refl _), h.pre, List.map_append, List.getElem?_set_self (by omega)]
  rfl
 ·
  rw [List.length_append, List.length_singleton] at hp
  rw [List.getElem?_set_ne (by omega)]
  exact h.rest p (by omega)
theorem KepD.getD {Y L : List Pn} {K : List Nat} (h : KepD Y L K) {p : Nat} (hp : K.length ≤ p) : Y.getD p (0, 0) = L.getD p (0, 0) := by
 rw [List.getD_eq_getElem?_getD, List.getD_eq_getElem?_getD, h.rest p hp]
theorem kepB_eq {L : List Pn} {p : Nat} {x y : Pn} (hx : L.getD (p + 1) (0, 0) = x) (hy : L.getD p (0, 0) = y) : kepB L (p + 1) = !(x == y) := by
 unfold kepB
 rw [Nat.add_sub_cancel, hx, hy]
 simp
theorem map_rangeP (o : List Pn) : (List.range o.length).map (fun i => o.getD i (0, 0)) = o := by
 apply List.ext_getElem
 ·
  simp
 ·
  intro i h1 h2
  rw [List.getElem_map, List.getElem_range, List.getD_eq_getElem?_getD, List.getElem?_eq_getElem h2]
  rfl
theorem cmpP_all {L : List Pn} (h : ∀ j, j < L.length → kepB L j = true) : cmpP L = L := by
 unfold cmpP
 rw [kepC_all h, map_rangeP]
theorem cmpP_in (L : List Pn) : ∀ p : Nat, p < L.length → L.getD p (0, 0) ∈ cmpP L
 | 0, h => List.mem_map.2 ⟨0, List.mem_filter.2 ⟨List.mem_range.2 h, rfl⟩, rfl⟩
 | p + 1, h => by
  cases hk : kepB L (p + 1) with
  | true => exact List.mem_map.2 ⟨p + 1, List.mem_filter.2 ⟨List.mem_range.2 h, hk⟩, rfl⟩
  | false =>
   have e : L.getD (p + 1) (0, 0) = L.getD p (0, 0) := by
    unfold kepB at hk
    simpa using hk
   rw [e]
   exact cmpP_in L p (by omega)
theorem getD_memP {L : List Pn} {i : Nat} (h : i < L.length) : L.getD i (0, 0) ∈ L := by
 rw [List.getD_eq_getElem?_getD, List.getElem?_eq_getElem h]
 exact List.getElem_mem h
theorem cmpP_mem {L : List Pn} {a : Pn} : a ∈ cmpP L ↔ a ∈ L := by
 constructor
 ·
  intro h
  obtain ⟨i, h1, h2⟩ := List.mem_map.1 h
  rw [← h2]
  exact getD_memP (List.mem_range.1 (List.mem_filter.1 h1).1)
 ·
  intro h
  obtain ⟨i, hi, e⟩ := List.getElem_of_mem h
  have h1 := cmpP_in L i hi
  rw [List.getD_eq_getElem?_getD, List.getElem?_eq_getElem hi] at h1
  rw [← e]
  exact h1
theorem cmpP_asc {L : List Pn} (h : SrO ltP (0, 0) L L.length) : Asc (cmpP L) := by
 unfold Asc cmpP
 rw [List.pairwise_map]
 refine List.Pairwise.imp_of_mem ?_ (List.pairwise_lt_range.filter (kepB L))
 intro i j hi hj hij
 obtain ⟨h1, h2⟩ := List.mem_filter.1 hj
 have hjl : j < L.length := List.mem_range.1 h1
 have hne : L.getD j (0, 0) ≠ L.getD (j - 1) (0, 0) := by
  intro e
  unfold kepB at h2
  rw [e] at h2
  have : j ≠ 0 := by omega
  simp [this] at h2
 have h3 := h (j - 1) j (by omega) hjl
 have h4 : ltP (L.getD (j - 1) (0, 0)) (L.getD j (0, 0)) = true := ltP_total (by rw [h3]; simp) hne
 rcases Nat.lt_or_ge i (j - 1) with h5 | h5
 ·
  cases h6 : ltP (L.getD i (0, 0)) (L.getD j (0, 0)) with
  | true => rfl
  | false =>
   have h7 := ltP_ntrans _ _ _ (h i (j - 1) h5 (by omega)) h6
   rw [h4] at h7
   cases h7
 ·
  have e : i = j - 1 := by omega
  rw [e]
  exact h4
theorem cmpP_sort {L M : List Pn} (h : SrO ltP (0, 0) L L.length) (hp : L.Perm M) : cmpP L = sortU M :=
 sortU_uniq (cmpP_asc h) fun _ => cmpP_mem.trans hp.mem_iff
theorem insP_len (x : Pn) : ∀ o : List Pn, (insP x o).length ≤ o.length + 1
 | [] => by simp [insP]
 | a :: r => by
  unfold insP
  split
  ·
   simpa using insP_len x r
  ·
   split <;> simp
theorem foldP_len : ∀ (l o : List Pn), (l.foldl (fun o p => insP p o) o).length ≤ l.length + o.length
 | [], o => by simp
 | a :: l, o => by
  rw [List.foldl_cons]
  have h1 := foldP_len l (insP a o)
  have h2 := insP_len a o
  simp only [List.length_cons]
  omega
theorem sortU_len (l : List Pn) : (sortU l).length ≤ l.length := by
 have h := foldP_len l []
 simpa [sortU] using h
def totN (o : List (List Pn)) : Nat := o.flatten.length
theorem totN_split (p : List Pn → Bool) : ∀ o : List (List Pn), totN (o.filter fun n => !p n) + totN (o.filter p) = totN o
 | [] => rfl
 | a :: o => by
  have h := totN_split p o
  unfold totN at h ⊢
  rw [List.filter_cons, List.filter_cons]
  cases p a <;> simp <;> simp at h <;> omega
theorem totN_join (o : List (List Pn)) (a b : Pn) : totN (joiL o a b) ≤ totN o + 2 := by
 have h1 := totN_split (touB a b) o
 have h2 := sortU_len (a :: b :: bothL o a b)
 have h3 : (bothL o a b).length = totN (o.filter (touB a b)) := rfl
 unfold joiL
 unfold totN at h1 h3 ⊢
 rw [List.flatten_append, List.length_append]
 simp only [List.length_cons] at h2
 simp only [List.flatten_cons, List.flatten_nil, List.append_nil]
 omega
theorem totN_net (es : List (Pn × Pn)) : ∀ o : List (List Pn), totN (es.foldl (fun o e => joiL o e.1 e.2) o) ≤ totN o + 2 * es.length := by
 induction es with
 | nil => intro o; simp
 | cons e es ih =>
  intro o
  rw [List.foldl_cons]
  have h1 := ih (joiL o e.1 e.2)
  have h2 := totN_join o e.1 e.2
  simp only [List.length_cons]
  omega
theorem netU_tot (es : List (Pn × Pn)) : totN (netU es) ≤ 2 * es.length := by
 have h := totN_net es []
 have h0 : totN [] = 0 := rfl
 unfold netU
 omega
theorem len_net (es : List (Pn × Pn)) : ∀ o : List (List Pn), (es.foldl (fun o e => joiL o e.1 e.2) o).length ≤ o.length + es.length := by
 induction es with
 | nil => intro o; simp
 | cons e es ih =>
  intro o
  rw [List.foldl_cons]
  have h1 := ih (joiL o e.1 e.2)
  have h2 := List.length_filter_le (fun n => !touB e.1 e.2 n) o
  have h3 : (joiL o e.1 e.2).length = (o.filter fun n => !touB e.1 e.2 n).length + 1 := by simp [joiL]
  simp only [List.length_cons]
  omega
theorem netU_len (es : List (Pn × Pn)) : (netU es).length ≤ es.length := by
 have h := len_net es []
 unfold netU
 simpa using h
theorem jonK_le (J : List Pn) (a b : Pn) (o : List (List Pn)) : ∀ k, k ≤ o.length → (jonK J a b o k).length ≤ J.length + totN (o.take k)
 | 0, _ => by simp [jonK, totN]
 | k + 1, h => by
  have h1 := jonK_le J a b o k (by omega)
  rw [jonK_succ]
  have e : totN (o.take (k + 1)) = totN (o.take k) + (o.getD k []).length := by
   unfold totN
   rw [List.take_add_one, List.flatten_append, List.length_append, List.getD_eq_getElem?_getD, List.getElem?_eq_getElem (by omega)]
   simp
  split
  ·
   rw [List.length_append]
   omega
  ·
   omega
theorem take_tot : ∀ (o : List (List Pn)) (k : Nat), totN (o.take k) ≤ totN o := by
 intro o k
 have h := List.take_append_drop k o
 have h2 : totN o = totN (o.take k) + totN (o.drop k) := by
  unfold totN
  rw [← List.length_append, ← List.flatten_append, h]
 omega
end Go.Proofs.YtehadoecnmfeoaaGreat

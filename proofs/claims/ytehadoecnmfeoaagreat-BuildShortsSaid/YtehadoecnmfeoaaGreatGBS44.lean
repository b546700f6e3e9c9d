/- Part 44 of this claim's texts: walks and plain laws. -/
import Derived.Test.YtehadoecnmfeoaaGreatRows
import Derived.Test.YtehadoecnmfeoaaGreatGBS43
import Derived.Test.YtehadoecnmfeoaaGreatGBS32
import Derived.Test.YtehadoecnmfeoaaGreatGBS41
import Derived.Test.YtehadoecnmfeoaaGreatGBS30
import Derived.WalkSpells
import Derived.Lib.SliceRun
import Derived.Deep.RegionHeld3
import Derived.Deep.DrawnRows
import Derived.Test.YtehadoecnmfeoaaGreatGBS20
import Derived.Test.YtehadoecnmfeoaaGreatGBS31
import Derived.Test.YtehadoecnmfeoaaGreatGBS33
import Derived.Test.YtehadoecnmfeoaaGreatGBS25
import Derived.Test.YtehadoecnmfeoaaGreatGBS27
import Derived.Deep.DeepMust
import Derived.Test.YtehadoecnmfeoaaGreatGBS3
set_option linter.unusedVariables false
set_option linter.unusedSimpArgs false
set_option linter.unusedSectionVars false
namespace Go.Proofs.YtehadoecnmfeoaaGreat
theorem nb_trans : ∀ (x y z : List Bool), x.length = y.length → y.length = z.length → befB x y = false → befB y z = false → befB x z = false
 | [], [], [], _, _, _, _ => rfl
 | [], _ :: _, _, h, _, _, _ => by simp at h
 | _ :: _, [], _, h, _, _, _ => by simp at h
 | _, [], _ :: _, _, h, _, _ => by simp at h
 | _, _ :: _, [], _, h, _, _ => by simp at h
 | a :: x, b :: y, c :: z, h1, h2, h3, h4 => by
  have ih := nb_trans x y z (by simpa using h1) (by simpa using h2)
  unfold befB at h3 h4 ⊢
  cases a <;> cases b <;> cases c <;> simp_all
theorem bef_eq : ∀ (x y : List Bool), x.length = y.length → befB x y = false → befB y x = false → x = y
 | [], [], _, _, _ => rfl
 | [], _ :: _, h, _, _ => by simp at h
 | _ :: _, [], h, _, _ => by simp at h
 | a :: x, b :: y, h1, h2, h3 => by
  have ih := bef_eq x y (by simpa using h1)
  unfold befB at h2 h3
  cases a <;> cases b <;> simp_all
def fndV (l : Lo) (fs : List (List Int)) : Option (List Bool) := (allM l.m).find? fun x => allF (vf x) fs
def conV (l : Lo) (a b : Pn) (x : List Bool) : Bool := conB (netL (esL l (belL l x))) a b
def stpP (l : Lo) (p : Pn) (i : Nat) : Option Pn :=
 if p = (wirP l i).1 then some (wirP l i).2 else if p = (wirP l i).2 then some (wirP l i).1 else none
def ltO (v : List Bool) (c : Option (List Bool)) : Bool := match c with | none => true | some u => befB v u
def wlk (l : Lo) (a b : Pn) : Nat → Pn → List Pn → List (List Int) → Option (List Bool) → Option (List Bool)
 | 0, _, _, _, c => c
 | d + 1, p, bh, fs, c =>
  match fndV l fs with
  | none => c
  | some v => if ltO v c = true then (if conV l a b v = true then soon c (some v) else
    (List.range l.ws.length).foldl (fun c i => match stpP l p i with | none => c | some q => if (bh ++ [p]).contains q = true then c else wlk l a b d q (bh ++ [p]) (fs ++ [fmW l i]) c) c) else c
def wlkS (l : Lo) (a b : Pn) (d : Nat) (p : Pn) (bh : List Pn) (fs : List (List Int)) (c : Option (List Bool)) (i : Nat) : Option (List Bool) :=
 match stpP l p i with | none => c | some q => if (bh ++ [p]).contains q = true then c else wlk l a b d q (bh ++ [p]) (fs ++ [fmW l i]) c
def wlkK (l : Lo) (a b : Pn) (d : Nat) (p : Pn) (bh : List Pn) (fs : List (List Int)) (c : Option (List Bool)) (k : Nat) : Option (List Bool) := (List.range k).foldl (wlkS l a b d p bh fs) c
theorem wlkK_succ (l : Lo) (a b : Pn) (d : Nat) (p : Pn) (bh : List Pn) (fs : List (List Int)) (c : Option (List Bool)) (k : Nat) : wlkK l a b d p bh fs c (k + 1) = wlkS l a b d p bh fs (wlkK l a b d p bh fs c k) k := by
 unfold wlkK
 rw [List.range_succ, List.foldl_append]
 rfl
theorem wlk_succ (l : Lo) (a b : Pn) (d : Nat) (p : Pn) (bh : List Pn) (fs : List (List Int)) (c : Option (List Bool)) : wlk l a b (d + 1) p bh fs c =
  match fndV l fs with
  | none => c
  | some v => if ltO v c = true then (if conV l a b v = true then soon c (some v) else wlkK l a b d p bh fs c l.ws.length) else c := rfl
def GodO (l : Lo) (a b : Pn) (c : Option (List Bool)) : Prop := ∀ u, c = some u → u ∈ allM l.m ∧ conV l a b u = true
def LeO (c : Option (List Bool)) (v : List Bool) : Prop := ∃ u, c = some u ∧ befB v u = false
theorem fnd_mem {l : Lo} {fs : List (List Int)} {v : List Bool} (h : fndV l fs = some v) : v ∈ allM l.m ∧ allF (vf v) fs = true := ⟨List.mem_of_find?_eq_some h, by
 have := List.find?_some h
 exact this⟩
theorem GodO.soon {l : Lo} {a b : Pn} {c : Option (List Bool)} {v : List Bool} (h : GodO l a b c) (hm : v ∈ allM l.m) (hv : conV l a b v = true) : GodO l a b (soon c (some v)) := by
 intro u hu
 cases c with
 | none =>
  have e : v = u := by injection hu
  subst e
  exact ⟨hm, hv⟩
 | some x =>
  unfold Go.Proofs.YtehadoecnmfeoaaGreat.soon at hu
  simp only at hu
  split at hu
  ·
   have e : v = u := by injection hu
   subst e
   exact ⟨hm, hv⟩
  ·
   exact h u hu
theorem wlk_good {l : Lo} {a b : Pn} : ∀ (d : Nat) (p : Pn) (bh : List Pn) (fs : List (List Int)) (c : Option (List Bool)), GodO l a b c → GodO l a b (wlk l a b d p bh fs c)
 | 0, _, _, _, _, h => h
 | d + 1, p, bh, fs, c, h => by
  rw [wlk_succ]
  cases hf : fndV l fs with
  | none => exact h
  | some v =>
   simp only
   split
   ·
    split
    ·
     rename_i h1 h2
     exact h.soon (fnd_mem hf).1 h2
    ·
     have key : ∀ k, GodO l a b (wlkK l a b d p bh fs c k) := by
      intro k
      induction k with
      | zero => exact h
      | succ k ih =>
       rw [wlkK_succ]
       unfold wlkS
       split
       ·
        exact ih
       ·
        split
        ·
         exact ih
        ·
         exact wlk_good d _ _ _ _ ih
     exact key _
   ·
    exact h
theorem LeO.soon {l : Lo} {a b : Pn} {c : Option (List Bool)} {v w : List Bool} (hg : GodO l a b c) (hm : v ∈ allM l.m) (hw : w.length = l.m.opts.length) (h : LeO c w) : LeO (soon c (some v)) w := by
 obtain ⟨u, rfl, hu⟩ := h
 have hul := allM_len6 (hg u rfl).1
 have hvl := allM_len6 hm
 unfold Go.Proofs.YtehadoecnmfeoaaGreat.soon
 simp only
 split
 ·
  rename_i h1
  exact ⟨v, rfl, nb_trans w u v (by omega) (by omega) hu (befB_asym _ _ h1)⟩
 ·
  exact ⟨u, rfl, hu⟩
theorem wlk_mono {l : Lo} {a b : Pn} {w : List Bool} (hw : w.length = l.m.opts.length) : ∀ (d : Nat) (p : Pn) (bh : List Pn) (fs : List (List Int)) (c : Option (List Bool)), GodO l a b c → LeO c w → LeO (wlk l a b d p bh fs c) w
 | 0, _, _, _, _, _, h => h
 | d + 1, p, bh, fs, c, hg, h => by
  rw [wlk_succ]
  cases hf : fndV l fs with
  | none => exact h
  | some v =>
   simp only
   split
   ·
    split
    ·
     exact h.soon hg (fnd_mem hf).1 hw
    ·
     have key : ∀ k, GodO l a b (wlkK l a b d p bh fs c k) ∧ LeO (wlkK l a b d p bh fs c k) w := by
      intro k
      induction k with
      | zero => exact ⟨hg, h⟩
      | succ k ih =>
       rw [wlkK_succ]
       unfold wlkS
       split
       ·
        exact ih
       ·
        split
        ·
         exact ih
        ·
         exact ⟨wlk_good d _ _ _ _ ih.1, wlk_mono hw d _ _ _ _ ih.1 ih.2⟩
     exact (key _).2
   ·
    exact h
theorem wlkK_good {l : Lo} {a b : Pn} (d : Nat) (p : Pn) (bh : List Pn) (fs : List (List Int)) (c : Option (List Bool)) (h : GodO l a b c) (k : Nat) : GodO l a b (wlkK l a b d p bh fs c k) := by
 induction k with
 | zero => exact h
 | succ k ih =>
  rw [wlkK_succ]
  unfold wlkS
  split
  ·
   exact ih
  ·
   split
   ·
    exact ih
   ·
    exact wlk_good d _ _ _ _ ih
theorem wlkK_mono {l : Lo} {a b : Pn} {w : List Bool} (hw : w.length = l.m.opts.length) (d : Nat) (p : Pn) (bh : List Pn) (fs : List (List Int)) (c : Option (List Bool)) (hg : GodO l a b c) {k k' : Nat} (hk : k ≤ k') (h : LeO (wlkK l a b d p bh fs c k) w) : LeO (wlkK l a b d p bh fs c k') w := by
 induction k' with
 | zero => rw [show k = 0 by omega] at h; exact h
 | succ n ih =>
  by_cases e : k = n + 1
  ·
   rw [← e]; exact h
  ·
   have h1 := ih (by omega)
   rw [wlkK_succ]
   unfold wlkS
   split
   ·
    exact h1
   ·
    split
    ·
     exact h1
    ·
     exact wlk_mono hw d _ _ _ _ (wlkK_good d p bh fs c hg n) h1
def endsL (l : Lo) : List Pn := (List.range l.ws.length).flatMap fun i => [(wirP l i).1, (wirP l i).2]
theorem endsL_len (l : Lo) : (endsL l).length = 2 * l.ws.length := by
 unfold endsL
 generalize l.ws.length = n
 induction n with
 | zero => rfl
 | succ n ih =>
  rw [List.range_succ, List.flatMap_append, List.length_append, ih]
  show 2 * n + 2 = _
  omega
theorem fil_less {L : List Pn} {bh : List Pn} {q : Pn} (hq : q ∈ L) (hn : q ∉ bh) : (L.filter fun x => !(bh ++ [q]).contains x).length < (L.filter fun x => !bh.contains x).length := by
 induction L with
 | nil => cases hq
 | cons x t ih =>
  have hle : (t.filter fun x => !(bh ++ [q]).contains x).length ≤ (t.filter fun x => !bh.contains x).length := by
   clear ih hq
   induction t with
   | nil => exact Nat.le_refl _
   | cons y t ih2 =>
    rw [List.filter_cons, List.filter_cons]
    by_cases h1 : y ∈ bh
    ·
     have e1 : (bh ++ [q]).contains y = true := List.contains_iff_mem.2 (List.mem_append_left _ h1)
     have e2 : bh.contains y = true := List.contains_iff_mem.2 h1
     rw [e1, e2]; exact ih2
    ·
     have e2 : bh.contains y = false := by rw [Bool.eq_false_iff]; exact fun h => h1 (List.contains_iff_mem.1 h)
     rw [e2]
     simp only [Bool.not_false, if_true, List.length_cons]
     split
     ·
      simp only [List.length_cons]; omega
     ·
      omega
  rw [List.filter_cons, List.filter_cons]
  by_cases e : x = q
  ·
   subst e
   have e1 : (bh ++ [x]).contains x = true := List.contains_iff_mem.2 (List.mem_append_right _ (List.mem_singleton.2 rfl))
   have e2 : bh.contains x = false := by rw [Bool.eq_false_iff]; exact fun h => hn (List.contains_iff_mem.1 h)
   rw [e1, e2]
   simp only [Bool.not_true, Bool.not_false, if_true, List.length_cons]
   have : (if false = true then x :: t.filter (fun z => !(bh ++ [x]).contains z) else t.filter (fun z => !(bh ++ [x]).contains z)) = t.filter (fun z => !(bh ++ [x]).contains z) := rfl
   rw [this]
   omega
  ·
   have hq' : q ∈ t := by rcases List.mem_cons.1 hq with h | h; exact absurd h.symm e; exact h
   have ih' := ih hq'
   by_cases h1 : x ∈ bh
   ·
    have e1 : (bh ++ [q]).contains x = true := List.contains_iff_mem.2 (List.mem_append_left _ h1)
    have e2 : bh.contains x = true := List.contains_iff_mem.2 h1
    rw [e1, e2]; exact ih'
   ·
    have e2 : bh.contains x = false := by rw [Bool.eq_false_iff]; exact fun h => h1 (List.contains_iff_mem.1 h)
    have e1 : (bh ++ [q]).contains x = false := by
     rw [Bool.eq_false_iff]
     intro h
     rcases List.mem_append.1 (List.contains_iff_mem.1 h) with h2 | h2
     ·
      exact h1 h2
     ·
      exact e (List.mem_singleton.1 h2)
    rw [e1, e2]
    simp only [Bool.not_false, if_true, List.length_cons]
    omega
theorem edg_step {l : Lo} {x : List Bool} {p r : Pn} (h : EdgP (esL l (belL l x)) p r) (hne : r ≠ p) : ∃ i, i < l.ws.length ∧ evF1 (vf x) (fmW l i) = true ∧ stpP l p i = some r := by
 obtain ⟨e, he, h1⟩ := h
 unfold esL at he
 obtain ⟨i, hi, rfl⟩ := List.mem_map.1 he
 obtain ⟨h2, h3⟩ := belL_lt hi
 refine ⟨i, h2, h3, ?_⟩
 unfold stpP
 rcases h1 with ⟨e1, e2⟩ | ⟨e1, e2⟩
 ·
  rw [if_pos e1.symm]
  exact congrArg some e2
 ·
  rw [if_neg (fun e => hne (e1.symm.trans e.symm)), if_pos e2.symm]
  exact congrArg some e1
theorem step_edg {l : Lo} {x : List Bool} {p r : Pn} {i : Nat} (hi : i < l.ws.length) (hx : evF1 (vf x) (fmW l i) = true) (h : stpP l p i = some r) : EdgP (esL l (belL l x)) p r := by
 refine ⟨wirP l i, List.mem_map.2 ⟨i, ?_, rfl⟩, ?_⟩
 ·
  unfold belL belK
  exact List.mem_filter.2 ⟨List.mem_range.2 hi, hx⟩
 ·
  unfold stpP at h
  split at h
  ·
   rename_i h1
   injection h with h
   exact .inl ⟨h1.symm, h⟩
  ·
   split at h
   ·
    rename_i h1
    injection h with h
    exact .inr ⟨h, h1.symm⟩
   ·
    cases h
theorem conV_rea {l : Lo} {a b : Pn} {x : List Bool} (h : conV l a b x = true) : Rea (esL l (belL l x)) a b := by
 unfold conV at h
 rw [conB_mem (fun n => netL_mem)] at h
 exact con_rea h
theorem rea_conV {l : Lo} {a b : Pn} {x : List Bool} (hab : a ≠ b) (h : Rea (esL l (belL l x)) a b) : conV l a b x = true := by
 unfold conV
 rw [conB_mem (fun n => netL_mem)]
 rcases rea_con h with h1 | h1
 ·
  exact absurd h1 hab
 ·
  exact h1
theorem path_more {es : List (Pn × Pn)} {bh : List Pn} {p r b : Pn} (h : PathA es (fun x => x ∈ bh ∨ x = p) r b) : PathA es (fun x => x ∈ bh ++ [p]) r b := by
 have e : (fun x => x ∈ bh ++ [p]) = (fun x : Pn => x ∈ bh ∨ x = p) := by
  funext x
  rw [List.mem_append, List.mem_singleton]
 rw [e]
 exact h
theorem wlk_found {l : Lo} {a b : Pn} (hab : a ≠ b) {w : List Bool} (hw : w ∈ allM l.m) (hwc : conV l a b w = true) : ∀ (d : Nat) (p : Pn) (bh : List Pn) (fs : List (List Int)) (c : Option (List Bool)), GodO l a b c →
  allF (vf w) fs = true → PathA (esL l (belL l w)) (fun x => x ∈ bh) p b → (∀ x ∈ allM l.m, allF (vf x) fs = true → Rea (esL l (belL l x)) a p) → ((endsL l).filter fun x => !(bh ++ [p]).contains x).length < d →
  LeO (wlk l a b d p bh fs c) w
 | 0, _, _, _, _, _, _, _, _, h => by omega
 | d + 1, p, bh, fs, c, hg, hf, hp, hr, hd => by
  have hwl := allM_len6 hw
  rw [wlk_succ]
  cases hv : fndV l fs with
  | none =>
   exfalso
   have := List.find?_eq_none.1 hv w hw
   exact this hf
  | some v =>
   have hvw : befB w v = false := find_before (allM_sorted _) hv hw hf
   obtain ⟨hvm, hvf⟩ := fnd_mem hv
   have hvl := allM_len6 hvm
   simp only
   split
   ·
    rename_i hlt
    split
    ·
     rename_i hc
     cases c with
     | none => exact ⟨v, rfl, hvw⟩
     | some u =>
      have hl : befB v u = true := hlt
      refine ⟨v, ?_, hvw⟩
      unfold Go.Proofs.YtehadoecnmfeoaaGreat.soon
      simp only
      rw [if_pos hl]
    ·
     rename_i hc
     have hpb : p ≠ b := fun e => hc (rea_conV hab (e ▸ hr v hvm hvf))
     obtain ⟨r, h1, h2⟩ := hp.next hpb
     have h3 := path_more h2
     have hrn : r ∉ bh ++ [p] := h3.start
     have hrp : r ≠ p := fun e => hrn (by rw [e]; simp)
     obtain ⟨i, hi, hif, his⟩ := edg_step h1 hrp
     have hre : r ∈ endsL l := by
      unfold endsL
      refine List.mem_flatMap.2 ⟨i, List.mem_range.2 hi, ?_⟩
      unfold stpP at his
      split at his
      ·
       injection his with his
       rw [← his]
       exact List.mem_cons_of_mem _ (List.mem_singleton.2 rfl)
      ·
       split at his
       ·
        injection his with his
        rw [← his]
        exact List.mem_cons_self
       ·
        cases his
     refine wlkK_mono hwl d p bh fs c hg (k := i + 1) (by omega) ?_
     rw [wlkK_succ]
     unfold wlkS
     rw [his]
     simp only
     rw [if_neg (fun h => hrn (List.contains_iff_mem.1 h))]
     refine wlk_found hab hw hwc d r (bh ++ [p]) (fs ++ [fmW l i]) _ (wlkK_good d p bh fs c hg i) ?_ h3 ?_ ?_
     ·
      rw [allF_snoc, hf, hif]; rfl
     ·
      intro x hx hxf
      rw [allF_snoc, Bool.and_eq_true] at hxf
      exact (hr x hx hxf.1).trans (Rea.edge (step_edg hi hxf.2 his))
     ·
      have := fil_less hre hrn
      omega
   ·
    rename_i hlt
    cases c with
    | none => exact absurd rfl hlt
    | some u =>
     have hl : befB v u = false := by
      rw [Bool.eq_false_iff]
      exact hlt
     have hul := allM_len6 (hg u rfl).1
     exact ⟨u, rfl, nb_trans w v u (by omega) (by omega) hvw hl⟩
theorem shorts_law {l : Lo} {a b : Pn} (hab : a ≠ b) {d : Nat} (hd : 2 * l.ws.length < d) : wlk l a b d a [] [] none = (allM l.m).find? (conV l a b) := by
 have hg : GodO l a b (wlk l a b d a [] [] none) := wlk_good d a [] [] none fun u h => nomatch h
 cases hf : (allM l.m).find? (conV l a b) with
 | none =>
  cases hc : wlk l a b d a [] [] none with
  | none => rfl
  | some u =>
   obtain ⟨h1, h2⟩ := hg u hc
   exact absurd h2 (List.find?_eq_none.1 hf u h1)
 | some w =>
  have hw := List.mem_of_find?_eq_some hf
  have hwc := List.find?_some hf
  have hp : PathA (esL l (belL l w)) (fun x => x ∈ ([] : List Pn)) a b := by
   have e : (fun x => x ∈ ([] : List Pn)) = Nos := by
    funext x
    simp [Nos]
   rw [e]
   exact conV_rea hwc
  obtain ⟨u, hu, hb⟩ := wlk_found hab hw hwc d a [] [] none (fun u h => nomatch h) rfl hp (fun x _ _ => Rea.refl a) (by
   refine Nat.lt_of_le_of_lt (List.length_filter_le _ _) ?_
   rw [endsL_len]
   exact hd)
  obtain ⟨h1, h2⟩ := hg u hu
  rw [hu]
  have h3 := find_before (allM_sorted _) hf h1 h2
  have hul := allM_len6 h1
  have hwl := allM_len6 hw
  exact congrArg some (bef_eq u w (by omega) h3 hb)
end Go.Proofs.YtehadoecnmfeoaaGreat
namespace Go.Proofs.YtehadoecnmfeoaaGreat
open Go.RowKit
theorem Reads.none6 {w : World} {B sz n : Nat} {xs : List Value} (h : Reads w B sz none n xs) : n = 0 ∧ xs = [] := by
 rcases Nat.eq_zero_or_pos n with h0 | h0
 ·
  subst h0
  have := h.1
  rw [Nat.zero_mul] at this
  exact ⟨rfl, List.eq_nil_of_length_eq_zero this⟩
 ·
  obtain ⟨ad, h1, _⟩ := h.2 h0
  cases h1
set_option maxRecDepth 100000 in
set_option maxHeartbeats 2000000 in
theorem clonePn_any (A : Option Addr) (n q : Nat) (xs : List Value) (w : World) (h : Reads w w.heap.size 2 A n xs) (h1 : ∀ u ∈ xs, u.oneCell' = true) (hl : n ≤ 1000) :
  Calls Tryz.prog 173 #[.slice A n q] w fun e w' => ∃ v, e = .returned v ∧ w'.ownsRow w.heap.size 74 2 v n xs ∧ Below w.heap.size w w' := by
 obtain ⟨i1, hi1, jz0, jz1, jz2⟩ := info_parts infoPin
 have q22 : ∀ (w : World) (a : Option Addr) (n c n' c' : Nat), (binOp .eql 86 (.slice a n c) (.slice none n' c')).run Tryz.prog w = .ok (.bool a.isNone) w := fun w a n c n' c' => Lib.run_eql_slice_nil w _ _ a n c n' c' Tryz.underlying86
 cases A with
 | none =>
  obtain ⟨hn, hx⟩ := Reads.none6 h
  subst hn hx
  clear h h1
  go_enter Tryz.func173, Tryz.ntmps173
  go_wp2_with fail
  go_ret
  exact ⟨_, rfl, World.ownsRow_nil _ _ _ _, Below.refl _ _⟩
 | some ad =>
  have HR := hide h
  have H1 := hide h1
  clear h h1
  go_enter Tryz.func173, Tryz.ntmps173
  go_wp2_with (at_builtin; refine wpList_append_any _ rfl (.tmp 5) (.tmp 6) _ rfl w.heap.size 74 i1 _ 2 16 Tryz.underlying86 hi1 jz0 jz1 jz2 rfl (by decide) _ 0 [] rfl (World.ownsRow_made w #[] 0 (Nat.le_refl _) (by unfold maxLen; omega) rfl) w.heap.size (some ad) n q xs rfl (HR.out.alloc (Nat.le_refl _) _) H1.out (by unfold maxLen; omega) (by omega) (by simp) ?_; intro v1 w1 hown1 hg1 _; rw [Nat.zero_add, List.nil_append] at hown1; have HO := hide hown1; have HG := hide hg1; clear hown1 hg1)
  go_ret
  exact ⟨v1, rfl, HO.out, Below.grown (Below.allocT (Below.refl _ _) (Nat.le_refl _) _) HG.out (by simp) (fun j hj => by injection hj with hj; exact Nat.le_of_eq hj)⟩

set_option maxRecDepth 100000 in
set_option maxHeartbeats 2000000 in
theorem cloneFo_any (A : Option Addr) (n q : Nat) (xs : List Value) (w : World) (h : Reads w w.heap.size 1 A n xs) (h1 : ∀ u ∈ xs, u.oneCell' = true) (hl : n ≤ 1000) :
  Calls Tryz.prog 175 #[.slice A n q] w fun e w' => ∃ v, e = .returned v ∧ w'.ownsRow w.heap.size 46 1 v n xs ∧ Below w.heap.size w w' := by
 obtain ⟨i1, hi1, jz0, jz1, jz2⟩ := info_parts infoForm
 have q22 : ∀ (w : World) (a : Option Addr) (n c n' c' : Nat), (binOp .eql 23 (.slice a n c) (.slice none n' c')).run Tryz.prog w = .ok (.bool a.isNone) w := fun w a n c n' c' => Lib.run_eql_slice_nil w _ _ a n c n' c' Tryz.underlying23
 cases A with
 | none =>
  obtain ⟨hn, hx⟩ := Reads.none6 h
  subst hn hx
  clear h h1
  go_enter Tryz.func175, Tryz.ntmps175
  go_wp2_with fail
  go_ret
  exact ⟨_, rfl, World.ownsRow_nil _ _ _ _, Below.refl _ _⟩
 | some ad =>
  have HR := hide h
  have H1 := hide h1
  clear h h1
  go_enter Tryz.func175, Tryz.ntmps175
  go_wp2_with (at_builtin; refine wpList_append_any _ rfl (.tmp 5) (.tmp 6) _ rfl w.heap.size 46 i1 _ 1 24 Tryz.underlying23 hi1 jz0 jz1 jz2 rfl (by decide) _ 0 [] rfl (World.ownsRow_made w #[] 0 (Nat.le_refl _) (by unfold maxLen; omega) rfl) w.heap.size (some ad) n q xs rfl (HR.out.alloc (Nat.le_refl _) _) H1.out (by unfold maxLen; omega) (by omega) (by simp) ?_; intro v1 w1 hown1 hg1 _; rw [Nat.zero_add, List.nil_append] at hown1; have HO := hide hown1; have HG := hide hg1; clear hown1 hg1)
  go_ret
  exact ⟨v1, rfl, HO.out, Below.grown (Below.allocT (Below.refl _ _) (Nat.le_refl _) _) HG.out (by simp) (fun j hj => by injection hj with hj; exact Nat.le_of_eq hj)⟩

set_option maxRecDepth 100000 in
set_option maxHeartbeats 4000000 in
theorem bpinOk_any (p : Pn) (A0 A1 A2 A3 A4 A5 : Option Addr) (q0 q1 q2 q3 q4 q5 : Nat) (l : Lo) (w : World) (ok : LoOk l) (h : LoA w w.heap.size A0 A1 A2 A3 A4 A5 q0 q1 q2 q3 q4 q5 l) (r : Bool) (hr : pinOk l p.1 p.2 = r) :
  Calls Tryz.prog 107 #[.agg #[.slice A0 l.m.opts.length q0, .slice A1 l.m.rules.length q1, .slice A2 l.ss.length q2, .slice A3 l.us.length q3, .slice A4 l.ps.length q4, .slice A5 l.ws.length q5], .agg #[.int .i64 p.1, .int .i64 p.2]] w fun e w' => e = .returned (.bool r) ∧ Below w.heap.size w w' := by
 obtain ⟨pp, pc⟩ := p
 unfold pinOk at hr
 dsimp only at hr ⊢
 have H := hide h
 have HP := hide ok.p30
 have HOK := hide ok.ps
 clear h ok
 obtain ⟨ft, hc1⟩ : ∃ z, btw pp 0 ((l.ps.length : Int) - 1) = z := ⟨_, rfl⟩
 rw [hc1] at hr
 have HC1 := hide hc1
 clear hc1
 go_enter Tryz.func107, Tryz.ntmps107
 go_upto_region 1 with (fail)
 generalize hw0 : World.alloc _ _ = w0
 obtain ⟨hb0, hb1, hB0, hs0⟩ := alloc2 hw0
 have HB0 := hide hB0
 obtain ⟨pb, hpb⟩ : ∃ z, w.heap.size + 1 = z := ⟨_, rfl⟩
 obtain ⟨pa, hpa⟩ : ∃ z, w.heap.size = z := ⟨_, rfl⟩
 rw [hpb] at hb1 ⊢
 rw [hpa] at hb0 ⊢
 obtain ⟨c0, c1, c2, c3, c4, c5⟩ := zL hb0
 have d0 := cellOf hb1 0
 have d1 := cellOf hb1 1
 have lc := box_lt hb0
 have ld := box_lt hb1
 have iw : IntKind.i64.wrap ((l.ps.length : Int) - 1) = (l.ps.length : Int) - 1 := by have := HP.out; rw [IntWalk.i64_in _ (by omega)]
 clear hw0 hb0 hb1 hB0 hs0 hpa hpb
 cases ft with
 | false =>
  have hrf : r = false := by rw [← hr]; rfl
  subst hrf
  clear hr
  refine wp_region_held_drew (S := (fun w' => Below w0.heap.size w0 w')) (by kernel_rfl) ?_ (fun hHeld => ?_)
  ·
   try dsimp only
   exact zP
  refine zT 0 rfl ?_
  refine zT 1 rfl ?_
  refine zT 2 rfl ?_
  refine zT 3 rfl ?_
  refine zT 4 rfl ?_
  refine zT 5 rfl ?_
  refine wpAnyH_ready (rs := [6]) (by kernel_rfl) (by simp) ?_
  refine AllReadyH.cons rfl (fun K hK => ?_) AllReadyH.nil
  go_simp
  ((go_at_call 72; refine (bwithin_any _ _ _ _ _ HC1.out).mono ?_; rintro e w1 ⟨rfl, rfl⟩))
  (try dsimp only)
  refine hK.out _ _ zP fun hNext => ?_; clear hK K hHeld; have hHeld := hNext; clear hNext; (try dsimp only at hHeld); try simp only [zX]
  refine zT 7 rfl ?_
  refine zS 8 rfl ?_
  refine zS 9 rfl ?_
  refine zS 10 rfl ?_
  refine zS 11 rfl ?_
  refine zS 12 rfl ?_
  refine zS 13 rfl ?_
  refine zS 14 rfl ?_
  refine zS 15 rfl ?_
  refine zS 16 rfl ?_
  refine zS 17 rfl ?_
  refine zS 18 rfl ?_
  refine zT 19 rfl ?_
  refine zT 20 rfl ?_
  refine wpAnyH_done (by kernel_rfl) ?_ _
  go_wp2_with fail
  go_ret
  exact ⟨rfl, Below.to HB0.out hHeld (Nat.le_refl _)⟩
 | true =>
  have hk : pp.toNat < l.ps.length ∧ 0 ≤ pp := by
   have h1 := HC1.out
   unfold btw at h1
   simp only [Bool.and_eq_true, decide_eq_true_eq] at h1
   omega
  obtain ⟨hkl, hk0⟩ := hk
  obtain ⟨b5, o5, y, HY, hA5, hb5, hq5, y0, y1, y2⟩ := (H.out.up HB0.out).pl hkl
  rw [HY.out, Bool.true_and] at hr
  have HR := hide hr
  clear hr
  have hcv : 1 ≤ y.cav ∧ y.cav ≤ 40 := by
   have h1 := HOK.out _ hkl
   unfold plOk at h1
   rw [HY.out] at h1
   simp only [Bool.and_eq_true] at h1
   have h2 := h1.2
   unfold btw at h2
   simpa using h2
  have iw2 : IntKind.i64.wrap (y.cav - 1) = y.cav - 1 := by rw [IntWalk.i64_in _ (by omega)]
  clear hcv
  subst hA5
  have iq : (l.ps.length : Int) ≤ (q4 : Int) := by omega
  have ik : pp < (l.ps.length : Int) := by omega
  clear hq5
  refine wp_region_held_drew (S := (fun w' => Below w0.heap.size w0 w')) (by kernel_rfl) ?_ (fun hHeld => ?_)
  ·
   try dsimp only
   exact zP
  refine zT 0 rfl ?_
  refine zT 1 rfl ?_
  refine zT 2 rfl ?_
  refine zT 3 rfl ?_
  refine zT 4 rfl ?_
  refine zT 5 rfl ?_
  refine wpAnyH_ready (rs := [6]) (by kernel_rfl) (by simp) ?_
  refine AllReadyH.cons rfl (fun K hK => ?_) AllReadyH.nil
  go_simp
  ((go_at_call 72; refine (bwithin_any _ _ _ _ _ rfl).mono ?_; rintro e w1 ⟨rfl, rfl⟩; first | rw [HC1.out] | rw [HR.out]))
  (try dsimp only)
  refine hK.out _ _ zP fun hNext => ?_; clear hK K hHeld; have hHeld := hNext; clear hNext; (try dsimp only at hHeld); try simp only [zX]
  refine zT 7 rfl ?_
  refine zT 8 rfl ?_
  refine zT 9 rfl ?_
  refine zT 10 rfl ?_
  refine zT 11 rfl ?_
  refine zT 12 rfl ?_
  refine zT 13 rfl ?_
  refine zT 14 rfl ?_
  refine zT 15 rfl ?_
  refine zT 16 rfl ?_
  refine zT 17 rfl ?_
  refine wpAnyH_ready (rs := [18]) (by kernel_rfl) (by simp) ?_
  refine AllReadyH.cons rfl (fun K hK => ?_) AllReadyH.nil
  go_simp
  ((go_at_call 72; refine (bwithin_any _ _ _ _ _ rfl).mono ?_; rintro e w1 ⟨rfl, rfl⟩; first | rw [HC1.out] | rw [HR.out]))
  (try dsimp only)
  refine hK.out _ _ zP fun hNext => ?_; clear hK K hHeld; have hHeld := hNext; clear hNext; (try dsimp only at hHeld); try simp only [zX]
  refine zT 19 rfl ?_
  refine zT 20 rfl ?_
  refine wpAnyH_done (by kernel_rfl) ?_ _
  go_wp2_with fail
  go_ret
  exact ⟨rfl, Below.to HB0.out hHeld (Nat.le_refl _)⟩
set_option maxRecDepth 100000 in
set_option maxHeartbeats 4000000 in
theorem rpinOk_any (p : Pn) (A0 A1 A2 A3 A4 A5 : Option Addr) (q0 q1 q2 q3 q4 q5 : Nat) (l : Lo) (w : World) (ok : LoOk l) (h : LoA w w.heap.size A0 A1 A2 A3 A4 A5 q0 q1 q2 q3 q4 q5 l) (r : Bool) (hr : pinOk l p.1 p.2 = r) :
  Calls Tryz.prog 109 #[.agg #[.slice A0 l.m.opts.length q0, .slice A1 l.m.rules.length q1, .slice A2 l.ss.length q2, .slice A3 l.us.length q3, .slice A4 l.ps.length q4, .slice A5 l.ws.length q5], .agg #[.int .i64 p.1, .int .i64 p.2]] w fun e w' => e = .returned (.bool r) ∧ Below w.heap.size w w' := by
 obtain ⟨pp, pc⟩ := p
 unfold pinOk at hr
 dsimp only at hr ⊢
 have H := hide h
 have HP := hide ok.p30
 have HOK := hide ok.ps
 clear h ok
 obtain ⟨ft, hc1⟩ : ∃ z, btw pp 0 ((l.ps.length : Int) - 1) = z := ⟨_, rfl⟩
 rw [hc1] at hr
 have HC1 := hide hc1
 clear hc1
 go_enter Tryz.func109, Tryz.ntmps109
 go_upto_region 1 with (fail)
 generalize hw0 : World.alloc _ _ = w0
 obtain ⟨hb0, hb1, hB0, hs0⟩ := alloc2 hw0
 have HB0 := hide hB0
 obtain ⟨pb, hpb⟩ : ∃ z, w.heap.size + 1 = z := ⟨_, rfl⟩
 obtain ⟨pa, hpa⟩ : ∃ z, w.heap.size = z := ⟨_, rfl⟩
 rw [hpb] at hb1 ⊢
 rw [hpa] at hb0 ⊢
 obtain ⟨c0, c1, c2, c3, c4, c5⟩ := zL hb0
 have d0 := cellOf hb1 0
 have d1 := cellOf hb1 1
 have lc := box_lt hb0
 have ld := box_lt hb1
 have iw : IntKind.i64.wrap ((l.ps.length : Int) - 1) = (l.ps.length : Int) - 1 := by have := HP.out; rw [IntWalk.i64_in _ (by omega)]
 clear hw0 hb0 hb1 hB0 hs0 hpa hpb
 cases ft with
 | false =>
  have hrf : r = false := by rw [← hr]; rfl
  subst hrf
  clear hr
  refine wp_region_held_drew (S := (fun w' => Below w0.heap.size w0 w')) (by kernel_rfl) ?_ (fun hHeld => ?_)
  ·
   try dsimp only
   exact zP
  refine zT 0 rfl ?_
  refine zT 1 rfl ?_
  refine zT 2 rfl ?_
  refine zT 3 rfl ?_
  refine zT 4 rfl ?_
  refine zT 5 rfl ?_
  refine wpAnyH_ready (rs := [6]) (by kernel_rfl) (by simp) ?_
  refine AllReadyH.cons rfl (fun K hK => ?_) AllReadyH.nil
  go_simp
  ((go_at_call 75; refine (rwithin12_any _ _ _ _ _ HC1.out).mono ?_; rintro e w1 ⟨rfl, rfl⟩))
  (try dsimp only)
  refine hK.out _ _ zP fun hNext => ?_; clear hK K hHeld; have hHeld := hNext; clear hNext; (try dsimp only at hHeld); try simp only [zX]
  refine zT 7 rfl ?_
  refine zS 8 rfl ?_
  refine zS 9 rfl ?_
  refine zS 10 rfl ?_
  refine zS 11 rfl ?_
  refine zS 12 rfl ?_
  refine zS 13 rfl ?_
  refine zS 14 rfl ?_
  refine zS 15 rfl ?_
  refine zS 16 rfl ?_
  refine zS 17 rfl ?_
  refine zS 18 rfl ?_
  refine zT 19 rfl ?_
  refine zT 20 rfl ?_
  refine wpAnyH_done (by kernel_rfl) ?_ _
  go_wp2_with fail
  go_ret
  exact ⟨rfl, Below.to HB0.out hHeld (Nat.le_refl _)⟩
 | true =>
  have hk : pp.toNat < l.ps.length ∧ 0 ≤ pp := by
   have h1 := HC1.out
   unfold btw at h1
   simp only [Bool.and_eq_true, decide_eq_true_eq] at h1
   omega
  obtain ⟨hkl, hk0⟩ := hk
  obtain ⟨b5, o5, y, HY, hA5, hb5, hq5, y0, y1, y2⟩ := (H.out.up HB0.out).pl hkl
  rw [HY.out, Bool.true_and] at hr
  have HR := hide hr
  clear hr
  have hcv : 1 ≤ y.cav ∧ y.cav ≤ 40 := by
   have h1 := HOK.out _ hkl
   unfold plOk at h1
   rw [HY.out] at h1
   simp only [Bool.and_eq_true] at h1
   have h2 := h1.2
   unfold btw at h2
   simpa using h2
  have iw2 : IntKind.i64.wrap (y.cav - 1) = y.cav - 1 := by rw [IntWalk.i64_in _ (by omega)]
  clear hcv
  subst hA5
  have iq : (l.ps.length : Int) ≤ (q4 : Int) := by omega
  have ik : pp < (l.ps.length : Int) := by omega
  clear hq5
  refine wp_region_held_drew (S := (fun w' => Below w0.heap.size w0 w')) (by kernel_rfl) ?_ (fun hHeld => ?_)
  ·
   try dsimp only
   exact zP
  refine zT 0 rfl ?_
  refine zT 1 rfl ?_
  refine zT 2 rfl ?_
  refine zT 3 rfl ?_
  refine zT 4 rfl ?_
  refine zT 5 rfl ?_
  refine wpAnyH_ready (rs := [6]) (by kernel_rfl) (by simp) ?_
  refine AllReadyH.cons rfl (fun K hK => ?_) AllReadyH.nil
  go_simp
  ((go_at_call 75; refine (rwithin12_any _ _ _ _ _ rfl).mono ?_; rintro e w1 ⟨rfl, rfl⟩; first | rw [HC1.out] | rw [HR.out]))
  (try dsimp only)
  refine hK.out _ _ zP fun hNext => ?_; clear hK K hHeld; have hHeld := hNext; clear hNext; (try dsimp only at hHeld); try simp only [zX]
  refine zT 7 rfl ?_
  refine zT 8 rfl ?_
  refine zT 9 rfl ?_
  refine zT 10 rfl ?_
  refine zT 11 rfl ?_
  refine zT 12 rfl ?_
  refine zT 13 rfl ?_
  refine zT 14 rfl ?_
  refine zT 15 rfl ?_
  refine zT 16 rfl ?_
  refine zT 17 rfl ?_
  refine wpAnyH_ready (rs := [18]) (by kernel_rfl) (by simp) ?_
  refine AllReadyH.cons rfl (fun K hK => ?_) AllReadyH.nil
  go_simp
  ((go_at_call 75; refine (rwithin12_any _ _ _ _ _ rfl).mono ?_; rintro e w1 ⟨rfl, rfl⟩; first | rw [HC1.out] | rw [HR.out]))
  (try dsimp only)
  refine hK.out _ _ zP fun hNext => ?_; clear hK K hHeld; have hHeld := hNext; clear hNext; (try dsimp only at hHeld); try simp only [zX]
  refine zT 19 rfl ?_
  refine zT 20 rfl ?_
  refine wpAnyH_done (by kernel_rfl) ?_ _
  go_wp2_with fail
  go_ret
  exact ⟨rfl, Below.to HB0.out hHeld (Nat.le_refl _)⟩
end Go.Proofs.YtehadoecnmfeoaaGreat

/- Part 13 of this claim's texts: walks and plain laws. -/
import Derived.Test.YtehadoecnmfeoaaRows
import Derived.Test.YtehadoecnmfeoaaGBB11
import Derived.Test.YtehadoecnmfeoaaGBB12
import Derived.Test.YtehadoecnmfeoaaGBB10
import Derived.ProofKit
import Derived.Lib.SmallJoins
import Derived.Deep.Slices
import Derived.Deep.Fields
import Derived.ChangeSame
import Derived.Below
import Derived.Test.YtehadoecnmfeoaaGBB1
import Derived.Test.YtehadoecnmfeoaaGBB8
import Derived.WalkLawsBesides
import Derived.WalkSpells
import Derived.Deep.QuietTactic
import Derived.OwnWalk
/- Modules: their check, what is picked, an audit; plain laws. -/
namespace Go.Proofs.Ytehadoecnmfeoaa
set_option linter.unusedVariables false
/-- Wire k of a module: one of n, behind the one before it. -/
def wireOk (n : Nat) (ws : List Int) (k : Nat) : Bool := btw (ws.getD k 0) 0 ((n : Int) - 1) && (decide (k = 0) || decide (ws.getD (k - 1) 0 < ws.getD k 0))
def wiresB (n : Nat) (ws : List Int) : Bool := (List.range ws.length).all (wireOk n ws)
def rightB (l : Lo) (d : Md) : Bool := wiresB l.ws.length d.ws && validF l.m.opts.length d.f
/-- What Check answers. -/
def bldE (l : Lo) (ms : List Md) : Int := if l.err ≠ 0 then l.err else if (decide (60 < ms.length) || !ms.all (rightB l)) = true then 120 else 0
structure BldOkM (l : Lo) (ms : List Md) : Prop where
  lo : LoOk l
  err : l.err = 0
  n : ms.length ≤ 60
  ok : ∀ d ∈ ms, rightB l d = true
theorem bldE_ok {l : Lo} {ms : List Md} (h : bldE l ms = 0) : BldOkM l ms := by
  unfold bldE at h
  by_cases h1 : l.err = 0
  · rw [if_neg (by simp [h1])] at h
    by_cases h2 : (decide (60 < ms.length) || !ms.all (rightB l)) = true
    · rw [if_pos h2] at h; omega
    · simp only [Bool.or_eq_true, decide_eq_true_eq, Bool.not_eq_true', not_or, Bool.not_eq_false] at h2
      exact ⟨Lo.err_ok h1, h1, by omega, List.all_eq_true.1 h2.2⟩
  · rw [if_pos h1] at h
    exact absurd h h1
theorem bldE_err {l : Lo} {ms : List Md} (h : l.err ≠ 0) : bldE l ms = l.err := by unfold bldE; rw [if_pos h]
theorem wires_at {n : Nat} {ws : List Int} (h : wiresB n ws = true) {k : Nat} (hk : k < ws.length) : 0 ≤ ws.getD k 0 ∧ ws.getD k 0 < (n : Int) ∧ (0 < k → ws.getD (k - 1) 0 < ws.getD k 0) := by
  have h1 := List.all_eq_true.1 h k (by simpa using hk)
  unfold wireOk at h1
  simp only [Bool.and_eq_true, btw_iff, Bool.or_eq_true, decide_eq_true_eq] at h1
  exact ⟨by omega, by omega, by omega⟩
/-- How often a wire is in a module. -/
def occ (d : Md) (w : Nat) : Nat := (d.ws.filter fun x => x == (w : Int)).length
/-- What is picked for a variant; how often a wire is in it. -/
def pckB (x : List Bool) (d : Md) : Bool := evF1 (vf x) d.f
def manyN (ms : List Md) (x : List Bool) (w : Nat) : Nat := ((ms.filter (pckB x)).map fun d => occ d w).sum
/-- The first kind of defect of a wire. -/
def audK (m : Mo) (f : List Int) (fs : List (List Int)) : Nat → Option (Nat × List Bool)
  | 0 => none
  | k + 1 => match audK m f fs k with
    | some r => some r
    | none => (frstV m f fs (k + 1)).map fun x => (k + 1, x)
/-- The first defect of the first wires. -/
def audN (l : Lo) (ms : List Md) : Nat → Option (Nat × Nat × List Bool)
  | 0 => none
  | n + 1 => match audN l ms n with
    | some r => some r
    | none => (audK l.m (l.ws.getD n Wi.o).form (withL ms n) 3).map fun r => (n, r.1, r.2)
def audA (l : Lo) (ms : List Md) : Option (Nat × Nat × List Bool) := if bldE l ms = 0 then audN l ms l.ws.length else none
theorem audN_stays {l : Lo} {ms : List Md} {k n : Nat} {r : Nat × Nat × List Bool} (h : audN l ms k = some r) (hn : k ≤ n) : audN l ms n = some r := by
  induction n with
  | zero => rw [show k = 0 by omega] at h; exact h
  | succ n ih =>
    rcases Nat.lt_or_ge k (n + 1) with h1 | h1
    · show (match audN l ms n with | some r => some r | none => _) = _
      rw [ih (by omega)]
    · rw [show k = n + 1 by omega] at h; exact h
theorem audN_next {l : Lo} {ms : List Md} {k : Nat} (h : audN l ms k = none) : audN l ms (k + 1) = (audK l.m (l.ws.getD k Wi.o).form (withL ms k) 3).map fun r => (k, r.1, r.2) := by
  show (match audN l ms k with | some r => some r | none => _) = _
  rw [h]
theorem audK_stays {m : Mo} {f : List Int} {fs : List (List Int)} {k n : Nat} {r : Nat × List Bool} (h : audK m f fs k = some r) (hn : k ≤ n) : audK m f fs n = some r := by
  induction n with
  | zero => rw [show k = 0 by omega] at h; exact h
  | succ n ih =>
    rcases Nat.lt_or_ge k (n + 1) with h1 | h1
    · show (match audK m f fs n with | some r => some r | none => _) = _
      rw [ih (by omega)]
    · rw [show k = n + 1 by omega] at h; exact h
theorem audK_next {m : Mo} {f : List Int} {fs : List (List Int)} {k : Nat} (h : audK m f fs k = none) : audK m f fs (k + 1) = (frstV m f fs (k + 1)).map fun x => (k + 1, x) := by
  show (match audK m f fs k with | some r => some r | none => _) = _
  rw [h]
/-- Without a buildable variant there is no defect. -/
theorem audN_none {l : Lo} {ms : List Md} (h : allM l.m = []) : ∀ n, audN l ms n = none
  | 0 => rfl
  | n + 1 => by
    have hf : ∀ f fs k, frstV l.m f fs k = none := fun f fs k => by unfold frstV; rw [h]; rfl
    have hk : ∀ f fs k, audK l.m f fs k = none := by
      intro f fs k
      induction k with
      | zero => rfl
      | succ k ih => rw [audK_next ih, hf]; rfl
    rw [audN_next (audN_none h n), hk]
    rfl
end Go.Proofs.Ytehadoecnmfeoaa
/- What is picked and made: plain laws. -/
namespace Go.Proofs.Ytehadoecnmfeoaa
set_option linter.unusedVariables false
set_option linter.unusedSimpArgs false
/-- The modules that are picked, the first k of them looked at. -/
def pckK (ms : List Md) (x : List Bool) (k : Nat) : List Nat := (List.range k).filter fun i => pckB x (ms.getD i Md.o)
def pckL (ms : List Md) (x : List Bool) : List Nat := pckK ms x ms.length
theorem pckK_succ (ms : List Md) (x : List Bool) (k : Nat) : pckK ms x (k + 1) = if pckB x (ms.getD k Md.o) then pckK ms x k ++ [k] else pckK ms x k := by
  unfold pckK
  rw [List.range_succ, List.filter_append]
  rw [List.filter_cons]
  cases h : pckB x (ms.getD k Md.o) with
  | true => rfl
  | false => rw [if_neg (by simp), if_neg (by simp)]; exact List.append_nil _
theorem pckK_le (ms : List Md) (x : List Bool) (k : Nat) : (pckK ms x k).length ≤ k := by
  unfold pckK
  have := List.length_filter_le (fun i => pckB x (ms.getD i Md.o)) (List.range k)
  rwa [List.length_range] at this
theorem pckL_lt {ms : List Md} {x : List Bool} {i : Nat} (h : i ∈ pckL ms x) : i < ms.length ∧ pckB x (ms.getD i Md.o) = true := by
  unfold pckL pckK at h
  simpa using h
/-- The wires of some modules. -/
def wsI (ms : List Md) (L : List Nat) : List Int := L.flatMap fun i => (ms.getD i Md.o).ws
def wsP (ms : List Md) (x : List Bool) : List Int := wsI ms (pckL ms x)
/-- Each wire as often as it is picked. -/
def madeN (n : Nat) (ms : List Md) (x : List Bool) : List Nat := (List.range n).flatMap fun w => List.replicate (manyN ms x w) w
end Go.Proofs.Ytehadoecnmfeoaa
/- Loads of boards: plain laws. -/
namespace Go.Proofs.Ytehadoecnmfeoaa
set_option linter.unusedVariables false
set_option linter.unusedSimpArgs false
def onB (bs : List Int) (b i : Nat) : Bool := bs.getD i 0 == (b : Int)
def sz9 (ms : List Md) (i : Nat) : Nat := (ms.getD i Md.o).ws.length
/-- The load of a board by some modules. -/
def ldK (ms : List Md) (bs : List Int) (b : Nat) (L : List Nat) : Nat := ((L.filter (onB bs b)).map (sz9 ms)).sum
def ldN (ms : List Md) (bs : List Int) (x : List Bool) (b : Nat) : Nat := ldK ms bs b (pckL ms x)
def maxF (f : List Bool → Nat) (L : List (List Bool)) : Nat := L.foldl (fun a x => max a (f x)) 0
theorem maxF_from (f : List Bool → Nat) : ∀ (L : List (List Bool)) (a : Nat), L.foldl (fun a x => max a (f x)) a = max a (maxF f L)
  | [], a => by simp [maxF]
  | y :: L, a => by
    unfold maxF
    rw [List.foldl_cons, List.foldl_cons, maxF_from f L, maxF_from f L]
    omega
theorem maxF_cons (f : List Bool → Nat) (y : List Bool) (L : List (List Bool)) : maxF f (y :: L) = max (f y) (maxF f L) := by
  show L.foldl _ (max 0 (f y)) = _
  rw [maxF_from]
  omega
theorem maxF_ge {f : List Bool → Nat} : ∀ {L : List (List Bool)} {y : List Bool}, y ∈ L → f y ≤ maxF f L
  | a :: L, y, h => by
    rw [maxF_cons]
    rcases List.mem_cons.1 h with rfl | h
    · omega
    · have := maxF_ge (f := f) h
      omega
theorem maxF_le {f : List Bool → Nat} {n : Nat} : ∀ {L : List (List Bool)}, (∀ y ∈ L, f y ≤ n) → maxF f L ≤ n
  | [], _ => Nat.zero_le _
  | a :: L, h => by
    rw [maxF_cons]
    have h1 := h a (by simp)
    have h2 := maxF_le (f := f) (n := n) (L := L) fun y hy => h y (by simp [hy])
    omega
/-- The greatest load of a board. -/
def lodN (m : Mo) (ms : List Md) (bs : List Int) (b : Nat) : Nat := maxF (fun x => ldN ms bs x b) (allM m)
/-- How many boards there are. -/
def nbK (bs : List Int) : Nat := bs.foldl (fun n b => max n (b.toNat + 1)) 0
theorem nbK_step {bs : List Int} {k : Nat} (h : k < bs.length) : nbK (bs.take (k + 1)) = max (nbK (bs.take k)) ((bs.getD k 0).toNat + 1) := by
  have h1 : bs.getD k 0 = bs[k] := by
    rw [List.getD_eq_getElem?_getD, List.getElem?_eq_getElem h]
    rfl
  rw [List.take_add_one, List.getElem?_eq_getElem h, h1]
  unfold nbK
  rw [List.foldl_append]
  rfl
theorem nbK_from : ∀ (l : List Int) (a : Nat), l.foldl (fun n b => max n (b.toNat + 1)) a = max a (nbK l)
  | [], a => by simp [nbK]
  | y :: l, a => by
    unfold nbK
    rw [List.foldl_cons, List.foldl_cons, nbK_from l, nbK_from l]
    omega
theorem nbK_lt : ∀ {bs : List Int} {y : Int}, y ∈ bs → y.toNat < nbK bs
  | a :: bs, y, h => by
    have hc : nbK (a :: bs) = max (a.toNat + 1) (nbK bs) := by
      show bs.foldl _ (max 0 (a.toNat + 1)) = _
      rw [nbK_from]
      omega
    rw [hc]
    rcases List.mem_cons.1 h with rfl | h
    · omega
    · have := nbK_lt h
      omega
theorem nbK_le {bs : List Int} {n : Nat} (h : ∀ y ∈ bs, y.toNat + 1 ≤ n) : nbK bs ≤ n := by
  induction bs with
  | nil => exact Nat.zero_le _
  | cons a bs ih =>
    have hc : nbK (a :: bs) = max (a.toNat + 1) (nbK bs) := by
      show bs.foldl _ (max 0 (a.toNat + 1)) = _
      rw [nbK_from]
      omega
    rw [hc]
    have h1 := h a (by simp)
    have h2 := ih fun y hy => h y (by simp [hy])
    omega
def brdOk (bs : List Int) : Bool := bs.all fun b => btw b 0 3
/-- What Loads answers. -/
def lodE (l : Lo) (ms : List Md) (bs : List Int) : Int := if bldE l ms ≠ 0 then bldE l ms else if bs.length ≠ ms.length ∨ brdOk bs = false then 122 else if allM l.m = [] then 12 else 0
def lodL (l : Lo) (ms : List Md) (bs : List Int) : List Nat := if lodE l ms bs = 0 then (List.range (nbK bs)).map (lodN l.m ms bs) else []
/-- The modules of a board, the first k looked at. -/
def onK (bs : List Int) (b k : Nat) : List Nat := (List.range k).filter (onB bs b)
theorem onK_succ (bs : List Int) (b k : Nat) : onK bs b (k + 1) = if onB bs b k then onK bs b k ++ [k] else onK bs b k := by
  unfold onK
  rw [List.range_succ, List.filter_append, List.filter_cons]
  cases h : onB bs b k with
  | true => rfl
  | false => rw [if_neg (by simp), if_neg (by simp)]; exact List.append_nil _
theorem onK_le (bs : List Int) (b k : Nat) : (onK bs b k).length ≤ k := by
  unfold onK
  have := List.length_filter_le (onB bs b) (List.range k)
  rwa [List.length_range] at this
theorem onK_lt {bs : List Int} {b k i : Nat} (h : i ∈ onK bs b k) : i < k := by
  unfold onK at h
  have := (List.mem_filter.1 h).1
  simpa using this
def fms9 (ms : List Md) (T : List Nat) : List (List Int) := T.map fun i => (ms.getD i Md.o).f
def szs9 (ms : List Md) (T : List Nat) : List Int := T.map fun i => ((sz9 ms i : Nat) : Int)
theorem fsum_on (ms : List Md) (x : List Bool) : ∀ (T : List Nat), fsum (vf x) (fms9 ms T) (szs9 ms T) = ((((T.filter fun i => pckB x (ms.getD i Md.o)).map (sz9 ms)).sum : Nat) : Int)
  | [] => rfl
  | i :: T => by
    have ih := fsum_on ms x T
    unfold fms9 szs9 at ih ⊢
    rw [List.map_cons, List.map_cons, List.filter_cons]
    unfold fsum
    rw [ih]
    unfold pckB
    cases h : evF1 (vf x) (ms.getD i Md.o).f with
    | true =>
      simp only [if_true, List.map_cons, List.sum_cons]
      omega
    | false =>
      simp only [Bool.false_eq_true, if_false]
      omega
theorem fsum_ld (ms : List Md) (bs : List Int) (b : Nat) (x : List Bool) : fsum (vf x) (fms9 ms (onK bs b ms.length)) (szs9 ms (onK bs b ms.length)) = ((ldN ms bs x b : Nat) : Int) := by
  rw [fsum_on]
  unfold ldN ldK pckL pckK onK
  rw [List.filter_filter, List.filter_filter]
  congr 4
  funext i
  exact Bool.and_comm _ _
/-- The greatest worth is the greatest load. -/
theorem best_lod {m : Mo} {ms : List Md} {bs : List Int} {b : Nat} (h0 : allM m ≠ []) (h60 : ms.length ≤ 60) (hs : ∀ i, sz9 ms i ≤ 60) : bestF m (fms9 ms (onK bs b ms.length)) (szs9 ms (onK bs b ms.length)) = ((lodN m ms bs b : Nat) : Int) := by
  obtain ⟨T, hT⟩ : ∃ T, onK bs b ms.length = T := ⟨_, rfl⟩
  have hld := fun x => fsum_ld ms bs b x
  rw [hT] at hld ⊢
  have hTl : T.length ≤ 60 := by rw [← hT]; exact Nat.le_trans (onK_le bs b _) h60
  have hbig := bestF_big (m := m) (l := fms9 ms T) (ws := szs9 ms T) (fun y hy => by
    unfold szs9 at hy
    obtain ⟨i, _, rfl⟩ := List.mem_map.1 hy
    have := hs i
    omega) (by unfold fms9; simp; omega) (by rw [satM_true]; exact h0)
  have hval : ∀ y, y ∈ allM m → valF m (fms9 ms T) (szs9 ms T) y = ((ldN ms bs y b : Nat) : Int) := fun y hy => by
    unfold allM at hy
    unfold valF
    rw [if_pos (List.mem_filter.1 hy).2, hld]
  have hge : ∀ y, y ∈ allM m → ((ldN ms bs y b : Nat) : Int) ≤ bestF m (fms9 ms T) (szs9 ms T) := fun y hy => by
    rw [← hval y hy]
    unfold bestF
    refine maxL_mem _ _ (List.mem_map.2 ⟨y, ?_, rfl⟩)
    unfold allM at hy
    exact (List.mem_filter.1 hy).1
  have hat := maxL_attained ((exts m.opts.length []).map (valF m (fms9 ms T) (szs9 ms T))) hbig
  obtain ⟨y, hy, he⟩ := List.mem_map.1 hat
  have hym : y ∈ allM m := by
    unfold allM
    rw [List.mem_filter]
    refine ⟨hy, ?_⟩
    cases hc : allF (vf y) m.rules with
    | true => rfl
    | false =>
      have hv : valF m (fms9 ms T) (szs9 ms T) y = leastI := by unfold valF; rw [hc, if_neg (by simp)]
      rw [hv] at he
      unfold bestF at hbig
      omega
  have h1 : bestF m (fms9 ms T) (szs9 ms T) = ((ldN ms bs y b : Nat) : Int) := by rw [← hval y hym, he]; rfl
  have h2 : ldN ms bs y b ≤ lodN m ms bs b := maxF_ge (f := fun x => ldN ms bs x b) hym
  have h3 : lodN m ms bs b ≤ ldN ms bs y b := by
    refine maxF_le fun z hz => ?_
    have := hge z hz
    omega
  omega
end Go.Proofs.Ytehadoecnmfeoaa
/- Lemmas for the frame of a law, as the guide's pages lay them for copying, and some of my own: no condition. -/
namespace Go.Proofs.Ytehadoecnmfeoaa
open Go.Joins Go.ChangeShapes Go.WideShapes Go.ChangeAt Go.RowKit Go.Deep

section
variable {H : Type} {enc : TypeId × Value → H} {P : Program}
theorem post_of_below {f : Func} {s : ChangeSpec} {apart fresh handsOn again : Bool} {W W' : World} {args : Array Value} {v : Value} {ds gs : List (DataW H)} {before pa pv : List MemPlace}
    (hW : DataW.Whole enc P f.params.toList s.vars apart W args.toList ds gs before)
    (hres : ∀ (b : Nat) (sp : Nat → Bool) (hd : Bool), DataW.TrodAll enc P W' b sp hd f.resultTypes.toList (v.resultList f.resultTypes.size) (s.fn H (ds ++ gs)).results [])
    (hargs : ∀ sp : Nat → Bool, (∀ p ∈ before, sp p.block = true) → DataW.TrodAll enc P W' 0 sp true f.params.toList args.toList (s.fn H (ds ++ gs)).args pa)
    (hvars : ∀ sp : Nat → Bool, (∀ p ∈ before, sp p.block = true) → DataW.TrodVars enc P W' sp s.vars (s.fn H (ds ++ gs)).vars pv)
    (hps : before = pa ++ pv) (hb : Below W.heap.size W W')
    (hok : ∀ (j : Nat) (t : TypeId) (r : Value), f.resultTypes[j]? = some t → (v.resultList f.resultTypes.size)[j]? = some r → Value.okWide P W' .any 0 t r) :
    s.post enc P f apart fresh handsOn again W args v W' := by
  have hlt : ∀ p ∈ before, p.block < W.heap.size := fun p hp => hW.lt p hp
  have hold : ∀ p ∈ before, (fun b => decide (b < W.heap.size)) p.block = true := fun p hp => by simpa using hlt p hp
  refine ⟨ds, gs, before, [], pa, pv, hW, hres _ _ _, hargs _ hold, hvars _ hold, World.keptBut_mono (fun p hp => ⟨hp, ?_⟩) (hb.frame (· ∈ before)), fun _ => ?_⟩
  · rw [hps, List.mem_append] at hp
    exact Or.inr hp
  · obtain ⟨_, _, _, _, _, hz, hn⟩ := hW
    refine ⟨hok, _, _, ([] ++ pa) ++ pv, ⟨[] ++ pa, pv, trodAll_append (hargs _ (fun _ _ => rfl)) (hres _ _ _), hvars _ (fun _ _ => rfl), rfl, ?_, ?_⟩, ?_⟩
    · intro b off hp
      have hin : MemPlace.cell b off ∈ before := by rw [hps]; simpa using hp
      rw [hb.frozen (hlt _ hin)]
      exact hz b off hin
    · intro ha
      have := hn ha
      rw [hps] at this
      simpa using this
    · intro p hp _
      rw [hps]
      simpa using hp

/-- Arguments read as they did, where nothing below the old heap has changed. -/
theorem trodAll_stays (hl : laidOutB P = true) {W W' : World} (hb : Below W.heap.size W W') (sp : Nat → Bool) : ∀ (ts : List TypeId) (vs : List Value) (ds : List (DataW H)) (ps : List MemPlace),
    (∀ t ∈ ts, P.readableRec t = true ∧ t < P.types.size) → DataW.TrodAll enc P W 0 (fun _ => true) true ts vs ds ps → (∀ x ∈ ps, x.block < W.heap.size) → (∀ x ∈ ps, sp x.block = true) → DataW.TrodAll enc P W' 0 sp true ts vs ds ps
  | [], [], [], _, _, h, _, _ => h
  | t :: ts, v :: vs, d :: ds, ps, hr, ⟨p, q, h1, h2, hp⟩, hlt, hsp => by
    subst hp
    refine ⟨p, q, ?_, trodAll_stays hl hb sp ts vs ds q (fun t' ht => hr t' (List.mem_cons_of_mem _ ht)) h2 (fun x hx => hlt x (List.mem_append_right _ hx)) (fun x hx => hsp x (List.mem_append_right _ hx)), rfl⟩
    have h := hr t (List.mem_cons_self ..)
    exact WideElems.Trod_stays hl h.1 h.2 h1 (fun x hx => hb.same (hlt x (List.mem_append_left _ hx))) (fun x hx => hsp x (List.mem_append_left _ hx))
end

section
variable {H : Type} {enc : TypeId × Value → H} {P : Program} {w : World} {base : Nat} {spare : Nat → Bool} {held : Bool}
end
end Go.Proofs.Ytehadoecnmfeoaa
/- A slice argument opened, whatever its elements are: each element by a law of its own. No condition. -/
namespace Go.Proofs.Ytehadoecnmfeoaa
open Go.Joins Go.ChangeShapes Go.WideShapes Go.ChangeAt Go.RowKit Go.Deep

theorem choose_upto {α : Type} (z : α) {n : Nat} {Q : Nat → α → Prop} (h : ∀ i, i < n → ∃ x, Q i x) : ∃ xs : List α, xs.length = n ∧ ∀ i, i < n → Q i (xs.getD i z) := by
  induction n with
  | zero => exact ⟨[], rfl, fun i hi => absurd hi (by omega)⟩
  | succ n ih =>
    obtain ⟨xs, hl, hx⟩ := ih fun i hi => h i (by omega)
    obtain ⟨y, hy⟩ := h n (by omega)
    refine ⟨xs ++ [y], by simp [hl], fun i hi => ?_⟩
    rcases Nat.lt_or_ge i n with h1 | h1
    · have := hx i h1
      rw [List.getD_eq_getElem?_getD, List.getElem?_append_left (by omega), ← List.getD_eq_getElem?_getD]
      exact this
    · have he : i = n := by omega
      subst he
      rw [List.getD_eq_getElem?_getD, List.getElem?_append_right (by omega), hl]
      simpa using hy

section
variable {H : Type} {enc : TypeId × Value → H} {P : Program} {w : World} {base : Nat} {spare : Nat → Bool} {held : Bool}
theorem addr_of_cell {a : Addr} {u : Value} (h : w.cell? (a.add 0) = some u) : a.spot = none ∧ a.block < w.heap.size := by
  have h' : w.cell? a = some u := h
  unfold World.cell? at h'
  cases hh : w.heap[a.block]? with
  | none => rw [hh] at h'; cases h'
  | some o =>
    refine ⟨?_, (Array.getElem?_eq_some_iff.1 hh).1⟩
    rw [hh] at h'
    cases o with
    | cells c t f =>
      simp only at h'
      cases hsp : a.spot with
      | none => rfl
      | some q => rw [if_pos (by simp [hsp])] at h'; cases h'
    | _ => cases h'
theorem cell_of_add {a : Addr} {m : Nat} {u : Value} (hs : a.spot = none) (h : w.cell? (a.add m) = some u) : w.cell? ⟨a.block, a.off + m, none⟩ = some u := by
  obtain ⟨b, o, s⟩ := a
  simp only at hs
  subst hs
  unfold Addr.add at h
  split at h
  · rename_i h0
    rw [h0]; exact h
  · exact h

theorem open_rows {α : Type} (z : α) (F : α → Nat → Value) (R : α → Prop) {t e : TypeId} {sz n : Nat} {c : Value} {y : DataW H × List MemPlace} (ht : P.underlying t = some (.slice e)) (hC : P.cellsOf e = sz) (hsz : 0 < sz)
    (hopen : ∀ (n : Nat) (cs' : List Value) (y : DataW H × List MemPlace), cs'.length = sz → DataW.trod enc P w base spare held n e cs' = some y → ∃ x : α, (∀ j, j < sz → cs'[j]? = some (F x j)) ∧ R x)
    (h : DataW.trod enc P w base spare held n t [c] = some y) :
    ∃ xs : List α, Sl w w.heap.size sz c xs.length (fun i j => F (xs.getD i z) j) ∧ xs.length ≤ maxLen ∧ ∀ i, i < xs.length → R (xs.getD i z) := by
  rcases open_slice ht h with ⟨hcs, _⟩ | ⟨a, len, cap, m, n', D, Pl, hcs, _, hl, hm, hmm, _, hel⟩
  · simp at hcs
    subst hcs
    exact ⟨[], Sl.nil _ _ _ _, by simp, fun i hi => absurd hi (by simp)⟩
  · simp at hcs
    subst hcs
    have hlm : len ≤ m := by rw [hmm]; split <;> omega
    have hx : ∀ i, i < len → ∃ x : α, (∀ j, j < sz → w.cell? (a.add (i * sz + j)) = some (F x j)) ∧ R x := by
      intro i hi
      obtain ⟨cs', hc, ht'⟩ := hel i (by omega)
      rw [hC] at hc
      obtain ⟨_, hcl, hat⟩ := World.cells?_some hc
      obtain ⟨x, hx, hr⟩ := hopen _ _ _ hcl ht'
      refine ⟨x, fun j hj => ?_, hr⟩
      rw [← Go.Deep.add_add, hat j hj]
      exact hx j hj
    obtain ⟨xs, hlen, hxs⟩ := choose_upto z hx
    refine ⟨xs, ?_, by omega, fun i hi => (hxs i (by omega)).2⟩
    rw [hlen]
    rcases Nat.eq_zero_or_pos len with h0 | h0
    · exact ⟨_, 0, 0, _, rfl, hl, .inr h0, fun i j hi => absurd hi (by omega)⟩
    · have h1 := (hxs 0 h0).1 0 hsz
      rw [Nat.zero_mul] at h1
      obtain ⟨hs, hb⟩ := addr_of_cell h1
      exact ⟨_, a.block, a.off, _, rfl, hl, .inl ⟨by rw [← hs], hb⟩, fun i j hi hj => cell_of_add hs ((hxs i hi).1 j hj)⟩
end
end Go.Proofs.Ytehadoecnmfeoaa
/- The arguments of the laws about options, opened: no condition. -/
namespace Go.Proofs.Ytehadoecnmfeoaa
open Go.Joins Go.ChangeShapes Go.WideShapes Go.ChangeAt Go.RowKit Go.Deep
set_option maxRecDepth 100000
set_option linter.unusedVariables false
set_option linter.unusedSimpArgs false
section
variable {H : Type} {enc : TypeId × Value → H} {W : World} {base b0 : Nat} {r : Reach} {spare : Nat → Bool} {held : Bool} {v : Value} {d : DataW H} {p : List MemPlace}
def I64 (n : Int) : Prop := -9223372036854775808 ≤ n ∧ n ≤ 9223372036854775807
theorem I64.of {n : Int} (h : (Lit.int .i64 n).wf = true) : I64 n := by
  simp [Lit.wf, IntKind.min, IntKind.max, IntKind.signed, IntKind.bits] at h
  exact ⟨by omega, by omega⟩
theorem int_cell {n : Nat} {c : Value} {y : DataW H × List MemPlace} (h : DataW.trod enc Try.prog W base spare held n 3 [c] = some y) : ∃ a, c = .int .i64 a ∧ I64 a := by
  obtain ⟨a, e0, _, wa⟩ := DataW.trod_int Try.underlying3 h
  simp at e0
  exact ⟨a, e0, I64.of wa⟩
theorem cellsInt : Try.prog.cellsOf 3 = 1 := by kernel_rfl
theorem cellsStr : Try.prog.cellsOf 9 = 1 := by kernel_rfl
theorem cellsFo : Try.prog.cellsOf 51 = 1 := by kernel_rfl
theorem ints_cell {t n : Nat} {c : Value} {y : DataW H × List MemPlace} (ht : Try.prog.underlying t = some (.slice 3)) (h : DataW.trod enc Try.prog W base spare held n t [c] = some y) :
    ∃ f : List Int, Ints W W.heap.size c f ∧ f.length ≤ maxLen ∧ ∀ x ∈ f, I64 x := by
  obtain ⟨xs, hsl, hl, hR⟩ := open_rows (α := Int) 0 (fun x _ => .int .i64 x) I64 ht cellsInt (by omega) (by
    intro n cs' y hlen ht
    match cs', hlen with
    | [c0], _ =>
      obtain ⟨a, rfl, ha⟩ := int_cell ht
      refine ⟨a, fun j hj => ?_, ha⟩
      match j, hj with
      | 0, _ => rfl) h
  refine ⟨xs, hsl, hl, fun x hx => ?_⟩
  obtain ⟨i, hi, rfl⟩ := List.mem_iff_getElem.1 hx
  have := hR i hi
  rwa [List.getD_eq_getElem?_getD, List.getElem?_eq_getElem hi, Option.getD_some] at this
theorem strs_cell {t n : Nat} {c : Value} {y : DataW H × List MemPlace} (ht : Try.prog.underlying t = some (.slice 9)) (h : DataW.trod enc Try.prog W base spare held n t [c] = some y) :
    ∃ f : List ByteArray, Names W W.heap.size c f ∧ f.length ≤ maxLen ∧ ∀ x ∈ f, x.size ≤ maxLen := by
  obtain ⟨xs, hsl, hl, hR⟩ := open_rows (α := ByteArray) ByteArray.empty (fun x _ => .string x) (fun x => x.size ≤ maxLen) ht cellsStr (by omega) (by
    intro n cs' y hlen ht
    match cs', hlen with
    | [c0], _ =>
      obtain ⟨s, h1, _, h3⟩ := DataW.trod_string Try.underlying9 ht
      simp at h1
      subst h1
      refine ⟨s, fun j hj => ?_, h3⟩
      match j, hj with
      | 0, _ => rfl) h
  refine ⟨xs, hsl, hl, fun x hx => ?_⟩
  obtain ⟨i, hi, rfl⟩ := List.mem_iff_getElem.1 hx
  have := hR i hi
  rwa [List.getD_eq_getElem?_getD, List.getElem?_eq_getElem hi, Option.getD_some] at this
theorem forms_cell {t n : Nat} {c : Value} {y : DataW H × List MemPlace} (ht : Try.prog.underlying t = some (.slice 51)) (h : DataW.trod enc Try.prog W base spare held n t [c] = some y) :
    ∃ fs : List (List Int), Forms W W.heap.size c fs ∧ Sized fs := by
  obtain ⟨xs, hsl, hl, hR⟩ := open_rows (α := List Int × Value) ([], .slice none 0 0) (fun x _ => x.2) (fun x => Ints W W.heap.size x.2 x.1 ∧ x.1.length ≤ maxLen) ht cellsFo (by omega) (by
    intro n cs' y hlen ht
    match cs', hlen with
    | [c0], _ =>
      obtain ⟨f, hf, hfl, _⟩ := ints_cell Try.underlying51 ht
      refine ⟨(f, c0), fun j hj => ?_, hf, hfl⟩
      match j, hj with
      | 0, _ => rfl) h
  have hg : ∀ i, i < xs.length → (xs.map (·.1)).getD i [] = (xs.getD i ([], .slice none 0 0)).1 := fun i hi => by simp [hi]
  refine ⟨xs.map (·.1), ⟨fun i => (xs.getD i ([], .slice none 0 0)).2, ?_, fun i hi => ?_⟩, by simpa using hl, fun f hf => ?_⟩
  · rw [List.length_map]
    exact hsl
  · rw [List.length_map] at hi
    rw [hg i hi]
    exact (hR i hi).1
  · obtain ⟨x, hx, rfl⟩ := List.mem_map.1 hf
    obtain ⟨i, hi, rfl⟩ := List.mem_iff_getElem.1 hx
    have := (hR i hi).2
    rwa [List.getD_eq_getElem?_getD, List.getElem?_eq_getElem hi, Option.getD_some] at this
end
end Go.Proofs.Ytehadoecnmfeoaa
/- Diagrams handed in, and where a variant comes to in one. Plain laws; the arguments opened: no condition. -/
namespace Go.Proofs.Ytehadoecnmfeoaa
open Go.Joins Go.ChangeShapes Go.WideShapes Go.ChangeAt Go.RowKit Go.Deep
set_option maxRecDepth 100000
set_option linter.unusedVariables false
set_option linter.unusedSimpArgs false
structure Kt where
  o : Int
  l : Int
  h : Int
def Kt.z : Kt := ⟨0, 0, 0⟩
def ktF (k : Kt) (j : Nat) : Value := match j with
  | 0 => .int .i64 k.o
  | 1 => .int .i64 k.l
  | _ => .int .i64 k.h
def Kts (w : World) (B : Nat) (v : Value) (ks : List Kt) : Prop := Sl w B 3 v ks.length (fun i j => ktF (ks.getD i Kt.z) j)
/-- Whether one may go on to a place. -/
def goB (ks : List Kt) (before : Nat) (o q : Int) : Bool := q == -1 || q == -2 || (decide (0 ≤ q) && decide (q < before) && decide (o < (ks.getD q.toNat Kt.z).o))
def okB (n : Nat) (ks : List Kt) (i : Nat) : Bool := decide (0 ≤ (ks.getD i Kt.z).o) && decide ((ks.getD i Kt.z).o < n) && goB ks i (ks.getD i Kt.z).o (ks.getD i Kt.z).l && goB ks i (ks.getD i Kt.z).o (ks.getD i Kt.z).h
/-- Where one goes on from a knot. -/
def nxt (ks : List Kt) (v : List Bool) (r : Int) : Int := if v.getD (ks.getD r.toNat Kt.z).o.toNat false then (ks.getD r.toNat Kt.z).h else (ks.getD r.toNat Kt.z).l
def flw (ks : List Kt) (v : List Bool) : Nat → Int → Int
  | 0, r => r
  | n + 1, r => if r < 0 then r else flw ks v n (nxt ks v r)
def allB (n : Nat) (ks : List Kt) : Bool := (List.range ks.length).all (okB n ks)
/-- What Follow returns. -/
def folE (m : Mo) (ks : List Kt) (r : Int) (v : List Bool) : Int := if m.err ≠ 0 then m.err else if 2000 < ks.length ∨ allB m.opts.length ks = false ∨ r < -2 ∨ (ks.length : Int) ≤ r ∨ v.length ≠ m.opts.length then 1 else 0
def folB (m : Mo) (ks : List Kt) (r : Int) (v : List Bool) : Bool := if folE m ks r v = 0 then flw ks v ks.length r == -2 else false
section
variable {H : Type} {enc : TypeId × Value → H} {W : World} {base b0 : Nat} {r : Reach} {spare : Nat → Bool} {held : Bool} {v : Value} {d : DataW H} {p : List MemPlace}
end
end Go.Proofs.Ytehadoecnmfeoaa
/- The value of a formula as the elder program has it: walk. -/
namespace Go.Proofs.Ytehadoecnmfeoaa
open Go.RowKit
set_option linter.unusedVariables false
set_option linter.unusedSimpArgs false
/-- What eval tells of the term at place p. -/
def EvR (N : Nat) (v : Nat → Bool) (f : List Int) (p c : Nat) (x : Bool) (q : Nat) : Prop :=
  p < q ∧ q ≤ f.length ∧ vld N c (f.drop q) = true ∧ evS v (f.drop p) = x :: evS v (f.drop q)
theorem EvR.one {N c p q : Nat} {v : Nat → Bool} {f : List Int} {x : Bool} (hd : f.drop p = -3 :: f.drop (p + 1)) (h : EvR N v f (p + 1) c x q) : EvR N v f p c (!x) q := by
  obtain ⟨h1, h2, h3, h4⟩ := h
  refine ⟨by omega, h2, h3, ?_⟩
  rw [hd, evS_cons, h4]
  rfl
theorem EvR.two {N c p q r : Nat} {v : Nat → Bool} {f : List Int} {x y z : Bool} {o : Int} (hd : f.drop p = o :: f.drop (p + 1)) (h : EvR N v f (p + 1) (c + 1) x q) (k : EvR N v f q c y r) (hs : ∀ S, stp v o (x :: y :: S) = z :: S) : EvR N v f p c z r := by
  obtain ⟨h1, h2, h3, h4⟩ := h
  obtain ⟨k1, k2, k3, k4⟩ := k
  refine ⟨by omega, k2, k3, ?_⟩
  rw [hd, evS_cons, h4, k4, hs]
def EvP (N : Nat) (v : Nat → Bool) (f : List Int) (p c : Nat) (w : World) (e : Ending) (W : World) : Prop := ∃ (x : Bool) (q : Nat), e = .returned (.tuple #[.bool x, .int .i64 (q : Nat)]) ∧ EvR N v f p c x q ∧ w = W
end Go.Proofs.Ytehadoecnmfeoaa
/- A formula's value as the elder program has it: walk. -/
namespace Go.Proofs.Ytehadoecnmfeoaa
open Go.RowKit
set_option linter.unusedVariables false
set_option linter.unusedSimpArgs false
end Go.Proofs.Ytehadoecnmfeoaa
/- Names and valid formulas, as the elder program has them: walks. -/
namespace Go.Proofs.Ytehadoecnmfeoaa
open Go.RowKit
set_option linter.unusedVariables false
set_option linter.unusedSimpArgs false
end Go.Proofs.Ytehadoecnmfeoaa
/- The end of a term, as the elder program has it: walk. -/
namespace Go.Proofs.Ytehadoecnmfeoaa
open Go.RowKit
set_option linter.unusedVariables false
set_option linter.unusedSimpArgs false
/-- How many numbers of l belong to its first c terms. -/
def endN (N : Nat) : Nat → List Int → Option Nat
  | 0, _ => some 0
  | _ + 1, [] => none
  | c + 1, o :: r => if -6 ≤ o ∧ o < N then (endN N (c + arO o) r).map (· + 1) else none
def endR (p : Nat) : Option Nat → Int
  | none => -1
  | some q => (p + q : Nat)
end Go.Proofs.Ytehadoecnmfeoaa
/- CheckModel as the elder program has it: walk. -/
namespace Go.Proofs.Ytehadoecnmfeoaa
open Go.RowKit
set_option linter.unusedVariables false
set_option linter.unusedSimpArgs false
end Go.Proofs.Ytehadoecnmfeoaa
/- CheckFormula: walks. -/
namespace Go.Proofs.Ytehadoecnmfeoaa
open Go.RowKit
set_option linter.unusedVariables false
set_option linter.unusedSimpArgs false
set_option maxRecDepth 100000 in
set_option maxHeartbeats 2000000 in
theorem CheckFormula_any (m : Mo) (f : List Int) (ov rv fv : Value) (w : World) (hs : SizedM m) (hl : f.length ≤ maxLen) (h : MoAt w w.heap.size ov rv m) (hf : Ints w w.heap.size fv f) :
    Calls Try.prog 79 #[.agg #[ov, rv], fv] w fun e w' => e = .returned (.int .i64 (m.errF [f])) ∧ Below w.heap.size w w' := by
  obtain ⟨A, cap, hov⟩ := Sl.form h.o
  obtain ⟨Ar, capr, hrv⟩ := h.r.form
  obtain ⟨Al, capl, hlv⟩ := Sl.form hf
  have H := hide h
  have HF := hide hf
  have HS := hide hs
  subst hov hrv hlv
  clear h hf hs
  go_enter Try.func79, Try.ntmps79
  go_upto_region 1 with (fail)
  generalize hw0 : World.alloc _ _ = w0
  obtain ⟨hb0, hB0, hs0⟩ := alloc1 hw0
  clear hw0
  have HB0 := hide hB0
  have c0 := cellOf hb0 0
  have c1 := cellOf hb0 1
  have hB2 : Below w.heap.size w (w0.alloc (.cells #[.slice Al f.length capl] 51 (0, 0))) := Below.allocT hB0 (Nat.le_refl _) _
  have hck := check_any m [f] (.slice A m.opts.length cap) (.slice Ar m.rules.length capr) (.slice (some ⟨w0.heap.size, 0, none⟩) 1 1) _ HS.out (sized_one hl) (H.out.up hB2) (forms_one (heap_new _ _ _ rfl) (by simp) (HF.out.up hB2))
  have HCK := hide hck
  have HB2 := hide hB2
  clear hb0 hB0 hs0 hck hB2
  go_wp2_with (go_at_call 88; refine HCK.out.mono ?_; rintro e w1 ⟨rfl, hB1⟩)
  go_ret
  exact ⟨rfl, Below.to HB2.out hB1 (Nat.le_refl _)⟩
end Go.Proofs.Ytehadoecnmfeoaa
/- Holds and Buildable as the elder program has them: walks. -/
namespace Go.Proofs.Ytehadoecnmfeoaa
open Go.RowKit
set_option linter.unusedVariables false
set_option linter.unusedSimpArgs false
/-- What Holds returns. -/
def holE (m : Mo) (f : List Int) (vs : List Bool) : Int := if m.errF [f] ≠ 0 then m.errF [f] else if vs.length ≠ m.opts.length then 1 else 0
def holB (m : Mo) (f : List Int) (vs : List Bool) : Bool := if holE m f vs = 0 then evF1 (vf vs) f else false
theorem hol_err {m : Mo} {f : List Int} {vs : List Bool} (h : m.errF [f] ≠ 0) : holE m f vs = m.errF [f] ∧ holB m f vs = false := by
  have h1 : holE m f vs = m.errF [f] := by unfold holE; rw [if_pos h]
  exact ⟨h1, by unfold holB; rw [h1, if_neg h]⟩
theorem hol_arg {m : Mo} {f : List Int} {vs : List Bool} (h : m.errF [f] = 0) (h2 : vs.length ≠ m.opts.length) : holE m f vs = 1 ∧ holB m f vs = false := by
  have h1 : holE m f vs = 1 := by unfold holE; rw [if_neg (by simp [h]), if_pos h2]
  exact ⟨h1, by unfold holB; rw [h1, if_neg (by omega)]⟩
theorem hol_ok {m : Mo} {f : List Int} {vs : List Bool} (h : m.errF [f] = 0) (h2 : vs.length = m.opts.length) : holE m f vs = 0 ∧ holB m f vs = evF1 (vf vs) f := by
  have h1 : holE m f vs = 0 := by unfold holE; rw [if_neg (by simp [h]), if_neg (by simp [h2])]
  exact ⟨h1, by unfold holB; rw [if_pos h1]⟩
/-- The first rule that does not hold. -/
def fstR (vs : List Bool) (rules : List (List Int)) : Int := idxI (fun f => !evF1 (vf vs) f) rules
end Go.Proofs.Ytehadoecnmfeoaa
/- Buildable as the elder program has it: walk. -/
namespace Go.Proofs.Ytehadoecnmfeoaa
open Go.RowKit
set_option linter.unusedVariables false
set_option linter.unusedSimpArgs false
/-- What Buildable returns. -/
def buiE (m : Mo) (vs : List Bool) : Int := if m.err ≠ 0 then m.err else if vs.length ≠ m.opts.length then 1 else 0
def buiR (m : Mo) (vs : List Bool) : Int := if buiE m vs = 0 then fstR vs m.rules else 0
def buiB (m : Mo) (vs : List Bool) : Bool := if buiE m vs = 0 then decide (fstR vs m.rules < 0) else false
theorem bui_bad {m : Mo} {vs : List Bool} {z : Int} (h : buiE m vs = z) (hz : z ≠ 0) : buiR m vs = 0 ∧ buiB m vs = false := by
  constructor
  · unfold buiR; rw [h, if_neg hz]
  · unfold buiB; rw [h, if_neg hz]
theorem bui_ok {m : Mo} {vs : List Bool} (h : m.err = 0) (h2 : vs.length = m.opts.length) : buiE m vs = 0 ∧ buiR m vs = fstR vs m.rules ∧ buiB m vs = decide (fstR vs m.rules < 0) := by
  have h1 : buiE m vs = 0 := by unfold buiE; rw [if_neg (by simp [h]), if_neg (by simp [h2])]
  exact ⟨h1, by unfold buiR; rw [if_pos h1], by unfold buiB; rw [if_pos h1]⟩
end Go.Proofs.Ytehadoecnmfeoaa

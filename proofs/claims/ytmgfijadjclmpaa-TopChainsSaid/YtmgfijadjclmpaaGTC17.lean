/- Part 17 of this claim's texts: walks and plain laws. -/
import Derived.Test.YtmgfijadjclmpaaRows
import Derived.Test.YtmgfijadjclmpaaGTC15
import Derived.Test.YtmgfijadjclmpaaGTC16
import Derived.Deep.DeepMust
import Derived.Deep.RegionHeld3
import Derived.Deep.DrawnRows
import Derived.Test.YtmgfijadjclmpaaGTC2
/- Keeps of the bus: what it counts; plain laws, a list that it copies. -/
namespace Go.Proofs.Ytmgfijadjclmpaa
open Go.RowKit
set_option linter.unusedVariables false
set_option linter.unusedSimpArgs false
/-- What Keeps knows behind k releases. -/
structure KInv (y : Sys) (k : Nat) (due la : List Int) : Prop where
  dl : due.length = y.m
  ll : la.length = y.m
  due : ∀ f, f < y.m → due.getD f 0 = (cntF y.fr f k : Int) * y.E f
  la : ∀ i, i < k → y.tm i ≤ la.getD (y.fr i) 0
  lo : ∀ i, i < k → (y.num i : Int) * y.E (y.fr i) ≤ y.tm i
  hi : ∀ i, i < k → y.tm i ≤ (y.num i : Int) * y.E (y.fr i) + y.J (y.fr i)
  mono : ∀ i j, i < j → j < k → y.fr i = y.fr j → y.tm i ≤ y.tm j
theorem cntF_le (fr : Nat → Nat) (g : Nat) : ∀ n, cntF fr g n ≤ n
  | 0 => Nat.le_refl _
  | n + 1 => by
    have := cntF_le fr g n
    show cntF fr g n + (if fr n = g then 1 else 0) ≤ n + 1
    split <;> omega
theorem KInv.start {y : Sys} : KInv y 0 (List.replicate y.m 0) (List.replicate y.m 0) :=
  ⟨by simp, by simp, fun f hf => by show _ = ((0 : Nat) : Int) * _; simp [hf], fun i hi => by omega, fun i hi => by omega, fun i hi => by omega, fun i j h1 h2 => by omega⟩
theorem KInv.step {y : Sys} (ok : y.Ok) {k f : Nat} {due la : List Int} {t d e : Int} (h : KInv y k due la) (hk : k < y.n) (hf : y.fr k = f) (ht : y.tm k = t) (hd : due.getD f 0 = d) (he : y.E f = e) (h1 : d ≤ t) (h2 : t ≤ d + y.J f) (h3 : la.getD f 0 ≤ t) : KInv y (k + 1) (due.set f (d + e)) (la.set f t) := by
  have hfm : f < y.m := by rw [← hf]; exact ok.fr k hk
  have hdd := h.due f hfm
  rw [hd] at hdd
  have hnum : y.num k = cntF y.fr f k := by unfold Sys.num; rw [hf]
  have hla : ∀ i, i < k → y.fr i = f → y.tm i ≤ t := fun i hi e => by
    have := h.la i hi
    rw [e] at this
    omega
  refine ⟨by simp [h.dl], by simp [h.ll], fun g hg => ?_, fun i hi => ?_, fun i hi => ?_, fun i hi => ?_, fun i j hij hj e => ?_⟩
  · have hc : cntF y.fr g (k + 1) = cntF y.fr g k + if y.fr k = g then 1 else 0 := rfl
    by_cases e' : g = f
    · subst e'
      rw [set_getD (by rw [h.dl]; exact hg), hc, if_pos hf, hdd, ← he]
      push_cast
      rw [Int.add_mul, Int.one_mul]
    · rw [set_getD_ne e', hc, if_neg (by rw [hf]; exact fun q => e' q.symm), Nat.add_zero]
      exact h.due g hg
  · by_cases e' : y.fr i = f
    · rw [e', set_getD (by rw [h.ll]; exact hfm)]
      rcases Nat.lt_or_ge i k with h4 | h4
      · exact hla i h4 e'
      · rw [show i = k by omega, ht]
        exact Int.le_refl _
    · rw [set_getD_ne e']
      rcases Nat.lt_or_ge i k with h4 | h4
      · exact h.la i h4
      · rw [show i = k by omega] at e'
        exact absurd hf e'
  · rcases Nat.lt_or_ge i k with h4 | h4
    · exact h.lo i h4
    · rw [show i = k by omega, hnum, hf, ← hdd, ht]
      exact h1
  · rcases Nat.lt_or_ge i k with h4 | h4
    · exact h.hi i h4
    · rw [show i = k by omega, hnum, hf, ← hdd, ht]
      exact h2
  · rcases Nat.lt_or_ge j k with h4 | h4
    · exact h.mono i j hij h4 e
    · have ej : j = k := by omega
      subst ej
      rw [ht]
      exact hla i hij (by rw [e, hf])
theorem KInv.done {y : Sys} {due la : List Int} (h : KInv y y.n due la) : Kept y := ⟨h.lo, h.hi, h.mono⟩
/-- Numbers in the first cells of a block of its own. -/
def NumC (w : World) (g : Nat) (L : List Int) : Prop := ∃ C : Array Value, w.heap[g]? = some (.cells C 3 (0, 0)) ∧ L.length ≤ C.size ∧ ∀ i, i < L.length → C[i]? = some (.int .i64 (L.getD i 0))
theorem NumC.lt {w : World} {g : Nat} {L : List Int} (h : NumC w g L) : g < w.heap.size := by
  obtain ⟨C, h1, _⟩ := h
  exact box_lt h1
theorem NumC.cell {w : World} {g k : Nat} {L : List Int} (h : NumC w g L) (hk : k < L.length) : w.cell? ⟨g, k, none⟩ = some (.int .i64 (L.getD k 0)) := by
  obtain ⟨C, h1, _, h3⟩ := h
  exact (cellOf h1 k).trans (h3 k hk)
theorem NumC.free {w : World} {g : Nat} {L : List Int} (h : NumC w g L) (k : Nat) : w.frozen? ⟨g, k, none⟩ = false := by
  obtain ⟨C, h1, _, h3⟩ := h
  exact unfrozenOf h1 k
theorem NumC.set {w : World} {g k : Nat} {n : Int} {L : List Int} (h : NumC w g L) (hk : k < L.length) : NumC (w.setCell ⟨g, k, none⟩ (.int .i64 n)) g (L.set k n) := by
  obtain ⟨C, h1, h2, h3⟩ := h
  refine ⟨C.setIfInBounds k (.int .i64 n), setCellOf h1 _, by simpa using h2, fun i hi => ?_⟩
  rw [List.length_set] at hi
  rw [Array.getElem?_setIfInBounds]
  by_cases e : k = i
  · subst e
    rw [if_pos rfl, if_pos (by omega), set_getD hk]
  · rw [if_neg e, set_getD_ne (fun q => e q.symm)]
    exact h3 i hi
theorem NumC.to {w w' : World} {g : Nat} {L : List Int} (h : NumC w g L) (hb : Below w.heap.size w w') : NumC w' g L := by
  obtain ⟨C, h1, h2, h3⟩ := h
  exact ⟨C, box_to h1 hb, h2, h3⟩
theorem NumC.other {w : World} {g b k : Nat} {v : Value} {L : List Int} (h : NumC w g L) (hb : g ≠ b) : NumC (w.setCell ⟨b, k, none⟩ v) g L := by
  obtain ⟨C, h1, h2, h3⟩ := h
  exact ⟨C, (Below.heap_setCell _ _ _ _ hb).trans h1, h2, h3⟩
theorem NumC.drew {w : World} {g : Nat} {L : List Int} (h : NumC w g L) : NumC w.drew g L := h
theorem NumB.numC {w : World} {g : Nat} {L : List Int} (h : NumB w g L) : NumC w g L := ⟨_, h, by simp, fun i hi => by simp [hi]⟩
theorem own_numC {w : World} {B n : Nat} {v : Value} {L : List Int} (hn : 1 ≤ n) (hl : L.length = n) (h : w.ownsRow B 3 1 v n (L.map (Value.int .i64))) : ∃ g cap, v = .slice (some ⟨g, 0, none⟩) n cap ∧ n ≤ cap ∧ B ≤ g ∧ NumC w g L := by
  have hh := h
  rcases hh.2 with ⟨_, h1⟩ | ⟨g, cap, cur, hv, hB, hg, hnc, hcm, hcs, hct⟩
  · omega
  · refine ⟨g, cap, hv, hnc, hB, cur, hg, by omega, fun i hi => ?_⟩
    subst hv
    have h2 := h.cellAt i (by omega)
    have h3 := cellOf hg i
    rw [h2] at h3
    rw [← h3]
    simp [hi]
theorem Reads.noneT {w : World} {B sz n : Nat} {xs : List Value} (h : Reads w B sz none n xs) : n = 0 ∧ xs = [] := by
  rcases Nat.eq_zero_or_pos n with h0 | h0
  · subst h0
    exact ⟨rfl, List.eq_nil_of_length_eq_zero (by simpa using h.1)⟩
  · obtain ⟨_, h2, _⟩ := h.2 h0
    cases h2
set_option maxRecDepth 100000 in
set_option maxHeartbeats 2000000 in
theorem cloneIntsT_any (A : Option Addr) (n q : Nat) (xs : List Value) (w : World) (h : Reads w w.heap.size 1 A n xs) (h1 : ∀ u ∈ xs, u.oneCell' = true) (hl : n ≤ 1000) :
    Calls Try.prog 24 #[.slice A n q] w fun e w' => ∃ v, e = .returned v ∧ w'.ownsRow w.heap.size 3 1 v n xs ∧ Below w.heap.size w w' := by
  obtain ⟨i1, hi1, jz0, jz1, jz2⟩ := info_parts infoIntT
  have q22 : ∀ (w : World) (a : Option Addr) (n c n' c' : Nat), (binOp .eql 24 (.slice a n c) (.slice none n' c')).run Try.prog w = .ok (.bool a.isNone) w := fun w a n c n' c' => Lib.run_eql_slice_nil w _ _ a n c n' c' Try.underlying24
  cases A with
  | none =>
    obtain ⟨hn, hx⟩ := Reads.noneT h
    subst hn hx
    clear h h1
    go_enter Try.func24, Try.ntmps24
    go_wp2_with fail
    go_ret
    exact ⟨_, rfl, World.ownsRow_nil _ _ _ _, Below.refl _ _⟩
  | some ad =>
    have HR := hide h
    have H1 := hide h1
    clear h h1
    go_enter Try.func24, Try.ntmps24
    go_wp2_with (at_builtin; refine wpList_append_any _ rfl (.tmp 5) (.tmp 6) _ rfl w.heap.size 3 i1 _ 1 8 Try.underlying24 hi1 jz0 jz1 jz2 rfl (by decide) _ 0 [] rfl (World.ownsRow_made w #[] 0 (Nat.le_refl _) (by unfold maxLen; omega) rfl) w.heap.size (some ad) n q xs rfl (HR.out.alloc (Nat.le_refl _) _) H1.out (by unfold maxLen; omega) (by omega) (by simp) ?_; intro v1 w1 hown1 hg1 _; rw [Nat.zero_add, List.nil_append] at hown1; have HO := hide hown1; have HG := hide hg1; clear hown1 hg1)
    go_ret
    exact ⟨v1, rfl, HO.out, Below.grown (Below.allocT (Below.refl _ _) (Nat.le_refl _) _) HG.out (by simp) (fun j hj => by injection hj with hj; exact Nat.le_of_eq hj)⟩

set_option maxRecDepth 100000 in
theorem offBad_any (n : Int) (w : World) : Calls Try.prog 22 #[.int .i64 n] w fun e w' => e = .returned (.bool (!inR n 0 1000000)) ∧ Below w.heap.size w w' := by
  obtain ⟨b, hb⟩ : ∃ b, inR n 0 1000000 = b := ⟨_, rfl⟩
  rw [hb]
  have HB := hide hb
  clear hb
  go_enter Try.func22, Try.ntmps22
  go_wp2_with (go_at_call 23; refine (withinB_any _ _ _ _ HB.out _).mono ?_; rintro e w1 ⟨rfl, rfl⟩)
  go_ret
  exact ⟨rfl, Below.refl _ _⟩
set_option maxRecDepth 100000 in
theorem index_offs (p : Int → Bool)  (v : Value) (gs : List Int) (w : World) (hm : gs.length ≤ maxLen) (h : Ints w w.heap.size v gs)
    (hf : ∀ (i : Nat) (x : Int)  (W : World), i < gs.length → gs.getD i 0 = x → Below w.heap.size w W → Calls Try.prog 22 #[.int .i64 x] W fun e w' => e = .returned (.bool (p x)) ∧ Below W.heap.size W w') :
    Calls Try.prog 35 #[v, .func (.func 22) #[] #[]] w fun e w' => e = .returned (.int .i64 (idxI p gs)) ∧ Below w.heap.size w w' := by
  unfold maxLen at hm
  obtain ⟨A, cap, rfl⟩ := ints_formT h
  have H := hide h; clear h
  have HF := hide hf; clear hf
  go_enter Try.func35, Try.ntmps35
  go_wp2
  go_loopw [5, 8] (fun _ i wr => ∃ k : Nat, k ≤ gs.length ∧ i = .int .i64 k ∧ Hid (∀ j, j < k → p (gs.getD j 0) = false) ∧ Below w.heap.size w wr) (fun _ i _ => gs.length - (intOf i).toNat)
  case atStart => exact ⟨0, Nat.zero_le _, rfl, fun j hj => by omega, Below.refl _ _⟩
  case round =>
    obtain ⟨k, hk, rfl, hz, hB⟩ := hrel
    by_cases hlt : k < gs.length
    · obtain ⟨b, off, x, HX, rfl, hbb, hq, e0⟩ := ints_atT (H.out.below hB) hlt
      have hf := fun W (hW : Below w.heap.size w W) => HF.out k x  W hlt HX.out hW
      have HF2 := hide hf
      have HB := hide hB
      clear hf
      by_cases hp : p x = true
      · have HP := hide hp
        clear hp
        go_wp2_with (go_at_call 22; refine (HF2.out _ hB).mono ?_; rw [HP.out]; rintro e w1 ⟨rfl, hB1⟩)
        go_ret
        exact ⟨ret_int (idxI_at p 0 gs k hz.out hlt (by rw [HX.out]; exact HP.out)).symm, Below.to HB.out hB1 (Nat.le_refl _)⟩
      · have hp' : p x = false := by simpa using hp
        have HP := hide hp'
        clear hp hp'
        go_wp2_with (go_at_call 22; refine (HF2.out _ hB).mono ?_; rw [HP.out]; rintro e w1 ⟨rfl, hB1⟩)
        go_roundw
        case rel => exact ⟨k + 1, by omega, by go_num, fun j hj => by
            rcases Nat.lt_or_ge j k with h | h
            · exact hz.out j h
            · rw [show j = k from by omega, HX.out]; exact HP.out, Below.to HB.out hB1 (Nat.le_refl _)⟩
        case measure => simp [intOf]; omega
    · go_wp2
      go_ret
      exact ⟨ret_int (idxI_none p 0 gs (fun j hj => hz.out j (by omega))).symm, hB⟩
set_option maxRecDepth 100000 in
theorem contains_offs (p : Int → Bool)  (v : Value) (gs : List Int) (w : World) (hm : gs.length ≤ maxLen) (h : Ints w w.heap.size v gs)
    (hf : ∀ (i : Nat) (x : Int)  (W : World), i < gs.length → gs.getD i 0 = x → Below w.heap.size w W → Calls Try.prog 22 #[.int .i64 x] W fun e w' => e = .returned (.bool (p x)) ∧ Below W.heap.size W w') :
    Calls Try.prog 16 #[v, .func (.func 22) #[] #[]] w fun e w' => e = .returned (.bool (gs.any p)) ∧ Below w.heap.size w w' := by
  have hc := index_offs p  v gs w hm h hf
  have he := idxI_any p gs
  have hlo := idxI_lo p gs
  have hhi := idxI_hi p gs
  obtain ⟨z, hz⟩ : ∃ z, idxI p gs = z := ⟨_, rfl⟩
  rw [hz] at hc he hlo hhi
  obtain ⟨A, cap, rfl⟩ := ints_formT h
  have HC := hide hc
  have HE := hide he
  unfold maxLen at hm
  have hz2 : z ≤ 9223372036854775807 := by omega
  clear hc he hz h hf
  go_enter Try.func16, Try.ntmps16
  go_wp2_with (go_at_call 35; refine HC.out.mono ?_; rintro e w1 ⟨rfl, hB1⟩)
  go_ret
  exact ⟨ret_bool HE.out, hB1⟩

end Go.Proofs.Ytmgfijadjclmpaa
/- Keeps of the bus: walk. -/
namespace Go.Proofs.Ytmgfijadjclmpaa
open Go.RowKit
set_option linter.unusedVariables false
set_option linter.unusedSimpArgs false
/-- What Keeps answers, if all offsets are 0. -/
def KpP (l : List Fr) (rs : List Rl) (w : World) (e : Ending) (w' : World) : Prop :=
  ∃ (b : Bool) (z : Int), e = .returned (.tuple #[.bool b, .int .i64 z]) ∧ Below w.heap.size w w' ∧ (z = 0 → b = true → Kept (sysOf l rs))
structure KpM (w wr : World) (g1 g2 : Nat) (due la : List Int) : Prop where
  n1 : NumC wr g1 due
  n2 : NumC wr g2 la
  below : Below w.heap.size w wr
theorem KpM.to {w wr w' : World} {g1 g2 : Nat} {due la : List Int} (h : KpM w wr g1 g2 due la) (hb : Below wr.heap.size wr w') : KpM w w' g1 g2 due la := ⟨h.n1.to hb, h.n2.to hb, Below.to h.below hb (Nat.le_refl _)⟩
set_option maxRecDepth 100000 in
set_option maxHeartbeats 8000000 in
theorem Keeps_any (v u x : Value) (l : List Fr) (rs : List Rl) (w : World) (hm : l.length ≤ 1000) (hl1 : 1 ≤ l.length) (hn : rs.length ≤ 1000) (h : Frs w w.heap.size v l) (hr : Rls w w.heap.size u rs) (hx : Ints w w.heap.size x (List.replicate l.length 0)) :
    Calls Try.prog 9 #[v, u, x] w (KpP l rs w) := by
  have hck := checkReleases_any v u l rs w (by unfold maxLen; omega) (by unfold maxLen; omega) h hr
  obtain ⟨i0, hi0, iz0, iz1, iz2⟩ := info_parts infoIntT
  obtain ⟨A, q, rfl⟩ := h.form
  obtain ⟨A2, q2, rfl⟩ := hr.form
  obtain ⟨A3, q3, rfl⟩ := ints_formT hx
  have hlr : (List.replicate l.length (0 : Int)).length = l.length := List.length_replicate
  have hcl := fun W (hW : Below w.heap.size w W) => cloneIntsT_any A3 l.length q3 ((List.replicate l.length (0 : Int)).map (Value.int .i64)) W (by have h1 := ints_readsT (ints_upT hx hW); rw [hlr] at h1; exact h1) (by intro u hu; simp at hu; rw [hu.2]; rfl) hm
  have hct := fun W (hW : Below w.heap.size w W) => contains_offs (fun i => !inR i 0 1000000) (.slice A3 l.length q3) (List.replicate l.length (0 : Int)) W (by unfold maxLen; rw [hlr]; omega) (by have h1 := ints_upT hx hW; rw [hlr] at h1; exact h1) (fun i y W' _ _ hW' => offBad_any y W')
  have hno : (List.replicate l.length (0 : Int)).any (fun i => !inR i 0 1000000) = false := by
    rw [List.any_eq_false]
    intro y hy
    rw [List.mem_replicate] at hy
    rw [hy.2]
    decide
  rw [hno] at hct
  have hmk : ∀ W : World, (Instr.makeSlice 24 (.int .i64 l.length) (.int .i64 l.length)).run Try.prog W = .ok (.slice (some ⟨W.heap.size, 0, none⟩) l.length l.length) (W.alloc (.cells (madeCells #[.int .i64 0] (l.length * 1)) 3)) := fun W => by
    have h1 := run_make (P := Try.prog) W 24 3 i0 (.int .i64 0) Try.underlying24 hi0 iz0 .i64 .i64 l.length l.length (by omega) (Int.le_refl _) (by rw [iz2]; omega) (by omega)
    rw [iz1] at h1
    simpa [Value.cells] using h1
  rw [hlr]
  obtain ⟨z, hz⟩ : ∃ z, chkR l rs = z := ⟨_, rfl⟩
  rw [hz] at hck
  have HZ := hide hz
  have HCK := hide hck
  have HCL := hide hcl
  have HCT := hide hct
  have H := hide h
  have HR := hide hr
  have iql : (l.length : Int) ≤ (q : Int) := by have := h.cap; omega
  have iqr : (rs.length : Int) ≤ (q2 : Int) := by have := hr.cap; omega
  clear h hr hx hck hz hcl hct hno hlr
  by_cases hz0 : z = 0
  case neg =>
    have hz1 : (z != 0) = true := by simpa using hz0
    have HZ0 := hide hz0
    clear hz0
    go_enter Try.func9, Try.ntmps9
    go_wp2_with (go_at_call 19; refine HCK.out.mono ?_; rintro e w1 ⟨rfl, hB1⟩)
    go_ret2
    exact ⟨false, z, rfl, hB1, fun h => absurd h HZ0.out⟩
  subst hz0
  have gll : ((l.length : Int) != (l.length : Int)) = false := by simp
  go_enter Try.func9, Try.ntmps9
  go_upto_region 8 with (first
    | (go_at_call 19; refine HCK.out.mono ?_; rintro e w1 ⟨rfl, hB1⟩; have HB1 := hide hB1; clear hB1)
    | (go_at_call 16; refine (HCT.out _ HB1.out).mono ?_; rintro e w2 ⟨rfl, hB2⟩; have HB2 := hide (Below.to HB1.out hB2 (Nat.le_refl _)); clear hB2)
    | (go_at_call 24; refine (HCL.out _ HB2.out).mono ?_; rintro e w3 ⟨v3, rfl, hv3, hB3⟩; obtain ⟨g1, q4, e3, hq4, hg1, hn1⟩ := own_numC hl1 List.length_replicate hv3; subst e3; have HN1 := hide hn1; have HB3 := hide (Below.to HB2.out hB3 (Nat.le_refl _)); have hgw1 : w.heap.size ≤ g1 := by { have := HB2.out.size; omega }; have iq4 : (l.length : Int) ≤ (q4 : Int) := by { omega }; clear hB3 hn1 hv3 hg1 hq4))
  generalize hw4 : World.alloc _ _ = w4
  obtain ⟨hb4, hB4, hs4⟩ := alloc1 hw4
  obtain ⟨g2, hg2⟩ : ∃ z, w3.heap.size = z := ⟨_, rfl⟩
  have hg12 : g1 < g2 := by rw [← hg2]; exact HN1.out.lt
  have hnb : NumB w4 w3.heap.size (List.replicate l.length 0) := by
    unfold NumB
    rw [hb4, made_intsT]
  rw [hg2] at hnb ⊢
  have HM4 : Hid (KpM w w4 g1 g2 (List.replicate l.length 0) (List.replicate l.length 0)) := ⟨HN1.out.to hB4, hnb.numC, Below.to HB3.out hB4 (Nat.le_refl _)⟩
  clear hw4 hb4 hB4 hs4 hnb hg2 hmk
  go_wp2_with fail
  go_loopw [12, 13, 36] (fun _ _ iv wr => ∃ (k : Nat) (due la : List Int), iv = .int .i64 k ∧ k ≤ rs.length ∧ Hid (KInv (sysOf l rs) k due la) ∧ Hid (KpM w wr g1 g2 due la)) (fun _ _ iv _ => rs.length - (intOf iv).toNat)
  case atStart => exact ⟨0, _, _, rfl, Nat.zero_le _, KInv.start, HM4.out⟩
  case round =>
    obtain ⟨k, due, la, rfl, hk, HK, HM⟩ := hrel
    by_cases hlt : k < rs.length
    case neg =>
      have hlt1 : ¬ (k : Int) < (rs.length : Int) := by omega
      have HKE : Hid (Kept (sysOf l rs)) := KInv.done (due := due) (la := la) (by show KInv _ rs.length _ _; rw [show rs.length = k by omega]; exact HK.out)
      clear hlt
      go_wp2
      go_ret2
      exact ⟨true, 0, rfl, HM.out.below, fun _ _ => HKE.out⟩
    case pos =>
    have hlt1 : (k : Int) < (rs.length : Int) := by omega
    have ik0 : (0 : Int) ≤ (k : Int) := by omega
    obtain ⟨b, off, fi, t, rfl, hbb, hq, HFI, HT, hfi, ht0, ht1, e0, e1⟩ := rl_at HZ.out (HR.out.up HM.out.below) hlt
    go_upto_region 12 with (fail)
    generalize hw0 : World.alloc _ _ = w0
    obtain ⟨hb0, hB0, hs0⟩ := alloc1 hw0
    obtain ⟨pb, hpb⟩ : ∃ z, wr.heap.size = z := ⟨_, rfl⟩
    rw [hpb] at hb0 ⊢
    have HPB : Hid (RlBox w0 pb ⟨fi, t⟩) := hb0
    have c0 := cellOf hb0 0; have c1 := cellOf hb0 1
    have hlc := box_lt hb0
    have HM0 := hide (HM.out.to hB0)
    have hpg1 : ¬ pb = g1 := by have := HM.out.n1.lt; omega
    have hpg2 : ¬ pb = g2 := by have := HM.out.n2.lt; omega
    obtain ⟨bf, of, y, HY, rfl, hbf, hqf, _, ey1, ey2, _, _⟩ := (H.out.up HM0.out.below).at hfi
    have hbfw : Hid (Frs w w.heap.size (.slice (some ⟨bf, of, none⟩) l.length q) l) := H
    have hbfg : ¬ bf = g1 := by
      obtain ⟨b', o', _, _, hA, hb', _⟩ := hbfw.out.at hfi
      injection hA with hA
      injection hA with hA1 _ _
      omega
    have ifi0 : (0 : Int) ≤ (fi : Int) := by omega
    have ifi1 : (fi : Int) < (l.length : Int) := by omega
    obtain ⟨d, hd⟩ : ∃ d, due.getD fi 0 = d := ⟨_, rfl⟩
    obtain ⟨a, ha⟩ : ∃ a, la.getD fi 0 = a := ⟨_, rfl⟩
    have hdl : due.length = l.length := HK.out.dl
    have hal : la.length = l.length := HK.out.ll
    have z1 := HM0.out.n1.cell (k := fi) (by rw [hdl]; exact hfi)
    have z2 := HM0.out.n2.cell (k := fi) (by rw [hal]; exact hfi)
    rw [hd] at z1
    rw [ha] at z2
    have lg1 := HM0.out.n1.lt
    have lg2 := HM0.out.n2.lt
    have hye := (chkR_ok HZ.out).1.e fi hfi
    have hyj := (chkR_ok HZ.out).1.j fi hfi
    rw [HY.out] at hye hyj
    have hye1 := hye.1
    have hye2 := hye.2
    have hyj1 := hyj.1
    have hyj2 := hyj.2
    have hdv := HK.out.due fi hfi
    rw [hd] at hdv
    have hcn := cntF_le (sysOf l rs).fr fi k
    have hE : (sysOf l rs).E fi = y.e := by show (l.getD fi Fr.o).e = y.e; rw [HY.out]
    have hJ : (sysOf l rs).J fi = y.j := by show (l.getD fi Fr.o).j = y.j; rw [HY.out]
    rw [hE] at hdv
    have hd0 : 0 ≤ d := by rw [hdv]; exact Int.mul_nonneg (by omega) (by omega)
    have hd1 : d ≤ 1000 * 100000 := by rw [hdv]; exact Int.mul_le_mul (by omega) hye2 (by omega) (by omega)
    have wd1 : IntKind.i64.wrap (d + y.j) = d + y.j := IntWalk.i64_in _ (by omega)
    have wd2 : IntKind.i64.wrap (d + y.e) = d + y.e := IntWalk.i64_in _ (by omega)
    obtain ⟨b1, h1⟩ : ∃ b1, inR t d (d + y.j) = b1 := ⟨_, rfl⟩
    have H1 := hide h1
    have HD := hide hd
    have HA := hide ha
    have HE := hide hE
    have HJ := hide hJ
    have HDL := hide hdl
    have HAL := hide hal
    clear hw0 hb0 hB0 hs0 hpb e0 e1 hq hqf hdv hye hyj hE hJ h1 hd ha hcn hdl hal
    cases b1 with
    | false =>
      refine wp_region_held_drew (S := (fun w' => Below w0.heap.size w0 w')) (by kernel_rfl) ?_ (fun hHeld => ?_)
      · try dsimp only
        exact (by repeat (first | exact Below.refl _ _ | assumption | refine Below.drew ?_ | refine Below.drewN ?_ _ | refine Below.allocT ?_ (Nat.le_refl _) _ | refine Below.setCell ?_ (by simp <;> omega) _ | refine Below.to ?_ (by assumption) (Nat.le_refl _)))
      refine zT 0 rfl ?_
      refine zT 1 rfl ?_
      refine zT 2 rfl ?_
      refine zT 3 rfl ?_
      refine zT 4 rfl ?_
      refine zT 5 rfl ?_
      refine zT 6 rfl ?_
      refine zT 7 rfl ?_
      refine zT 8 rfl ?_
      refine zT 9 rfl ?_
      refine zT 10 rfl ?_
      refine zT 11 rfl ?_
      refine zT 12 rfl ?_
      refine zT 13 rfl ?_
      refine zT 14 rfl ?_
      refine zT 15 rfl ?_
      refine wpAnyH_ready (rs := [16]) (by kernel_rfl) (by simp) ?_
      refine AllReadyH.cons rfl (fun K hK => ?_) AllReadyH.nil
      go_simp
      ((go_at_call 23; refine (withinB_any _ _ _ _ H1.out _).mono ?_; rintro e w5 ⟨rfl, rfl⟩))
      (try dsimp only)
      refine hK.out _ _ ?_ (fun hNext => ?_)
      · try dsimp only
        exact (by repeat (first | exact Below.refl _ _ | assumption | refine Below.drew ?_ | refine Below.drewN ?_ _ | refine Below.allocT ?_ (Nat.le_refl _) _ | refine Below.setCell ?_ (by simp <;> omega) _ | refine Below.to ?_ (by assumption) (Nat.le_refl _)))
      clear hK K hHeld
      have hHeld := hNext
      clear hNext
      (try dsimp only at hHeld)
      try simp only [zX]
      refine zT 17 rfl ?_
      refine zT 18 rfl ?_
      refine zS 19 rfl ?_
      refine zS 20 rfl ?_
      refine zS 21 rfl ?_
      refine zS 22 rfl ?_
      refine zS 23 rfl ?_
      refine zS 24 rfl ?_
      refine zS 25 rfl ?_
      refine zT 26 rfl ?_
      refine wpAnyH_done (by kernel_rfl) ?_ _
      go_wp2
      go_ret2
      exact ⟨false, 0, rfl, Below.to HM0.out.below hHeld (Nat.le_refl _), fun _ h => by cases h⟩
    | true =>
    have hin := inR_iff.1 H1.out
    by_cases hta : t < a
    · have d2 : decide (t < a) = true := by simpa using hta
      refine wp_region_held_drew (S := (fun w' => Below w0.heap.size w0 w')) (by kernel_rfl) ?_ (fun hHeld => ?_)
      · try dsimp only
        exact (by repeat (first | exact Below.refl _ _ | assumption | refine Below.drew ?_ | refine Below.drewN ?_ _ | refine Below.allocT ?_ (Nat.le_refl _) _ | refine Below.setCell ?_ (by simp <;> omega) _ | refine Below.to ?_ (by assumption) (Nat.le_refl _)))
      refine zT 0 rfl ?_
      refine zT 1 rfl ?_
      refine zT 2 rfl ?_
      refine zT 3 rfl ?_
      refine zT 4 rfl ?_
      refine zT 5 rfl ?_
      refine zT 6 rfl ?_
      refine zT 7 rfl ?_
      refine zT 8 rfl ?_
      refine zT 9 rfl ?_
      refine zT 10 rfl ?_
      refine zT 11 rfl ?_
      refine zT 12 rfl ?_
      refine zT 13 rfl ?_
      refine zT 14 rfl ?_
      refine zT 15 rfl ?_
      refine wpAnyH_ready (rs := [16]) (by kernel_rfl) (by simp) ?_
      refine AllReadyH.cons rfl (fun K hK => ?_) AllReadyH.nil
      go_simp
      ((go_at_call 23; refine (withinB_any _ _ _ _ H1.out _).mono ?_; rintro e w5 ⟨rfl, rfl⟩))
      (try dsimp only)
      refine hK.out _ _ ?_ (fun hNext => ?_)
      · try dsimp only
        exact (by repeat (first | exact Below.refl _ _ | assumption | refine Below.drew ?_ | refine Below.drewN ?_ _ | refine Below.allocT ?_ (Nat.le_refl _) _ | refine Below.setCell ?_ (by simp <;> omega) _ | refine Below.to ?_ (by assumption) (Nat.le_refl _)))
      clear hK K hHeld
      have hHeld := hNext
      clear hNext
      (try dsimp only at hHeld)
      try simp only [zX]
      refine zT 17 rfl ?_
      refine zT 18 rfl ?_
      refine zT 19 rfl ?_
      refine zT 20 rfl ?_
      refine zT 21 rfl ?_
      refine zT 22 rfl ?_
      refine zT 23 rfl ?_
      refine zT 24 rfl ?_
      refine zT 25 rfl ?_
      refine zT 26 rfl ?_
      refine wpAnyH_done (by kernel_rfl) ?_ _
      go_wp2
      go_ret2
      exact ⟨false, 0, rfl, Below.to HM0.out.below hHeld (Nat.le_refl _), fun _ h => by cases h⟩
    · have d2 : decide (t < a) = false := by simpa using hta
      have HK2 : Hid (KInv (sysOf l rs) (k + 1) (due.set fi (d + y.e)) (la.set fi t)) := KInv.step (sys_ok HZ.out) HK.out hlt HFI.out HT.out HD.out HE.out hin.1 (by rw [HJ.out]; exact hin.2) (by rw [HA.out]; omega)
      refine wp_region_held_drew (S := (fun w' => Below w0.heap.size w0 w')) (by kernel_rfl) ?_ (fun hHeld => ?_)
      · try dsimp only
        exact (by repeat (first | exact Below.refl _ _ | assumption | refine Below.drew ?_ | refine Below.drewN ?_ _ | refine Below.allocT ?_ (Nat.le_refl _) _ | refine Below.setCell ?_ (by simp <;> omega) _ | refine Below.to ?_ (by assumption) (Nat.le_refl _)))
      refine zT 0 rfl ?_
      refine zT 1 rfl ?_
      refine zT 2 rfl ?_
      refine zT 3 rfl ?_
      refine zT 4 rfl ?_
      refine zT 5 rfl ?_
      refine zT 6 rfl ?_
      refine zT 7 rfl ?_
      refine zT 8 rfl ?_
      refine zT 9 rfl ?_
      refine zT 10 rfl ?_
      refine zT 11 rfl ?_
      refine zT 12 rfl ?_
      refine zT 13 rfl ?_
      refine zT 14 rfl ?_
      refine zT 15 rfl ?_
      refine wpAnyH_ready (rs := [16]) (by kernel_rfl) (by simp) ?_
      refine AllReadyH.cons rfl (fun K hK => ?_) AllReadyH.nil
      go_simp
      ((go_at_call 23; refine (withinB_any _ _ _ _ H1.out _).mono ?_; rintro e w5 ⟨rfl, rfl⟩))
      (try dsimp only)
      refine hK.out _ _ ?_ (fun hNext => ?_)
      · try dsimp only
        exact (by repeat (first | exact Below.refl _ _ | assumption | refine Below.drew ?_ | refine Below.drewN ?_ _ | refine Below.allocT ?_ (Nat.le_refl _) _ | refine Below.setCell ?_ (by simp <;> omega) _ | refine Below.to ?_ (by assumption) (Nat.le_refl _)))
      clear hK K hHeld
      have hHeld := hNext
      clear hNext
      (try dsimp only at hHeld)
      try simp only [zX]
      refine zT 17 rfl ?_
      refine zT 18 rfl ?_
      refine zT 19 rfl ?_
      refine zT 20 rfl ?_
      refine zT 21 rfl ?_
      refine zT 22 rfl ?_
      refine zT 23 rfl ?_
      refine zT 24 rfl ?_
      refine zT 25 rfl ?_
      refine zT 26 rfl ?_
      refine wpAnyH_done (by kernel_rfl) ?_ _
      go_upto_region 14 with (fail)
      obtain ⟨w6, hw6⟩ : ∃ z, w0.drew = z := ⟨_, rfl⟩
      rw [hw6] at hHeld ⊢
      have HM6 := hide (HM0.out.to hHeld)
      have HPB6 := hide (HPB.out.to hHeld)
      have ez : w6.cell? ⟨bf, of + fi * 5 + 1, none⟩ = some (.int .i64 y.e) := (hHeld.cell (p := ⟨bf, of + fi * 5 + 1, none⟩) hbf).trans ey1
      have hbw : bf < w6.heap.size := Nat.lt_of_lt_of_le hbf hHeld.size
      have g1c := HM6.out.n1.cell (k := fi) (by rw [HDL.out]; exact hfi)
      rw [HD.out] at g1c
      have v1 := HM6.out.n1.free fi
      have lg := HM6.out.n1.lt
      have hnx : KpM w ((w6.setCell ⟨g1, fi, none⟩ (.int .i64 (d + y.e))).drew) g1 g2 (due.set fi (d + y.e)) la := ⟨(HM6.out.n1.set (by rw [HDL.out]; exact hfi)).drew, (HM6.out.n2.other (by omega)).drew, Below.drew (Below.setCell HM6.out.below hgw1 _)⟩
      have hbx : RlBox ((w6.setCell ⟨g1, fi, none⟩ (.int .i64 (d + y.e))).drew) pb ⟨fi, t⟩ := (Below.heap_setCell _ _ _ _ (by show pb ≠ g1; exact hpg1)).trans HPB6.out
      have hKeep : Hid (w6.grownBy w6.drew (some g1)) := only_drew (only_refl _ _)
      clear hw6 z1 z2 lg1 lg2 ey1 ey2 hbf c0 c1 hlc
      refine wp_region_held_drew (S := (fun w' => w6.grownBy w' (some g1))) (by kernel_rfl) ?_ (fun hHeld => ?_)
      · try dsimp only
        (first | exact only_refl _ _ | assumption | exact only_drew (only_refl _ _) | exact hKeep.out | exact only_drew (by assumption) | (refine only_trans hKeep.out ?_; refine only_setCell (only_setCell (only_setCell (only_setCell (only_refl _ _) ?_ _) ?_ _) ?_ _) ?_ _ <;> exact .inl rfl) | (refine only_trans hKeep.out ?_; refine only_setCell (only_refl _ _) ?_ _; exact .inl rfl))
      refine zG 0 rfl ?_
      refine zG 1 rfl ?_
      refine zG 2 rfl ?_
      refine zG 4 rfl ?_
      refine zG 5 rfl ?_
      refine zG 6 rfl ?_
      refine zG 7 rfl ?_
      refine zG 8 rfl ?_
      refine wpAnyH_ready (rs := [3]) (by kernel_rfl) (by simp) ?_
      refine AllReadyH.cons rfl (fun K hK => ?_) AllReadyH.nil
      go_simp
      refine hK.out _ _ ?_ (fun hNext => ?_)
      · try dsimp only
        (first | exact only_refl _ _ | assumption | exact only_drew (only_refl _ _) | exact hKeep.out | exact only_drew (by assumption) | (refine only_trans hKeep.out ?_; refine only_setCell (only_setCell (only_setCell (only_setCell (only_refl _ _) ?_ _) ?_ _) ?_ _) ?_ _ <;> exact .inl rfl) | (refine only_trans hKeep.out ?_; refine only_setCell (only_refl _ _) ?_ _; exact .inl rfl))
      clear hK K hHeld
      have hHeld := hNext
      clear hNext
      (try dsimp only at hHeld)
      try simp only [zX]
      refine zG 9 rfl ?_
      refine zG 10 rfl ?_
      refine wpAnyH_ready (rs := [11]) (by kernel_rfl) (by simp) ?_
      refine AllReadyH.cons rfl (fun K hK => ?_) AllReadyH.nil
      go_simp
      refine hK.out _ _ ?_ (fun hNext => ?_)
      · try dsimp only
        (first | exact only_refl _ _ | assumption | exact only_drew (only_refl _ _) | exact hKeep.out | exact only_drew (by assumption) | (refine only_trans hKeep.out ?_; refine only_setCell (only_setCell (only_setCell (only_setCell (only_refl _ _) ?_ _) ?_ _) ?_ _) ?_ _ <;> exact .inl rfl) | (refine only_trans hKeep.out ?_; refine only_setCell (only_refl _ _) ?_ _; exact .inl rfl))
      clear hK K hHeld
      have hHeld := hNext
      clear hNext
      (try dsimp only at hHeld)
      try simp only [zX]
      refine wpAnyH_done (by kernel_rfl) ?_ _
      generalize World.drew (World.setCell _ _ _) = w7 at hnx hbx ⊢
      have HNX := hide hnx
      have HBX := hide hbx
      have c0 := cellOf hbx 0; have c1 := cellOf hbx 1
      have hlc := box_lt hbx
      have v2 := HNX.out.n2.free fi
      have lg2 := HNX.out.n2.lt
      have g2c := HNX.out.n2.cell (k := fi) (by rw [HAL.out]; exact hfi)
      have iln : (l.length : Int) ≤ (l.length : Int) := Int.le_refl _
      clear hnx hbx hHeld hKeep ez g1c v1 lg
      go_wp2_with fail
      have hny : KpM w (w7.setCell ⟨g2, fi, none⟩ (.int .i64 t)) g1 g2 (due.set fi (d + y.e)) (la.set fi t) := ⟨HNX.out.n1.other (by omega), HNX.out.n2.set (by rw [HAL.out]; exact hfi), Below.setCell HNX.out.below (by show w.heap.size ≤ g2; omega) _⟩
      generalize World.setCell _ _ _ = w8 at hny ⊢
      have HNY := hide hny
      clear hny c0 c1 hlc g2c v2 lg2
      go_roundw
      case rel => exact ⟨k + 1, _, _, by go_num, by omega, HK2, HNY⟩
      case measure => simp [intOf]; omega
end Go.Proofs.Ytmgfijadjclmpaa

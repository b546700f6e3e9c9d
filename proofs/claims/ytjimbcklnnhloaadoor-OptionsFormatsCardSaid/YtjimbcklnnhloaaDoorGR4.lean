/- Part 4 of this claim's texts: walks and plain laws. -/
import Derived.Test.YtjimbcklnnhloaaDoorRows
import Derived.Test.YtjimbcklnnhloaaDoorGR3
import Derived.Deep.CutBlock
import Derived.Deep.DeepMust
import Derived.Shelf.Strings.Builder1
import Derived.Test.YtjimbcklnnhloaaDoorProg
import Derived.Test.YtjimbcklnnhloaaDoorGR2
import Derived.Laws.EntriesVeiled
import Derived.WalkLawsBesides
import Derived.WalkSpells
import Derived.Deep.QuietTactic
/- The reader of a formula: a name is read as nameR says. -/
namespace Go.Proofs.YtjimbcklnnhloaaDoor
open Go.RowKit
set_option linter.unusedVariables false
set_option linter.unusedSimpArgs false
theorem numN_idx (t : ByteArray) : ∀ (ns : List ByteArray), idxI (fun x => x.toList == t.toList) ns = numN (ns.map fun x => x.data.toList) t.data.toList
  | [] => rfl
  | x :: r => by
    have ih := numN_idx t r
    have hn : numN (r.map fun x => x.data.toList) t.data.toList = -1 ∨ 0 ≤ numN (r.map fun x => x.data.toList) t.data.toList := by
      rcases numN_first (r.map fun x => x.data.toList) t.data.toList with q | q
      · exact .inl q
      · exact .inr q.1
    rw [idxI, ih]
    by_cases hx : x.data.toList = t.data.toList
    · have h1 : (x.toList == t.toList) = true := by rw [ByteArray.toList_eq, ByteArray.toList_eq, hx]; simp
      rw [if_pos h1]
      unfold numN
      rw [List.map_cons, if_pos (by simp [hx]), List.idxOf_cons]
      simp [hx]
    · have h1 : ¬ (x.toList == t.toList) = true := by rw [ByteArray.toList_eq, ByteArray.toList_eq]; simpa using hx
      have h2 : (x.data.toList == t.data.toList) = false := by rw [beq_eq_false_iff_ne]; exact hx
      rw [if_neg h1]
      by_cases hm : t.data.toList ∈ r.map fun x => x.data.toList
      · have e1 : numN (r.map fun x => x.data.toList) t.data.toList = ((r.map fun x => x.data.toList).idxOf t.data.toList : Nat) := by unfold numN; rw [if_pos (by simpa using hm)]
        rw [e1, if_neg (by omega)]
        unfold numN
        rw [List.map_cons, if_pos (by rw [List.contains_eq_mem]; simp only [decide_eq_true_eq]; exact List.mem_cons_of_mem _ hm), List.idxOf_cons, h2]
        simp
      · have e1 : numN (r.map fun x => x.data.toList) t.data.toList = -1 := by unfold numN; rw [if_neg (by rw [List.contains_eq_mem]; simpa using hm)]
        rw [e1, if_pos (by omega)]
        unfold numN
        rw [List.map_cons, if_neg]
        rw [List.contains_eq_mem]
        simp only [decide_eq_true_eq]
        intro h
        rcases List.mem_cons.1 h with q | q
        · exact hx q.symm
        · exact hm q
/-- What a reader leaves: the box, the numbers read, what is below. -/
def RdP (b B : Nat) (nv : Value) (st : Bool) (xs : List Int) (w : World) (o : Option (List UInt8 × List Int × Bool)) (e : Ending) (w' : World) : Prop :=
  Bx b B w w' ∧ match o with
    | none => e = .panicked badP
    | some x => e = .returned (.tuple #[]) ∧ ∃ s' fv', s'.data.toList = x.1 ∧ RdB w' b nv s' fv' (st || x.2.2) ∧ NumS w' B fv' (xs ++ x.2.1)
theorem name_any (b B : Nat) (hbB : b < B) (nv fv : Value) (s : ByteArray) (st : Bool) (xs : List Int) (ns : List ByteArray) (w : World) (hs : s.size ≤ maxLen) (hb : RdB w b nv s fv st) (hBw : B ≤ w.heap.size) (ho : NumS w B fv xs) (hl : xs.length ≤ 1000000) (hns : Names w b nv ns) (hnl : ns.length ≤ maxLen) :
    Calls Tryd.prog 58 #[.pointer (some ⟨b, 0, none⟩)] w (RdP b B nv st xs w (nameR (ns.map fun x => x.data.toList) s.data.toList)) := by
  unfold nameR
  by_cases hy : s.data.toList.take (wordN s.data.toList) = [121, 101, 115]
  · rw [if_pos hy]
    refine (name_yes b B hbB nv fv s st xs w hs hb hBw ho hl hy).mono fun e w' h => ?_
    obtain ⟨h1, h2, fv', h3, h4⟩ := h
    exact ⟨h2, h1, _, fv', str_drop s _, by rw [Bool.or_false]; exact h3, h4⟩
  · rw [if_neg hy]
    by_cases hn : s.data.toList.take (wordN s.data.toList) = [110, 111]
    · rw [if_pos hn]
      refine (name_no b B hbB nv fv s st xs w hs hb hBw ho hl hn).mono fun e w' h => ?_
      obtain ⟨h1, h2, fv', h3, h4⟩ := h
      exact ⟨h2, h1, _, fv', str_drop s _, by rw [Bool.or_false]; exact h3, h4⟩
    · rw [if_neg hn]
      by_cases hd : namedB (s.data.toList.take (wordN s.data.toList)) = true
      · rw [if_pos hd]
        have hi := numN_idx (s.extract 0 (wordN s.data.toList)) ns
        rw [str_take] at hi
        refine (name_opt b B hbB nv fv s st xs w hs hb hBw ho hl hy hn hd ns hns hnl _ hi).mono fun e w' h => ?_
        obtain ⟨h1, h2, fv', h3, h4⟩ := h
        exact ⟨h2, h1, _, fv', str_drop s _, h3, h4⟩
      · rw [if_neg hd]
        refine (name_bad b B hbB nv fv s st xs w hs hb hBw ho hl hy hn (by simpa using hd)).mono fun e w' h => ?_
        exact ⟨h.2, h.1⟩
end Go.Proofs.YtjimbcklnnhloaaDoor
/- The reader of a formula: a term: the small cases. -/
namespace Go.Proofs.YtjimbcklnnhloaaDoor
open Go.RowKit
set_option linter.unusedVariables false
set_option linter.unusedSimpArgs false
theorem str_none {s : ByteArray} (h : s.size = 0) : s.toList = [] ∧ s.toList.isEmpty = true := by
  have z0 : s.toList = [] := by
    rw [ByteArray.toList_eq]
    exact List.eq_nil_of_length_eq_zero (by simpa using h)
  exact ⟨z0, by rw [z0]; rfl⟩
theorem str_cons {s : ByteArray} (h : 0 < s.size) : s.data.toList = s[0] :: (s.extract 1 s.size).data.toList := by
  have h3 : 0 < s.data.toList.length := by simpa using h
  rw [str_drop]
  have h4 := List.drop_eq_getElem_cons h3
  rw [List.drop_zero] at h4
  exact h4
theorem term_empty (b B : Nat) (hbB : b < B) (nv fv : Value) (s : ByteArray) (st : Bool) (w : World) (hb : RdB w b nv s fv st) (hBw : B ≤ w.heap.size) (h0 : s.size = 0) :
    Calls Tryd.prog 37 #[.pointer (some ⟨b, 0, none⟩)] w fun e w' => e = .panicked badP ∧ Bx b B w w' := by
  obtain ⟨z0, z1⟩ := str_none h0
  have c0 := cellOf hb 1
  have c2 := box_lt hb
  clear hb h0
  go_enter Tryd.func37, Tryd.ntmps37
  go_wp2
  exact ⟨rfl, rfl, Bx.refl _ _ _⟩
set_option maxRecDepth 100000 in
set_option maxHeartbeats 4000000 in
theorem term_name (b B : Nat) (hbB : b < B) (nv fv : Value) (s : ByteArray) (st : Bool) (xs : List Int) (ns : List ByteArray) (w : World) (hs : s.size ≤ maxLen) (hb : RdB w b nv s fv st) (hBw : B ≤ w.heap.size) (ho : NumS w B fv xs) (hl : xs.length ≤ 1000000) (hns : Names w b nv ns) (hnl : ns.length ≤ maxLen) (h0 : 0 < s.size) (h1 : s[0] ≠ 33) (h2 : s[0] ≠ 40) :
    Calls Tryd.prog 37 #[.pointer (some ⟨b, 0, none⟩)] w (RdP b B nv st xs w (nameR (ns.map fun x => x.data.toList) s.data.toList)) := by
  obtain ⟨o, hoo⟩ : ∃ z, nameR (ns.map fun x => x.data.toList) s.data.toList = z := ⟨_, rfl⟩
  have hcall := name_any b B hbB nv fv s st xs ns w hs hb hBw ho hl hns hnl
  rw [hoo] at hcall ⊢
  have HC := hide hcall
  obtain ⟨z1, z2⟩ := str_full h0
  have e1 : ((s[0].toNat : Int) == 33) = false := by
    rw [beq_eq_false_iff_ne]
    exact fun e => h1 (UInt8.toNat_inj.1 (by show s[0].toNat = 33; omega))
  have e2 : ((s[0].toNat : Int) == 40) = false := by
    rw [beq_eq_false_iff_ne]
    exact fun e => h2 (UInt8.toNat_inj.1 (by show s[0].toNat = 40; omega))
  unfold maxLen at hs
  have c0 := cellOf hb 1
  have c2 := box_lt hb
  clear hb ho hl hns hnl hcall hoo h1 h2
  cases o with
  | none =>
    go_enter Tryd.func37, Tryd.ntmps37
    go_wp2_with (go_at_call 58; refine HC.out.mono ?_; rintro e w1 ⟨hB, rfl⟩; have HB := hide hB; clear hB)
    exact ⟨rfl, HB.out, rfl⟩
  | some x =>
    go_enter Tryd.func37, Tryd.ntmps37
    go_wp2_with (go_at_call 58; refine HC.out.mono ?_; rintro e w1 ⟨hB, rfl, hx⟩; have HB := hide hB; have HXX := hide hx; clear hB hx)
    go_end0
    exact ⟨HB.out, rfl, HXX.out⟩
end Go.Proofs.YtjimbcklnnhloaaDoor
/- The place of a sign among the three of them. -/
namespace Go.Proofs.YtjimbcklnnhloaaDoor
open Go.RowKit
set_option linter.unusedVariables false
set_option linter.unusedSimpArgs false
/-- The place of a sign, -1: it is none. -/
def sigI (c : UInt8) : Int := match sigT c with | some k => (k : Int) | none => -1
theorem sigI_at {c : UInt8} {k : Nat} (h : k < 3) (e : c = sgnT k) : sigI c = k := by
  subst e
  unfold sigI
  rw [sig_sgn h]
theorem sigI_no {c : UInt8} (h : ∀ j, j < 3 → c ≠ sgnT j) : sigI c = -1 := by
  have h0 : c ≠ 38 := h 0 (by omega)
  have h1 : c ≠ 124 := h 1 (by omega)
  have h2 : c ≠ 61 := h 2 (by omega)
  unfold sigI sigT
  rw [if_neg h0, if_neg h1, if_neg h2]
/-- The three signs lie in block g. -/
def SgnAt (w : World) (g : Nat) : Prop := ∀ k, k < 3 → w.cell? ⟨g, k, none⟩ = some (.int .u8 ((sgnT k).toNat : Nat))
theorem ret_i {a b : Int} (h : a = b) : Ending.returned (.int .i64 a) = .returned (.int .i64 b) := by rw [h]
set_option maxRecDepth 100000 in
set_option maxHeartbeats 2000000 in
theorem indexB_any (g : Nat) (c : UInt8) (w : World) (h : SgnAt w g) :
    Calls Tryd.prog 57 #[.slice (some ⟨g, 0, none⟩) 3 3, .int .u8 (c.toNat : Nat)] w fun e w' => e = .returned (.int .i64 (sigI c)) ∧ w = w' := by
  have HC := hide h
  clear h
  go_enter Tryd.func57, Tryd.ntmps57
  go_wp2
  go_loop [8] (fun i => ∃ k : Nat, k ≤ 3 ∧ i = .int .i64 k ∧ Hid (∀ j, j < k → c ≠ sgnT j)) (fun i => 3 - (intOf i).toNat)
  case atStart => exact ⟨0, Nat.zero_le _, rfl, fun j hj => by omega⟩
  case round =>
    obtain ⟨k, hk, rfl, hall⟩ := hrel
    by_cases hlt : k < 3
    · have c0 := HC.out k hlt
      obtain ⟨x, hx⟩ : ∃ x, sgnT k = x := ⟨_, rfl⟩
      rw [hx] at c0
      have HX := hide hx
      clear hx
      by_cases he : c = x
      · have he1 : ((c.toNat : Int) == (x.toNat : Int)) = true := by rw [he]; simp
        have HE := hide he
        clear he
        go_wp2
        go_ret
        exact ⟨ret_i (sigI_at hlt (by rw [HX.out]; exact HE.out)).symm, rfl⟩
      · have he1 : ((c.toNat : Int) == (x.toNat : Int)) = false := by
          rw [beq_eq_false_iff_ne]
          exact fun e => he (UInt8.toNat_inj.1 (by omega))
        have HE := hide he
        clear he
        go_wp2
        go_round
        case rel => exact ⟨k + 1, by omega, by go_num, fun j hj => by
            rcases Nat.lt_or_ge j k with h | h
            · exact hall.out j h
            · rw [show j = k from by omega, HX.out]; exact HE.out⟩
        case measure => simp [intOf]; omega
    · go_wp2
      go_ret
      exact ⟨ret_i (sigI_no (fun j hj => hall.out j (by omega))).symm, rfl⟩
end Go.Proofs.YtjimbcklnnhloaaDoor
/- The text of a term, as the closure of Format writes it: walk. -/
namespace Go.Proofs.YtjimbcklnnhloaaDoor
open Go.RowKit
set_option linter.unusedVariables false
set_option linter.unusedSimpArgs false
def capsV (bm bf bb bt : Nat) : Array Value := #[.pointer (some ⟨bf, 0, none⟩), .pointer (some ⟨bb, 0, none⟩), .pointer (some ⟨bt, 0, none⟩), .pointer (some ⟨bm, 0, none⟩)]
/-- The blocks that the closure of Format has captured: model, formula, builder, closure. -/
structure FmN (L bm bf bb bt B : Nat) : Prop where
  l0 : 0 < L
  m : L ≤ bm ∧ bm < B
  f : L ≤ bf ∧ bf < B
  b : L ≤ bb ∧ bb < B
  t : L ≤ bt ∧ bt < B
  mf : bm ≠ bf
  mb : bm ≠ bb
  fb : bf ≠ bb
  tf : bt ≠ bf
  tb : bt ≠ bb
/-- What lies in them. -/
structure FmA (w : World) (L bm bf bb bt B : Nat) (ov rv : Value) (mo : Mo) (v p : Value) (f : List Int) (l : List UInt8) : Prop where
  x : MoBox w bm ov rv
  fc : w.heap[bf]? = some (.cells #[v] 28 (0, 0))
  fi : Ints w L v f
  b : BldB w bb B p l
  pc : p = .pointer none ∨ p = slfV bb
  t : w.heap[bt]? = some (.cells #[.func (.func 20) #[] (capsV bm bf bb bt)] 1 (0, 0))
  nm : Names w L ov mo.opts
  sg : SgnAt w 0
  sz : B ≤ w.heap.size
theorem Bx.other {b B j : Nat} {w w' : World} (h : Bx b B w w') (h1 : j ≠ b) (h2 : j < B) : w'.heap[j]? = w.heap[j]? := by
  rcases Nat.lt_or_ge j b with q | q
  · exact h.low.block j q
  · exact h.mid j (by omega) h2
theorem SgnAt.low {w w' : World} {L : Nat} (h : SgnAt w 0) (h0 : 0 < L) (hB : Below L w w') : SgnAt w' 0 := fun j hj => by
  have h1 := h j hj
  rw [← hB.cell (p := ⟨0, j, none⟩) h0] at h1
  exact h1
/-- After a writer. -/
theorem FmA.wrote {w w' : World} {L bm bf bb bt B : Nat} {ov rv v p : Value} {mo : Mo} {f : List Int} {l l' : List UInt8} (N : FmN L bm bf bb bt B) (h : FmA w L bm bf bb bt B ov rv mo v p f l) (hb : BldB w' bb B (slfV bb) l') (hx : Bx bb B w w') : FmA w' L bm bf bb bt B ov rv mo v (slfV bb) f l' where
  x := (hx.other N.mb N.m.2).trans h.x
  fc := (hx.other N.fb N.f.2).trans h.fc
  fi := Sl.below h.fi (hx.low.mono N.b.1)
  b := hb
  pc := .inr rfl
  t := (hx.other N.tb N.t.2).trans h.t
  nm := h.nm.below (hx.low.mono N.b.1)
  sg := h.sg.low N.l0 (hx.low.mono N.b.1)
  sz := hx.big h.sz
/-- After a number was taken. -/
theorem FmA.took {w : World} {L bm bf bb bt B : Nat} {ov rv v p v2 : Value} {mo : Mo} {f f2 : List Int} {l : List UInt8} (N : FmN L bm bf bb bt B) (h : FmA w L bm bf bb bt B ov rv mo v p f l) (hi : Ints w L v2 f2) : FmA (w.setCell ⟨bf, 0, none⟩ v2) L bm bf bb bt B ov rv mo v2 p f2 l := by
  have hB : Below L w (w.setCell ⟨bf, 0, none⟩ v2) := Below.setCell (Below.refl _ _) N.f.1 _
  have ho : ∀ j, j ≠ bf → (w.setCell ⟨bf, 0, none⟩ v2).heap[j]? = w.heap[j]? := fun j hj => heap_setCell_other w ⟨bf, 0, none⟩ j v2 hj
  obtain ⟨vb, hv, hw⟩ := h.b
  refine ⟨(ho bm N.mf).trans h.x, setCellOf (i := 0) h.fc v2, Sl.below hi hB, ⟨vb, (ho bb (Ne.symm N.fb)).trans hv, ownsRow_setCell_below hw N.f.2 _⟩, h.pc, (ho bt N.tf).trans h.t, h.nm.below hB, h.sg.low N.l0 hB, ?_⟩
  rw [World.size_setCell]
  exact h.sz
theorem FmA.alloc {w : World} {L bm bf bb bt B : Nat} {ov rv v p : Value} {mo : Mo} {f : List Int} {l : List UInt8} (N : FmN L bm bf bb bt B) (h : FmA w L bm bf bb bt B ov rv mo v p f l) (o : Obj) : FmA (w.alloc o) L bm bf bb bt B ov rv mo v p f l := by
  have hB : Below w.heap.size w (w.alloc o) := (Below.refl _ _).alloc (Nat.le_refl _) _
  have hs := h.sz
  have hL : L ≤ w.heap.size := Nat.le_trans (Nat.le_of_lt (Nat.lt_of_le_of_lt N.m.1 N.m.2)) hs
  obtain ⟨vb, hv, hw⟩ := h.b
  refine ⟨box_to h.x hB, box_to h.fc hB, Sl.below h.fi (hB.mono hL), ⟨vb, box_to hv hB, World.ownsRow.alloc hw o⟩, h.pc, box_to h.t hB, h.nm.below (hB.mono hL), h.sg.low N.l0 (hB.mono hL), ?_⟩
  exact Nat.le_trans hs hB.size
theorem Ints.next {w : World} {L cap : Nat} {A : Option Addr} {x : Int} {r : List Int} {k : Nat} (hk : k = (x :: r).length) (h : Ints w L (.slice A k cap) (x :: r)) : ∃ A2, sliced A 1 k cap 1 = .slice A2 r.length (cap - 1) ∧ Ints w L (.slice A2 r.length (cap - 1)) r := by
  subst hk
  obtain ⟨A1, b1, off1, cap1, hv, hn, hA, hc⟩ := h
  injection hv with e1 e2 e3
  subst e1 e3
  have hn1 : r.length + 1 ≤ cap := by simpa using hn
  refine ⟨if cap = 1 then A else A.map (·.add (1 * 1)), by unfold sliced; simp, ?_⟩
  have hA1 : A = some ⟨b1, off1, none⟩ ∧ b1 < L := by
    rcases hA with q | q
    · exact q
    · simp at q
  obtain ⟨hA1, hb1⟩ := hA1
  subst hA1
  by_cases hck : cap = 1
  · have h0 : r = [] := List.eq_nil_of_length_eq_zero (by omega)
    subst h0
    exact ⟨_, b1, off1, _, rfl, by simp, .inr rfl, fun i j hi hj => by simp at hi⟩
  · rw [if_neg hck]
    refine ⟨_, b1, off1 + 1, _, rfl, by omega, .inl ⟨?_, hb1⟩, fun i j hi hj => ?_⟩
    · simp only [Option.map_some]
      congr 1
    · have h1 := hc (i + 1) j (by simp; omega) hj
      rw [show off1 + 1 + (i * 1 + j) = off1 + ((i + 1) * 1 + j) by omega, h1]
      simp
set_option maxRecDepth 100000 in
theorem sizeInt1 (w : World) : (sizeOf 3).run Tryd.prog w = .ok 1 w := by kernel_rfl
set_option maxRecDepth 100000 in
theorem sl1_run (A : Option Addr) (n cap : Nat) (hk : 1 ≤ n) (W : World) : (Instr.slice 28 (.slice A n cap) (some (.int .i64 1)) none none).run Tryd.prog W = .ok (sliced A 1 n cap 1) W := by
  have h := run_slice_l (P := Tryd.prog) W 28 A n cap Tryd.underlying28 .i64 (1 : Int) (by omega) (by omega)
  rw [h]
  have he : Tryd.prog.elem 28 = 3 := by kernel_rfl
  rw [he, sizeInt1]
  rfl
/-- What the closure leaves. -/
def FmP (L bm bf bb bt B : Nat) (ov rv : Value) (mo : Mo) (f : List Int) (l : List UInt8) (w : World) (e : Ending) (w' : World) : Prop :=
  e = .returned (.tuple #[]) ∧ Below L w w' ∧ ∃ v, FmA w' L bm bf bb bt B ov rv mo v (slfV bb) f l
set_option maxRecDepth 100000 in
set_option maxHeartbeats 4000000 in
theorem fmt_yes (L bm bf bb bt B : Nat) (N : FmN L bm bf bb bt B) (ov rv v p : Value) (mo : Mo) (r : List Int) (l : List UInt8) (w : World) (hl : (-1 :: r : List Int).length ≤ 100) (hll : l.length ≤ 10000) (h : FmA w L bm bf bb bt B ov rv mo v p (-1 :: r) l) :
    Calls Tryd.prog 20 #[.pointer (some ⟨bf, 0, none⟩), .pointer (some ⟨bb, 0, none⟩), .pointer (some ⟨bt, 0, none⟩), .pointer (some ⟨bm, 0, none⟩)] w (FmP L bm bf bb bt B ov rv mo r (l ++ [121, 101, 115]) w) := by
  obtain ⟨A, cap, hv⟩ := Sl.form h.fi
  subst hv
  have hfl : (-1 :: r).length ≤ 100 := hl
  have hnx := h.fi
  obtain ⟨A0, b0, off0, cap0, hv0, hnc0, hA0, hc0⟩ := h.fi
  injection hv0 with e1 e2 e3
  subst e1
  obtain ⟨rfl, hb0⟩ : A = some ⟨b0, off0, none⟩ ∧ b0 < L := by
    rcases hA0 with q | q
    · exact q
    · simp at q
  have x0 : w.cell? ⟨b0, off0, none⟩ = some (.int .i64 (-1)) := hc0 0 0 (by simp) (by omega)
  obtain ⟨k, hk⟩ : ∃ k, (-1 :: r).length = k := ⟨_, rfl⟩
  rw [hk] at hnx
  obtain ⟨A2, hs2, hi2⟩ := Ints.next hk.symm hnx
  have hsl := fun W => sl1_run (some ⟨b0, off0, none⟩) k cap (by rw [← hk]; simp) W
  rw [hs2] at hsl
  have hk1 : (0 : Int) < (k : Int) := by rw [← hk]; simp
  rw [hk] at h
  have H := hide h
  have HI := hide hi2
  have c0 := cellOf h.fc 0
  have c1 := unfrozenOf h.fc 0
  have c2 := box_lt h.fc
  have lb : b0 < w.heap.size := by have := h.sz; have := N.m; omega
  clear h hnx hc0 hA0 hi2 hs2 hk hfl hl e2 e3 hnc0
  go_enter Tryd.func20, Tryd.ntmps20
  go_upto_region 2 with (fail)
  have H1 : Hid (FmA (w.setCell ⟨bf, 0, none⟩ (.slice A2 r.length (cap - 1))) L bm bf bb bt B ov rv mo (.slice A2 r.length (cap - 1)) p r l) := hide (FmA.took N H.out HI.out)
  have HB1 := hide (show Below L w (w.setCell ⟨bf, 0, none⟩ (.slice A2 r.length (cap - 1))) from Below.setCell (Below.refl _ _) N.f.1 _)
  generalize w.setCell ⟨bf, 0, none⟩ (.slice A2 r.length (cap - 1)) = w1 at H1 HB1 ⊢
  clear c0 c1 c2 x0 lb hsl hk1
  have hz : l.length + (⟨#[121, 101, 115]⟩ : ByteArray).size ≤ 1000000 := by have h9 : (⟨#[121, 101, 115]⟩ : ByteArray).size = 3 := rfl; omega
  go_wp2_with (go_at_call 21; refine (writeString_any bb B N.b.2 p H1.out.pc l ⟨#[121, 101, 115]⟩ w1 H1.out.b H1.out.sz hz).mono ?_; rintro e w2 ⟨rfl, hb2, hx2⟩; have H2 := hide (FmA.wrote N H1.out hb2 hx2); have HB2 := hide (Below.trans HB1.out (hx2.low.mono N.b.1)); clear hb2 hx2)
  go_end0
  exact ⟨rfl, HB2.out, _, H2.out⟩
set_option maxRecDepth 100000 in
set_option maxHeartbeats 4000000 in
theorem fmt_no (L bm bf bb bt B : Nat) (N : FmN L bm bf bb bt B) (ov rv v p : Value) (mo : Mo) (r : List Int) (l : List UInt8) (w : World) (hl : (-2 :: r : List Int).length ≤ 100) (hll : l.length ≤ 10000) (h : FmA w L bm bf bb bt B ov rv mo v p (-2 :: r) l) :
    Calls Tryd.prog 20 #[.pointer (some ⟨bf, 0, none⟩), .pointer (some ⟨bb, 0, none⟩), .pointer (some ⟨bt, 0, none⟩), .pointer (some ⟨bm, 0, none⟩)] w (FmP L bm bf bb bt B ov rv mo r (l ++ [110, 111]) w) := by
  obtain ⟨A, cap, hv⟩ := Sl.form h.fi
  subst hv
  have hfl : (-2 :: r).length ≤ 100 := hl
  have hnx := h.fi
  obtain ⟨A0, b0, off0, cap0, hv0, hnc0, hA0, hc0⟩ := h.fi
  injection hv0 with e1 e2 e3
  subst e1
  obtain ⟨rfl, hb0⟩ : A = some ⟨b0, off0, none⟩ ∧ b0 < L := by
    rcases hA0 with q | q
    · exact q
    · simp at q
  have x0 : w.cell? ⟨b0, off0, none⟩ = some (.int .i64 (-2)) := hc0 0 0 (by simp) (by omega)
  obtain ⟨k, hk⟩ : ∃ k, (-2 :: r).length = k := ⟨_, rfl⟩
  rw [hk] at hnx
  obtain ⟨A2, hs2, hi2⟩ := Ints.next hk.symm hnx
  have hsl := fun W => sl1_run (some ⟨b0, off0, none⟩) k cap (by rw [← hk]; simp) W
  rw [hs2] at hsl
  have hk1 : (0 : Int) < (k : Int) := by rw [← hk]; simp
  rw [hk] at h
  have H := hide h
  have HI := hide hi2
  have c0 := cellOf h.fc 0
  have c1 := unfrozenOf h.fc 0
  have c2 := box_lt h.fc
  have lb : b0 < w.heap.size := by have := h.sz; have := N.m; omega
  clear h hnx hc0 hA0 hi2 hs2 hk hfl hl e2 e3 hnc0
  go_enter Tryd.func20, Tryd.ntmps20
  go_upto_region 2 with (fail)
  have H1 : Hid (FmA (w.setCell ⟨bf, 0, none⟩ (.slice A2 r.length (cap - 1))) L bm bf bb bt B ov rv mo (.slice A2 r.length (cap - 1)) p r l) := hide (FmA.took N H.out HI.out)
  have HB1 := hide (show Below L w (w.setCell ⟨bf, 0, none⟩ (.slice A2 r.length (cap - 1))) from Below.setCell (Below.refl _ _) N.f.1 _)
  generalize w.setCell ⟨bf, 0, none⟩ (.slice A2 r.length (cap - 1)) = w1 at H1 HB1 ⊢
  clear c0 c1 c2 x0 lb hsl hk1
  have hz : l.length + (⟨#[110, 111]⟩ : ByteArray).size ≤ 1000000 := by have h9 : (⟨#[110, 111]⟩ : ByteArray).size = 2 := rfl; omega
  go_wp2_with (go_at_call 21; refine (writeString_any bb B N.b.2 p H1.out.pc l ⟨#[110, 111]⟩ w1 H1.out.b H1.out.sz hz).mono ?_; rintro e w2 ⟨rfl, hb2, hx2⟩; have H2 := hide (FmA.wrote N H1.out hb2 hx2); have HB2 := hide (Below.trans HB1.out (hx2.low.mono N.b.1)); clear hb2 hx2)
  go_end0
  exact ⟨rfl, HB2.out, _, H2.out⟩
set_option maxRecDepth 100000 in
set_option maxHeartbeats 4000000 in
theorem fmt_opt (L bm bf bb bt B : Nat) (N : FmN L bm bf bb bt B) (ov rv v p : Value) (mo : Mo) (i : Nat) (hi : i < mo.opts.length) (r : List Int) (l : List UInt8) (w : World) (hs : ∀ x ∈ mo.opts, x.size ≤ 8) (hol : mo.opts.length ≤ maxLen) (hl : ((i : Int) :: r : List Int).length ≤ 100) (hll : l.length ≤ 10000) (h : FmA w L bm bf bb bt B ov rv mo v p ((i : Int) :: r) l) :
    Calls Tryd.prog 20 #[.pointer (some ⟨bf, 0, none⟩), .pointer (some ⟨bb, 0, none⟩), .pointer (some ⟨bt, 0, none⟩), .pointer (some ⟨bm, 0, none⟩)] w (FmP L bm bf bb bt B ov rv mo r (l ++ mo.names.getD i []) w) := by
  obtain ⟨x, hx⟩ : ∃ x, mo.opts.getD i ByteArray.empty = x := ⟨_, rfl⟩
  have hxs : mo.names.getD i [] = x.data.toList := by rw [names_get, hx]
  have hxl : x.size ≤ 8 := by rw [← hx]; exact hs _ (getD_mem hi)
  rw [hxs]
  obtain ⟨Ao, bo, offo, capo, hov, hnc, hAo, hco⟩ := h.nm
  subst hov
  obtain ⟨rfl, hbo⟩ : Ao = some ⟨bo, offo, none⟩ ∧ bo < L := by
    rcases hAo with q | q
    · exact q
    · omega
  obtain ⟨A, cap, hv⟩ := Sl.form h.fi
  subst hv
  have hfl : ((i : Int) :: r).length ≤ 100 := hl
  have hnx := h.fi
  obtain ⟨A0, b0, off0, cap0, hv0, hnc0, hA0, hc0⟩ := h.fi
  injection hv0 with e1 e2 e3
  subst e1
  obtain ⟨rfl, hb0⟩ : A = some ⟨b0, off0, none⟩ ∧ b0 < L := by
    rcases hA0 with q | q
    · exact q
    · simp at q
  have x0 : w.cell? ⟨b0, off0, none⟩ = some (.int .i64 ((i : Int))) := hc0 0 0 (by simp) (by omega)
  obtain ⟨k, hk⟩ : ∃ k, ((i : Int) :: r).length = k := ⟨_, rfl⟩
  rw [hk] at hnx
  obtain ⟨A2, hs2, hi2⟩ := Ints.next hk.symm hnx
  have hsl := fun W => sl1_run (some ⟨b0, off0, none⟩) k cap (by rw [← hk]; simp) W
  rw [hs2] at hsl
  have hk1 : (0 : Int) < (k : Int) := by rw [← hk]; simp
  rw [hk] at h
  have H := hide h
  have HI := hide hi2
  have c0 := cellOf h.fc 0
  have c1 := unfrozenOf h.fc 0
  have c2 := box_lt h.fc
  have lb : b0 < w.heap.size := by have := h.sz; have := N.m; omega
  have j1 : (i : Int) < (mo.opts.length : Int) := by omega
  have j2 : (0 : Int) ≤ (i : Int) := by omega
  have d1 : ((i : Int) == -1) = false := by simp
  have d2 : ((i : Int) == -2) = false := by simp
  have d3 : ((i : Int) == -3) = false := by simp
  have d4 : ((i : Int) == -4) = false := by simp
  have d5 : ((i : Int) == -5) = false := by simp
  have d6 : ((i : Int) == -6) = false := by simp
  unfold maxLen at hol
  clear h hnx hc0 hA0 hi2 hs2 hk hfl hl e2 e3 hnc0
  go_enter Tryd.func20, Tryd.ntmps20
  go_upto_region 2 with (fail)
  have H1 : Hid (FmA (w.setCell ⟨bf, 0, none⟩ (.slice A2 r.length (cap - 1))) L bm bf bb bt B (.slice (some ⟨bo, offo, none⟩) mo.opts.length capo) rv mo (.slice A2 r.length (cap - 1)) p r l) := hide (FmA.took N H.out HI.out)
  have HB1 := hide (show Below L w (w.setCell ⟨bf, 0, none⟩ (.slice A2 r.length (cap - 1))) from Below.setCell (Below.refl _ _) N.f.1 _)
  generalize w.setCell ⟨bf, 0, none⟩ (.slice A2 r.length (cap - 1)) = w1 at H1 HB1 ⊢
  clear c0 c1 c2 x0 lb hsl hk1
  have y0 : w1.cell? ⟨bo, offo + i, none⟩ = some (.string x) := by
    have h1 : w.cell? ⟨bo, offo + (i * 1 + 0), none⟩ = some (.string (mo.opts.getD i ByteArray.empty)) := hco i 0 hi (by omega)
    rw [Nat.mul_one, Nat.add_zero, hx] at h1
    exact (HB1.out.cell (p := ⟨bo, offo + i, none⟩) hbo).trans h1
  have m0 := cellOf H1.out.x 0
  have m1 := box_lt H1.out.x
  have lo : bo < w1.heap.size := by have := H1.out.sz; have := N.m; omega
  have HXS := hide hxs
  clear hx hxs hco hAo hi hs
  go_wp2_with (go_at_call 21; refine (writeString_any bb B N.b.2 p H1.out.pc l x w1 H1.out.b H1.out.sz (by omega)).mono ?_; rintro e w2 ⟨rfl, hb2, hx2⟩; have H2 := hide (FmA.wrote N H1.out hb2 hx2); have HB2 := hide (Below.trans HB1.out (hx2.low.mono N.b.1)); clear hb2 hx2)
  go_end0
  exact ⟨rfl, HB2.out, _, H2.out⟩
set_option maxRecDepth 100000 in
set_option maxHeartbeats 4000000 in
theorem fmt_not (L bm bf bb bt B : Nat) (N : FmN L bm bf bb bt B) (ov rv v p : Value) (mo : Mo) (r f2 : List Int) (l l2 : List UInt8) (w : World) (hl : (-3 :: r : List Int).length ≤ 100) (hll : l.length ≤ 10000) (h : FmA w L bm bf bb bt B ov rv mo v p (-3 :: r) l)
    (hr : ∀ (w1 : World) (v1 : Value), FmA w1 L bm bf bb bt B ov rv mo v1 (slfV bb) r (l ++ [33]) → Calls Tryd.prog 20 #[.pointer (some ⟨bf, 0, none⟩), .pointer (some ⟨bb, 0, none⟩), .pointer (some ⟨bt, 0, none⟩), .pointer (some ⟨bm, 0, none⟩)] w1 (FmP L bm bf bb bt B ov rv mo f2 l2 w1)) :
    Calls Tryd.prog 20 #[.pointer (some ⟨bf, 0, none⟩), .pointer (some ⟨bb, 0, none⟩), .pointer (some ⟨bt, 0, none⟩), .pointer (some ⟨bm, 0, none⟩)] w (FmP L bm bf bb bt B ov rv mo f2 l2 w) := by
  have HR := hide hr
  clear hr
  obtain ⟨A, cap, hv⟩ := Sl.form h.fi
  subst hv
  have hfl : (-3 :: r).length ≤ 100 := hl
  have hnx := h.fi
  obtain ⟨A0, b0, off0, cap0, hv0, hnc0, hA0, hc0⟩ := h.fi
  injection hv0 with e1 e2 e3
  subst e1
  obtain ⟨rfl, hb0⟩ : A = some ⟨b0, off0, none⟩ ∧ b0 < L := by
    rcases hA0 with q | q
    · exact q
    · simp at q
  have x0 : w.cell? ⟨b0, off0, none⟩ = some (.int .i64 (-3)) := hc0 0 0 (by simp) (by omega)
  obtain ⟨k, hk⟩ : ∃ k, (-3 :: r).length = k := ⟨_, rfl⟩
  rw [hk] at hnx
  obtain ⟨A2, hs2, hi2⟩ := Ints.next hk.symm hnx
  have hsl := fun W => sl1_run (some ⟨b0, off0, none⟩) k cap (by rw [← hk]; simp) W
  rw [hs2] at hsl
  have hk1 : (0 : Int) < (k : Int) := by rw [← hk]; simp
  rw [hk] at h
  have H := hide h
  have HI := hide hi2
  have c0 := cellOf h.fc 0
  have c1 := unfrozenOf h.fc 0
  have c2 := box_lt h.fc
  have lb : b0 < w.heap.size := by have := h.sz; have := N.m; omega
  clear h hnx hc0 hA0 hi2 hs2 hk hfl hl e2 e3 hnc0
  go_enter Tryd.func20, Tryd.ntmps20
  go_upto_region 2 with (fail)
  have H1 : Hid (FmA (w.setCell ⟨bf, 0, none⟩ (.slice A2 r.length (cap - 1))) L bm bf bb bt B ov rv mo (.slice A2 r.length (cap - 1)) p r l) := hide (FmA.took N H.out HI.out)
  have HB1 := hide (show Below L w (w.setCell ⟨bf, 0, none⟩ (.slice A2 r.length (cap - 1))) from Below.setCell (Below.refl _ _) N.f.1 _)
  generalize w.setCell ⟨bf, 0, none⟩ (.slice A2 r.length (cap - 1)) = w1 at H1 HB1 ⊢
  clear c0 c1 c2 x0 lb hsl hk1
  go_upto_region 10 with (go_at_call 22; refine (writeByte_any bb B N.b.2 p H1.out.pc l 33 w1 H1.out.b H1.out.sz (by omega)).mono ?_; rintro e w2 ⟨rfl, hb2, hx2⟩; have H2 := hide (FmA.wrote N H1.out hb2 hx2); have HB2 := hide (Below.trans HB1.out (hx2.low.mono N.b.1)); clear hb2 hx2)
  have t0 := cellOf H2.out.t 0
  have t1 := box_lt H2.out.t
  have HC := hide (HR.out w2 _ H2.out)
  unfold capsV at t0
  go_wp2_with (go_at_call 20; refine HC.out.mono ?_; rintro e w3 ⟨rfl, hB3, hf3⟩; have HB3 := hide (Below.trans HB2.out hB3); have H3 := hide hf3; clear hB3 hf3)
  go_end0
  exact ⟨rfl, HB3.out, H3.out⟩
set_option maxRecDepth 100000 in
set_option maxHeartbeats 4000000 in
theorem fmt_bin0 (L bm bf bb bt B : Nat) (N : FmN L bm bf bb bt B) (ov rv v p : Value) (mo : Mo) (r f1 f2 : List Int) (l l1 l2 : List UInt8) (w : World) (hl : (-4 :: r : List Int).length ≤ 100) (hll : l.length ≤ 10000) (hll1 : l1.length ≤ 10000) (hll2 : l2.length ≤ 10000) (h : FmA w L bm bf bb bt B ov rv mo v p (-4 :: r) l)
    (hr : ∀ (w1 : World) (v1 : Value), FmA w1 L bm bf bb bt B ov rv mo v1 (slfV bb) r (l ++ [40]) → Calls Tryd.prog 20 #[.pointer (some ⟨bf, 0, none⟩), .pointer (some ⟨bb, 0, none⟩), .pointer (some ⟨bt, 0, none⟩), .pointer (some ⟨bm, 0, none⟩)] w1 (FmP L bm bf bb bt B ov rv mo f1 l1 w1))
    (hr2 : ∀ (w1 : World) (v1 : Value), FmA w1 L bm bf bb bt B ov rv mo v1 (slfV bb) f1 (l1 ++ [32, 38, 32]) → Calls Tryd.prog 20 #[.pointer (some ⟨bf, 0, none⟩), .pointer (some ⟨bb, 0, none⟩), .pointer (some ⟨bt, 0, none⟩), .pointer (some ⟨bm, 0, none⟩)] w1 (FmP L bm bf bb bt B ov rv mo f2 l2 w1)) :
    Calls Tryd.prog 20 #[.pointer (some ⟨bf, 0, none⟩), .pointer (some ⟨bb, 0, none⟩), .pointer (some ⟨bt, 0, none⟩), .pointer (some ⟨bm, 0, none⟩)] w (FmP L bm bf bb bt B ov rv mo f2 (l2 ++ [41]) w) := by
  have HR := hide hr
  have HR2 := hide hr2
  clear hr hr2
  obtain ⟨A, cap, hv⟩ := Sl.form h.fi
  subst hv
  have hfl : (-4 :: r).length ≤ 100 := hl
  have hnx := h.fi
  obtain ⟨A0, b0, off0, cap0, hv0, hnc0, hA0, hc0⟩ := h.fi
  injection hv0 with e1 e2 e3
  subst e1
  obtain ⟨rfl, hb0⟩ : A = some ⟨b0, off0, none⟩ ∧ b0 < L := by
    rcases hA0 with q | q
    · exact q
    · simp at q
  have x0 : w.cell? ⟨b0, off0, none⟩ = some (.int .i64 (-4)) := hc0 0 0 (by simp) (by omega)
  obtain ⟨k, hk⟩ : ∃ k, (-4 :: r).length = k := ⟨_, rfl⟩
  rw [hk] at hnx
  obtain ⟨A2, hs2, hi2⟩ := Ints.next hk.symm hnx
  have hsl := fun W => sl1_run (some ⟨b0, off0, none⟩) k cap (by rw [← hk]; simp) W
  rw [hs2] at hsl
  have hk1 : (0 : Int) < (k : Int) := by rw [← hk]; simp
  rw [hk] at h
  have H := hide h
  have HI := hide hi2
  have c0 := cellOf h.fc 0
  have c1 := unfrozenOf h.fc 0
  have c2 := box_lt h.fc
  have lb : b0 < w.heap.size := by have := h.sz; have := N.m; omega
  clear h hnx hc0 hA0 hi2 hs2 hk hfl hl e2 e3 hnc0
  go_enter Tryd.func20, Tryd.ntmps20
  go_upto_region 2 with (fail)
  have H1 : Hid (FmA (w.setCell ⟨bf, 0, none⟩ (.slice A2 r.length (cap - 1))) L bm bf bb bt B ov rv mo (.slice A2 r.length (cap - 1)) p r l) := hide (FmA.took N H.out HI.out)
  have HB1 := hide (show Below L w (w.setCell ⟨bf, 0, none⟩ (.slice A2 r.length (cap - 1))) from Below.setCell (Below.refl _ _) N.f.1 _)
  generalize w.setCell ⟨bf, 0, none⟩ (.slice A2 r.length (cap - 1)) = w1 at H1 HB1 ⊢
  clear c0 c1 c2 x0 lb hsl hk1
  go_upto_region 15 with (go_at_call 22; refine (writeByte_any bb B N.b.2 p H1.out.pc l 40 w1 H1.out.b H1.out.sz (by omega)).mono ?_; rintro e w2 ⟨rfl, hb2, hx2⟩; have H2 := hide (FmA.wrote N H1.out hb2 hx2); have HB2 := hide (Below.trans HB1.out (hx2.low.mono N.b.1)); clear hb2 hx2)
  have t0 := cellOf H2.out.t 0
  have t1 := box_lt H2.out.t
  have HC := hide (HR.out w2 _ H2.out)
  unfold capsV at t0
  go_upto_region 16 with (go_at_call 20; refine HC.out.mono ?_; rintro e w3 ⟨rfl, hB3, v3, hf3⟩; have HB3 := hide (Below.trans HB2.out hB3); have H3 := hide hf3; clear hB3 hf3)
  clear t0 t1
  have s0 := H3.out.sg 0 (by omega)
  have s1 : 0 < w3.heap.size := by have := H3.out.sz; have := N.m; omega
  have HA := hide (H3.out.alloc N (.cells #[.int .u8 32, .int .u8 38, .int .u8 32] 5))
  have HBA := hide (Below.trans HB3.out ((Below.refl L w3).alloc (by have := H3.out.sz; have := N.m; omega) (.cells #[.int .u8 32, .int .u8 38, .int .u8 32] 5)))
  have HGA := hide (heap_alloc_new w3 (.cells #[.int .u8 32, .int .u8 38, .int .u8 32] 5))
  go_upto_region 17 with (go_at_call 23; refine (write3_any bb B w3.heap.size N.b.2 _ HA.out.pc l1 [32, 38, 32] rfl _ HA.out.b HA.out.sz (by omega) HGA.out).mono ?_; rintro e w4 ⟨rfl, hb2, hx2⟩; have H4 := hide (FmA.wrote N HA.out hb2 hx2); have HB4 := hide (Below.trans HBA.out (hx2.low.mono N.b.1)); clear hb2 hx2)
  clear s0 s1
  have t0 := cellOf H4.out.t 0
  have t1 := box_lt H4.out.t
  have HC2 := hide (HR2.out w4 _ H4.out)
  unfold capsV at t0
  go_upto_region 18 with (go_at_call 20; refine HC2.out.mono ?_; rintro e w5 ⟨rfl, hB5, v5, hf5⟩; have HB5 := hide (Below.trans HB4.out hB5); have H5 := hide hf5; clear hB5 hf5)
  clear t0 t1
  go_wp2_with (go_at_call 22; refine (writeByte_any bb B N.b.2 _ H5.out.pc l2 41 w5 H5.out.b H5.out.sz (by omega)).mono ?_; rintro e w6 ⟨rfl, hb2, hx2⟩; have H6 := hide (FmA.wrote N H5.out hb2 hx2); have HB6 := hide (Below.trans HB5.out (hx2.low.mono N.b.1)); clear hb2 hx2)
  go_end0
  exact ⟨rfl, HB6.out, _, H6.out⟩
set_option maxRecDepth 100000 in
set_option maxHeartbeats 4000000 in
theorem fmt_bin1 (L bm bf bb bt B : Nat) (N : FmN L bm bf bb bt B) (ov rv v p : Value) (mo : Mo) (r f1 f2 : List Int) (l l1 l2 : List UInt8) (w : World) (hl : (-5 :: r : List Int).length ≤ 100) (hll : l.length ≤ 10000) (hll1 : l1.length ≤ 10000) (hll2 : l2.length ≤ 10000) (h : FmA w L bm bf bb bt B ov rv mo v p (-5 :: r) l)
    (hr : ∀ (w1 : World) (v1 : Value), FmA w1 L bm bf bb bt B ov rv mo v1 (slfV bb) r (l ++ [40]) → Calls Tryd.prog 20 #[.pointer (some ⟨bf, 0, none⟩), .pointer (some ⟨bb, 0, none⟩), .pointer (some ⟨bt, 0, none⟩), .pointer (some ⟨bm, 0, none⟩)] w1 (FmP L bm bf bb bt B ov rv mo f1 l1 w1))
    (hr2 : ∀ (w1 : World) (v1 : Value), FmA w1 L bm bf bb bt B ov rv mo v1 (slfV bb) f1 (l1 ++ [32, 124, 32]) → Calls Tryd.prog 20 #[.pointer (some ⟨bf, 0, none⟩), .pointer (some ⟨bb, 0, none⟩), .pointer (some ⟨bt, 0, none⟩), .pointer (some ⟨bm, 0, none⟩)] w1 (FmP L bm bf bb bt B ov rv mo f2 l2 w1)) :
    Calls Tryd.prog 20 #[.pointer (some ⟨bf, 0, none⟩), .pointer (some ⟨bb, 0, none⟩), .pointer (some ⟨bt, 0, none⟩), .pointer (some ⟨bm, 0, none⟩)] w (FmP L bm bf bb bt B ov rv mo f2 (l2 ++ [41]) w) := by
  have HR := hide hr
  have HR2 := hide hr2
  clear hr hr2
  obtain ⟨A, cap, hv⟩ := Sl.form h.fi
  subst hv
  have hfl : (-5 :: r).length ≤ 100 := hl
  have hnx := h.fi
  obtain ⟨A0, b0, off0, cap0, hv0, hnc0, hA0, hc0⟩ := h.fi
  injection hv0 with e1 e2 e3
  subst e1
  obtain ⟨rfl, hb0⟩ : A = some ⟨b0, off0, none⟩ ∧ b0 < L := by
    rcases hA0 with q | q
    · exact q
    · simp at q
  have x0 : w.cell? ⟨b0, off0, none⟩ = some (.int .i64 (-5)) := hc0 0 0 (by simp) (by omega)
  obtain ⟨k, hk⟩ : ∃ k, (-5 :: r).length = k := ⟨_, rfl⟩
  rw [hk] at hnx
  obtain ⟨A2, hs2, hi2⟩ := Ints.next hk.symm hnx
  have hsl := fun W => sl1_run (some ⟨b0, off0, none⟩) k cap (by rw [← hk]; simp) W
  rw [hs2] at hsl
  have hk1 : (0 : Int) < (k : Int) := by rw [← hk]; simp
  rw [hk] at h
  have H := hide h
  have HI := hide hi2
  have c0 := cellOf h.fc 0
  have c1 := unfrozenOf h.fc 0
  have c2 := box_lt h.fc
  have lb : b0 < w.heap.size := by have := h.sz; have := N.m; omega
  clear h hnx hc0 hA0 hi2 hs2 hk hfl hl e2 e3 hnc0
  go_enter Tryd.func20, Tryd.ntmps20
  go_upto_region 2 with (fail)
  have H1 : Hid (FmA (w.setCell ⟨bf, 0, none⟩ (.slice A2 r.length (cap - 1))) L bm bf bb bt B ov rv mo (.slice A2 r.length (cap - 1)) p r l) := hide (FmA.took N H.out HI.out)
  have HB1 := hide (show Below L w (w.setCell ⟨bf, 0, none⟩ (.slice A2 r.length (cap - 1))) from Below.setCell (Below.refl _ _) N.f.1 _)
  generalize w.setCell ⟨bf, 0, none⟩ (.slice A2 r.length (cap - 1)) = w1 at H1 HB1 ⊢
  clear c0 c1 c2 x0 lb hsl hk1
  go_upto_region 15 with (go_at_call 22; refine (writeByte_any bb B N.b.2 p H1.out.pc l 40 w1 H1.out.b H1.out.sz (by omega)).mono ?_; rintro e w2 ⟨rfl, hb2, hx2⟩; have H2 := hide (FmA.wrote N H1.out hb2 hx2); have HB2 := hide (Below.trans HB1.out (hx2.low.mono N.b.1)); clear hb2 hx2)
  have t0 := cellOf H2.out.t 0
  have t1 := box_lt H2.out.t
  have HC := hide (HR.out w2 _ H2.out)
  unfold capsV at t0
  go_upto_region 16 with (go_at_call 20; refine HC.out.mono ?_; rintro e w3 ⟨rfl, hB3, v3, hf3⟩; have HB3 := hide (Below.trans HB2.out hB3); have H3 := hide hf3; clear hB3 hf3)
  clear t0 t1
  have s0 := H3.out.sg 1 (by omega)
  have s1 : 0 < w3.heap.size := by have := H3.out.sz; have := N.m; omega
  have HA := hide (H3.out.alloc N (.cells #[.int .u8 32, .int .u8 124, .int .u8 32] 5))
  have HBA := hide (Below.trans HB3.out ((Below.refl L w3).alloc (by have := H3.out.sz; have := N.m; omega) (.cells #[.int .u8 32, .int .u8 124, .int .u8 32] 5)))
  have HGA := hide (heap_alloc_new w3 (.cells #[.int .u8 32, .int .u8 124, .int .u8 32] 5))
  go_upto_region 17 with (go_at_call 23; refine (write3_any bb B w3.heap.size N.b.2 _ HA.out.pc l1 [32, 124, 32] rfl _ HA.out.b HA.out.sz (by omega) HGA.out).mono ?_; rintro e w4 ⟨rfl, hb2, hx2⟩; have H4 := hide (FmA.wrote N HA.out hb2 hx2); have HB4 := hide (Below.trans HBA.out (hx2.low.mono N.b.1)); clear hb2 hx2)
  clear s0 s1
  have t0 := cellOf H4.out.t 0
  have t1 := box_lt H4.out.t
  have HC2 := hide (HR2.out w4 _ H4.out)
  unfold capsV at t0
  go_upto_region 18 with (go_at_call 20; refine HC2.out.mono ?_; rintro e w5 ⟨rfl, hB5, v5, hf5⟩; have HB5 := hide (Below.trans HB4.out hB5); have H5 := hide hf5; clear hB5 hf5)
  clear t0 t1
  go_wp2_with (go_at_call 22; refine (writeByte_any bb B N.b.2 _ H5.out.pc l2 41 w5 H5.out.b H5.out.sz (by omega)).mono ?_; rintro e w6 ⟨rfl, hb2, hx2⟩; have H6 := hide (FmA.wrote N H5.out hb2 hx2); have HB6 := hide (Below.trans HB5.out (hx2.low.mono N.b.1)); clear hb2 hx2)
  go_end0
  exact ⟨rfl, HB6.out, _, H6.out⟩
set_option maxRecDepth 100000 in
set_option maxHeartbeats 4000000 in
theorem fmt_bin2 (L bm bf bb bt B : Nat) (N : FmN L bm bf bb bt B) (ov rv v p : Value) (mo : Mo) (r f1 f2 : List Int) (l l1 l2 : List UInt8) (w : World) (hl : (-6 :: r : List Int).length ≤ 100) (hll : l.length ≤ 10000) (hll1 : l1.length ≤ 10000) (hll2 : l2.length ≤ 10000) (h : FmA w L bm bf bb bt B ov rv mo v p (-6 :: r) l)
    (hr : ∀ (w1 : World) (v1 : Value), FmA w1 L bm bf bb bt B ov rv mo v1 (slfV bb) r (l ++ [40]) → Calls Tryd.prog 20 #[.pointer (some ⟨bf, 0, none⟩), .pointer (some ⟨bb, 0, none⟩), .pointer (some ⟨bt, 0, none⟩), .pointer (some ⟨bm, 0, none⟩)] w1 (FmP L bm bf bb bt B ov rv mo f1 l1 w1))
    (hr2 : ∀ (w1 : World) (v1 : Value), FmA w1 L bm bf bb bt B ov rv mo v1 (slfV bb) f1 (l1 ++ [32, 61, 32]) → Calls Tryd.prog 20 #[.pointer (some ⟨bf, 0, none⟩), .pointer (some ⟨bb, 0, none⟩), .pointer (some ⟨bt, 0, none⟩), .pointer (some ⟨bm, 0, none⟩)] w1 (FmP L bm bf bb bt B ov rv mo f2 l2 w1)) :
    Calls Tryd.prog 20 #[.pointer (some ⟨bf, 0, none⟩), .pointer (some ⟨bb, 0, none⟩), .pointer (some ⟨bt, 0, none⟩), .pointer (some ⟨bm, 0, none⟩)] w (FmP L bm bf bb bt B ov rv mo f2 (l2 ++ [41]) w) := by
  have HR := hide hr
  have HR2 := hide hr2
  clear hr hr2
  obtain ⟨A, cap, hv⟩ := Sl.form h.fi
  subst hv
  have hfl : (-6 :: r).length ≤ 100 := hl
  have hnx := h.fi
  obtain ⟨A0, b0, off0, cap0, hv0, hnc0, hA0, hc0⟩ := h.fi
  injection hv0 with e1 e2 e3
  subst e1
  obtain ⟨rfl, hb0⟩ : A = some ⟨b0, off0, none⟩ ∧ b0 < L := by
    rcases hA0 with q | q
    · exact q
    · simp at q
  have x0 : w.cell? ⟨b0, off0, none⟩ = some (.int .i64 (-6)) := hc0 0 0 (by simp) (by omega)
  obtain ⟨k, hk⟩ : ∃ k, (-6 :: r).length = k := ⟨_, rfl⟩
  rw [hk] at hnx
  obtain ⟨A2, hs2, hi2⟩ := Ints.next hk.symm hnx
  have hsl := fun W => sl1_run (some ⟨b0, off0, none⟩) k cap (by rw [← hk]; simp) W
  rw [hs2] at hsl
  have hk1 : (0 : Int) < (k : Int) := by rw [← hk]; simp
  rw [hk] at h
  have H := hide h
  have HI := hide hi2
  have c0 := cellOf h.fc 0
  have c1 := unfrozenOf h.fc 0
  have c2 := box_lt h.fc
  have lb : b0 < w.heap.size := by have := h.sz; have := N.m; omega
  clear h hnx hc0 hA0 hi2 hs2 hk hfl hl e2 e3 hnc0
  go_enter Tryd.func20, Tryd.ntmps20
  go_upto_region 2 with (fail)
  have H1 : Hid (FmA (w.setCell ⟨bf, 0, none⟩ (.slice A2 r.length (cap - 1))) L bm bf bb bt B ov rv mo (.slice A2 r.length (cap - 1)) p r l) := hide (FmA.took N H.out HI.out)
  have HB1 := hide (show Below L w (w.setCell ⟨bf, 0, none⟩ (.slice A2 r.length (cap - 1))) from Below.setCell (Below.refl _ _) N.f.1 _)
  generalize w.setCell ⟨bf, 0, none⟩ (.slice A2 r.length (cap - 1)) = w1 at H1 HB1 ⊢
  clear c0 c1 c2 x0 lb hsl hk1
  go_upto_region 15 with (go_at_call 22; refine (writeByte_any bb B N.b.2 p H1.out.pc l 40 w1 H1.out.b H1.out.sz (by omega)).mono ?_; rintro e w2 ⟨rfl, hb2, hx2⟩; have H2 := hide (FmA.wrote N H1.out hb2 hx2); have HB2 := hide (Below.trans HB1.out (hx2.low.mono N.b.1)); clear hb2 hx2)
  have t0 := cellOf H2.out.t 0
  have t1 := box_lt H2.out.t
  have HC := hide (HR.out w2 _ H2.out)
  unfold capsV at t0
  go_upto_region 16 with (go_at_call 20; refine HC.out.mono ?_; rintro e w3 ⟨rfl, hB3, v3, hf3⟩; have HB3 := hide (Below.trans HB2.out hB3); have H3 := hide hf3; clear hB3 hf3)
  clear t0 t1
  have s0 := H3.out.sg 2 (by omega)
  have s1 : 0 < w3.heap.size := by have := H3.out.sz; have := N.m; omega
  have HA := hide (H3.out.alloc N (.cells #[.int .u8 32, .int .u8 61, .int .u8 32] 5))
  have HBA := hide (Below.trans HB3.out ((Below.refl L w3).alloc (by have := H3.out.sz; have := N.m; omega) (.cells #[.int .u8 32, .int .u8 61, .int .u8 32] 5)))
  have HGA := hide (heap_alloc_new w3 (.cells #[.int .u8 32, .int .u8 61, .int .u8 32] 5))
  go_upto_region 17 with (go_at_call 23; refine (write3_any bb B w3.heap.size N.b.2 _ HA.out.pc l1 [32, 61, 32] rfl _ HA.out.b HA.out.sz (by omega) HGA.out).mono ?_; rintro e w4 ⟨rfl, hb2, hx2⟩; have H4 := hide (FmA.wrote N HA.out hb2 hx2); have HB4 := hide (Below.trans HBA.out (hx2.low.mono N.b.1)); clear hb2 hx2)
  clear s0 s1
  have t0 := cellOf H4.out.t 0
  have t1 := box_lt H4.out.t
  have HC2 := hide (HR2.out w4 _ H4.out)
  unfold capsV at t0
  go_upto_region 18 with (go_at_call 20; refine HC2.out.mono ?_; rintro e w5 ⟨rfl, hB5, v5, hf5⟩; have HB5 := hide (Below.trans HB4.out hB5); have H5 := hide hf5; clear hB5 hf5)
  clear t0 t1
  go_wp2_with (go_at_call 22; refine (writeByte_any bb B N.b.2 _ H5.out.pc l2 41 w5 H5.out.b H5.out.sz (by omega)).mono ?_; rintro e w6 ⟨rfl, hb2, hx2⟩; have H6 := hide (FmA.wrote N H5.out hb2 hx2); have HB6 := hide (Below.trans HB5.out (hx2.low.mono N.b.1)); clear hb2 hx2)
  go_end0
  exact ⟨rfl, HB6.out, _, H6.out⟩
end Go.Proofs.YtjimbcklnnhloaaDoor
/- The string of a strings.Builder: the shelf's contract at this program, laid by the kit's tool in plain words. -/
namespace Go.Proofs.YtjimbcklnnhloaaDoor
open Go.Shelf
def bldRen : Go.Shelf.Ren := ⟨fun | 169 => 24 | n => n, fun | 70 => 52 | 9 => 9 | 0 => 0 | 72 => 55 | 37 => 53 | 127 => 91 | 3 => 3 | 5 => 5 | n => n, fun | n => n⟩
theorem bldLays : Go.Proofs.Lays.n169 Tryd.prog bldRen := {
  mixed := by kernel_rfl
  f169 := Tryd.func24.trans (congrArg some (by kernel_rfl))
  t0 := Tryd.underlying0
  a0 := Tryd.isAgg0
  z0 := Tryd.sizeOf0
  v0 := Tryd.zeroValue0
  t3 := Tryd.underlying3
  a3 := Tryd.isAgg3
  z3 := Tryd.sizeOf3
  v3 := Tryd.zeroValue3
  t9 := Tryd.underlying9
  a9 := Tryd.isAgg9
  z9 := Tryd.sizeOf9
  v9 := Tryd.zeroValue9
  t37 := Tryd.underlying53
  a37 := Tryd.isAgg53
  z37 := Tryd.sizeOf53
  v37 := Tryd.zeroValue53
  t70 := Tryd.underlying52
  a70 := Tryd.isAgg52
  z70 := Tryd.sizeOf52
  v70 := Tryd.zeroValue52
  t72 := Tryd.underlying55
  a72 := Tryd.isAgg55
  z72 := Tryd.sizeOf55
  v72 := Tryd.zeroValue55
  t127 := Tryd.underlying91
  a127 := Tryd.isAgg91
  z127 := Tryd.sizeOf91
  v127 := Tryd.zeroValue91 }
theorem bldExtra : Builder.Extra Tryd.prog bldRen := {
  sizeBuilder := by kernel_rfl
  liesBuilder := by kernel_rfl
  t5 := Tryd.underlying5
  a5 := Tryd.isAgg5
  z5 := Tryd.sizeOf5
  v5 := Tryd.zeroValue5
  infoByte := by kernel_rfl
  cellsByte := by kernel_rfl
  sizeByte := by kernel_rfl
  neB5 := by decide }
open Go.RowKit in
theorem bld_string (B b : Nat) (l : List UInt8) (w : World) (h : Lib.IsBuilder 55 5 B b (Lib.byteCells l) w) (h0 : l ≠ []) :
    Calls Tryd.prog 24 #[.pointer (some ⟨b, 0, none⟩)] w fun e w' => e = .returned (.string ⟨l.toArray⟩) ∧ Below B w w' := Any.Builder_String bldLays bldExtra B b l w h h0
end Go.Proofs.YtjimbcklnnhloaaDoor
/- Format: walk. -/
namespace Go.Proofs.YtjimbcklnnhloaaDoor
open Go.RowKit
set_option linter.unusedVariables false
set_option linter.unusedSimpArgs false
/-- The closure of Format writes the text of a term. -/
theorem fmt_any (L bm bf bb bt B : Nat) (N : FmN L bm bf bb bt B) (ov rv : Value) (mo : Mo) (hs : ∀ x ∈ mo.opts, x.size ≤ 8) (hol : mo.opts.length ≤ maxLen) : ∀ (t : Tm) (rest : List Int) (v p : Value) (l : List UInt8) (w : World), t.ok mo.names.length → FmA w L bm bf bb bt B ov rv mo v p (t.enc ++ rest) l → (t.enc ++ rest).length ≤ 100 → l.length + (t.txt mo.names).length ≤ 10000 →
    Calls Tryd.prog 20 #[.pointer (some ⟨bf, 0, none⟩), .pointer (some ⟨bb, 0, none⟩), .pointer (some ⟨bt, 0, none⟩), .pointer (some ⟨bm, 0, none⟩)] w (FmP L bm bf bb bt B ov rv mo rest (l ++ t.txt mo.names) w)
  | .opt i, rest, v, p, l, w, hok, h, hl, hll => fmt_opt L bm bf bb bt B N ov rv v p mo i (by have : i < mo.names.length := hok; unfold Mo.names at this; simpa using this) rest l w hs hol hl (by omega) h
  | .yes, rest, v, p, l, w, hok, h, hl, hll => fmt_yes L bm bf bb bt B N ov rv v p mo rest l w hl (by omega) h
  | .no, rest, v, p, l, w, hok, h, hl, hll => fmt_no L bm bf bb bt B N ov rv v p mo rest l w hl (by omega) h
  | .not t, rest, v, p, l, w, hok, h, hl, hll => by
    have e : l ++ Tm.txt mo.names (.not t) = l ++ [33] ++ t.txt mo.names := by simp [Tm.txt]
    rw [e] at *
    have hll' : l.length + 1 + (t.txt mo.names).length ≤ 10000 := by simp [Tm.txt] at hll; omega
    refine fmt_not L bm bf bb bt B N ov rv v p mo (t.enc ++ rest) rest l _ w hl (by omega) h fun w1 v1 h1 => ?_
    exact fmt_any L bm bf bb bt B N ov rv mo hs hol t rest v1 _ (l ++ [33]) w1 hok h1 (by simp [Tm.enc] at hl; simp; omega) (by simp; omega)
  | .bin k a b, rest, v, p, l, w, hok, h, hl, hll => by
    obtain ⟨hk, hoa, hob⟩ := hok
    have hf : Tm.enc (.bin k a b) ++ rest = (-4 - (k : Int)) :: (a.enc ++ (b.enc ++ rest)) := by simp [Tm.enc]
    rw [hf] at h hl
    have hlen : l.length + (1 + (a.txt mo.names).length + 3 + (b.txt mo.names).length + 1) ≤ 10000 := by simp [Tm.txt] at hll; omega
    have hl3 : 1 + (a.enc.length + (b.enc.length + rest.length)) ≤ 100 := by simp at hl; omega
    have r1 : ∀ (w1 : World) (v1 : Value), FmA w1 L bm bf bb bt B ov rv mo v1 (slfV bb) (a.enc ++ (b.enc ++ rest)) (l ++ [40]) → Calls Tryd.prog 20 _ w1 (FmP L bm bf bb bt B ov rv mo (b.enc ++ rest) (l ++ [40] ++ a.txt mo.names) w1) := fun w1 v1 h1 => fmt_any L bm bf bb bt B N ov rv mo hs hol a (b.enc ++ rest) v1 _ (l ++ [40]) w1 hoa h1 (by simp; omega) (by simp; omega)
    have e : ∀ c : UInt8, c = sgnT k → l ++ Tm.txt mo.names (.bin k a b) = l ++ [40] ++ a.txt mo.names ++ [32, c, 32] ++ b.txt mo.names ++ [41] := fun c hc => by rw [hc]; simp [Tm.txt]
    have r2 : ∀ (c : UInt8) (w1 : World) (v1 : Value), FmA w1 L bm bf bb bt B ov rv mo v1 (slfV bb) (b.enc ++ rest) (l ++ [40] ++ a.txt mo.names ++ [32, c, 32]) → Calls Tryd.prog 20 _ w1 (FmP L bm bf bb bt B ov rv mo rest (l ++ [40] ++ a.txt mo.names ++ [32, c, 32] ++ b.txt mo.names) w1) := fun c w1 v1 h1 => fmt_any L bm bf bb bt B N ov rv mo hs hol b rest v1 _ _ w1 hob h1 (by simp; omega) (by simp; omega)
    have b1 : (l ++ [40] ++ a.txt mo.names).length ≤ 10000 := by simp; omega
    have b2 : ∀ c : UInt8, (l ++ [40] ++ a.txt mo.names ++ [32, c, 32] ++ b.txt mo.names).length ≤ 10000 := fun c => by simp; omega
    obtain rfl | rfl | rfl : k = 0 ∨ k = 1 ∨ k = 2 := by omega
    · rw [e 38 rfl]
      exact fmt_bin0 L bm bf bb bt B N ov rv v p mo _ _ rest l _ _ w hl (by omega) b1 (b2 _) h r1 (r2 38)
    · rw [e 124 rfl]
      exact fmt_bin1 L bm bf bb bt B N ov rv v p mo _ _ rest l _ _ w hl (by omega) b1 (b2 _) h r1 (r2 124)
    · rw [e 61 rfl]
      exact fmt_bin2 L bm bf bb bt B N ov rv v p mo _ _ rest l _ _ w hl (by omega) b1 (b2 _) h r1 (r2 61)
/-- What Format leaves. -/
def ForP (w : World) (t : List UInt8) (z : Int) (e : Ending) (w' : World) : Prop := e = .returned (.tuple #[.string ⟨t.toArray⟩, .int .i64 z]) ∧ Below w.heap.size w w'
set_option maxRecDepth 100000 in
set_option maxHeartbeats 4000000 in
theorem Format_err (m : Mo) (f : List Int) (ov rv fv : Value) (w : World) (hs : SizedM m) (hl : f.length ≤ maxLen) (h : MoAt w w.heap.size ov rv m) (hf : Ints w w.heap.size fv f) (he : m.errF [f] ≠ 0) :
    Calls Tryd.prog 9 #[.agg #[ov, rv], fv] w (ForP w [] (m.errF [f])) := by
  obtain ⟨A, cap, hov⟩ := Sl.form h.o
  obtain ⟨Ar, capr, hrv⟩ := h.r.form
  obtain ⟨Al, capl, hlv⟩ := Sl.form hf
  subst hov hrv hlv
  have H := hide h
  have HF := hide hf
  have HS := hide hs
  obtain ⟨z, hz⟩ : ∃ z, m.errF [f] = z := ⟨_, rfl⟩
  rw [hz] at he ⊢
  have hz1 : (z != 0) = true := by simpa using he
  have HZ := hide hz
  clear h hf hs he hz
  go_enter Tryd.func9, Tryd.ntmps9
  go_upto_region 1 with (fail)
  obtain ⟨w0, hw0⟩ : ∃ w0 : World, (w.alloc (.cells #[.slice A m.opts.length cap, .slice Ar m.rules.length capr] 25)).alloc (.cells #[.slice Al f.length capl] 28) = w0 := ⟨_, rfl⟩
  have hB0 : Below w.heap.size w w0 := by rw [← hw0]; exact Below.allocT (Below.allocT (Below.refl _ _) (Nat.le_refl _) _) (Nat.le_refl _) _
  have hb0 : MoBox w0 w.heap.size (.slice A m.opts.length cap) (.slice Ar m.rules.length capr) := by unfold MoBox; rw [← hw0, heap_old _ _ _ (by simp)]; exact heap_new _ _ _ rfl
  have hb1 : w0.heap[w.heap.size + 1]? = some (.cells #[.slice Al f.length capl] 28 (0, 0)) := by rw [← hw0]; exact heap_new _ _ _ (by simp)
  have hs0 : w0.heap.size = w.heap.size + 2 := by rw [← hw0]; simp
  rw [hw0]
  clear hw0
  have HX0 := hide hb0
  have HY0 := hide hb1
  have HB0 := hide hB0
  have HS0 := hide hs0
  have c0 := cellOf hb0 0
  have c1 := cellOf hb0 1
  have c2 := cellOf hb1 0
  have c3 := box_lt hb1
  have hB2 : Below w.heap.size w (w0.alloc (.cells #[.slice Al f.length capl] 28 (0, 0))) := Below.allocT hB0 (Nat.le_refl _) _
  have hck := check_any m [f] (.slice A m.opts.length cap) (.slice Ar m.rules.length capr) (.slice (some ⟨w0.heap.size, 0, none⟩) 1 1) _ HS.out (sized_one hl) (H.out.up hB2) (forms_one (heap_new _ _ _ rfl) (by simp) (HF.out.up hB2))
  have HCK := hide hck
  have HB2 := hide hB2
  have c4 : w.heap.size < w0.heap.size := by omega
  clear hb0 hb1 hB0 hs0 hck hB2
  go_wp2_with (go_at_call 19; refine HCK.out.mono ?_; rw [HZ.out]; rintro e w1 ⟨rfl, hB1⟩)
  go_ret2
  exact ⟨rfl, Below.to HB2.out hB1 (Nat.le_refl _)⟩
set_option maxRecDepth 100000 in
set_option maxHeartbeats 8000000 in
theorem Format_ok (m : Mo) (f : List Int) (t : Tm) (ov rv fv : Value) (w : World) (hs : SizedM m) (hl : f.length ≤ maxLen) (h : MoAt w w.heap.size ov rv m) (hf : Ints w w.heap.size fv f) (he : m.errF [f] = 0) (hok : t.ok m.names.length) (hft : f = t.enc) (hf1 : f.length ≤ 100) (hsg : SgnAt w 0) (h0 : 0 < w.heap.size) (hn8 : ∀ x ∈ m.opts, x.size ≤ 8) (ht : (t.txt m.names).length ≤ 10000) (ht0 : t.txt m.names ≠ []) :
    Calls Tryd.prog 9 #[.agg #[ov, rv], fv] w (ForP w (t.txt m.names) 0) := by
  have hmf : ∀ (fn : Fn) (first cap : Array Value) (w : World), (Instr.makeFunc fn first cap).run Tryd.prog w = .ok (.func fn first cap) w := fun _ _ _ _ => rfl
  obtain ⟨A, cap, hov⟩ := Sl.form h.o
  obtain ⟨Ar, capr, hrv⟩ := h.r.form
  obtain ⟨Al, capl, hlv⟩ := Sl.form hf
  subst hov hrv hlv
  have H := hide h
  have HF := hide hf
  have HS := hide hs
  have HZ := hide he
  have HSG := hide hsg
  have HOK := hide hok
  have HFT := hide hft
  have HN8 := hide hn8
  have HT := hide ht
  have HT0 := hide ht0
  clear h hf hs he hsg hok hft hn8 ht ht0
  go_enter Tryd.func9, Tryd.ntmps9
  go_upto_region 1 with (fail)
  obtain ⟨w0, hw0⟩ : ∃ w0 : World, (w.alloc (.cells #[.slice A m.opts.length cap, .slice Ar m.rules.length capr] 25)).alloc (.cells #[.slice Al f.length capl] 28) = w0 := ⟨_, rfl⟩
  have hB0 : Below w.heap.size w w0 := by rw [← hw0]; exact Below.allocT (Below.allocT (Below.refl _ _) (Nat.le_refl _) _) (Nat.le_refl _) _
  have hb0 : MoBox w0 w.heap.size (.slice A m.opts.length cap) (.slice Ar m.rules.length capr) := by unfold MoBox; rw [← hw0, heap_old _ _ _ (by simp)]; exact heap_new _ _ _ rfl
  have hb1 : w0.heap[w.heap.size + 1]? = some (.cells #[.slice Al f.length capl] 28 (0, 0)) := by rw [← hw0]; exact heap_new _ _ _ (by simp)
  have hs0 : w0.heap.size = w.heap.size + 2 := by rw [← hw0]; simp
  rw [hw0]
  clear hw0
  have HX0 := hide hb0
  have HY0 := hide hb1
  have HB0 := hide hB0
  have HS0 := hide hs0
  have c0 := cellOf hb0 0
  have c1 := cellOf hb0 1
  have c2 := cellOf hb1 0
  have c3 := box_lt hb1
  have hB2 : Below w.heap.size w (w0.alloc (.cells #[.slice Al f.length capl] 28 (0, 0))) := Below.allocT hB0 (Nat.le_refl _) _
  have hck := check_any m [f] (.slice A m.opts.length cap) (.slice Ar m.rules.length capr) (.slice (some ⟨w0.heap.size, 0, none⟩) 1 1) _ HS.out (sized_one hl) (H.out.up hB2) (forms_one (heap_new _ _ _ rfl) (by simp) (HF.out.up hB2))
  have HCK := hide hck
  have HB2 := hide hB2
  have c4 : w.heap.size < w0.heap.size := by omega
  clear hb0 hb1 hB0 hs0 hck hB2
  go_upto_region 4 with (go_at_call 19; refine HCK.out.mono ?_; rw [HZ.out]; rintro e w1 ⟨rfl, hB1⟩; have HB1 := hide (Below.to HB2.out hB1 (Nat.le_refl _)); have hx1 := (hB1.block w.heap.size (by simp; omega)).trans ((heap_old _ _ _ c4).trans HX0.out); have hy1 := (hB1.block (w.heap.size + 1) (by simp; omega)).trans ((heap_old _ _ _ c3).trans HY0.out); have HX1 := hide hx1; have HY1 := hide hy1; have hz1 := hB1.size; clear hB1 hx1 hy1 c0 c1 c2)
  go_upto_region 7 with (fail)
  have hz2 : w.heap.size + 3 ≤ w1.heap.size := by have := HS0.out; simp at hz1; omega
  obtain ⟨w2, hw2⟩ : ∃ w2 : World, (w1.alloc (.cells #[.pointer none, .slice none 0 0] 55)).alloc (.cells #[.func (.func 20) #[] (capsV w.heap.size (w.heap.size + 1) w1.heap.size (w1.heap.size + 1))] 1) = w2 := ⟨_, rfl⟩
  have hw3 := hw2
  unfold capsV at hw3
  rw [hw3]
  have hs2 : w2.heap.size = w1.heap.size + 2 := by rw [← hw2]; simp
  have hB2 : Below w1.heap.size w1 w2 := by rw [← hw2]; exact Below.allocT (Below.allocT (Below.refl _ _) (Nat.le_refl _) _) (Nat.le_refl _) _
  have hbb : w2.heap[w1.heap.size]? = some (.cells #[.pointer none, .slice none 0 0] 55 (0, 0)) := by rw [← hw2, heap_old _ _ _ (by simp)]; exact heap_new _ _ _ rfl
  have hbt : w2.heap[w1.heap.size + 1]? = some (.cells #[.func (.func 20) #[] (capsV w.heap.size (w.heap.size + 1) w1.heap.size (w1.heap.size + 1))] 1 (0, 0)) := by rw [← hw2]; exact heap_new _ _ _ (by simp)
  have hBw : Below w.heap.size w w2 := Below.to HB1.out hB2 (Nat.le_refl _)
  have N : FmN w.heap.size w.heap.size (w.heap.size + 1) w1.heap.size (w1.heap.size + 1) (w1.heap.size + 2) := ⟨h0, by omega, by omega, by omega, by omega, by omega, by omega, by omega, by omega, by omega⟩
  have HN := hide N
  have hA : FmA w2 w.heap.size w.heap.size (w.heap.size + 1) w1.heap.size (w1.heap.size + 1) (w1.heap.size + 2) (.slice A m.opts.length cap) (.slice Ar m.rules.length capr) m (.slice Al f.length capl) (.pointer none) (t.enc ++ []) [] := by
    refine ⟨box_to HX1.out hB2, box_to HY1.out hB2, ?_, ⟨.slice none 0 0, hbb, World.ownsRow_nil _ _ _ _⟩, .inl rfl, hbt, H.out.o.below hBw, HSG.out.low h0 hBw, by omega⟩
    rw [List.append_nil, ← HFT.out]
    exact HF.out.below hBw
  have hcl := fmt_any _ _ _ _ _ _ N _ _ m HN8.out HS.out.n t [] _ _ [] w2 HOK.out hA (by rw [List.append_nil, ← HFT.out]; exact hf1) (by simpa using HT.out)
  have HCL := hide hcl
  have HBW := hide hBw
  have t0 := cellOf hbt 0
  have t1 := box_lt hbt
  unfold capsV at t0
  clear hw2 hw3 hs2 hB2 hbb hbt hBw N hA hcl hz1 c3 c4
  go_upto_region 8 with (go_at_call 20; refine HCL.out.mono ?_; rintro e w3 ⟨rfl, hB3, v3, hf3⟩; have HB3 := hide (Below.trans HBW.out hB3); have H3 := hide hf3; clear hB3 hf3)
  have hib : Lib.IsBuilder 55 5 w1.heap.size w1.heap.size (Lib.byteCells (t.txt m.names)) w3 := by
    obtain ⟨vb, hv, ho⟩ := H3.out.b
    refine .inr ⟨Nat.le_refl _, vb, hv, ?_, ?_⟩
    · rw [bcells_len]
      refine ⟨ho.1, ?_⟩
      rcases ho.2 with q | ⟨g, cap, cur, q1, q2, q3⟩
      · exact .inl q
      · exact .inr ⟨g, cap, cur, q1, by omega, q3⟩
    · intro hc
      have := (ho.lt _ hc).1
      omega
  have hst := bld_string w1.heap.size w1.heap.size (t.txt m.names) w3 hib HT0.out
  have HST := hide hst
  have hz3 : w.heap.size ≤ w1.heap.size := by omega
  clear hib hst t0 t1
  go_wp2_with (go_at_call 24; refine HST.out.mono ?_; rintro e w4 ⟨rfl, hB4⟩; have HB4 := hide (Below.trans HB3.out (hB4.mono hz3)); clear hB4)
  go_ret2
  exact ⟨rfl, HB4.out⟩
end Go.Proofs.YtjimbcklnnhloaaDoor
/- Names and valid formulas, as the elder program has them: walks. -/
namespace Go.Proofs.YtjimbcklnnhloaaDoor
open Go.RowKit
set_option linter.unusedVariables false
set_option linter.unusedSimpArgs false
set_option maxRecDepth 100000 in
set_option maxHeartbeats 2000000 in
theorem rName_any (s : ByteArray) (w : World) (hs : s.size ≤ maxLen) :
    Calls Tryd.prog 38 #[.string s] w fun e w' => e = .returned (.bool (namedB s.data.toList)) ∧ w = w' := by
  have hl : s.data.toList.length = s.size := by simp
  by_cases h1 : s.size < 1
  · have hf : namedB s.data.toList = false := by
      unfold namedB; rw [hl]; simp; omega
    have HF := hide hf
    have h2 : (s.size : Int) < 1 := by omega
    clear hf hl h1
    go_enter Tryd.func38, Tryd.ntmps38
    go_wp2
    go_ret
    exact ⟨ret_bool HF.out.symm, rfl⟩
  by_cases h2 : 8 < s.size
  · have hf : namedB s.data.toList = false := by
      unfold namedB; rw [hl]; simp; omega
    have HF := hide hf
    have h3 : (8 : Int) < (s.size : Int) := by omega
    have h4 : ¬ (s.size : Int) < 1 := by omega
    clear hf hl h1 h2
    go_enter Tryd.func38, Tryd.ntmps38
    go_wp2
    go_ret
    exact ⟨ret_bool HF.out.symm, rfl⟩
  have h3 : ¬ (s.size : Int) < 1 := by omega
  have h4 : ¬ (8 : Int) < (s.size : Int) := by omega
  by_cases hy : s.data.toList = [121, 101, 115]
  · have hf : namedB s.data.toList = false := by unfold namedB; rw [hy]; rfl
    have HF := hide hf
    have hse : s = ⟨#[121, 101, 115]⟩ := by
      obtain ⟨d⟩ := s
      congr 1
      exact Array.toList_inj.1 hy
    subst hse
    clear hf hy hl
    go_enter Tryd.func38, Tryd.ntmps38
    go_wp2
    go_ret
    exact ⟨ret_bool HF.out.symm, rfl⟩
  by_cases hn : s.data.toList = [110, 111]
  · have hf : namedB s.data.toList = false := by unfold namedB; rw [hn]; rfl
    have HF := hide hf
    have hse : s = ⟨#[110, 111]⟩ := by
      obtain ⟨d⟩ := s
      congr 1
      exact Array.toList_inj.1 hn
    subst hse
    clear hf hy hn hl
    go_enter Tryd.func38, Tryd.ntmps38
    go_wp2
    go_ret
    exact ⟨ret_bool HF.out.symm, rfl⟩
  have hf : namedB s.data.toList = (smN (s.data.toList.getD 0 0) && decide (wordN s.data.toList = s.size)) := by
    unfold namedB
    rw [hl]
    have e1 : decide (1 ≤ s.size) = true := by simp; omega
    have e2 : decide (s.size ≤ 8) = true := by simp; omega
    have e3 : decide (s.data.toList ≠ [121, 101, 115]) = true := by simpa using hy
    have e4 : decide (s.data.toList ≠ [110, 111]) = true := by simpa using hn
    rw [e1, e2, e3, e4]
    simp only [Bool.and_true, Bool.true_and]
  have HF := hide hf
  obtain ⟨k1, _⟩ := str_ne hy
  obtain ⟨k2, _⟩ := str_ne hn
  have hs1 : 1 ≤ s.size := by omega
  have hs2 : s.size ≤ 8 := by omega
  have HL := hide hl
  clear hf hy hn hl h1 h2
  go_enter Tryd.func38, Tryd.ntmps38
  go_wp2
  go_loop [3] (fun i => ∃ k : Nat, k ≤ s.size ∧ i = .int .i64 k ∧ Hid (∀ j, j < k → alN (s.data.toList.getD j 0) = true) ∧ Hid (0 < k → smN (s.data.toList.getD 0 0) = true)) (fun i => s.size - (intOf i).toNat)
  case atStart => exact ⟨0, Nat.zero_le _, rfl, fun j hj => by omega, fun h => by omega⟩
  case round =>
    obtain ⟨k, hk, rfl, hall, hsm⟩ := hrel
    by_cases hlt : k < s.size
    · have hgd := getD_str s k hlt
      have hyes : alN s[k] = true → Hid (∀ j, j < k + 1 → alN (s.data.toList.getD j 0) = true) := fun h j hj => by
        rcases Nat.lt_or_ge j k with h1 | h1
        · exact hall.out j h1
        · rw [show j = k from by omega, hgd]; exact h
      have hno : alN s[k] = false → namedB s.data.toList = false := fun h => by
        have h5 := wordN_at s.data.toList k (by simpa using hlt) hall.out (by rw [hgd]; exact h)
        rw [HF.out, h5]
        simp; omega
      have HY := hide hyes
      have HN := hide hno
      have HG := hide hgd
      clear hgd hyes hno
      have hkz : k = 0 ∨ 0 < k := by omega
      by_cases h97 : (s[k].toNat : Int) < 97
      · have d1 : decide (97 ≤ (s[k].toNat : Int)) = false := by simp; omega
        by_cases h48 : (s[k].toNat : Int) < 48
        · have d3 : decide (48 ≤ (s[k].toNat : Int)) = false := by simp; omega
          have HC := hide (HN.out (alN_not (by omega)))
          rcases hkz with hz | hz
          · have h0 : ((k : Int) == 0) = true := by simp [hz]
            clear hz
            go_wp2
            go_ret
            exact ⟨ret_bool HC.out.symm, rfl⟩
          · have h0 : ((k : Int) == 0) = false := by simp; omega
            clear hz
            go_wp2
            go_ret
            exact ⟨ret_bool HC.out.symm, rfl⟩
        · have d3 : decide (48 ≤ (s[k].toNat : Int)) = true := by simp; omega
          by_cases h57 : (57 : Int) < (s[k].toNat : Int)
          · have d4 : decide ((s[k].toNat : Int) ≤ 57) = false := by simp; omega
            have HC := hide (HN.out (alN_not (by omega)))
            rcases hkz with hz | hz
            · have h0 : ((k : Int) == 0) = true := by simp [hz]
              clear hz
              go_wp2
              go_ret
              exact ⟨ret_bool HC.out.symm, rfl⟩
            · have h0 : ((k : Int) == 0) = false := by simp; omega
              clear hz
              go_wp2
              go_ret
              exact ⟨ret_bool HC.out.symm, rfl⟩
          · have d4 : decide ((s[k].toNat : Int) ≤ 57) = true := by simp; omega
            rcases hkz with hz | hz
            · have h0 : ((k : Int) == 0) = true := by simp [hz]
              have hc : namedB s.data.toList = false := by
                have h5 := HG.out
                rw [HF.out]
                subst hz
                rw [h5, smN_not (.inl h97)]
                rfl
              have HC := hide hc
              clear hz hc
              go_wp2
              go_ret
              exact ⟨ret_bool HC.out.symm, rfl⟩
            · have h0 : ((k : Int) == 0) = false := by simp; omega
              have HC := hide (HY.out (alN_of (.inr ⟨by omega, by omega⟩)))
              go_wp2
              go_round
              case rel => exact ⟨k + 1, by omega, by go_num, HC.out, fun _ => hsm.out hz⟩
              case measure => simp [intOf]; omega
      · have d1 : decide (97 ≤ (s[k].toNat : Int)) = true := by simp; omega
        have d3 : decide (48 ≤ (s[k].toNat : Int)) = true := by simp; omega
        have d4 : decide ((s[k].toNat : Int) ≤ 57) = false := by simp; omega
        by_cases h122 : (122 : Int) < (s[k].toNat : Int)
        · have d2 : decide ((s[k].toNat : Int) ≤ 122) = false := by simp; omega
          have HC := hide (HN.out (alN_not (by omega)))
          rcases hkz with hz | hz
          · have h0 : ((k : Int) == 0) = true := by simp [hz]
            clear hz
            go_wp2
            go_ret
            exact ⟨ret_bool HC.out.symm, rfl⟩
          · have h0 : ((k : Int) == 0) = false := by simp; omega
            clear hz
            go_wp2
            go_ret
            exact ⟨ret_bool HC.out.symm, rfl⟩
        · have d2 : decide ((s[k].toNat : Int) ≤ 122) = true := by simp; omega
          have HC := hide (HY.out (alN_of (.inl ⟨by omega, by omega⟩)))
          have hc : Hid (0 < k + 1 → smN (s.data.toList.getD 0 0) = true) := fun _ => by
            rcases hkz with hz | hz
            · subst hz
              rw [HG.out]; exact smN_of (by omega) (by omega)
            · exact hsm.out hz
          clear hkz
          go_wp2
          go_round
          case rel => exact ⟨k + 1, by omega, by go_num, HC.out, hc⟩
          case measure => simp [intOf]; omega
    · have : k = s.size := by omega
      subst this
      have hc : namedB s.data.toList = true := by
        rw [HF.out, hsm.out (by omega), wordN_all _ (by simpa using hall.out), HL.out]
        simp
      have HC := hide hc
      clear hc
      go_wp2
      go_ret
      exact ⟨ret_bool HC.out.symm, rfl⟩
end Go.Proofs.YtjimbcklnnhloaaDoor
/- The end of a term, as the elder program has it: walk. -/
namespace Go.Proofs.YtjimbcklnnhloaaDoor
open Go.RowKit
set_option linter.unusedVariables false
set_option linter.unusedSimpArgs false
/-- How many numbers of l belong to its first c terms. -/
def endN (N : Nat) : Nat → List Int → Option Nat
  | 0, _ => some 0
  | _ + 1, [] => none
  | c + 1, o :: r => if -6 ≤ o ∧ o < N then (endN N (c + arO o) r).map (· + 1) else none
def endR (p : Nat) : Option Nat → Int
  | none => -1
  | some q => (p + q : Nat)
theorem endN_zero (N : Nat) (l : List Int) : endN N 0 l = some 0 := by cases l <;> rfl
theorem endR_succ (p : Nat) (o : Option Nat) : endR p (o.map (· + 1)) = endR (p + 1) o := by
  cases o with
  | none => rfl
  | some q => simp only [Option.map_some, endR]; omega
theorem endN_vld (N : Nat) : ∀ (l : List Int) (c : Nat), (endN N c l == some l.length) = vld N c l
  | [], 0 => rfl
  | [], c + 1 => rfl
  | o :: r, 0 => by simp [endN, vld]
  | o :: r, c + 1 => by
    have ih := endN_vld N r (c + arO o)
    simp only [endN, vld]
    by_cases h : -6 ≤ o ∧ o < N
    · rw [if_pos h]
      have h1 : decide (-6 ≤ o) = true := by simp [h.1]
      have h2 : decide (o < N) = true := by simp [h.2]
      rw [h1, h2, ← ih, Bool.true_and, Bool.true_and]
      cases endN N (c + arO o) r with
      | none => rfl
      | some q => rw [Bool.eq_iff_iff]; simp
    · rw [if_neg h]
      have h1 : (decide (-6 ≤ o) && decide (o < N)) = false := by
        rw [Bool.eq_false_iff]
        intro h2
        apply h
        simpa using h2
      rw [h1, Bool.false_and]
      rfl
theorem endN_end (N : Nat) (l : List Int) : (endR 0 (endN N 1 l) == (l.length : Int)) = vld N 1 l := by
  rw [← endN_vld]
  cases endN N 1 l with
  | none => rw [Bool.eq_iff_iff]; simp [endR]
  | some q => rw [Bool.eq_iff_iff]; simp [endR]; omega
theorem endN_bad {N c : Nat} {o : Int} {r : List Int} (h : ¬ (-6 ≤ o ∧ o < N)) : endN N (c + 1) (o :: r) = none := by
  simp only [endN]; rw [if_neg h]
theorem endN_go {N c : Nat} {o : Int} {r : List Int} (h : -6 ≤ o ∧ o < N) (k : Nat) : endR k (endN N (c + 1) (o :: r)) = endR (k + 1) (endN N (c + arO o) r) := by
  simp only [endN]; rw [if_pos h, endR_succ]
set_option maxRecDepth 100000 in
set_option maxHeartbeats 2000000 in
theorem end_any (f : List Int) (p N : Nat) (v : Value) (B : Nat) (w : World) (hm : f.length ≤ 1000) (hp : p ≤ f.length) (h : Ints w B v f) :
    Calls Tryd.prog 59 #[v, .int .i64 p, .int .i64 N] w fun e w' => e = .returned (.int .i64 (endR p (endN N 1 (f.drop p)))) ∧ w = w' := by
  obtain ⟨A, b, off, cap, rfl, hnc, hA, hc⟩ := h
  have HC := hide hc
  have HA := hide hA
  clear hc hA
  go_enter Tryd.func59, Tryd.ntmps59
  go_wp2
  go_loop [1, 7] (fun i x => ∃ k c : Nat, p ≤ k ∧ k ≤ f.length ∧ c ≤ k + 1 ∧ i = .int .i64 k ∧ x = .int .i64 c ∧ Hid (endR p (endN N 1 (f.drop p)) = endR k (endN N c (f.drop k)))) (fun i _ => f.length - (intOf i).toNat)
  case atStart => exact ⟨p, 1, Nat.le_refl _, hp, by omega, rfl, rfl, rfl⟩
  case round =>
    obtain ⟨k, c, hpk, hk, hck, rfl, rfl, hv⟩ := hrel
    by_cases hlt : k < f.length
    · have j1 : (k : Int) < (f.length : Int) := by omega
      match c, hck, hv with
      | 0, hck, hv =>
        have HV : Hid (endR p (endN N 1 (f.drop p)) = ((k + 0 : Nat) : Int)) := by have h := hv.out; rw [endN_zero] at h; exact h
        clear hv
        go_wp2
        go_ret
        exact ⟨ret_int HV.out.symm, rfl⟩
      | c + 1, hck, hv =>
        obtain ⟨rfl, hbb⟩ : A = some ⟨b, off, none⟩ ∧ b < B := by
          rcases HA.out with h | h
          · exact h
          · omega
        obtain ⟨o, ho⟩ : ∃ o, f.getD k 0 = o := ⟨_, rfl⟩
        have c0 : w.cell? ⟨b, off + k, none⟩ = some (.int .i64 o) := by
          have h1 := HC.out k 0 hlt (by omega)
          rw [Nat.mul_one, Nat.add_zero, ho] at h1
          exact h1
        have j0 : (0 : Int) ≤ (k : Int) := by omega
        have j2 : (0 : Int) < ((c + 1 : Nat) : Int) := by omega
        have hv2 := hv.out
        rw [drop_getD hlt, ho] at hv2
        have HV := hide hv2
        clear hv2 hv ho
        by_cases hN : (N : Int) ≤ o
        · have HE := hide (HV.out.trans (by rw [endN_bad (by omega)]; rfl : _ = (-1 : Int)))
          have d1 : decide ((N : Int) ≤ o) = true := by simp; omega
          go_wp2
          go_ret
          exact ⟨ret_int HE.out.symm, rfl⟩
        · have d1 : decide ((N : Int) ≤ o) = false := by simp; omega
          by_cases h6 : o < -6
          · have HE := hide (HV.out.trans (by rw [endN_bad (by omega)]; rfl : _ = (-1 : Int)))
            have d2 : decide (o < -6) = true := by simp; omega
            go_wp2
            go_ret
            exact ⟨ret_int HE.out.symm, rfl⟩
          · have d2 : decide (o < -6) = false := by simp; omega
            have hg := HV.out.trans (endN_go (by omega) k)
            have HG := hide hg
            clear hg
            rcases (by omega : 0 ≤ o ∨ o = -1 ∨ o = -2 ∨ o = -3 ∨ (o = -4 ∨ o = -5 ∨ o = -6)) with h | h | h | h | h
            · have ha : arO o = 0 := by unfold arO; (repeat' split) <;> omega
              have HA0 := hide ha
              have d3 : decide (0 ≤ o) = true := by simp; omega
              clear ha
              go_wp2
              go_round
              case rel => exact ⟨k + 1, c, by omega, by omega, by omega, by go_num, by go_num, by rw [HG.out, HA0.out]; rfl⟩
              case measure => simp [intOf]; omega
            · have ha : arO o = 0 := by unfold arO; (repeat' split) <;> omega
              have HA0 := hide ha
              have d3 : decide (0 ≤ o) = false := by simp; omega
              have d4 : (o == -1) = true := by simp; omega
              clear ha
              go_wp2
              go_round
              case rel => exact ⟨k + 1, c, by omega, by omega, by omega, by go_num, by go_num, by rw [HG.out, HA0.out]; rfl⟩
              case measure => simp [intOf]; omega
            · have ha : arO o = 0 := by unfold arO; (repeat' split) <;> omega
              have HA0 := hide ha
              have d3 : decide (0 ≤ o) = false := by simp; omega
              have d4 : (o == -1) = false := by simp; omega
              have d5 : (o == -2) = true := by simp; omega
              clear ha
              go_wp2
              go_round
              case rel => exact ⟨k + 1, c, by omega, by omega, by omega, by go_num, by go_num, by rw [HG.out, HA0.out]; rfl⟩
              case measure => simp [intOf]; omega
            · have ha : arO o = 1 := by unfold arO; (repeat' split) <;> omega
              have HA0 := hide ha
              have d3 : decide (0 ≤ o) = false := by simp; omega
              have d4 : (o == -1) = false := by simp; omega
              have d5 : (o == -2) = false := by simp; omega
              have d6 : (!(o == -3)) = false := by simp; omega
              clear ha
              go_wp2
              go_round
              case rel => exact ⟨k + 1, c + 1, by omega, by omega, by omega, by go_num, by go_num, by rw [HG.out, HA0.out]; rfl⟩
              case measure => simp [intOf]; omega
            · have ha : arO o = 2 := by unfold arO; (repeat' split) <;> omega
              have HA0 := hide ha
              have d3 : decide (0 ≤ o) = false := by simp; omega
              have d4 : (o == -1) = false := by simp; omega
              have d5 : (o == -2) = false := by simp; omega
              have d6 : (!(o == -3)) = true := by simp; omega
              clear ha
              go_wp2
              go_round
              case rel => exact ⟨k + 1, c + 2, by omega, by omega, by omega, by go_num, by go_num, by rw [HG.out, HA0.out]; rfl⟩
              case measure => simp [intOf]; omega
    · obtain rfl : k = f.length := by omega
      have hv2 := hv.out
      rw [List.drop_length] at hv2
      have HV2 := hide hv2
      clear hv2 hv
      match c, hck, HV2 with
      | 0, hck, HV2 =>
        have HV := hide (HV2.out : endR p (endN N 1 (f.drop p)) = ((f.length + 0 : Nat) : Int))
        go_wp2
        go_ret
        exact ⟨ret_int HV.out.symm, rfl⟩
      | c + 1, hck, HV2 =>
        have HV := hide (HV2.out : endR p (endN N 1 (f.drop p)) = (-1 : Int))
        have j2 : (0 : Int) < ((c + 1 : Nat) : Int) := by omega
        go_wp2
        go_ret
        exact ⟨ret_int HV.out.symm, rfl⟩
set_option maxRecDepth 100000 in
set_option maxHeartbeats 1000000 in
theorem rValid_any (f : List Int) (N : Nat) (v : Value) (B : Nat) (w : World) (hm : f.length ≤ maxLen) (h : Ints w B v f) :
    Calls Tryd.prog 39 #[v, .int .i64 N] w fun e w' => e = .returned (.bool (validF N f)) ∧ w = w' := by
  have H := hide h
  obtain ⟨A, cap, rfl⟩ := Sl.form h
  clear h
  by_cases h100 : f.length ≤ 100
  · have d1 : decide ((f.length : Int) ≤ 100) = true := by simp; omega
    by_cases h0 : f.length = 0
    · have d2 : decide ((0 : Int) < (f.length : Int)) = false := decide_eq_false (by omega)
      have hf : validF N f = false := by
        obtain rfl := List.eq_nil_of_length_eq_zero h0
        rfl
      have HF := hide hf
      clear hf
      go_enter Tryd.func39, Tryd.ntmps39
      go_wp2_with fail
      go_ret
      exact ⟨ret_bool HF.out.symm, rfl⟩
    · have d2 : decide ((0 : Int) < (f.length : Int)) = true := decide_eq_true (by omega)
      have hf : validF N f = (endR 0 (endN N 1 f) == (f.length : Int)) := by
        rw [endN_end]
        unfold validF
        have : decide (f.length ≤ 100) = true := by simp [h100]
        rw [this, Bool.and_true]
      have he := end_any f 0 N (.slice A f.length cap) B w (by omega) (Nat.zero_le _) H.out
      rw [List.drop_zero] at he
      obtain ⟨z, hz⟩ : ∃ z, endR 0 (endN N 1 f) = z := ⟨_, rfl⟩
      rw [hz] at he hf
      have HF := hide hf
      have HE := hide he
      clear hf he hz
      go_enter Tryd.func39, Tryd.ntmps39
      go_wp2_with (go_at_call 59; refine HE.out.mono ?_; rintro e w1 ⟨rfl, rfl⟩)
      go_ret
      exact ⟨ret_bool (by rw [HF.out]), rfl⟩
  · have d1 : decide ((f.length : Int) ≤ 100) = false := by simp; omega
    have hf : validF N f = false := by
      unfold validF
      have : decide (f.length ≤ 100) = false := by simp; omega
      rw [this, Bool.and_false]
    have HF := hide hf
    clear hf
    go_enter Tryd.func39, Tryd.ntmps39
    go_wp2_with fail
    go_ret
    exact ⟨ret_bool HF.out.symm, rfl⟩
end Go.Proofs.YtjimbcklnnhloaaDoor
/- CheckModel as the elder program has it: walk. -/
namespace Go.Proofs.YtjimbcklnnhloaaDoor
open Go.RowKit
set_option linter.unusedVariables false
set_option linter.unusedSimpArgs false
theorem take_has {L : List (List UInt8)} {x : List UInt8} {t k : Nat} (ht : t < k) (hk : k ≤ L.length) (h : L.getD t [] = x) : (L.take k).contains x = true := by
  rw [List.contains_iff_exists_mem_beq]
  refine ⟨x, ?_, by simp⟩
  rw [← h]
  have hl : t < L.length := by omega
  rw [List.getD_eq_getElem?_getD, List.getElem?_eq_getElem hl, Option.getD_some]
  have hm := List.getElem_mem (l := L.take k) (n := t) (by simp; omega)
  rwa [List.getElem_take] at hm
theorem take_hasnt {L : List (List UInt8)} {x : List UInt8} {k : Nat} (hk : k ≤ L.length) (h : ∀ t, t < k → L.getD t [] ≠ x) : (L.take k).contains x = false := by
  rw [Bool.eq_false_iff]
  intro h1
  rw [List.contains_iff_exists_mem_beq] at h1
  obtain ⟨y, hy, he⟩ := h1
  obtain ⟨t, ht, rfl⟩ := List.mem_iff_getElem.1 hy
  have ht2 : t < k := by simp at ht; omega
  apply h t ht2
  rw [List.getD_eq_getElem?_getD, List.getElem?_eq_getElem (by omega), Option.getD_some]
  rw [List.getElem_take] at he
  exact (eq_of_beq he).symm
theorem all_valid {N : Nat} {l : List (List Int)} (h : ∀ t, t < l.length → validF N (l.getD t []) = true) : l.all (validF N) = true := by
  rw [List.all_eq_true]
  intro f hf
  obtain ⟨t, ht, rfl⟩ := List.mem_iff_getElem.1 hf
  have := h t ht
  rwa [List.getD_eq_getElem?_getD, List.getElem?_eq_getElem ht, Option.getD_some] at this
theorem not_valid {N t : Nat} {l : List (List Int)} (ht : t < l.length) (h : validF N (l.getD t []) = false) : l.all (validF N) = false := by
  rw [Bool.eq_false_iff]
  intro h1
  rw [List.all_eq_true] at h1
  have := h1 _ (getD_mem (z := []) ht)
  rw [h] at this
  cases this
set_option maxRecDepth 100000 in
set_option maxHeartbeats 8000000 in
theorem rCheckModel_any (m : Mo) (ov rv : Value) (w : World) (hs : SizedM m) (h : MoAt w w.heap.size ov rv m) :
    Calls Tryd.prog 17 #[.agg #[ov, rv]] w fun e w' => e = .returned (.int .i64 m.err) ∧ Below w.heap.size w w' := by
  obtain ⟨A, cap, hov⟩ := Sl.form h.o
  obtain ⟨Ar, capr, hrv⟩ := h.r.form
  by_cases h40 : 40 < m.opts.length
  · have he := Mo.err_many (m := m) (.inl h40)
    have HE := hide he
    have hi : decide ((40 : Int) < (m.opts.length : Int)) = true := by simp; omega
    subst hov hrv
    clear he h40 h
    go_enter Tryd.func17, Tryd.ntmps17
    go_wp2_with fail
    go_ret
    exact ⟨ret_int HE.out.symm, (by repeat (first | exact Below.refl _ _ | assumption | refine Below.drew ?_ | refine Below.drewN ?_ _ | refine Below.allocT ?_ (Nat.le_refl _) _ | refine Below.setCell ?_ (by simp <;> omega) _ | refine Below.to ?_ (by assumption) (Nat.le_refl _)))⟩
  by_cases h60 : 60 < m.rules.length
  · have he := Mo.err_many (m := m) (.inr h60)
    have HE := hide he
    have hi : decide ((40 : Int) < (m.opts.length : Int)) = false := by simp; omega
    have hj : decide ((60 : Int) < (m.rules.length : Int)) = true := by simp; omega
    subst hov hrv
    clear he h40 h60 h
    go_enter Tryd.func17, Tryd.ntmps17
    go_wp2_with fail
    go_ret
    exact ⟨ret_int HE.out.symm, (by repeat (first | exact Below.refl _ _ | assumption | refine Below.drew ?_ | refine Below.drewN ?_ _ | refine Below.allocT ?_ (Nat.le_refl _) _ | refine Below.setCell ?_ (by simp <;> omega) _ | refine Below.to ?_ (by assumption) (Nat.le_refl _)))⟩
  have hi : decide ((40 : Int) < (m.opts.length : Int)) = false := by simp; omega
  have hj : decide ((60 : Int) < (m.rules.length : Int)) = false := by simp; omega
  have hn := h.o
  have hr := h.r
  subst hov
  obtain ⟨A', b, off, cap', h1, hnc, hA, hc⟩ := hn
  injection h1 with e1 _ e3
  subst e1 e3
  obtain ⟨fvs, ⟨Al, bl, offl, capl, hl1, hncl, hAl, hcl⟩, hfi⟩ := hr
  subst hl1
  injection hrv with e1 _ e3
  subst e1 e3
  have HC := hide hc
  have HA := hide hA
  have HAL := hide hAl
  have HCL := hide hcl
  have HFI := hide hfi
  have HS := hide hs
  have h40' : m.opts.length ≤ 40 := by omega
  have h60' : m.rules.length ≤ 60 := by omega
  clear hc hA h hs h40 h60 hAl hcl hfi
  go_enter Tryd.func17, Tryd.ntmps17
  go_upto_region 1 with (fail)
  generalize hw0 : World.alloc _ _ = w0
  obtain ⟨hb0, hB0, hs0⟩ := alloc1 hw0
  clear hw0
  have HX0 : Hid (MoBox w0 w.heap.size (.slice A m.opts.length cap) (.slice Al m.rules.length capl)) := hb0
  have HB0 := hide hB0
  have c0 := cellOf hb0 0
  have c1 := cellOf hb0 1
  clear hb0 hB0 hs0
  go_wp2_with fail
  clear c0 c1
  go_loopw [3] (fun i wr => ∃ k : Nat, k ≤ m.opts.length ∧ i = .int .i64 k ∧ Hid (∀ j, j < k → namedB (m.names.getD j []) = true ∧ ([] ++ m.names.take j).contains (m.names.getD j []) = false) ∧ Hid (Below w0.heap.size w0 wr)) (fun i _ => m.opts.length - (intOf i).toNat)
  case atStart => exact ⟨0, Nat.zero_le _, rfl, fun j hj => by omega, Below.refl _ _⟩
  case round =>
    obtain ⟨k, hk, rfl, hall, hB⟩ := hrel
    obtain ⟨wo, hwo⟩ : ∃ wo : World, wo = wr := ⟨_, rfl⟩
    subst hwo
    have hbx := box_to HX0.out hB.out
    have HBX : Hid (MoBox wo w.heap.size (.slice A m.opts.length cap) (.slice Al m.rules.length capl)) := hbx
    have x0 := cellOf hbx 0
    have x1 := cellOf hbx 1
    have hsl := box_lt hbx
    clear hbx
    by_cases hlt : k < m.opts.length
    · obtain ⟨rfl, hbb⟩ : A = some ⟨b, off, none⟩ ∧ b < w.heap.size := by
        rcases HA.out with h | h
        · exact h
        · omega
      obtain ⟨x, hx⟩ : ∃ x, m.opts.getD k ByteArray.empty = x := ⟨_, rfl⟩
      have hBw := Below.to HB0.out hB.out (Nat.le_refl _)
      have hcl : wo.cell? ⟨b, off + k, none⟩ = some (.string x) := by
        have h1 := HC.out k 0 hlt (by omega)
        rw [Nat.mul_one, Nat.add_zero, hx] at h1
        exact (hBw.cell (p := ⟨b, off + k, none⟩) hbb).trans h1
      have HCK := hide hcl
      have hxs : x.size ≤ maxLen := HS.out.s x (by rw [← hx]; exact getD_mem hlt)
      have hnm : m.names.getD k [] = x.data.toList := by rw [names_get, hx]
      have HNM := hide hnm
      have HBW := hide hBw
      have ik0 : (0 : Int) ≤ (k : Int) := by omega
      have ik2 : (k : Int) < (m.opts.length : Int) := by omega
      have hna := rName_any x wo hxs
      clear hx hnm hBw
      by_cases hnb : namedB x.data.toList = true
      · rw [hnb] at hna
        have HNA := hide hna
        have HNB := hide hnb
        clear hna hnb
        go_wp2_with (go_at_call 38; refine HNA.out.mono ?_; rintro e w1 ⟨rfl, rfl⟩)
        clear x0 x1 hcl
        go_loopw [4] (fun i wr => ∃ t : Nat, t ≤ k ∧ i = .int .i64 t ∧ Hid (∀ j, j < t → m.names.getD j [] ≠ x.data.toList) ∧ Hid (Below wo.heap.size wo wr)) (fun i _ => k - (intOf i).toNat)
        case atStart => exact ⟨0, Nat.zero_le _, rfl, fun j hj => by omega, Below.refl _ _⟩
        case round =>
          obtain ⟨t, ht, rfl, hne, hBi⟩ := hrel
          by_cases htk : t < k
          · have hbx := box_to HBX.out hBi.out
            have x0 := cellOf hbx 0
            have x1 := cellOf hbx 1
            have hsl2 := box_lt hbx
            have hto : t < m.opts.length := by omega
            obtain ⟨y, hy⟩ : ∃ y, m.opts.getD t ByteArray.empty = y := ⟨_, rfl⟩
            have hBr := Below.to HBW.out hBi.out (Nat.le_refl _)
            have cy : wr.cell? ⟨b, off + t, none⟩ = some (.string y) := by
              have h1 := HC.out t 0 hto (by omega)
              rw [Nat.mul_one, Nat.add_zero, hy] at h1
              exact (hBr.cell (p := ⟨b, off + t, none⟩) hbb).trans h1
            have cx : wr.cell? ⟨b, off + k, none⟩ = some (.string x) := (hBi.out.cell (p := ⟨b, off + k, none⟩) (Nat.lt_of_lt_of_le hbb HBW.out.size)).trans HCK.out
            have lb : b < wr.heap.size := Nat.lt_of_lt_of_le hbb hBr.size
            have hnm : m.names.getD t [] = y.data.toList := by rw [names_get, hy]
            have HNY := hide hnm
            have it0 : (0 : Int) ≤ (t : Int) := by omega
            have it1 : (t : Int) < (k : Int) := by omega
            have it2 : (t : Int) < (m.opts.length : Int) := by omega
            have HBR := hide hBr
            clear hbx hy hBr hnm
            by_cases he : y.toList = x.toList
            · have he1 : (y.toList == x.toList) = true := by simp [he]
              have hbad : namesB [] m.names = false := namesB_at [] m.names k (by unfold Mo.names; simpa using hlt) hall.out (by
                rw [HNM.out, List.nil_append, take_has htk (by unfold Mo.names; simp; omega) (by rw [HNY.out, ← ByteArray.toList_eq, ← ByteArray.toList_eq]; exact he)]
                simp)
              have hee := Mo.err_name h40' h60' hbad
              have HE := hide hee
              clear hbad hee he
              go_wp2_with fail
              refine wp_region_held_drew (S := (fun w' => Below wr.heap.size wr w')) (by kernel_rfl) ?_ (fun hHeld => ?_)
              · try dsimp only
                exact (by repeat (first | exact Below.refl _ _ | assumption | refine Below.drew ?_ | refine Below.drewN ?_ _ | refine Below.allocT ?_ (Nat.le_refl _) _ | refine Below.setCell ?_ (by simp <;> omega) _ | refine Below.to ?_ (by assumption) (Nat.le_refl _)))
              refine wpAnyH_take (i := 0) (v := ?v1_0) rfl (by kernel_rfl) (by kernel_rfl) (by kernel_rfl) (fun _ _ _ h => h) (Or.inl ⟨by rfl, ?y1_0⟩) (by assumption) ?r1_0
              case' y1_0 => (intro w hSw; (try dsimp only at hSw); (try have hlS := HLK.out _ hSw); obtain ⟨hcS, hfS⟩ := bcell hSw; clear hSw; go_simp; try with_reducible rfl)
              try simp only [Act.put, List.getElem_toArray, List.getElem_cons_succ, List.getElem_cons_zero, List.setIfInBounds_toArray, List.set_cons_zero, List.set_cons_succ]
              refine wpAnyH_take (i := 1) (v := ?v1_1) rfl (by kernel_rfl) (by kernel_rfl) (by kernel_rfl) (fun _ _ _ h => h) (Or.inl ⟨by rfl, ?y1_1⟩) (by assumption) ?r1_1
              case' y1_1 => (intro w hSw; (try dsimp only at hSw); (try have hlS := HLK.out _ hSw); obtain ⟨hcS, hfS⟩ := bcell hSw; clear hSw; go_simp; try with_reducible rfl)
              try simp only [Act.put, List.getElem_toArray, List.getElem_cons_succ, List.getElem_cons_zero, List.setIfInBounds_toArray, List.set_cons_zero, List.set_cons_succ]
              refine wpAnyH_take (i := 2) (v := ?v1_2) rfl (by kernel_rfl) (by kernel_rfl) (by kernel_rfl) (fun _ _ _ h => h) (Or.inl ⟨by rfl, ?y1_2⟩) (by assumption) ?r1_2
              case' y1_2 => (intro w hSw; (try dsimp only at hSw); (try have hlS := HLK.out _ hSw); obtain ⟨hcS, hfS⟩ := bcell hSw; clear hSw; go_simp; try with_reducible rfl)
              try simp only [Act.put, List.getElem_toArray, List.getElem_cons_succ, List.getElem_cons_zero, List.setIfInBounds_toArray, List.set_cons_zero, List.set_cons_succ]
              refine wpAnyH_take (i := 3) (v := ?v1_3) rfl (by kernel_rfl) (by kernel_rfl) (by kernel_rfl) (fun _ _ _ h => h) (Or.inl ⟨by rfl, ?y1_3⟩) (by assumption) ?r1_3
              case' y1_3 => (intro w hSw; (try dsimp only at hSw); (try have hlS := HLK.out _ hSw); obtain ⟨hcS, hfS⟩ := bcell hSw; clear hSw; go_simp; try with_reducible rfl)
              try simp only [Act.put, List.getElem_toArray, List.getElem_cons_succ, List.getElem_cons_zero, List.setIfInBounds_toArray, List.set_cons_zero, List.set_cons_succ]
              refine wpAnyH_take (i := 4) (v := ?v1_4) rfl (by kernel_rfl) (by kernel_rfl) (by kernel_rfl) (fun _ _ _ h => h) (Or.inl ⟨by rfl, ?y1_4⟩) (by assumption) ?r1_4
              case' y1_4 => (intro w hSw; (try dsimp only at hSw); (try have hlS := HLK.out _ hSw); obtain ⟨hcS, hfS⟩ := bcell hSw; clear hSw; go_simp; try with_reducible rfl)
              try simp only [Act.put, List.getElem_toArray, List.getElem_cons_succ, List.getElem_cons_zero, List.setIfInBounds_toArray, List.set_cons_zero, List.set_cons_succ]
              refine wpAnyH_take (i := 5) (v := ?v1_5) rfl (by kernel_rfl) (by kernel_rfl) (by kernel_rfl) (fun _ _ _ h => h) (Or.inl ⟨by rfl, ?y1_5⟩) (by assumption) ?r1_5
              case' y1_5 => (intro w hSw; (try dsimp only at hSw); (try have hlS := HLK.out _ hSw); obtain ⟨hcS, hfS⟩ := bcell hSw; clear hSw; go_simp; try with_reducible rfl)
              try simp only [Act.put, List.getElem_toArray, List.getElem_cons_succ, List.getElem_cons_zero, List.setIfInBounds_toArray, List.set_cons_zero, List.set_cons_succ]
              refine wpAnyH_take (i := 6) (v := ?v1_6) rfl (by kernel_rfl) (by kernel_rfl) (by kernel_rfl) (fun _ _ _ h => h) (Or.inl ⟨by rfl, ?y1_6⟩) (by assumption) ?r1_6
              case' y1_6 => (intro w hSw; (try dsimp only at hSw); (try have hlS := HLK.out _ hSw); obtain ⟨hcS, hfS⟩ := bcell hSw; clear hSw; go_simp; try with_reducible rfl)
              try simp only [Act.put, List.getElem_toArray, List.getElem_cons_succ, List.getElem_cons_zero, List.setIfInBounds_toArray, List.set_cons_zero, List.set_cons_succ]
              refine wpAnyH_take (i := 7) (v := ?v1_7) rfl (by kernel_rfl) (by kernel_rfl) (by kernel_rfl) (fun _ _ _ h => h) (Or.inl ⟨by rfl, ?y1_7⟩) (by assumption) ?r1_7
              case' y1_7 => (intro w hSw; (try dsimp only at hSw); (try have hlS := HLK.out _ hSw); obtain ⟨hcS, hfS⟩ := bcell hSw; clear hSw; go_simp; try with_reducible rfl)
              try simp only [Act.put, List.getElem_toArray, List.getElem_cons_succ, List.getElem_cons_zero, List.setIfInBounds_toArray, List.set_cons_zero, List.set_cons_succ]
              refine wpAnyH_take (i := 8) (v := ?v1_8) rfl (by kernel_rfl) (by kernel_rfl) (by kernel_rfl) (fun _ _ _ h => h) (Or.inl ⟨by rfl, ?y1_8⟩) (by assumption) ?r1_8
              case' y1_8 => (intro w hSw; (try dsimp only at hSw); (try have hlS := HLK.out _ hSw); obtain ⟨hcS, hfS⟩ := bcell hSw; clear hSw; go_simp; try with_reducible rfl)
              try simp only [Act.put, List.getElem_toArray, List.getElem_cons_succ, List.getElem_cons_zero, List.setIfInBounds_toArray, List.set_cons_zero, List.set_cons_succ]
              refine wpAnyH_take (i := 9) (v := ?v1_9) rfl (by kernel_rfl) (by kernel_rfl) (by kernel_rfl) (fun _ _ _ h => h) (Or.inl ⟨by rfl, ?y1_9⟩) (by assumption) ?r1_9
              case' y1_9 => (intro w hSw; (try dsimp only at hSw); (try have hlS := HLK.out _ hSw); obtain ⟨hcS, hfS⟩ := bcell hSw; clear hSw; go_simp; try with_reducible rfl)
              try simp only [Act.put, List.getElem_toArray, List.getElem_cons_succ, List.getElem_cons_zero, List.setIfInBounds_toArray, List.set_cons_zero, List.set_cons_succ]
              refine wpAnyH_take (i := 10) (v := ?v1_10) rfl (by kernel_rfl) (by kernel_rfl) (by kernel_rfl) (fun _ _ _ h => h) (Or.inl ⟨by rfl, ?y1_10⟩) (by assumption) ?r1_10
              case' y1_10 => (intro w hSw; (try dsimp only at hSw); (try have hlS := HLK.out _ hSw); obtain ⟨hcS, hfS⟩ := bcell hSw; clear hSw; go_simp; try with_reducible rfl)
              try simp only [Act.put, List.getElem_toArray, List.getElem_cons_succ, List.getElem_cons_zero, List.setIfInBounds_toArray, List.set_cons_zero, List.set_cons_succ]
              refine wpAnyH_done (by kernel_rfl) ?_ _
              go_wp2_with fail
              go_ret
              exact ⟨ret_int HE.out.symm, Below.to HBR.out hHeld (Nat.le_refl _)⟩
            · have he1 : (y.toList == x.toList) = false := by simpa using he
              have HE := hide he
              clear he
              go_wp2_with fail
              refine wp_region_held_drew (S := (fun w' => Below wr.heap.size wr w')) (by kernel_rfl) ?_ (fun hHeld => ?_)
              · try dsimp only
                exact (by repeat (first | exact Below.refl _ _ | assumption | refine Below.drew ?_ | refine Below.drewN ?_ _ | refine Below.allocT ?_ (Nat.le_refl _) _ | refine Below.setCell ?_ (by simp <;> omega) _ | refine Below.to ?_ (by assumption) (Nat.le_refl _)))
              refine wpAnyH_take (i := 0) (v := ?v2_0) rfl (by kernel_rfl) (by kernel_rfl) (by kernel_rfl) (fun _ _ _ h => h) (Or.inl ⟨by rfl, ?y2_0⟩) (by assumption) ?r2_0
              case' y2_0 => (intro w hSw; (try dsimp only at hSw); (try have hlS := HLK.out _ hSw); obtain ⟨hcS, hfS⟩ := bcell hSw; clear hSw; go_simp; try with_reducible rfl)
              try simp only [Act.put, List.getElem_toArray, List.getElem_cons_succ, List.getElem_cons_zero, List.setIfInBounds_toArray, List.set_cons_zero, List.set_cons_succ]
              refine wpAnyH_take (i := 1) (v := ?v2_1) rfl (by kernel_rfl) (by kernel_rfl) (by kernel_rfl) (fun _ _ _ h => h) (Or.inl ⟨by rfl, ?y2_1⟩) (by assumption) ?r2_1
              case' y2_1 => (intro w hSw; (try dsimp only at hSw); (try have hlS := HLK.out _ hSw); obtain ⟨hcS, hfS⟩ := bcell hSw; clear hSw; go_simp; try with_reducible rfl)
              try simp only [Act.put, List.getElem_toArray, List.getElem_cons_succ, List.getElem_cons_zero, List.setIfInBounds_toArray, List.set_cons_zero, List.set_cons_succ]
              refine wpAnyH_take (i := 2) (v := ?v2_2) rfl (by kernel_rfl) (by kernel_rfl) (by kernel_rfl) (fun _ _ _ h => h) (Or.inl ⟨by rfl, ?y2_2⟩) (by assumption) ?r2_2
              case' y2_2 => (intro w hSw; (try dsimp only at hSw); (try have hlS := HLK.out _ hSw); obtain ⟨hcS, hfS⟩ := bcell hSw; clear hSw; go_simp; try with_reducible rfl)
              try simp only [Act.put, List.getElem_toArray, List.getElem_cons_succ, List.getElem_cons_zero, List.setIfInBounds_toArray, List.set_cons_zero, List.set_cons_succ]
              refine wpAnyH_take (i := 3) (v := ?v2_3) rfl (by kernel_rfl) (by kernel_rfl) (by kernel_rfl) (fun _ _ _ h => h) (Or.inl ⟨by rfl, ?y2_3⟩) (by assumption) ?r2_3
              case' y2_3 => (intro w hSw; (try dsimp only at hSw); (try have hlS := HLK.out _ hSw); obtain ⟨hcS, hfS⟩ := bcell hSw; clear hSw; go_simp; try with_reducible rfl)
              try simp only [Act.put, List.getElem_toArray, List.getElem_cons_succ, List.getElem_cons_zero, List.setIfInBounds_toArray, List.set_cons_zero, List.set_cons_succ]
              refine wpAnyH_take (i := 4) (v := ?v2_4) rfl (by kernel_rfl) (by kernel_rfl) (by kernel_rfl) (fun _ _ _ h => h) (Or.inl ⟨by rfl, ?y2_4⟩) (by assumption) ?r2_4
              case' y2_4 => (intro w hSw; (try dsimp only at hSw); (try have hlS := HLK.out _ hSw); obtain ⟨hcS, hfS⟩ := bcell hSw; clear hSw; go_simp; try with_reducible rfl)
              try simp only [Act.put, List.getElem_toArray, List.getElem_cons_succ, List.getElem_cons_zero, List.setIfInBounds_toArray, List.set_cons_zero, List.set_cons_succ]
              refine wpAnyH_take (i := 5) (v := ?v2_5) rfl (by kernel_rfl) (by kernel_rfl) (by kernel_rfl) (fun _ _ _ h => h) (Or.inl ⟨by rfl, ?y2_5⟩) (by assumption) ?r2_5
              case' y2_5 => (intro w hSw; (try dsimp only at hSw); (try have hlS := HLK.out _ hSw); obtain ⟨hcS, hfS⟩ := bcell hSw; clear hSw; go_simp; try with_reducible rfl)
              try simp only [Act.put, List.getElem_toArray, List.getElem_cons_succ, List.getElem_cons_zero, List.setIfInBounds_toArray, List.set_cons_zero, List.set_cons_succ]
              refine wpAnyH_take (i := 6) (v := ?v2_6) rfl (by kernel_rfl) (by kernel_rfl) (by kernel_rfl) (fun _ _ _ h => h) (Or.inl ⟨by rfl, ?y2_6⟩) (by assumption) ?r2_6
              case' y2_6 => (intro w hSw; (try dsimp only at hSw); (try have hlS := HLK.out _ hSw); obtain ⟨hcS, hfS⟩ := bcell hSw; clear hSw; go_simp; try with_reducible rfl)
              try simp only [Act.put, List.getElem_toArray, List.getElem_cons_succ, List.getElem_cons_zero, List.setIfInBounds_toArray, List.set_cons_zero, List.set_cons_succ]
              refine wpAnyH_take (i := 7) (v := ?v2_7) rfl (by kernel_rfl) (by kernel_rfl) (by kernel_rfl) (fun _ _ _ h => h) (Or.inl ⟨by rfl, ?y2_7⟩) (by assumption) ?r2_7
              case' y2_7 => (intro w hSw; (try dsimp only at hSw); (try have hlS := HLK.out _ hSw); obtain ⟨hcS, hfS⟩ := bcell hSw; clear hSw; go_simp; try with_reducible rfl)
              try simp only [Act.put, List.getElem_toArray, List.getElem_cons_succ, List.getElem_cons_zero, List.setIfInBounds_toArray, List.set_cons_zero, List.set_cons_succ]
              refine wpAnyH_take (i := 8) (v := ?v2_8) rfl (by kernel_rfl) (by kernel_rfl) (by kernel_rfl) (fun _ _ _ h => h) (Or.inl ⟨by rfl, ?y2_8⟩) (by assumption) ?r2_8
              case' y2_8 => (intro w hSw; (try dsimp only at hSw); (try have hlS := HLK.out _ hSw); obtain ⟨hcS, hfS⟩ := bcell hSw; clear hSw; go_simp; try with_reducible rfl)
              try simp only [Act.put, List.getElem_toArray, List.getElem_cons_succ, List.getElem_cons_zero, List.setIfInBounds_toArray, List.set_cons_zero, List.set_cons_succ]
              refine wpAnyH_take (i := 9) (v := ?v2_9) rfl (by kernel_rfl) (by kernel_rfl) (by kernel_rfl) (fun _ _ _ h => h) (Or.inl ⟨by rfl, ?y2_9⟩) (by assumption) ?r2_9
              case' y2_9 => (intro w hSw; (try dsimp only at hSw); (try have hlS := HLK.out _ hSw); obtain ⟨hcS, hfS⟩ := bcell hSw; clear hSw; go_simp; try with_reducible rfl)
              try simp only [Act.put, List.getElem_toArray, List.getElem_cons_succ, List.getElem_cons_zero, List.setIfInBounds_toArray, List.set_cons_zero, List.set_cons_succ]
              refine wpAnyH_take (i := 10) (v := ?v2_10) rfl (by kernel_rfl) (by kernel_rfl) (by kernel_rfl) (fun _ _ _ h => h) (Or.inl ⟨by rfl, ?y2_10⟩) (by assumption) ?r2_10
              case' y2_10 => (intro w hSw; (try dsimp only at hSw); (try have hlS := HLK.out _ hSw); obtain ⟨hcS, hfS⟩ := bcell hSw; clear hSw; go_simp; try with_reducible rfl)
              try simp only [Act.put, List.getElem_toArray, List.getElem_cons_succ, List.getElem_cons_zero, List.setIfInBounds_toArray, List.set_cons_zero, List.set_cons_succ]
              refine wpAnyH_done (by kernel_rfl) ?_ _
              go_wp2_with fail
              go_roundw
              case rel => exact ⟨t + 1, by omega, by go_num, fun j hj => by
                  rcases Nat.lt_or_ge j t with h | h
                  · exact hne.out j h
                  · rw [show j = t from by omega, HNY.out, ← ByteArray.toList_eq, ← ByteArray.toList_eq]; exact HE.out, Below.to hBi.out hHeld (Nat.le_refl _)⟩
              case measure => simp [intOf]; omega
          · obtain rfl : t = k := by omega
            have hct := take_hasnt (L := m.names) (x := x.data.toList) (k := t) (by unfold Mo.names; simp; omega) hne.out
            have HCT := hide hct
            clear hct
            go_wp2_with fail
            go_roundw
            case rel => exact ⟨t + 1, by omega, by go_num, fun j hj => by
                rcases Nat.lt_or_ge j t with h | h
                · exact hall.out j h
                · rw [show j = t from by omega, HNM.out, List.nil_append]; exact ⟨HNB.out, HCT.out⟩, Below.to hB.out hBi.out (Nat.le_refl _)⟩
            case measure => simp [intOf]; omega
      · have hnb' : namedB x.data.toList = false := by simpa using hnb
        rw [hnb'] at hna
        have HNA := hide hna
        have hbad : namesB [] m.names = false := namesB_at [] m.names k (by unfold Mo.names; simpa using hlt) hall.out (by rw [HNM.out, hnb']; rfl)
        have he := Mo.err_name h40' h60' hbad
        have HE := hide he
        clear hna hbad he hnb hnb'
        go_wp2_with (go_at_call 38; refine HNA.out.mono ?_; rintro e w1 ⟨rfl, rfl⟩)
        go_ret
        exact ⟨ret_int HE.out.symm, HBW.out⟩
    · have hgood : namesB [] m.names = true := namesB_all [] m.names (fun j hj => hall.out j (by unfold Mo.names at hj; simp at hj; omega))
      have he := Mo.err_rest h40' h60' hgood
      have HE := hide he
      have HBW : Hid (Below w.heap.size w wo) := Below.to HB0.out hB.out (Nat.le_refl _)
      clear hgood he
      go_wp2_with fail
      clear x0 x1
      go_loopw [5] (fun i wr => ∃ t : Nat, t ≤ m.rules.length ∧ i = .int .i64 t ∧ Hid (∀ j, j < t → validF m.opts.length (m.rules.getD j []) = true) ∧ Hid (Below wo.heap.size wo wr)) (fun i _ => m.rules.length - (intOf i).toNat)
      case atStart => exact ⟨0, Nat.zero_le _, rfl, fun j hj => by omega, Below.refl _ _⟩
      case round =>
        obtain ⟨t, ht, rfl, hva, hBi⟩ := hrel
        have hbx := box_to HBX.out hBi.out
        have x0 := cellOf hbx 0
        have x1 := cellOf hbx 1
        have hsl2 := box_lt hbx
        have hBr := Below.to HBW.out hBi.out (Nat.le_refl _)
        have HBR := hide hBr
        clear hbx
        by_cases htl : t < m.rules.length
        · obtain ⟨rfl, hbb⟩ : Al = some ⟨bl, offl, none⟩ ∧ bl < w.heap.size := by
            rcases HAL.out with h | h
            · exact h
            · omega
          obtain ⟨f, hfe⟩ : ∃ f, m.rules.getD t [] = f := ⟨_, rfl⟩
          have hfm : f ∈ m.rules := by rw [← hfe]; exact getD_mem htl
          have hfs := HS.out.r.2 f hfm
          have hin : Ints w w.heap.size (fvs t) f := by have := HFI.out t htl; rwa [hfe] at this
          obtain ⟨Af, capf, hff⟩ := Sl.form hin
          have c0 : wr.cell? ⟨bl, offl + t, none⟩ = some (.slice Af f.length capf) := by
            have h1 := HCL.out t 0 htl (by omega)
            rw [Nat.mul_one, Nat.add_zero, hff] at h1
            exact (hBr.cell (p := ⟨bl, offl + t, none⟩) hbb).trans h1
          have lb : bl < wr.heap.size := Nat.lt_of_lt_of_le hbb hBr.size
          rw [hff] at hin
          have hvv : ∀ W, Below wr.heap.size wr W → Calls Tryd.prog 39 #[.slice Af f.length capf, .int .i64 m.opts.length] W fun e w' => e = .returned (.bool (validF m.opts.length f)) ∧ W = w' :=
            fun W hW => rValid_any f m.opts.length _ w.heap.size W hfs (hin.below (Below.to HBR.out hW (Nat.le_refl _)))
          have it0 : (0 : Int) ≤ (t : Int) := by omega
          have it2 : (t : Int) < (m.rules.length : Int) := by omega
          have HF := hide hfe
          cases hvf : validF m.opts.length f with
          | true =>
            rw [hvf] at hvv
            have HVV := hide hvv
            have HVF := hide hvf
            clear hfm hin hff hfe hvv hvf hBr
            go_wp2_with fail
            refine wp_region_held_drew (S := (fun w' => Below wr.heap.size wr w')) (by kernel_rfl) ?_ (fun hHeld => ?_)
            · try dsimp only
              exact (by repeat (first | exact Below.refl _ _ | assumption | refine Below.drew ?_ | refine Below.drewN ?_ _ | refine Below.allocT ?_ (Nat.le_refl _) _ | refine Below.setCell ?_ (by simp <;> omega) _ | refine Below.to ?_ (by assumption) (Nat.le_refl _)))
            refine wpAnyH_take (i := 0) (v := ?v3_0) rfl (by kernel_rfl) (by kernel_rfl) (by kernel_rfl) (fun _ _ _ h => h) (Or.inl ⟨by rfl, ?y3_0⟩) (by assumption) ?r3_0
            case' y3_0 => (intro w hSw; (try dsimp only at hSw); (try have hlS := HLK.out _ hSw); obtain ⟨hcS, hfS⟩ := bcell hSw; clear hSw; go_simp; try with_reducible rfl)
            try simp only [Act.put, List.getElem_toArray, List.getElem_cons_succ, List.getElem_cons_zero, List.setIfInBounds_toArray, List.set_cons_zero, List.set_cons_succ]
            refine wpAnyH_take (i := 1) (v := ?v3_1) rfl (by kernel_rfl) (by kernel_rfl) (by kernel_rfl) (fun _ _ _ h => h) (Or.inl ⟨by rfl, ?y3_1⟩) (by assumption) ?r3_1
            case' y3_1 => (intro w hSw; (try dsimp only at hSw); (try have hlS := HLK.out _ hSw); obtain ⟨hcS, hfS⟩ := bcell hSw; clear hSw; go_simp; try with_reducible rfl)
            try simp only [Act.put, List.getElem_toArray, List.getElem_cons_succ, List.getElem_cons_zero, List.setIfInBounds_toArray, List.set_cons_zero, List.set_cons_succ]
            refine wpAnyH_take (i := 2) (v := ?v3_2) rfl (by kernel_rfl) (by kernel_rfl) (by kernel_rfl) (fun _ _ _ h => h) (Or.inl ⟨by rfl, ?y3_2⟩) (by assumption) ?r3_2
            case' y3_2 => (intro w hSw; (try dsimp only at hSw); (try have hlS := HLK.out _ hSw); obtain ⟨hcS, hfS⟩ := bcell hSw; clear hSw; go_simp; try with_reducible rfl)
            try simp only [Act.put, List.getElem_toArray, List.getElem_cons_succ, List.getElem_cons_zero, List.setIfInBounds_toArray, List.set_cons_zero, List.set_cons_succ]
            refine wpAnyH_take (i := 3) (v := ?v3_3) rfl (by kernel_rfl) (by kernel_rfl) (by kernel_rfl) (fun _ _ _ h => h) (Or.inl ⟨by rfl, ?y3_3⟩) (by assumption) ?r3_3
            case' y3_3 => (intro w hSw; (try dsimp only at hSw); (try have hlS := HLK.out _ hSw); obtain ⟨hcS, hfS⟩ := bcell hSw; clear hSw; go_simp; try with_reducible rfl)
            try simp only [Act.put, List.getElem_toArray, List.getElem_cons_succ, List.getElem_cons_zero, List.setIfInBounds_toArray, List.set_cons_zero, List.set_cons_succ]
            refine wpAnyH_take (i := 4) (v := ?v3_4) rfl (by kernel_rfl) (by kernel_rfl) (by kernel_rfl) (fun _ _ _ h => h) (Or.inl ⟨by rfl, ?y3_4⟩) (by assumption) ?r3_4
            case' y3_4 => (intro w hSw; (try dsimp only at hSw); (try have hlS := HLK.out _ hSw); obtain ⟨hcS, hfS⟩ := bcell hSw; clear hSw; go_simp; try with_reducible rfl)
            try simp only [Act.put, List.getElem_toArray, List.getElem_cons_succ, List.getElem_cons_zero, List.setIfInBounds_toArray, List.set_cons_zero, List.set_cons_succ]
            refine wpAnyH_take (i := 5) (v := ?v3_5) rfl (by kernel_rfl) (by kernel_rfl) (by kernel_rfl) (fun _ _ _ h => h) (Or.inl ⟨by rfl, ?y3_5⟩) (by assumption) ?r3_5
            case' y3_5 => (intro w hSw; (try dsimp only at hSw); (try have hlS := HLK.out _ hSw); obtain ⟨hcS, hfS⟩ := bcell hSw; clear hSw; go_simp; try with_reducible rfl)
            try simp only [Act.put, List.getElem_toArray, List.getElem_cons_succ, List.getElem_cons_zero, List.setIfInBounds_toArray, List.set_cons_zero, List.set_cons_succ]
            refine wpAnyH_take (i := 6) (v := ?v3_6) rfl (by kernel_rfl) (by kernel_rfl) (by kernel_rfl) (fun _ _ _ h => h) (Or.inl ⟨by rfl, ?y3_6⟩) (by assumption) ?r3_6
            case' y3_6 => (intro w hSw; (try dsimp only at hSw); (try have hlS := HLK.out _ hSw); obtain ⟨hcS, hfS⟩ := bcell hSw; clear hSw; go_simp; try with_reducible rfl)
            try simp only [Act.put, List.getElem_toArray, List.getElem_cons_succ, List.getElem_cons_zero, List.setIfInBounds_toArray, List.set_cons_zero, List.set_cons_succ]
            refine wpAnyH_take (i := 7) (v := ?v3_7) rfl (by kernel_rfl) (by kernel_rfl) (by kernel_rfl) (fun _ _ _ h => h) (Or.inl ⟨by rfl, ?y3_7⟩) (by assumption) ?r3_7
            case' y3_7 => (intro w hSw; (try dsimp only at hSw); (try have hlS := HLK.out _ hSw); obtain ⟨hcS, hfS⟩ := bcell hSw; clear hSw; go_simp; try with_reducible rfl)
            try simp only [Act.put, List.getElem_toArray, List.getElem_cons_succ, List.getElem_cons_zero, List.setIfInBounds_toArray, List.set_cons_zero, List.set_cons_succ]
            refine wpAnyH_ready (rs := [8]) (by kernel_rfl) (by simp) ?_
            refine AllReadyH.cons rfl (fun K hK => ?_) AllReadyH.nil
            go_simp
            ((go_at_call 39; refine (HVV.out _ (by repeat (first | exact Below.refl _ _ | assumption | refine Below.drew ?_ | refine Below.drewN ?_ _ | refine Below.allocT ?_ (Nat.le_refl _) _ | refine Below.setCell ?_ (by simp <;> omega) _ | refine Below.to ?_ (by assumption) (Nat.le_refl _)))).mono ?_; rintro e w1 ⟨rfl, rfl⟩))
            (try dsimp only)
            refine hK.out _ _ ?_ (fun hNext => ?_)
            · try dsimp only
              exact (by repeat (first | exact Below.refl _ _ | assumption | refine Below.drew ?_ | refine Below.drewN ?_ _ | refine Below.allocT ?_ (Nat.le_refl _) _ | refine Below.setCell ?_ (by simp <;> omega) _ | refine Below.to ?_ (by assumption) (Nat.le_refl _)))
            clear hK K hHeld
            have hHeld := hNext
            clear hNext
            (try dsimp only at hHeld)
            try simp only [Act.put, List.getElem_toArray, List.getElem_cons_succ, List.getElem_cons_zero, List.setIfInBounds_toArray, List.set_cons_zero, List.set_cons_succ]
            refine wpAnyH_take (i := 9) (v := ?v3_9) rfl (by kernel_rfl) (by kernel_rfl) (by kernel_rfl) (fun _ _ _ h => h) (Or.inl ⟨by rfl, ?y3_9⟩) (by assumption) ?r3_9
            case' y3_9 => (intro w hSw; (try dsimp only at hSw); (try have hlS := HLK.out _ hSw); obtain ⟨hcS, hfS⟩ := bcell hSw; clear hSw; go_simp; try with_reducible rfl)
            try simp only [Act.put, List.getElem_toArray, List.getElem_cons_succ, List.getElem_cons_zero, List.setIfInBounds_toArray, List.set_cons_zero, List.set_cons_succ]
            refine wpAnyH_done (by kernel_rfl) ?_ _
            go_wp2_with fail
            go_roundw
            case rel => exact ⟨t + 1, by omega, by go_num, fun j hj => by
                rcases Nat.lt_or_ge j t with h | h
                · exact hva.out j h
                · rw [show j = t from by omega, HF.out]; exact HVF.out, Below.to hBi.out hHeld (Nat.le_refl _)⟩
            case measure => simp [intOf]; omega
          | false =>
            rw [hvf] at hvv
            have HVV := hide hvv
            have hee : m.err = 11 := by rw [HE.out, if_pos (not_valid htl (by rw [hfe]; exact hvf))]
            have HEE := hide hee
            clear hfm hin hff hfe hvv hvf hBr hee
            go_wp2_with fail
            refine wp_region_held_drew (S := (fun w' => Below wr.heap.size wr w')) (by kernel_rfl) ?_ (fun hHeld => ?_)
            · try dsimp only
              exact (by repeat (first | exact Below.refl _ _ | assumption | refine Below.drew ?_ | refine Below.drewN ?_ _ | refine Below.allocT ?_ (Nat.le_refl _) _ | refine Below.setCell ?_ (by simp <;> omega) _ | refine Below.to ?_ (by assumption) (Nat.le_refl _)))
            refine wpAnyH_take (i := 0) (v := ?v4_0) rfl (by kernel_rfl) (by kernel_rfl) (by kernel_rfl) (fun _ _ _ h => h) (Or.inl ⟨by rfl, ?y4_0⟩) (by assumption) ?r4_0
            case' y4_0 => (intro w hSw; (try dsimp only at hSw); (try have hlS := HLK.out _ hSw); obtain ⟨hcS, hfS⟩ := bcell hSw; clear hSw; go_simp; try with_reducible rfl)
            try simp only [Act.put, List.getElem_toArray, List.getElem_cons_succ, List.getElem_cons_zero, List.setIfInBounds_toArray, List.set_cons_zero, List.set_cons_succ]
            refine wpAnyH_take (i := 1) (v := ?v4_1) rfl (by kernel_rfl) (by kernel_rfl) (by kernel_rfl) (fun _ _ _ h => h) (Or.inl ⟨by rfl, ?y4_1⟩) (by assumption) ?r4_1
            case' y4_1 => (intro w hSw; (try dsimp only at hSw); (try have hlS := HLK.out _ hSw); obtain ⟨hcS, hfS⟩ := bcell hSw; clear hSw; go_simp; try with_reducible rfl)
            try simp only [Act.put, List.getElem_toArray, List.getElem_cons_succ, List.getElem_cons_zero, List.setIfInBounds_toArray, List.set_cons_zero, List.set_cons_succ]
            refine wpAnyH_take (i := 2) (v := ?v4_2) rfl (by kernel_rfl) (by kernel_rfl) (by kernel_rfl) (fun _ _ _ h => h) (Or.inl ⟨by rfl, ?y4_2⟩) (by assumption) ?r4_2
            case' y4_2 => (intro w hSw; (try dsimp only at hSw); (try have hlS := HLK.out _ hSw); obtain ⟨hcS, hfS⟩ := bcell hSw; clear hSw; go_simp; try with_reducible rfl)
            try simp only [Act.put, List.getElem_toArray, List.getElem_cons_succ, List.getElem_cons_zero, List.setIfInBounds_toArray, List.set_cons_zero, List.set_cons_succ]
            refine wpAnyH_take (i := 3) (v := ?v4_3) rfl (by kernel_rfl) (by kernel_rfl) (by kernel_rfl) (fun _ _ _ h => h) (Or.inl ⟨by rfl, ?y4_3⟩) (by assumption) ?r4_3
            case' y4_3 => (intro w hSw; (try dsimp only at hSw); (try have hlS := HLK.out _ hSw); obtain ⟨hcS, hfS⟩ := bcell hSw; clear hSw; go_simp; try with_reducible rfl)
            try simp only [Act.put, List.getElem_toArray, List.getElem_cons_succ, List.getElem_cons_zero, List.setIfInBounds_toArray, List.set_cons_zero, List.set_cons_succ]
            refine wpAnyH_take (i := 4) (v := ?v4_4) rfl (by kernel_rfl) (by kernel_rfl) (by kernel_rfl) (fun _ _ _ h => h) (Or.inl ⟨by rfl, ?y4_4⟩) (by assumption) ?r4_4
            case' y4_4 => (intro w hSw; (try dsimp only at hSw); (try have hlS := HLK.out _ hSw); obtain ⟨hcS, hfS⟩ := bcell hSw; clear hSw; go_simp; try with_reducible rfl)
            try simp only [Act.put, List.getElem_toArray, List.getElem_cons_succ, List.getElem_cons_zero, List.setIfInBounds_toArray, List.set_cons_zero, List.set_cons_succ]
            refine wpAnyH_take (i := 5) (v := ?v4_5) rfl (by kernel_rfl) (by kernel_rfl) (by kernel_rfl) (fun _ _ _ h => h) (Or.inl ⟨by rfl, ?y4_5⟩) (by assumption) ?r4_5
            case' y4_5 => (intro w hSw; (try dsimp only at hSw); (try have hlS := HLK.out _ hSw); obtain ⟨hcS, hfS⟩ := bcell hSw; clear hSw; go_simp; try with_reducible rfl)
            try simp only [Act.put, List.getElem_toArray, List.getElem_cons_succ, List.getElem_cons_zero, List.setIfInBounds_toArray, List.set_cons_zero, List.set_cons_succ]
            refine wpAnyH_take (i := 6) (v := ?v4_6) rfl (by kernel_rfl) (by kernel_rfl) (by kernel_rfl) (fun _ _ _ h => h) (Or.inl ⟨by rfl, ?y4_6⟩) (by assumption) ?r4_6
            case' y4_6 => (intro w hSw; (try dsimp only at hSw); (try have hlS := HLK.out _ hSw); obtain ⟨hcS, hfS⟩ := bcell hSw; clear hSw; go_simp; try with_reducible rfl)
            try simp only [Act.put, List.getElem_toArray, List.getElem_cons_succ, List.getElem_cons_zero, List.setIfInBounds_toArray, List.set_cons_zero, List.set_cons_succ]
            refine wpAnyH_take (i := 7) (v := ?v4_7) rfl (by kernel_rfl) (by kernel_rfl) (by kernel_rfl) (fun _ _ _ h => h) (Or.inl ⟨by rfl, ?y4_7⟩) (by assumption) ?r4_7
            case' y4_7 => (intro w hSw; (try dsimp only at hSw); (try have hlS := HLK.out _ hSw); obtain ⟨hcS, hfS⟩ := bcell hSw; clear hSw; go_simp; try with_reducible rfl)
            try simp only [Act.put, List.getElem_toArray, List.getElem_cons_succ, List.getElem_cons_zero, List.setIfInBounds_toArray, List.set_cons_zero, List.set_cons_succ]
            refine wpAnyH_ready (rs := [8]) (by kernel_rfl) (by simp) ?_
            refine AllReadyH.cons rfl (fun K hK => ?_) AllReadyH.nil
            go_simp
            ((go_at_call 39; refine (HVV.out _ (by repeat (first | exact Below.refl _ _ | assumption | refine Below.drew ?_ | refine Below.drewN ?_ _ | refine Below.allocT ?_ (Nat.le_refl _) _ | refine Below.setCell ?_ (by simp <;> omega) _ | refine Below.to ?_ (by assumption) (Nat.le_refl _)))).mono ?_; rintro e w1 ⟨rfl, rfl⟩))
            (try dsimp only)
            refine hK.out _ _ ?_ (fun hNext => ?_)
            · try dsimp only
              exact (by repeat (first | exact Below.refl _ _ | assumption | refine Below.drew ?_ | refine Below.drewN ?_ _ | refine Below.allocT ?_ (Nat.le_refl _) _ | refine Below.setCell ?_ (by simp <;> omega) _ | refine Below.to ?_ (by assumption) (Nat.le_refl _)))
            clear hK K hHeld
            have hHeld := hNext
            clear hNext
            (try dsimp only at hHeld)
            try simp only [Act.put, List.getElem_toArray, List.getElem_cons_succ, List.getElem_cons_zero, List.setIfInBounds_toArray, List.set_cons_zero, List.set_cons_succ]
            refine wpAnyH_take (i := 9) (v := ?v4_9) rfl (by kernel_rfl) (by kernel_rfl) (by kernel_rfl) (fun _ _ _ h => h) (Or.inl ⟨by rfl, ?y4_9⟩) (by assumption) ?r4_9
            case' y4_9 => (intro w hSw; (try dsimp only at hSw); (try have hlS := HLK.out _ hSw); obtain ⟨hcS, hfS⟩ := bcell hSw; clear hSw; go_simp; try with_reducible rfl)
            try simp only [Act.put, List.getElem_toArray, List.getElem_cons_succ, List.getElem_cons_zero, List.setIfInBounds_toArray, List.set_cons_zero, List.set_cons_succ]
            refine wpAnyH_done (by kernel_rfl) ?_ _
            go_wp2_with fail
            go_ret
            exact ⟨ret_int HEE.out.symm, Below.to HBR.out hHeld (Nat.le_refl _)⟩
        · have hee : m.err = 0 := by rw [HE.out, if_neg (by rw [all_valid fun j hj => hva.out j (by omega)]; simp)]
          have HEE := hide hee
          clear hee hBr
          go_wp2_with fail
          go_ret
          exact ⟨ret_int HEE.out.symm, HBR.out⟩
end Go.Proofs.YtjimbcklnnhloaaDoor
/- The reader of a formula: a term that begins with a bang. -/
namespace Go.Proofs.YtjimbcklnnhloaaDoor
open Go.RowKit
set_option linter.unusedVariables false
set_option linter.unusedSimpArgs false
set_option maxRecDepth 100000 in
set_option maxHeartbeats 4000000 in
theorem term_bang (b B : Nat) (hbB : b < B) (nv fv : Value) (s : ByteArray) (st : Bool) (xs : List Int) (w : World) (hs : s.size ≤ maxLen) (hb : RdB w b nv s fv st) (hBw : B ≤ w.heap.size) (ho : NumS w B fv xs) (hl : xs.length ≤ 1000000) (h0 : 0 < s.size) (h1 : s[0] = 33) (o : Option (List UInt8 × List Int × Bool))
    (hr : ∀ (w1 : World) (fv1 : Value), RdB w1 b nv (s.extract 1 s.size) fv1 st → NumS w1 B fv1 (xs ++ [-3]) → Bx b B w w1 → Calls Tryd.prog 37 #[.pointer (some ⟨b, 0, none⟩)] w1 (RdP b B nv st (xs ++ [-3]) w1 o)) :
    Calls Tryd.prog 37 #[.pointer (some ⟨b, 0, none⟩)] w (RdP b B nv st xs w (o.map fun x => (x.1, -3 :: x.2.1, x.2.2))) := by
  obtain ⟨i0, hi0, hz0, hz1, hz2⟩ := info_parts infoInt
  obtain ⟨A, cap, hfv⟩ := owns_shape ho
  subst hfv
  obtain ⟨z1, z2⟩ := str_full h0
  have e1 : ((s[0].toNat : Int) == 33) = true := by rw [h1]; rfl
  have k1 : (1 : Int) ≤ (s.size : Int) := by omega
  unfold maxLen at hs
  have c0 := cellOf hb 1
  have c2 := unfrozenOf hb 1
  have c3 := box_lt hb
  have HX := hide hb
  have HO := hide ho
  have HL := hide hl
  have HR := hide hr
  clear hb ho hl hr h1
  go_enter Tryd.func37, Tryd.ntmps37
  go_upto_region 6 with (fail)
  have HX1 : Hid (RdB (w.setCell ⟨b, 1, none⟩ (.string (s.extract 1 s.size))) b nv (s.extract 1 s.size) (.slice A xs.length cap) st) := setCellOf (i := 1) HX.out _
  have HO1 : Hid (NumS (w.setCell ⟨b, 1, none⟩ (.string (s.extract 1 s.size))) B (.slice A xs.length cap) xs) := ownsRow_setCell_below HO.out hbB _
  have HB1 := hide (show Bx b B w (w.setCell ⟨b, 1, none⟩ (.string (s.extract 1 s.size))) from Bx.setCell hbB (Bx.refl b B w) _)
  generalize (w.setCell ⟨b, 1, none⟩ (.string (s.extract 1 s.size))) = w1 at HX1 HO1 HB1 ⊢
  clear c0 c2 c3
  have d9 := HB1.out.big hBw
  have c0 := cellOf HX1.out 2
  have c2 := unfrozenOf HX1.out 2
  have c3 := box_lt HX1.out
  go_upto_region 7 with (at_builtin; go_must (refine wpList_append_own_at _ rfl (.tmp 32) (.tmp 33) _ rfl (B) 3 i0 _ 1 8 Tryd.underlying27 hi0 hz0 hz1 hz2 rfl (by omega) _ _ _ rfl ((HO1.out).alloc _) ⟨w1.heap.size, 0, none⟩ 1 1 [.int .i64 (-3)] rfl rfl (World.news_of_block (heap_alloc_new w1 _)) (by simp [Value.oneCell']) (by have h1 := HL.out; unfold maxLen; omega) (by have h1 := HL.out; omega) (by have h1 := d9; simp; omega) ?_); intro v1 w3 hown1 hg1 _ hat1; obtain ⟨A1, cap1, hv1⟩ := owns_shape hown1; subst hv1; have HB3 : Hid (Below B w1 w3) := Below.grown ((Below.refl _ _).alloc d9 _) hg1 (by simp; omega) (fun j hj => (HO1.out.lt j hj).1); have HX3 : Hid (RdB w3 b nv (s.extract 1 s.size) (.slice A xs.length cap) st) := (HB3.out.block b hbB).trans HX1.out; have HO3 := hide hown1; have d0 := cellOf HX3.out 2; have d2 := unfrozenOf HX3.out 2; have d3 := box_lt HX3.out; clear hown1 hg1 hat1)
  have HX4 : Hid (RdB (w3.setCell ⟨b, 2, none⟩ (.slice A1 (xs.length + 1) cap1)) b nv (s.extract 1 s.size) (.slice A1 (xs.length + 1) cap1) st) := setCellOf (i := 2) HX3.out _
  have HO4 : Hid (NumS (w3.setCell ⟨b, 2, none⟩ (.slice A1 (xs.length + 1) cap1)) B (.slice A1 (xs.length + 1) cap1) (xs ++ [-3])) := by
    have := ownsRow_setCell_below HO3.out (a := ⟨b, 2, none⟩) hbB (.slice A1 (xs.length + 1) cap1)
    show NumS _ _ _ _
    unfold NumS
    rw [List.length_append, List.map_append]
    exact this
  have HB4 := hide (show Bx b B w (w3.setCell ⟨b, 2, none⟩ (.slice A1 (xs.length + 1) cap1)) from Bx.setCell hbB (Bx.trans HB1.out (Bx.of HB3.out hbB)) _)
  generalize (w3.setCell ⟨b, 2, none⟩ (.slice A1 (xs.length + 1) cap1)) = w4 at HX4 HO4 HB4 ⊢
  have HC := hide (HR.out w4 _ HX4.out HO4.out HB4.out)
  clear c0 c2 c3 d0 d2 d3 HR
  cases o with
  | none =>
    go_wp2_with (go_at_call 37; refine HC.out.mono ?_; rintro e w5 ⟨hB, rfl⟩; have HB := hide hB; clear hB)
    exact ⟨rfl, Bx.trans HB4.out HB.out, rfl⟩
  | some x =>
    go_wp2_with (go_at_call 37; refine HC.out.mono ?_; rintro e w5 ⟨hB, rfl, hx⟩; have HB := hide hB; have HXX := hide hx; clear hB hx)
    go_end0
    obtain ⟨s', fv', g1, g2, g3⟩ := HXX.out
    refine ⟨Bx.trans HB4.out HB.out, rfl, s', fv', g1, g2, ?_⟩
    rw [List.append_assoc] at g3
    exact g3
end Go.Proofs.YtjimbcklnnhloaaDoor

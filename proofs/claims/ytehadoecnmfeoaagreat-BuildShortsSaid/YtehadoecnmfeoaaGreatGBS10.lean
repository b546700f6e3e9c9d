/- Part 10 of this claim's texts: walks and plain laws. -/
import Derived.Test.YtehadoecnmfeoaaGreatGBS1
import Derived.Test.YtehadoecnmfeoaaGreatGBS9
import Derived.Test.YtehadoecnmfeoaaGreatRows
import Derived.Test.YtehadoecnmfeoaaGreatGBS7
import Derived.WalkLawsBesides
import Derived.WalkSpells
import Derived.Deep.QuietTactic
set_option linter.unusedVariables false
set_option linter.unusedSimpArgs false
set_option linter.unusedSectionVars false
namespace Go.Proofs.YtehadoecnmfeoaaGreat
open Go.Joins Go.ChangeShapes Go.WideShapes Go.ChangeAt Go.RowKit Go.Deep

theorem choose_upto {α : Type} (z : α) {n : Nat} {Q : Nat → α → Prop} (h : ∀ i, i < n → ∃ x, Q i x) : ∃ xs : List α, xs.length = n ∧ ∀ i, i < n → Q i (xs.getD i z) := by
 induction n with
 | zero => exact ⟨[], rfl, fun i hi => absurd hi (by omega)⟩
 | succ n ih =>
  obtain ⟨xs, hl, hx⟩ := ih fun i hi => h i (by omega)
  obtain ⟨y, hy⟩ := h n (by omega)
  refine ⟨xs ++ [y], by simp [hl], fun i hi => ?_⟩
  rcases Nat.lt_or_ge i n with h1 | h1
  ·
   have := hx i h1
   rw [List.getD_eq_getElem?_getD, List.getElem?_append_left (by omega), ← List.getD_eq_getElem?_getD]
   exact this
  ·
   have he : i = n := by omega
   subst he
   rw [List.getD_eq_getElem?_getD, List.getElem?_append_right (by omega), hl]
   simpa using hy

section
variable {H : Type} {enc : TypeId × Value → H} {P : Program} {w : World} {base : Nat} {spare : Nat → Bool} {held : Bool}
theorem addr_of_cell {a : Addr} {u : Value} (h : w.cell? (a.add 0) = some u) : a.spot = none ∧ a.block < w.heap.size := by
 have h' : w.cell? a = some u := h
 unfold World.cell? at h'
 cases hh : w.heap[a.block]? with
 | none => rw [hh] at h'; cases h'
 | some o =>
  refine ⟨?_, (Array.getElem?_eq_some_iff.1 hh).1⟩
  rw [hh] at h'
  cases o with
  | cells c t f =>
   simp only at h'
   cases hsp : a.spot with
   | none => rfl
   | some q => rw [if_pos (by simp [hsp])] at h'; cases h'
  | _ => cases h'
theorem cell_of_add {a : Addr} {m : Nat} {u : Value} (hs : a.spot = none) (h : w.cell? (a.add m) = some u) : w.cell? ⟨a.block, a.off + m, none⟩ = some u := by
 obtain ⟨b, o, s⟩ := a
 simp only at hs
 subst hs
 unfold Addr.add at h
 split at h
 ·
  rename_i h0
  rw [h0]; exact h
 ·
  exact h

theorem open_rows {α : Type} (z : α) (F : α → Nat → Value) (R : α → Prop) {t e : TypeId} {sz n : Nat} {c : Value} {y : DataW H × List MemPlace} (ht : P.underlying t = some (.slice e)) (hC : P.cellsOf e = sz) (hsz : 0 < sz)
  (hopen : ∀ (n : Nat) (cs' : List Value) (y : DataW H × List MemPlace), cs'.length = sz → DataW.trod enc P w base spare held n e cs' = some y → ∃ x : α, (∀ j, j < sz → cs'[j]? = some (F x j)) ∧ R x)
  (h : DataW.trod enc P w base spare held n t [c] = some y) :
  ∃ xs : List α, Sl w w.heap.size sz c xs.length (fun i j => F (xs.getD i z) j) ∧ xs.length ≤ maxLen ∧ ∀ i, i < xs.length → R (xs.getD i z) := by
 rcases open_slice ht h with ⟨hcs, _⟩ | ⟨a, len, cap, m, n', D, Pl, hcs, _, hl, hm, hmm, _, hel⟩
 ·
  simp at hcs
  subst hcs
  exact ⟨[], Sl.nil _ _ _ _, by simp, fun i hi => absurd hi (by simp)⟩
 ·
  simp at hcs
  subst hcs
  have hlm : len ≤ m := by rw [hmm]; split <;> omega
  have hx : ∀ i, i < len → ∃ x : α, (∀ j, j < sz → w.cell? (a.add (i * sz + j)) = some (F x j)) ∧ R x := by
   intro i hi
   obtain ⟨cs', hc, ht'⟩ := hel i (by omega)
   rw [hC] at hc
   obtain ⟨_, hcl, hat⟩ := World.cells?_some hc
   obtain ⟨x, hx, hr⟩ := hopen _ _ _ hcl ht'
   refine ⟨x, fun j hj => ?_, hr⟩
   rw [← Go.Deep.add_add, hat j hj]
   exact hx j hj
  obtain ⟨xs, hlen, hxs⟩ := choose_upto z hx
  refine ⟨xs, ?_, by omega, fun i hi => (hxs i (by omega)).2⟩
  rw [hlen]
  rcases Nat.eq_zero_or_pos len with h0 | h0
  ·
   exact ⟨_, 0, 0, _, rfl, hl, .inr h0, fun i j hi => absurd hi (by omega)⟩
  ·
   have h1 := (hxs 0 h0).1 0 hsz
   rw [Nat.zero_mul] at h1
   obtain ⟨hs, hb⟩ := addr_of_cell h1
   exact ⟨_, a.block, a.off, _, rfl, hl, .inl ⟨by rw [← hs], hb⟩, fun i j hi hj => cell_of_add hs ((hxs i hi).1 j hj)⟩
end
set_option maxRecDepth 100000
section
variable {H : Type} {enc : TypeId × Value → H} {W : World} {base b0 : Nat} {r : Reach} {spare : Nat → Bool} {held : Bool} {v : Value} {d : DataW H} {p : List MemPlace}
def I64 (n : Int) : Prop := -9223372036854775808 ≤ n ∧ n ≤ 9223372036854775807
theorem I64.of {n : Int} (h : (Lit.int .i64 n).wf = true) : I64 n := by
 simp [Lit.wf, IntKind.min, IntKind.max, IntKind.signed, IntKind.bits] at h
 exact ⟨by omega, by omega⟩
theorem int_cell {n : Nat} {c : Value} {y : DataW H × List MemPlace} (h : DataW.trod enc Tryz.prog W base spare held n 3 [c] = some y) : ∃ a, c = .int .i64 a ∧ I64 a := by
 obtain ⟨a, e0, _, wa⟩ := DataW.trod_int Tryz.underlying3 h
 simp at e0
 exact ⟨a, e0, I64.of wa⟩
theorem cellsInt : Tryz.prog.cellsOf 3 = 1 := by kernel_rfl
theorem cellsStr : Tryz.prog.cellsOf 9 = 1 := by kernel_rfl
theorem cellsFo : Tryz.prog.cellsOf 46 = 1 := by kernel_rfl
theorem ints_cell {t n : Nat} {c : Value} {y : DataW H × List MemPlace} (ht : Tryz.prog.underlying t = some (.slice 3)) (h : DataW.trod enc Tryz.prog W base spare held n t [c] = some y) :
  ∃ f : List Int, Ints W W.heap.size c f ∧ f.length ≤ maxLen ∧ ∀ x ∈ f, I64 x := by
 obtain ⟨xs, hsl, hl, hR⟩ := open_rows (α := Int) 0 (fun x _ => .int .i64 x) I64 ht cellsInt (by omega) (by
  intro n cs' y hlen ht
  match cs', hlen with
  | [c0], _ =>
   obtain ⟨a, rfl, ha⟩ := int_cell ht
   refine ⟨a, fun j hj => ?_, ha⟩
   match j, hj with
   | 0, _ => rfl) h
 refine ⟨xs, hsl, hl, fun x hx => ?_⟩
 obtain ⟨i, hi, rfl⟩ := List.mem_iff_getElem.1 hx
 have := hR i hi
 rwa [List.getD_eq_getElem?_getD, List.getElem?_eq_getElem hi, Option.getD_some] at this
theorem strs_cell {t n : Nat} {c : Value} {y : DataW H × List MemPlace} (ht : Tryz.prog.underlying t = some (.slice 9)) (h : DataW.trod enc Tryz.prog W base spare held n t [c] = some y) :
  ∃ f : List ByteArray, Names W W.heap.size c f ∧ f.length ≤ maxLen ∧ ∀ x ∈ f, x.size ≤ maxLen := by
 obtain ⟨xs, hsl, hl, hR⟩ := open_rows (α := ByteArray) ByteArray.empty (fun x _ => .string x) (fun x => x.size ≤ maxLen) ht cellsStr (by omega) (by
  intro n cs' y hlen ht
  match cs', hlen with
  | [c0], _ =>
   obtain ⟨s, h1, _, h3⟩ := DataW.trod_string Tryz.underlying9 ht
   simp at h1
   subst h1
   refine ⟨s, fun j hj => ?_, h3⟩
   match j, hj with
   | 0, _ => rfl) h
 refine ⟨xs, hsl, hl, fun x hx => ?_⟩
 obtain ⟨i, hi, rfl⟩ := List.mem_iff_getElem.1 hx
 have := hR i hi
 rwa [List.getD_eq_getElem?_getD, List.getElem?_eq_getElem hi, Option.getD_some] at this
theorem forms_cell {t n : Nat} {c : Value} {y : DataW H × List MemPlace} (ht : Tryz.prog.underlying t = some (.slice 46)) (h : DataW.trod enc Tryz.prog W base spare held n t [c] = some y) :
  ∃ fs : List (List Int), Forms W W.heap.size c fs ∧ Sized fs := by
 obtain ⟨xs, hsl, hl, hR⟩ := open_rows (α := List Int × Value) ([], .slice none 0 0) (fun x _ => x.2) (fun x => Ints W W.heap.size x.2 x.1 ∧ x.1.length ≤ maxLen) ht cellsFo (by omega) (by
  intro n cs' y hlen ht
  match cs', hlen with
  | [c0], _ =>
   obtain ⟨f, hf, hfl, _⟩ := ints_cell Tryz.underlying46 ht
   refine ⟨(f, c0), fun j hj => ?_, hf, hfl⟩
   match j, hj with
   | 0, _ => rfl) h
 have hg : ∀ i, i < xs.length → (xs.map (·.1)).getD i [] = (xs.getD i ([], .slice none 0 0)).1 := fun i hi => by simp [hi]
 refine ⟨xs.map (·.1), ⟨fun i => (xs.getD i ([], .slice none 0 0)).2, ?_, fun i hi => ?_⟩, by simpa using hl, fun f hf => ?_⟩
 ·
  rw [List.length_map]
  exact hsl
 ·
  rw [List.length_map] at hi
  rw [hg i hi]
  exact (hR i hi).1
 ·
  obtain ⟨x, hx, rfl⟩ := List.mem_map.1 hf
  obtain ⟨i, hi, rfl⟩ := List.mem_iff_getElem.1 hx
  have := (hR i hi).2
  rwa [List.getD_eq_getElem?_getD, List.getElem?_eq_getElem hi, Option.getD_some] at this
end
set_option maxRecDepth 100000
structure Kt where
 o : Int
 l : Int
 h : Int
def Kt.z : Kt := ⟨0, 0, 0⟩
def ktF (k : Kt) (j : Nat) : Value := match j with
 | 0 => .int .i64 k.o
 | 1 => .int .i64 k.l
 | _ => .int .i64 k.h
def Kts (w : World) (B : Nat) (v : Value) (ks : List Kt) : Prop := Sl w B 3 v ks.length (fun i j => ktF (ks.getD i Kt.z) j)
def goB (ks : List Kt) (before : Nat) (o q : Int) : Bool := q == -1 || q == -2 || (decide (0 ≤ q) && decide (q < before) && decide (o < (ks.getD q.toNat Kt.z).o))
def okB (n : Nat) (ks : List Kt) (i : Nat) : Bool := decide (0 ≤ (ks.getD i Kt.z).o) && decide ((ks.getD i Kt.z).o < n) && goB ks i (ks.getD i Kt.z).o (ks.getD i Kt.z).l && goB ks i (ks.getD i Kt.z).o (ks.getD i Kt.z).h
def nxt (ks : List Kt) (v : List Bool) (r : Int) : Int := if v.getD (ks.getD r.toNat Kt.z).o.toNat false then (ks.getD r.toNat Kt.z).h else (ks.getD r.toNat Kt.z).l
def flw (ks : List Kt) (v : List Bool) : Nat → Int → Int
 | 0, r => r
 | n + 1, r => if r < 0 then r else flw ks v n (nxt ks v r)
def allB (n : Nat) (ks : List Kt) : Bool := (List.range ks.length).all (okB n ks)
def folE (m : Mo) (ks : List Kt) (r : Int) (v : List Bool) : Int := if m.err ≠ 0 then m.err else if 2000 < ks.length ∨ allB m.opts.length ks = false ∨ r < -2 ∨ (ks.length : Int) ≤ r ∨ v.length ≠ m.opts.length then 1 else 0
def folB (m : Mo) (ks : List Kt) (r : Int) (v : List Bool) : Bool := if folE m ks r v = 0 then flw ks v ks.length r == -2 else false
section
variable {H : Type} {enc : TypeId × Value → H} {W : World} {base b0 : Nat} {r : Reach} {spare : Nat → Bool} {held : Bool} {v : Value} {d : DataW H} {p : List MemPlace}
end
end Go.Proofs.YtehadoecnmfeoaaGreat
namespace Go.Proofs.YtehadoecnmfeoaaGreat
open Go.RowKit
def EvR (N : Nat) (v : Nat → Bool) (f : List Int) (p c : Nat) (x : Bool) (q : Nat) : Prop :=
 p < q ∧ q ≤ f.length ∧ vld N c (f.drop q) = true ∧ evS v (f.drop p) = x :: evS v (f.drop q)
theorem vld_ne {N c p : Nat} {f : List Int} (h : vld N (c + 1) (f.drop p) = true) : p < f.length := by
 rcases Nat.lt_or_ge p f.length with h1 | h1
 ·
  exact h1
 ·
  rw [List.drop_eq_nil_of_le h1] at h
  simp [vld] at h
theorem EvR.leaf {N c p : Nat} {v : Nat → Bool} {f : List Int} {o : Int} {x : Bool} (hd : f.drop p = o :: f.drop (p + 1)) (h : vld N (c + 1) (f.drop p) = true) (ha : arO o = 0) (hs : ∀ S, stp v o S = x :: S) : EvR N v f p c x (p + 1) := by
 have hp := vld_ne h
 rw [hd] at h
 simp only [vld, Bool.and_eq_true, ha, Nat.add_zero] at h
 refine ⟨by omega, by omega, h.2, ?_⟩
 rw [hd, evS_cons, hs]
theorem EvR.one {N c p q : Nat} {v : Nat → Bool} {f : List Int} {x : Bool} (hd : f.drop p = -3 :: f.drop (p + 1)) (h : EvR N v f (p + 1) c x q) : EvR N v f p c (!x) q := by
 obtain ⟨h1, h2, h3, h4⟩ := h
 refine ⟨by omega, h2, h3, ?_⟩
 rw [hd, evS_cons, h4]
 rfl
theorem EvR.two {N c p q r : Nat} {v : Nat → Bool} {f : List Int} {x y z : Bool} {o : Int} (hd : f.drop p = o :: f.drop (p + 1)) (h : EvR N v f (p + 1) (c + 1) x q) (k : EvR N v f q c y r) (hs : ∀ S, stp v o (x :: y :: S) = z :: S) : EvR N v f p c z r := by
 obtain ⟨h1, h2, h3, h4⟩ := h
 obtain ⟨k1, k2, k3, k4⟩ := k
 refine ⟨by omega, k2, k3, ?_⟩
 rw [hd, evS_cons, h4, k4, hs]
theorem vld_next {N c p : Nat} {f : List Int} {o : Int} (hd : f.drop p = o :: f.drop (p + 1)) (h : vld N (c + 1) (f.drop p) = true) : vld N (c + arO o) (f.drop (p + 1)) = true ∧ -6 ≤ o ∧ o < N := by
 rw [hd] at h
 simp only [vld, Bool.and_eq_true, decide_eq_true_eq] at h
 exact ⟨h.2, h.1.1, h.1.2⟩
def EvP (N : Nat) (v : Nat → Bool) (f : List Int) (p c : Nat) (w : World) (e : Ending) (W : World) : Prop := ∃ (x : Bool) (q : Nat), e = .returned (.tuple #[.bool x, .int .i64 (q : Nat)]) ∧ EvR N v f p c x q ∧ w = W
set_option maxRecDepth 100000 in
set_option maxHeartbeats 4000000 in
theorem eval_any (f : List Int) (N : Nat) (vs : List Bool) (fv vv : Value) (B : Nat) (w : World) (hm : f.length ≤ 1000) (hf : Ints w B fv f) (hv : Bols w B vv vs) (hN : vs.length = N) :
  ∀ (n p c : Nat), f.length - p ≤ n → vld N (c + 1) (f.drop p) = true → Calls Tryz.prog 130 #[fv, .int .i64 p, vv] w (EvP N (vf vs) f p c w) := by
 obtain ⟨A, b, off, cap, rfl, hnc, hA, hc⟩ := hf
 obtain ⟨Av, bv, offv, capv, rfl, hncv, hAv, hcv⟩ := hv
 have HC := hide hc
 have HA := hide hA
 have HCV := hide hcv
 have HAV := hide hAv
 have HN := hide hN
 clear hc hA hcv hAv hN
 intro n
 induction n with
 | zero =>
  intro p c h1 h2
  have := vld_ne h2
  omega
 | succ n ih =>
  intro p c hn hvl
  have hp := vld_ne hvl
  obtain ⟨rfl, hb⟩ : A = some ⟨b, off, none⟩ ∧ b < B := by
   rcases HA.out with h | h
   ·
    exact h
   ·
    omega
  obtain ⟨o, ho⟩ : ∃ o, f.getD p 0 = o := ⟨_, rfl⟩
  have c0 : w.cell? ⟨b, off + p, none⟩ = some (.int .i64 o) := by
   have h1 := HC.out p 0 hp (by omega)
   rw [Nat.mul_one, Nat.add_zero] at h1
   rw [← ho]; exact h1
  have hd : f.drop p = o :: f.drop (p + 1) := by rw [drop_getD hp, ho]
  obtain ⟨hnx, hlo, hhi⟩ := vld_next hd hvl
  have i0 : (0 : Int) ≤ (p : Int) := by omega
  have i1 : (p : Int) < (f.length : Int) := by omega
  have HD := hide hd
  have HVL := hide hvl
  have HNX := hide hnx
  have IH := hide ih
  clear hd hvl hnx ih ho
  by_cases h0 : 0 ≤ o
  ·
   obtain ⟨t, rfl⟩ := Int.eq_ofNat_of_zero_le h0
   have ht : t < vs.length := by have := HN.out; omega
   obtain ⟨rfl, hbv⟩ : Av = some ⟨bv, offv, none⟩ ∧ bv < B := by
    rcases HAV.out with h | h
    ·
     exact h
    ·
     omega
   obtain ⟨x, hx⟩ : ∃ x, vs.getD t false = x := ⟨_, rfl⟩
   have c1 : w.cell? ⟨bv, offv + t, none⟩ = some (.bool x) := by
    have h1 := HCV.out t 0 ht (by omega)
    rw [Nat.mul_one, Nat.add_zero] at h1
    rw [← hx]; exact h1
   have d0 : decide ((0 : Int) ≤ (t : Int)) = true := by simp
   have j1 : (t : Int) < (vs.length : Int) := by omega
   have HR : Hid (EvR N (vf vs) f p c x (p + 1)) := EvR.leaf HD.out HVL.out (by unfold arO; (repeat' split) <;> omega) (fun S => by
    unfold stp
    rw [if_neg (by omega), if_neg (by omega), if_neg (by omega), if_neg (by omega), if_neg (by omega), if_neg (by omega), Int.toNat_natCast, ← hx]; rfl)
   clear hx
   go_enter Tryz.func130, Tryz.ntmps130
   go_wp2_with fail
   go_ret2
   exact ⟨x, p + 1, rfl, HR.out, rfl⟩
  have d0 : decide (0 ≤ o) = false := by simp; omega
  by_cases h1 : o = -1
  ·
   subst h1
   have HR : Hid (EvR N (vf vs) f p c true (p + 1)) := EvR.leaf HD.out HVL.out rfl (fun S => rfl)
   go_enter Tryz.func130, Tryz.ntmps130
   go_wp2_with fail
   go_ret2
   exact ⟨true, p + 1, rfl, HR.out, rfl⟩
  by_cases h2 : o = -2
  ·
   subst h2
   have HR : Hid (EvR N (vf vs) f p c false (p + 1)) := EvR.leaf HD.out HVL.out rfl (fun S => rfl)
   go_enter Tryz.func130, Tryz.ntmps130
   go_wp2_with fail
   go_ret2
   exact ⟨false, p + 1, rfl, HR.out, rfl⟩
  by_cases h3 : o = -3
  ·
   subst h3
   have hih := IH.out (p + 1) c (by omega) HNX.out
   have HIH := hide hih
   clear hih
   go_enter Tryz.func130, Tryz.ntmps130
   go_wp2_with (go_at_call 130; refine HIH.out.mono ?_; rintro e w1 ⟨x, q, rfl, hr, rfl⟩; have HR := hide hr; clear hr)
   go_ret2
   exact ⟨!x, q, rfl, EvR.one HD.out HR.out, rfl⟩
  have ha : arO o = 2 := by unfold arO; (repeat' split) <;> omega
  have hih := IH.out (p + 1) (c + 1) (by omega) (by have := HNX.out; rw [ha] at this; exact this)
  have HIH := hide hih
  have e1 : (o == -1) = false := by simpa using h1
  have e2 : (o == -2) = false := by simpa using h2
  have e3 : (o == -3) = false := by simpa using h3
  clear hih ha
  go_enter Tryz.func130, Tryz.ntmps130
  go_upto_region 9 with (go_at_call 130; refine HIH.out.mono ?_; rintro e w1 ⟨x, q, rfl, hr, rfl⟩; have HR := hide hr; clear hr)
  have hih := IH.out q c (by have := HR.out.1; omega) HR.out.2.2.1
  have HIH2 := hide hih
  clear hih
  go_upto_region 10 with (go_at_call 130; refine HIH2.out.mono ?_; rintro e w1 ⟨y, r, rfl, hr2, rfl⟩; have HR2 := hide hr2; clear hr2)
  rcases (by omega : o = -4 ∨ o = -5 ∨ o = -6) with rfl | rfl | rfl
  ·
   have HT : Hid (EvR N (vf vs) f p c (x && y) r) := EvR.two HD.out HR.out HR2.out (fun S => rfl)
   cases x
   ·
    go_wp2_with fail
    go_ret2
    exact ⟨_, r, rfl, HT.out, rfl⟩
   ·
    go_wp2_with fail
    go_ret2
    exact ⟨_, r, rfl, HT.out, rfl⟩
  ·
   have HT : Hid (EvR N (vf vs) f p c (x || y) r) := EvR.two HD.out HR.out HR2.out (fun S => rfl)
   cases x
   ·
    go_wp2_with fail
    go_ret2
    exact ⟨_, r, rfl, HT.out, rfl⟩
   ·
    go_wp2_with fail
    go_ret2
    exact ⟨_, r, rfl, HT.out, rfl⟩
  ·
   have HT : Hid (EvR N (vf vs) f p c (x == y) r) := EvR.two HD.out HR.out HR2.out (fun S => rfl)
   go_wp2_with fail
   go_ret2
   exact ⟨_, r, rfl, HT.out, rfl⟩
theorem evF1_of {N q c : Nat} {v : Nat → Bool} {f : List Int} {x : Bool} (h : EvR N v f 0 c x q) : x = evF1 v f := by
 have h4 := h.2.2.2
 rw [List.drop_zero] at h4
 unfold evF1
 rw [h4]; rfl
set_option maxRecDepth 100000 in
set_option maxHeartbeats 2000000 in
theorem True_any (f : List Int) (N : Nat) (vs : List Bool) (fv vv : Value) (B : Nat) (w : World) (hf : Ints w B fv f) (hv : Bols w B vv vs) (hN : vs.length = N) (hok : validF N f = true) :
  Calls Tryz.prog 61 #[fv, vv] w fun e W => e = .returned (.bool (evF1 (vf vs) f)) ∧ w = W := by
 unfold validF at hok
 simp only [Bool.and_eq_true, decide_eq_true_eq] at hok
 obtain ⟨A, cap, hfv⟩ := Sl.form hf
 obtain ⟨Av, capv, hvv⟩ := Sl.form hv
 have he := eval_any f N vs fv vv B w (by omega) hf hv hN f.length 0 0 (by omega) (by rw [List.drop_zero]; exact hok.1)
 have he2 : Calls Tryz.prog 130 #[fv, .int .i64 0, vv] w fun e W => ∃ (x : Option Bool) (q : Nat), e = .returned (.tuple #[.bool (evF1 (vf vs) f), .int .i64 (q : Nat)]) ∧ w = W :=
  he.mono fun e W hh => by
   obtain ⟨x, q, h1, h2, h3⟩ := hh
   exact ⟨none, q, by rw [h1, evF1_of h2], h3⟩
 have HE := hide he2
 subst hfv hvv
 clear he he2 hf hv hok hN
 go_enter Tryz.func61, Tryz.ntmps61
 go_wp2_with (go_at_call 130; refine HE.out.mono ?_; rintro e w1 ⟨_, q, rfl, rfl⟩)
 go_ret
 exact ⟨rfl, rfl⟩
set_option maxRecDepth 100000 in
set_option maxHeartbeats 2000000 in
theorem rName_any (s : ByteArray) (w : World) (hs : s.size ≤ maxLen) :
  Calls Tryz.prog 201 #[.string s] w fun e w' => e = .returned (.bool (namedB s.data.toList)) ∧ w = w' := by
 have hl : s.data.toList.length = s.size := by simp
 by_cases h1 : s.size < 1
 ·
  have hf : namedB s.data.toList = false := by
   unfold namedB; rw [hl]; simp; omega
  have HF := hide hf
  have h2 : (s.size : Int) < 1 := by omega
  clear hf hl h1
  go_enter Tryz.func201, Tryz.ntmps201
  go_wp2
  go_ret
  exact ⟨ret_bool HF.out.symm, rfl⟩
 by_cases h2 : 8 < s.size
 ·
  have hf : namedB s.data.toList = false := by
   unfold namedB; rw [hl]; simp; omega
  have HF := hide hf
  have h3 : (8 : Int) < (s.size : Int) := by omega
  have h4 : ¬ (s.size : Int) < 1 := by omega
  clear hf hl h1 h2
  go_enter Tryz.func201, Tryz.ntmps201
  go_wp2
  go_ret
  exact ⟨ret_bool HF.out.symm, rfl⟩
 have h3 : ¬ (s.size : Int) < 1 := by omega
 have h4 : ¬ (8 : Int) < (s.size : Int) := by omega
 by_cases hy : s.data.toList = [121, 101, 115]
 ·
  have hf : namedB s.data.toList = false := by unfold namedB; rw [hy]; rfl
  have HF := hide hf
  have hse : s = ⟨#[121, 101, 115]⟩ := by
   obtain ⟨d⟩ := s
   congr 1
   exact Array.toList_inj.1 hy
  subst hse
  clear hf hy hl
  go_enter Tryz.func201, Tryz.ntmps201
  go_wp2
  go_ret
  exact ⟨ret_bool HF.out.symm, rfl⟩
 by_cases hn : s.data.toList = [110, 111]
 ·
  have hf : namedB s.data.toList = false := by unfold namedB; rw [hn]; rfl
  have HF := hide hf
  have hse : s = ⟨#[110, 111]⟩ := by
   obtain ⟨d⟩ := s
   congr 1
   exact Array.toList_inj.1 hn
  subst hse
  clear hf hy hn hl
  go_enter Tryz.func201, Tryz.ntmps201
  go_wp2
  go_ret
  exact ⟨ret_bool HF.out.symm, rfl⟩
 have hf : namedB s.data.toList = (smN (s.data.toList.getD 0 0) && decide (wordN s.data.toList = s.size)) := by
  unfold namedB
  rw [hl]
  have e1 : decide (1 ≤ s.size) = true := by simp; omega
  have e2 : decide (s.size ≤ 8) = true := by simp; omega
  have e3 : decide (s.data.toList ≠ [121, 101, 115]) = true := by simpa using hy
  have e4 : decide (s.data.toList ≠ [110, 111]) = true := by simpa using hn
  rw [e1, e2, e3, e4]
  simp only [Bool.and_true, Bool.true_and]
 have HF := hide hf
 obtain ⟨k1, _⟩ := str_ne hy
 obtain ⟨k2, _⟩ := str_ne hn
 have hs1 : 1 ≤ s.size := by omega
 have hs2 : s.size ≤ 8 := by omega
 have HL := hide hl
 clear hf hy hn hl h1 h2
 go_enter Tryz.func201, Tryz.ntmps201
 go_wp2
 go_loop [3] (fun i => ∃ k : Nat, k ≤ s.size ∧ i = .int .i64 k ∧ Hid (∀ j, j < k → alN (s.data.toList.getD j 0) = true) ∧ Hid (0 < k → smN (s.data.toList.getD 0 0) = true)) (fun i => s.size - (intOf i).toNat)
 case atStart => exact ⟨0, Nat.zero_le _, rfl, fun j hj => by omega, fun h => by omega⟩
 case round =>
  obtain ⟨k, hk, rfl, hall, hsm⟩ := hrel
  by_cases hlt : k < s.size
  ·
   have hgd := getD_str s k hlt
   have hyes : alN s[k] = true → Hid (∀ j, j < k + 1 → alN (s.data.toList.getD j 0) = true) := fun h j hj => by
    rcases Nat.lt_or_ge j k with h1 | h1
    ·
     exact hall.out j h1
    ·
     rw [show j = k from by omega, hgd]; exact h
   have hno : alN s[k] = false → namedB s.data.toList = false := fun h => by
    have h5 := wordN_at s.data.toList k (by simpa using hlt) hall.out (by rw [hgd]; exact h)
    rw [HF.out, h5]
    simp; omega
   have HY := hide hyes
   have HN := hide hno
   have HG := hide hgd
   clear hgd hyes hno
   have hkz : k = 0 ∨ 0 < k := by omega
   by_cases h97 : (s[k].toNat : Int) < 97
   ·
    have d1 : decide (97 ≤ (s[k].toNat : Int)) = false := by simp; omega
    by_cases h48 : (s[k].toNat : Int) < 48
    ·
     have d3 : decide (48 ≤ (s[k].toNat : Int)) = false := by simp; omega
     have HC := hide (HN.out (alN_not (by omega)))
     rcases hkz with hz | hz
     ·
      have h0 : ((k : Int) == 0) = true := by simp [hz]
      clear hz
      go_wp2
      go_ret
      exact ⟨ret_bool HC.out.symm, rfl⟩
     ·
      have h0 : ((k : Int) == 0) = false := by simp; omega
      clear hz
      go_wp2
      go_ret
      exact ⟨ret_bool HC.out.symm, rfl⟩
    ·
     have d3 : decide (48 ≤ (s[k].toNat : Int)) = true := by simp; omega
     by_cases h57 : (57 : Int) < (s[k].toNat : Int)
     ·
      have d4 : decide ((s[k].toNat : Int) ≤ 57) = false := by simp; omega
      have HC := hide (HN.out (alN_not (by omega)))
      rcases hkz with hz | hz
      ·
       have h0 : ((k : Int) == 0) = true := by simp [hz]
       clear hz
       go_wp2
       go_ret
       exact ⟨ret_bool HC.out.symm, rfl⟩
      ·
       have h0 : ((k : Int) == 0) = false := by simp; omega
       clear hz
       go_wp2
       go_ret
       exact ⟨ret_bool HC.out.symm, rfl⟩
     ·
      have d4 : decide ((s[k].toNat : Int) ≤ 57) = true := by simp; omega
      rcases hkz with hz | hz
      ·
       have h0 : ((k : Int) == 0) = true := by simp [hz]
       have hc : namedB s.data.toList = false := by
        have h5 := HG.out
        rw [HF.out]
        subst hz
        rw [h5, smN_not (.inl h97)]
        rfl
       have HC := hide hc
       clear hz hc
       go_wp2
       go_ret
       exact ⟨ret_bool HC.out.symm, rfl⟩
      ·
       have h0 : ((k : Int) == 0) = false := by simp; omega
       have HC := hide (HY.out (alN_of (.inr ⟨by omega, by omega⟩)))
       go_wp2
       go_round
       case rel => exact ⟨k + 1, by omega, by go_num, HC.out, fun _ => hsm.out hz⟩
       case measure => simp [intOf]; omega
   ·
    have d1 : decide (97 ≤ (s[k].toNat : Int)) = true := by simp; omega
    have d3 : decide (48 ≤ (s[k].toNat : Int)) = true := by simp; omega
    have d4 : decide ((s[k].toNat : Int) ≤ 57) = false := by simp; omega
    by_cases h122 : (122 : Int) < (s[k].toNat : Int)
    ·
     have d2 : decide ((s[k].toNat : Int) ≤ 122) = false := by simp; omega
     have HC := hide (HN.out (alN_not (by omega)))
     rcases hkz with hz | hz
     ·
      have h0 : ((k : Int) == 0) = true := by simp [hz]
      clear hz
      go_wp2
      go_ret
      exact ⟨ret_bool HC.out.symm, rfl⟩
     ·
      have h0 : ((k : Int) == 0) = false := by simp; omega
      clear hz
      go_wp2
      go_ret
      exact ⟨ret_bool HC.out.symm, rfl⟩
    ·
     have d2 : decide ((s[k].toNat : Int) ≤ 122) = true := by simp; omega
     have HC := hide (HY.out (alN_of (.inl ⟨by omega, by omega⟩)))
     have hc : Hid (0 < k + 1 → smN (s.data.toList.getD 0 0) = true) := fun _ => by
      rcases hkz with hz | hz
      ·
       subst hz
       rw [HG.out]; exact smN_of (by omega) (by omega)
      ·
       exact hsm.out hz
     clear hkz
     go_wp2
     go_round
     case rel => exact ⟨k + 1, by omega, by go_num, HC.out, hc⟩
     case measure => simp [intOf]; omega
  ·
   have : k = s.size := by omega
   subst this
   have hc : namedB s.data.toList = true := by
    rw [HF.out, hsm.out (by omega), wordN_all _ (by simpa using hall.out), HL.out]
    simp
   have HC := hide hc
   clear hc
   go_wp2
   go_ret
   exact ⟨ret_bool HC.out.symm, rfl⟩
end Go.Proofs.YtehadoecnmfeoaaGreat

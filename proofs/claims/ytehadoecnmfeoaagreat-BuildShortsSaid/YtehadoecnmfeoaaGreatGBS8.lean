/- Part 8 of this claim's texts: walks and plain laws. -/
import Derived.Test.YtehadoecnmfeoaaGreatRows
import Derived.Test.YtehadoecnmfeoaaGreatGBS7
import Derived.Test.YtehadoecnmfeoaaGreatGBS6
import Derived.Laws.ShiftsVarLaws
import Derived.Test.YtehadoecnmfeoaaGreatGBS1
import Derived.Test.YtehadoecnmfeoaaGreatGBS0
import Derived.StringKeys
set_option linter.unusedVariables false
set_option linter.unusedSimpArgs false
set_option linter.unusedSectionVars false
namespace Go.Proofs.YtehadoecnmfeoaaGreat
open Go.RowKit
structure BegR (m : Mo) (w w' : World) (F : Fo) (n : Nat) : Prop where
 here : FoAt w' F
 N : F.N = m.opts.length
 base : w.heap.size ≤ F.base
 below : Below w.heap.size w w'
 base2 : F.base ≤ w'.heap.size
 lt : n < F.ks.length
 ev : ∀ v, ev F.ks v n = allF v m.rules
 len : F.ks.length ≤ 2 + 6120 * 2 ^ F.N
 nj : F.nj ≤ 6120 * 2 ^ F.N
theorem BegR.room {m : Mo} {w w' : World} {F : Fo} {n : Nat} (h : BegR m w w' F n) (hN : m.opts.length ≤ 12) {k : Nat} (hk : k ≤ 200000) : Room F k := by
 have h1 := h.len
 have h2 := h.nj
 have h3 : 2 ^ F.N ≤ 2 ^ 12 := Nat.pow_le_pow_right (by omega) (by rw [h.N]; exact hN)
 have h4 := Nat.mul_le_mul (Nat.le_refl 6120) h3
 have h5 := Nat.mul_le_mul hk h3
 unfold Room
 omega
set_option maxRecDepth 100000 in
theorem begin_ok (m : Mo) (l : List (List Int)) (ov rv lv : Value) (w : World) (hs : SizedM m) (hl : Sized l) (h : MoAt w w.heap.size ov rv m) (hf : Forms w w.heap.size lv l) (he : m.errF l = 0) (hN : m.opts.length ≤ 12) :
  Calls Tryz.prog 119 #[.agg #[ov, rv], lv] w fun e w' => ∃ F n, e = .returned (.tuple #[.pointer (some ⟨F.p, 0, none⟩), .int .i64 (n : Nat), .int .i64 0]) ∧ BegR m w w' F n := by
 obtain ⟨A, cap, hov⟩ := Sl.form h.o
 obtain ⟨Ar, capr, hrv⟩ := h.r.form
 obtain ⟨Al, capl, hlv⟩ := hf.form
 have H := hide h
 have HF := hide hf
 have hok := Mo.ok (Mo.okF he).1
 subst hov hrv hlv
 clear h hf
 go_enter Tryz.func119, Tryz.ntmps119
 go_upto_region 1 with (fail)
 generalize hw0 : World.alloc _ _ = w0
 obtain ⟨hb0, hB0, hs0⟩ := alloc1 hw0
 clear hw0
 have c0 := cellOf hb0 0
 have c1 := cellOf hb0 1
 have HX0 : Hid (MoBox w0 w.heap.size (.slice A m.opts.length cap) (.slice Ar m.rules.length capr)) := hb0
 have HB0 := hide hB0
 have hck := check_any m l (.slice A m.opts.length cap) (.slice Ar m.rules.length capr) (.slice Al l.length capl) w0 hs hl (H.out.up hB0) (HF.out.up hB0)
 rw [he] at hck
 have HCK := hide hck
 have HOK := hide hok
 clear hb0 hB0 hs0 hck he hok
 go_wp2_with (first | (go_at_call 104; refine HCK.out.mono ?_; rintro e w1 ⟨rfl, hB1⟩; have hbx := box_to HX0.out hB1; have d0 := cellOf hbx 0; have d1 := cellOf hbx 1; have HB1 : Hid (Below w.heap.size w w1) := Below.to HB0.out hB1 (Nat.le_refl _); have HX1 : Hid (MoBox w1 w.heap.size (.slice A m.opts.length cap) (.slice Ar m.rules.length capr)) := hbx; clear hbx hB1 c0 c1) | (go_at_call 190; refine (newForest_any m.opts.length (by omega) _).mono ?_; rintro e w2 ⟨rfl, hF2, hB2⟩; have hbx := box_to HX1.out hB2; have x0 := cellOf hbx 0; have x1 := cellOf hbx 1; have HB2 : Hid (Below w.heap.size w w2) := Below.to HB1.out hB2 (Nat.le_refl _); have HF2 := hide hF2; have HS2 : Hid (w1.heap.size ≤ w2.heap.size) := hB2.size; clear hbx hB2 hF2 d0 d1))
 have hp : 2 ^ m.opts.length ≤ 2 ^ 12 := Nat.pow_le_pow_right (by omega) hN
 have hrl : 102 * m.rules.length ≤ 6120 := by have := HOK.out.2.1; omega
 have hmu := Nat.mul_le_mul hrl hp
 have hmu2 : 102 * m.rules.length * 2 ^ m.opts.length ≤ 6120 * 2 ^ m.opts.length := Nat.mul_le_mul_right _ hrl
 have hs1 := HB1.out.size
 have hs2 := HS2.out
 have hal := all_any (newFo w1.heap.size m.opts.length) m.rules (.slice Ar m.rules.length capr) w2 HF2.out hs2 HOK.out.2.2.2 ((H.out.r.below HB2.out).more hs1) (by have := HOK.out.2.1; omega) ⟨by show 2 + 102 * m.rules.length * 2 ^ m.opts.length ≤ _; omega, by show 0 + 102 * m.rules.length * 2 ^ m.opts.length ≤ _; omega⟩
 have HAL : Hid (Calls Tryz.prog 121 #[.pointer (some ⟨w1.heap.size + 3, 0, none⟩), .slice Ar m.rules.length capr] w2 _) := hal
 have HMU : Hid (102 * m.rules.length * 2 ^ m.opts.length ≤ 6120 * 2 ^ m.opts.length) := hmu2
 clear hp hrl hmu hmu2 hs1 hs2 hal
 refine HAL.out.mono ?_
 rintro e w3 ⟨n, F3, rfl, r1, r2, r3⟩
 have R1 := hide r1
 have R3 := hide r3
 clear r1 r3
 go_wp2_with fail
 go_ret3
 refine ⟨F3, n, ?_, ?_⟩
 ·
  rw [R1.out.st.p]; rfl
 ·
  have hb3 := R1.out.st.below HF2.out HS2.out
  refine ⟨R1.out.st.here, R1.out.st.N, by rw [R1.out.st.ba]; exact HB1.out.size, ?_, ?_, r2, R3.out, ?_, ?_⟩
  ·
   exact ⟨hb3.os.trans HB2.out.os, hb3.tape.trans HB2.out.tape, hb3.output.trans HB2.out.output, Nat.le_trans HB2.out.size hb3.size, fun k hk => (hb3.block k (Nat.lt_of_lt_of_le hk HB1.out.size)).trans (HB2.out.block k hk)⟩
  ·
   rw [R1.out.st.ba]; exact Nat.le_trans HS2.out hb3.size
  ·
   have h1 := R1.out.len
   have h2 := HMU.out
   rw [R1.out.st.N]
   show _ ≤ 2 + 6120 * 2 ^ m.opts.length
   replace h1 : F3.ks.length ≤ 2 + 102 * m.rules.length * 2 ^ m.opts.length := h1
   omega
  ·
   have h1 := R1.out.nj
   have h2 := HMU.out
   rw [R1.out.st.N]
   show _ ≤ 6120 * 2 ^ m.opts.length
   replace h1 : F3.nj ≤ 0 + 102 * m.rules.length * 2 ^ m.opts.length := h1
   omega
end Go.Proofs.YtehadoecnmfeoaaGreat
namespace Go.Proofs.YtehadoecnmfeoaaGreat
open Go.RowKit
open Go.Maps (Keyed)
def enN (n : Nat) : Value := .int .i64 n
def CntOk (ks : List Kn) (N : Nat) (m : Nat → Option Int) : Prop := ∀ n x, m n = some x → n < ks.length ∧ x = (cntK ks N n (topK ks n) : Nat)
structure CntR (F : Fo) (kb d : Nat) (w : World) (cnt : Nat) (w' : World) (m' : Nat → Option Int) (cnt' : Nat) : Prop where
 keep : Keeps (fun k => k = kb) w w'
 map : MapIs Tryz.prog w' 3 3 kb cnt' enN m'
 ok : CntOk F.ks F.N m'
 cnt : cnt' + 1 ≤ cnt + 2 ^ (d + 1)

end Go.Proofs.YtehadoecnmfeoaaGreat
namespace Go.Proofs.YtehadoecnmfeoaaGreat
open Go.RowKit
def satM (m : Mo) (p : (Nat → Bool) → Bool) : List (List Bool) := (exts m.opts.length []).filter fun x => allF (vf x) m.rules && p (vf x)
theorem satM_node {m : Mo} {ks : List Kn} {N n : Nat} {p : (Nat → Bool) → Bool} (hN : N = m.opts.length) (h : ∀ v, ev ks v n = (allF v m.rules && p v)) : sat ks N n [] = satM m p := by
 unfold sat satM
 rw [hN]
 exact List.filter_congr fun x _ => h _
theorem forms_one {w : World} {b B : Nat} {fv : Value} {f : List Int} {t : Nat} (hb : w.heap[b]? = some (.cells #[fv] t (0, 0))) (hB : b < B) (h : Ints w B fv f) : Forms w B (.slice (some ⟨b, 0, none⟩) 1 1) [f] :=
 ⟨fun _ => fv, ⟨_, b, 0, 1, rfl, Nat.le_refl _, .inl ⟨rfl, hB⟩, fun i j hi hj => by
  simp at hi
  obtain rfl : j = 0 := by omega
  subst hi
  exact cellOf hb 0⟩, fun i hi => by
  simp at hi
  subst hi
  exact h⟩
theorem sized_one {f : List Int} (h : f.length ≤ maxLen) : Sized [f] := ⟨by unfold maxLen; simp, fun g hg => by simp at hg; rw [hg]; exact h⟩
theorem OpR.low {m : Mo} {w w1 w2 : World} {F F2 : Fo} {n k : Nat} (h : BegR m w w1 F n) (r : OpR k w1 F w2 F2) : Below w.heap.size w w2 := by
 have hb := r.st.below h.here h.base2
 exact ⟨hb.os.trans h.below.os, hb.tape.trans h.below.tape, hb.output.trans h.below.output, Nat.le_trans h.below.size hb.size, fun k hk => (hb.block k (Nat.lt_of_lt_of_le hk h.base)).trans (h.below.block k hk)⟩
theorem BegR.of {m : Mo} {w w0 w1 : World} {F : Fo} {n : Nat} (h : BegR m w0 w1 F n) (hb : Below w.heap.size w w0) : BegR m w w1 F n :=
 ⟨h.here, h.N, Nat.le_trans hb.size h.base, Below.to hb h.below (Nat.le_refl _), h.base2, h.lt, h.ev, h.len, h.nj⟩
theorem BegR.op {m : Mo} {w w1 : World} {F : Fo} {n : Nat} (h : BegR m w w1 F n) : OpR 0 w1 F w1 F := OpR.refl h.here 0
theorem grow_beg {m : Mo} {w w1 w2 : World} {F F1 : Fo} {n k : Nat} {f : List Int} {fv : Value} (h : BegR m w w1 F n) (hN : m.opts.length ≤ 12) (r : OpR k w1 F w2 F1) (hk : k + 100 ≤ 200000) (hf : Ints w w.heap.size fv f) (hv : validF m.opts.length f = true) :
  Calls Tryz.prog 192 #[.pointer (some ⟨F.p, 0, none⟩), fv] w2
   fun e w' => ∃ g F', e = .returned (.int .i64 (g : Nat)) ∧ OpR (k + 100) w1 F w' F' ∧ OpR 100 w2 F1 w' F' ∧ g < F'.ks.length ∧ ∀ v, ev F'.ks v g = evF1 v f := by
 have hl := (validF_pos hv).2
 have hc := grow_any F1 f fv w2 r.st.here (by rw [r.st.ba]; exact Nat.le_trans h.base2 r.st.keep.size) (by rw [r.st.N, h.N]; exact hv) (by
  rw [r.st.ba]
  exact (hf.below (r.low h)).more h.base) ((h.room hN (k := k + 100) hk |>.step r).mono hl)
 rw [r.st.p] at hc
 refine hc.mono ?_
 rintro e w' ⟨g, F', rfl, r1, r2, r3⟩
 exact ⟨g, F', rfl, r.trans (r1.mono hl), r1.mono hl, r2, r3⟩
theorem and_beg {m : Mo} {w w1 w2 : World} {F F1 : Fo} {n k : Nat} {l : List Nat} (h : BegR m w w1 F n) (hN : m.opts.length ≤ 12) (r : OpR k w1 F w2 F1) (hk : k + 4 ≤ 200000) (hl : l.length ≤ 4) (hln : ∀ x ∈ l, x < F1.ks.length) :
  Calls Tryz.prog 120 #[.pointer (some ⟨F.p, 0, none⟩), .slice (some ⟨w2.heap.size, 0, none⟩) l.length l.length] (w2.alloc (.cells (l.map fun (n : Nat) => Value.int .i64 n).toArray 3))
   fun e w' => ∃ g F', e = .returned (.int .i64 (g : Nat)) ∧ OpR (k + 4) w1 F w' F' ∧ OpR 4 w2 F1 w' F' ∧ g < F'.ks.length ∧ ∀ v, ev F'.ks v g = l.all (fun x => ev F1.ks v x) := by
 have hB : Below w2.heap.size w2 (w2.alloc (.cells (l.map fun (n : Nat) => Value.int .i64 n).toArray 3)) := (Below.refl _ _).alloc (Nat.le_refl _) _
 have hc := and_any F1 w2.heap.size l _ (r.st.here.below hB) hln (heap_new _ _ _ rfl) (fun e => by have := r.st.here.slt e; omega) (by omega) ((h.room hN (k := k + 4) hk |>.step r).mono hl)
 rw [r.st.p] at hc
 refine hc.mono ?_
 rintro e w' ⟨g, F', rfl, r1, r2, r3⟩
 have r4 : OpR 4 w2 F1 w' F' := (OpR.after_below r.st.here hB r1).mono hl
 exact ⟨g, F', rfl, r.trans r4, r4, r2, r3⟩
theorem infoRune : (Tryz.prog.info? 21).map (fun i => (i.zero, i.size, i.bytes)) = some (some (.int .i32 0), 1, 4) := by kernel_rfl
theorem and15 (x : Int) (h0 : 0 ≤ x) (h1 : x < 9223372036854775808) : bits .and .i64 x 32767 = x % 32768 := by
 have h := bits_mask .i64 63 (by decide) wrap_small 15 (by decide) x h0 (by simpa using h1)
 have e : ((2 : Int) ^ 15 - 1) = 32767 := by decide
 have e2 : ((2 : Int) ^ 15) = 32768 := by decide
 rw [e, e2] at h
 exact h
theorem kyL_snoc (l : List Nat) (x : Nat) : kyL (l ++ [x]) = kyL l ++ [((x % 32768 : Nat) : Int), ((x / 32768 % 32768 : Nat) : Int)] := by simp [kyL]
theorem kyL_len (l : List Nat) : (kyL l).length = 2 * l.length := by
 induction l with
 | nil => rfl
 | cons x r ih =>
  show (kyL r).length + 1 + 1 = 2 * (r.length + 1)
  omega
set_option maxRecDepth 100000 in
set_option maxHeartbeats 2000000 in
theorem key_any (l : List Nat) (v : Value) (B : Nat) (w : World) (hl : l.length ≤ 1000) (hs : ∀ n ∈ l, n < 1073741824) (h : Sl w B 1 v l.length (fun i _ => .int .i64 (l.getD i 0 : Nat))) (hB : B ≤ w.heap.size) :
  Calls Tryz.prog 241 #[v] w fun e w' => e = .returned (.string (kyS l)) ∧ Below w.heap.size w w' := by
 obtain ⟨i0, hi0, iz0, iz1, iz2⟩ := info_parts infoRune
 obtain ⟨A, b, off, cap, rfl, hnc, hA, hc⟩ := h
 have HC := hide hc
 have HA := hide hA
 have HS := hide hs
 clear hc hA hs
 go_enter Tryz.func241, Tryz.ntmps241
 go_wp2
 go_loopw [3, 8] (fun x i wr => ∃ k : Nat, k ≤ l.length ∧ i = .int .i64 k ∧ Hid (wr.ownsRow w.heap.size 21 1 x (2 * k) ((kyL (l.take k)).map (Value.int .i32))) ∧ Hid (Below w.heap.size w wr)) (fun _ i _ => l.length - (intOf i).toNat)
 case atStart => exact ⟨0, Nat.zero_le _, rfl, World.ownsRow_nil w w.heap.size 21 1, Below.refl _ _⟩
 case round =>
  obtain ⟨k, hk, rfl, ho, hBw⟩ := hrel
  by_cases hlt : k < l.length
  ·
   obtain ⟨rfl, hbb⟩ : A = some ⟨b, off, none⟩ ∧ b < B := by
    rcases HA.out with h | h
    ·
     exact h
    ·
     omega
   obtain ⟨x, hx⟩ : ∃ x, l.getD k 0 = x := ⟨_, rfl⟩
   have hx30 : x < 1073741824 := HS.out x (by rw [← hx]; exact getD_mem hlt)
   have c0 : wr.cell? ⟨b, off + k, none⟩ = some (.int .i64 (x : Nat)) := by
    have h1 := HC.out k 0 hlt (by omega)
    rw [Nat.mul_one, Nat.add_zero, hx] at h1
    exact (hBw.out.cell (p := ⟨b, off + k, none⟩) (by show b < w.heap.size; omega)).trans h1
   have HX := hide hx
   clear hx
   have hb1 : bits .and .i64 (x : Int) 32767 = ((x % 32768 : Nat) : Int) := by rw [and15 _ (by omega) (by omega)]; omega
   have hb2 : bits .and .i64 ((x : Int) / 32768) 32767 = ((x / 32768 % 32768 : Nat) : Int) := by rw [and15 _ (by omega) (by omega)]; omega
   obtain ⟨y, hy⟩ : ∃ y, x % 32768 = y := ⟨_, rfl⟩
   obtain ⟨z, hz⟩ : ∃ z, x / 32768 % 32768 = z := ⟨_, rfl⟩
   rw [hy] at hb1
   rw [hz] at hb2
   have hy1 : (y : Int) < 32768 := by omega
   have hz1 : (z : Int) < 32768 := by omega
   have hy0 : (0 : Int) ≤ (y : Int) := by omega
   have hz0 : (0 : Int) ≤ (z : Int) := by omega
   have hx0 : (0 : Int) ≤ (x : Int) := by omega
   have hx1 : (x : Int) < 1073741824 := by omega
   have HY := hide (And.intro hy hz)
   have hsz := hBw.out.size
   clear hy hz
   go_wp2_with (at_builtin; go_must (refine wpList_append_own_at _ rfl (.tmp 12) (.tmp 20) _ rfl w.heap.size 21 i0 _ 1 4 Tryz.underlying301 hi0 iz0 iz1 iz2 rfl (by omega) _ _ _ rfl (ho.out.alloc _) ⟨wr.heap.size, 0, none⟩ 2 2 [.int .i32 y, .int .i32 z] rfl rfl (World.news_of_block (heap_alloc_new wr _)) (by simp [Value.oneCell']) (by unfold maxLen; omega) (by omega) (by simp; omega) ?_); intro v1 w1 hown1 hg1 _ hat1; have HOWN := hide hown1; have HG1 := hide hg1; clear hown1 hg1 hat1)
   go_roundw
   case rel =>
    refine ⟨k + 1, by omega, by go_num, ?_, ?_⟩
    ·
     have h1 := HOWN.out
     rw [take_getD (z := 0) hlt, HX.out, kyL_snoc, HY.out.1, HY.out.2, List.map_append]
     exact h1
    ·
     exact Below.grown (Below.allocT hBw.out (Nat.le_refl _) _) HG1.out (by simp; omega) (fun j hj => (ho.out.lt j hj).1)
   case measure => simp [intOf]; omega
  ·
   obtain rfl : k = l.length := by omega
   have ho2 := ho.out
   rw [List.take_length] at ho2
   rcases ho2.2 with ⟨h1, h2⟩ | ⟨g, cp, cur, h1, h2, h3, h4, h5, h6, h7⟩
   ·
    subst h1
    have hl0 : l = [] := List.length_eq_zero_iff.1 (by omega)
    have hcv : (convert 301 9 (.slice none 0 0)).run Tryz.prog wr = .ok (.string .empty) wr := run_convert_runes_nil wr 301 9 21 0 0 Tryz.underlying301 Tryz.underlying21 Tryz.underlying9
    have HL := hide hl0
    clear hl0 ho2
    go_wp2
    go_ret
    exact ⟨by rw [HL.out]; rfl, hBw.out⟩
   ·
    subst h1
    have hcell : ∀ j, j < (kyL l).length → wr.cell? ((⟨g, 0, none⟩ : Addr).add j) = some (.int .i32 ((kyL l).getD j 0)) := fun j hj => ho2.cells (g := g) rfl j _ (by simp [hj])
    have hcv : (convert 301 9 (.slice (some ⟨g, 0, none⟩) (2 * l.length) cp)).run Tryz.prog wr = .ok (.string (runesBytes ((kyL l).take (2 * l.length)))) wr := run_convert_runes wr 301 9 21 ⟨g, 0, none⟩ (2 * l.length) cp (kyL l) (by rw [kyL_len]; omega) Tryz.underlying301 Tryz.underlying21 Tryz.underlying9 hcell
    rw [List.take_of_length_le (by rw [kyL_len]; omega)] at hcv
    clear hcell ho2 h3 h7
    go_wp2
    go_ret
    exact ⟨rfl, hBw.out⟩
end Go.Proofs.YtehadoecnmfeoaaGreat
namespace Go.Proofs.YtehadoecnmfeoaaGreat
open Go.RowKit
open Go.Maps (Keyed)
def Nods (w : World) (B : Nat) (v : Value) (l : List Nat) : Prop := Sl w B 1 v l.length (fun i _ => .int .i64 (l.getD i 0 : Nat))
theorem Nods.below {w w' : World} {B : Nat} {v : Value} {l : List Nat} (h : Nods w B v l) (hb : Below B w w') : Nods w' B v l := Sl.below h hb
theorem Nods.up {w w' : World} {v : Value} {l : List Nat} (h : Nods w w.heap.size v l) (hb : Below w.heap.size w w') : Nods w' w'.heap.size v l := Sl.up h hb
theorem Nods.of_own {w : World} {base : Nat} {v : Value} {l : List Nat} (h : w.ownsRow base 3 1 v l.length (l.map fun (n : Nat) => Value.int .i64 n)) : Nods w w.heap.size v l := by
 rcases h.2 with ⟨h1, h2⟩ | ⟨g, cap, cur, h1, h2, h3, h4, h5⟩
 ·
  rw [h1]
  have : l = [] := List.length_eq_zero_iff.1 h2
  subst this
  exact Sl.nil _ _ _ _
 ·
  refine ⟨some ⟨g, 0, none⟩, g, 0, cap, h1, h4, .inl ⟨rfl, box_lt h3⟩, fun i j hi hj => ?_⟩
  have hg : v.ownBlock = some g := by rw [h1]; rfl
  have := h.cells hg i (.int .i64 (l.getD i 0 : Nat)) (by simp [hi])
  have he : (⟨g, 0, none⟩ : Addr).add i = ⟨g, i, none⟩ := by
   unfold Addr.add
   split
   ·
    rename_i h0; rw [h0]
   ·
    rw [Nat.zero_add]
  rw [he] at this
  rw [show 0 + (i * 1 + j) = i by omega]
  exact this
theorem owns_form {w : World} {base e size n : Nat} {v : Value} {xs : List Value} (h : w.ownsRow base e size v n xs) : ∃ A cap, v = .slice A n cap := by
 rcases h.2 with ⟨h1, h2⟩ | ⟨g, cap, cur, h1, _⟩
 ·
  exact ⟨none, 0, by rw [h1, h2]⟩
 ·
  exact ⟨_, _, h1⟩
abbrev SmL := { l : List Nat // ∀ n ∈ l, n < 1073741824 }
def enS (a : SmL) : Value := .string (kyS a.1)
theorem enS_inj (a b : SmL) (h : enS a = enS b) : a = b := by
 unfold enS at h
 injection h with h
 exact Subtype.ext (kyS_inj a.2 b.2 h)
theorem enSKey {a : SmL} (h : a.1.length ≤ 1000) : ∃ l, keyOf Tryz.prog 9 (enS a) = some l :=
 ⟨_, Go.WideMaps.keyOf_string_mk Tryz.underlying9 (by have := kyS_size a.1; unfold maxLen; omega)⟩
theorem stLaw : Keyed Tryz.prog 9 := Maps.string_keyed Tryz.underlying9
structure WgAt (w : World) (F : Fo) (wp : Nat) (wsv : Value) (ws : List Int) (kb cnt : Nat) (m : SmL → Option Int) : Prop where
 box : w.heap[wp]? = some (.cells #[.pointer (some ⟨F.p, 0, none⟩), wsv, .map (some kb)] 238 (0, 0))
 fo : FoAt w F
 wts : Ints w w.heap.size wsv ws
 map : MapIs Tryz.prog w 9 3 kb cnt enS m
 ok : ∀ a x, m a = some x → x = bestK F.ks F.N a.1 ws []
 nS : ¬ SF F kb
theorem WgAt.ne {w : World} {F : Fo} {wp : Nat} {wsv : Value} {ws : List Int} {kb cnt : Nat} {m : SmL → Option Int} (h : WgAt w F wp wsv ws kb cnt m) : wp ≠ kb := by
 obtain ⟨es, c, h1⟩ := h.map.obj
 intro e
 have h2 := h.box
 rw [e, h1] at h2
 cases h2
theorem WgAt.below {w w' : World} {F : Fo} {wp : Nat} {wsv : Value} {ws : List Int} {kb cnt : Nat} {m : SmL → Option Int} (h : WgAt w F wp wsv ws kb cnt m) (hb : Below w.heap.size w w') : WgAt w' F wp wsv ws kb cnt m :=
 ⟨box_to h.box hb, h.fo.below hb, Ints.up h.wts hb, h.map.same (hb.block _ h.map.lt), h.ok, h.nS⟩
theorem keepsMap {α : Type} {kb cnt cnt' k e : Nat} {enc : α → Value} {m m' : α → Option Int} {w w' : World} (h : Keeps (fun i => i = kb) w w') (h1 : MapIs Tryz.prog w k e kb cnt enc m) (h2 : MapIs Tryz.prog w' k e kb cnt' enc m') : ∀ b o, b < w.heap.size → w'.cell? ⟨b, o, none⟩ = w.cell? ⟨b, o, none⟩ := by
 intro b o hb
 by_cases he : b = kb
 ·
  obtain ⟨es, c, q1⟩ := h1.obj
  obtain ⟨es', c', q2⟩ := h2.obj
  subst he
  simp [World.cell?, q1, q2]
 ·
  exact kcell h b o hb he
theorem WgAt.turn {w w' : World} {F : Fo} {wp : Nat} {wsv : Value} {ws : List Int} {kb cnt cnt' : Nat} {m m' : SmL → Option Int} (h : WgAt w F wp wsv ws kb cnt m) (hk : Keeps (fun i => i = kb) w w') (hm : MapIs Tryz.prog w' 9 3 kb cnt' enS m') (hok : ∀ a x, m' a = some x → x = bestK F.ks F.N a.1 ws []) : WgAt w' F wp wsv ws kb cnt' m' :=
 ⟨(hk.block _ (box_lt h.box) h.ne).trans h.box, h.fo.keeps hk (fun k hs e => h.nS (e ▸ hs)), Sl.more (Sl.keep h.wts (keepsMap hk h.map hm)) hk.size, hm, hok, h.nS⟩
set_option maxRecDepth 100000 in
set_option maxHeartbeats 2000000 in
theorem step_any (F : Fo) (wp : Nat) (wsv : Value) (ws : List Int) (kb cnt : Nat) (m : SmL → Option Int) (l : List Nat) (o : Nat) (b : Bool) (v : Value) (w : World) (h : WgAt w F wp wsv ws kb cnt m) (hl : l.length ≤ 1000) (hs : ∀ n ∈ l, n < F.ks.length) (hn : Nods w w.heap.size v l) :
  Calls Tryz.prog 197 #[.pointer (some ⟨wp, 0, none⟩), v, .int .i64 o, .bool b] w
   fun e w' => ∃ v', e = .returned v' ∧ Nods w' w'.heap.size v' (l.map fun n => brK F.ks n o b) ∧ Below w.heap.size w w' := by
 obtain ⟨i0, hi0, iz0, iz1, iz2⟩ := info_parts infoInt
 obtain ⟨A, b0, off, cap, rfl, hnc, hA, hc⟩ := hn
 have HC := hide hc
 have HA := hide hA
 have HS := hide hs
 have H := hide h
 clear hc hA hs h
 go_enter Tryz.func197, Tryz.ntmps197
 go_wp2
 go_loopw [9, 14] (fun x i wr => ∃ k : Nat, k ≤ l.length ∧ i = .int .i64 k ∧ Hid (wr.ownsRow w.heap.size 3 1 x k (((l.take k).map fun n => brK F.ks n o b).map fun (n : Nat) => Value.int .i64 n)) ∧ Hid (Below w.heap.size w wr)) (fun _ i _ => l.length - (intOf i).toNat)
 case atStart => exact ⟨0, Nat.zero_le _, rfl, World.ownsRow_nil w w.heap.size 3 1, Below.refl _ _⟩
 case round =>
  obtain ⟨k, hk, rfl, ho, hB⟩ := hrel
  by_cases hlt : k < l.length
  ·
   obtain ⟨rfl, hbb⟩ : A = some ⟨b0, off, none⟩ ∧ b0 < w.heap.size := by
    rcases HA.out with h | h
    ·
     exact h
    ·
     omega
   obtain ⟨x, hx⟩ : ∃ x, l.getD k 0 = x := ⟨_, rfl⟩
   have hxl : x < F.ks.length := HS.out x (by rw [← hx]; exact getD_mem hlt)
   have c0 : wr.cell? ⟨b0, off + k, none⟩ = some (.int .i64 (x : Nat)) := by
    have h1 := HC.out k 0 hlt (by omega)
    rw [Nat.mul_one, Nat.add_zero, hx] at h1
    exact (hB.out.cell (p := ⟨b0, off + k, none⟩) hbb).trans h1
   have hwg := H.out.below hB.out
   have d0 := cellOf hwg.box 0
   have hbr := branch_any F x o b wr hwg.fo hxl
   have HBR := hide hbr
   have HX := hide hx
   have hsz := hB.out.size
   clear hx hwg hbr
   go_wp2_with (first | (go_at_call 193; refine HBR.out.mono ?_; rintro e w1 ⟨rfl, hB1⟩; have HB1 := hide hB1; have hsz1 := hB1.size; have ho1 := owns_below ho.out hB1; have HO1 := hide ho1; clear hB1 ho1) | (at_builtin; go_must (refine wpList_append_own_at _ rfl (.tmp 18) (.tmp 27) _ rfl w.heap.size 3 i0 _ 1 8 Tryz.underlying45 hi0 iz0 iz1 iz2 rfl (by omega) _ _ _ rfl (HO1.out.alloc _) ⟨w1.heap.size, 0, none⟩ 1 1 [.int .i64 (brK F.ks x o b : Nat)] rfl rfl (World.news_of_block (heap_alloc_new w1 _)) (by simp [Value.oneCell']) (by unfold maxLen; omega) (by omega) (by simp; omega) ?_); intro v1 w2 hown1 hg1 _ hat1; have HOWN := hide hown1; have HG1 := hide hg1; clear hown1 hg1 hat1))
   go_roundw
   case rel =>
    refine ⟨k + 1, by omega, by go_num, ?_, ?_⟩
    ·
     have h1 := HOWN.out
     rw [take_getD (z := 0) hlt, HX.out, List.map_append, List.map_append]
     exact h1
    ·
     exact Below.grown (Below.allocT (Below.to hB.out HB1.out (Nat.le_refl _)) (Nat.le_refl _) _) HG1.out (by simp; omega) (fun j hj => (HO1.out.lt j hj).1)
   case measure => simp [intOf]; omega
  ·
   obtain rfl : k = l.length := by omega
   have ho2 := ho.out
   rw [List.take_length] at ho2
   have hf := owns_form ho2
   obtain ⟨A2, cap2, rfl⟩ := hf
   have HO2 := hide ho2
   clear ho2
   go_wp2
   go_ret
   refine ⟨_, rfl, Nods.of_own (base := w.heap.size) ?_, hB.out⟩
   rw [List.length_map]
   exact HO2.out
end Go.Proofs.YtehadoecnmfeoaaGreat

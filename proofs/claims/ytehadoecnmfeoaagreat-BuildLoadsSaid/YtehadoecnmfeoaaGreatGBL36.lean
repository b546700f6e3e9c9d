/- Part 36 of this claim's texts: walks and plain laws. -/
import Derived.Test.YtehadoecnmfeoaaGreatRows
import Derived.Test.YtehadoecnmfeoaaGreatGBL20
import Derived.Test.YtehadoecnmfeoaaGreatGBL35
import Derived.Test.YtehadoecnmfeoaaGreatGBL9
import Derived.Test.YtehadoecnmfeoaaGreatGBL14
import Derived.Test.YtehadoecnmfeoaaGreatGBL21
import Derived.Deep.DeepMust
import Derived.Deep.RegionHeld3
import Derived.Deep.DrawnRows
import Derived.Test.YtehadoecnmfeoaaGreatGBL29
import Derived.Test.YtehadoecnmfeoaaGreatGBL30
import Derived.Test.YtehadoecnmfeoaaGreatGBL15
import Derived.Shelf.Sort.Plain
import Derived.Shelf.Slices.In.SortNone
import Derived.Sort.OwnSortedInts
import Derived.Test.YtehadoecnmfeoaaGreatProg
import Derived.Test.YtehadoecnmfeoaaGreatGBL13
import Derived.Test.YtehadoecnmfeoaaGreatGBL8
import Derived.Test.YtehadoecnmfeoaaGreatGBL17
import Derived.Test.YtehadoecnmfeoaaGreatGBL32
import Derived.Test.YtehadoecnmfeoaaGreatGBL18
import Derived.Test.YtehadoecnmfeoaaGreatGBL3
/- What is picked, and how often a wire is in it (the elder): walks. -/
namespace Go.Proofs.YtehadoecnmfeoaaGreat
open Go.RowKit
set_option linter.unusedVariables false
set_option linter.unusedSimpArgs false
def occK (ws : List Int) (w k : Nat) : Nat := ((ws.drop k).filter fun x => x == (w : Int)).length
theorem Nods.at8 {w : World} {B : Nat} {A : Option Addr} {m q : Nat} {S : List Nat} (h : Nods w B (.slice A m q) S) {k : Nat} (hk : k < S.length) : ∃ b off x, Hid (S.getD k 0 = x) ∧ A = some ⟨b, off, none⟩ ∧ b < B ∧ S.length ≤ q ∧ w.cell? ⟨b, off + k, none⟩ = some (.int .i64 (x : Nat)) := by
  obtain ⟨h1, h2, b, off, h3, h4, h5⟩ := sl_at h hk
  have h6 := h5 0 (by omega)
  rw [Nat.mul_one, Nat.add_zero] at h6
  exact ⟨b, off, _, rfl, h3, h4, by omega, h6⟩
end Go.Proofs.YtehadoecnmfeoaaGreat
/- What is picked, with the errors, on both sides: walks. -/
namespace Go.Proofs.YtehadoecnmfeoaaGreat
open Go.RowKit
set_option linter.unusedVariables false
set_option linter.unusedSimpArgs false
def pikE (l : Lo) (ms : List Md) (x : List Bool) : Int := if bldE l ms = 0 then (if x.length = l.m.opts.length then 0 else 1) else bldE l ms
def pikL (l : Lo) (ms : List Md) (x : List Bool) : List Nat := if pikE l ms x = 0 then pckL ms x else []
def PicP (L : List Nat) (er : Int) (w : World) (e : Ending) (w' : World) : Prop := ∃ v, e = .returned (.tuple #[v, .int .i64 er]) ∧ Nods w' w'.heap.size v L ∧ Below w.heap.size w w'
theorem right_val {l : Lo} {d : Md} (h : rightB l d = true) : wiresB l.ws.length d.ws = true ∧ validF l.m.opts.length d.f = true := by
  unfold rightB at h
  exact Bool.and_eq_true_iff.1 h
theorem ms_valid {l : Lo} {ms : List Md} (h : bldE l ms = 0) : ∀ d ∈ ms, validF l.m.opts.length d.f = true := fun d hd => (right_val ((bldE_ok h).ok d hd)).2
theorem ms_wires {l : Lo} {ms : List Md} (h : bldE l ms = 0) : ∀ d ∈ ms, wiresB l.ws.length d.ws = true := fun d hd => (right_val ((bldE_ok h).ok d hd)).1
end Go.Proofs.YtehadoecnmfeoaaGreat
/- slices.Sort over integers: the shelf's contract at this program, laid by the kit's tool in plain words; over a row of the call's own. -/
namespace Go.Proofs.YtehadoecnmfeoaaGreat
open Go.Shelf
def srtRen15 : Go.Shelf.Ren := ⟨fun | 189 => 88 | 125 => 160 | 257 => 159 | 128 => 214 | 129 => 215 | 294 => 205 | 295 => 206 | 296 => 207 | 297 => 208 | 298 => 209 | 299 => 210 | 216 => 211 | 300 => 212 | 301 => 213 | 328 => 242 | 329 => 243 | 330 => 244 | 331 => 245 | 332 => 246 | 215 => 166 | 343 => 268 | n => n, fun | 28 => 45 | 3 => 3 | 46 => 173 | 0 => 0 | 51 => 253 | 53 => 255 | 4 => 4 | 183 => 247 | 182 => 246 | 131 => 61 | 5 => 5 | 9 => 9 | 218 => 282 | 222 => 286 | 228 => 302 | 229 => 205 | n => n, fun | n => n⟩
theorem srtLays15 : Go.Proofs.Lays.n189 Tryz.prog srtRen15 := {
  mixed := by kernel_rfl
  f125 := Tryz.func160.trans (congrArg some (by kernel_rfl))
  f128 := Tryz.func214.trans (congrArg some (by kernel_rfl))
  f129 := Tryz.func215.trans (congrArg some (by kernel_rfl))
  f189 := Tryz.func88.trans (congrArg some (by kernel_rfl))
  f215 := Tryz.func166.trans (congrArg some (by kernel_rfl))
  f216 := Tryz.func211.trans (congrArg some (by kernel_rfl))
  f257 := Tryz.func159.trans (congrArg some (by kernel_rfl))
  f294 := Tryz.func205.trans (congrArg some (by kernel_rfl))
  f295 := Tryz.func206.trans (congrArg some (by kernel_rfl))
  f296 := Tryz.func207.trans (congrArg some (by kernel_rfl))
  f297 := Tryz.func208.trans (congrArg some (by kernel_rfl))
  f298 := Tryz.func209.trans (congrArg some (by kernel_rfl))
  f299 := Tryz.func210.trans (congrArg some (by kernel_rfl))
  f300 := Tryz.func212.trans (congrArg some (by kernel_rfl))
  f301 := Tryz.func213.trans (congrArg some (by kernel_rfl))
  f328 := Tryz.func242.trans (congrArg some (by kernel_rfl))
  f329 := Tryz.func243.trans (congrArg some (by kernel_rfl))
  f330 := Tryz.func244.trans (congrArg some (by kernel_rfl))
  f331 := Tryz.func245.trans (congrArg some (by kernel_rfl))
  f332 := Tryz.func246.trans (congrArg some (by kernel_rfl))
  f343 := Tryz.func268.trans (congrArg some (by kernel_rfl))
  t0 := Tryz.underlying0
  a0 := Tryz.isAgg0
  z0 := Tryz.sizeOf0
  v0 := Tryz.zeroValue0
  t3 := Tryz.underlying3
  a3 := Tryz.isAgg3
  z3 := Tryz.sizeOf3
  v3 := Tryz.zeroValue3
  t4 := Tryz.underlying4
  a4 := Tryz.isAgg4
  z4 := Tryz.sizeOf4
  v4 := Tryz.zeroValue4
  t5 := Tryz.underlying5
  a5 := Tryz.isAgg5
  z5 := Tryz.sizeOf5
  v5 := Tryz.zeroValue5
  t9 := Tryz.underlying9
  a9 := Tryz.isAgg9
  z9 := Tryz.sizeOf9
  v9 := Tryz.zeroValue9
  t28 := Tryz.underlying45
  a28 := Tryz.isAgg45
  z28 := Tryz.sizeOf45
  v28 := Tryz.zeroValue45
  t46 := Tryz.underlying173
  a46 := Tryz.isAgg173
  z46 := Tryz.sizeOf173
  v46 := Tryz.zeroValue173
  t51 := Tryz.underlying253
  a51 := Tryz.isAgg253
  z51 := Tryz.sizeOf253
  v51 := Tryz.zeroValue253
  t53 := Tryz.underlying255
  a53 := Tryz.isAgg255
  z53 := Tryz.sizeOf255
  v53 := Tryz.zeroValue255
  t131 := Tryz.underlying61
  a131 := Tryz.isAgg61
  z131 := Tryz.sizeOf61
  v131 := Tryz.zeroValue61
  t182 := Tryz.underlying246
  a182 := Tryz.isAgg246
  z182 := Tryz.sizeOf246
  v182 := Tryz.zeroValue246
  t183 := Tryz.underlying247
  a183 := Tryz.isAgg247
  z183 := Tryz.sizeOf247
  v183 := Tryz.zeroValue247
  t218 := Tryz.underlying282
  a218 := Tryz.isAgg282
  z218 := Tryz.sizeOf282
  v218 := Tryz.zeroValue282
  t222 := Tryz.underlying286
  a222 := Tryz.isAgg286
  z222 := Tryz.sizeOf286
  v222 := Tryz.zeroValue286
  t228 := Tryz.underlying302
  a228 := Tryz.isAgg302
  z228 := Tryz.sizeOf302
  v228 := Tryz.zeroValue302
  t229 := Tryz.underlying205
  a229 := Tryz.isAgg205
  z229 := Tryz.sizeOf205
  v229 := Tryz.zeroValue205 }
open Go.Sort Go.RowKit in
open Go.Sort Go.RowKit in
theorem sort_ints15 (blk off cap : Nat) (zs : List Int) (w : World) (hH : Holds (Value.int .i64) w blk off zs.toArray) (hblk : blk < w.heap.size) (hsz : zs.length < 4611686018427387904) :
    Calls Tryz.prog 88 #[.slice (some ⟨blk, off, none⟩) zs.length cap] w fun e w' =>
      e = .returned (.tuple #[]) ∧ ∃ n os, w' = grow (putRow (Value.int .i64) (Sort.ahead w n) blk off (zs.mergeSort fun x y => decide (x ≤ y)).toArray) os := Any.slices_Sort_int srtLays15 blk off cap zs w hH hblk hsz
open Go.Sort Go.RowKit in
theorem sort_none15 (p : Option Addr) (cap : Nat) (w : World) :
    Calls Tryz.prog 88 #[.slice p 0 cap] w fun e w' => e = .returned (.tuple #[]) ∧ w' = w := Any.slices_Sort_int_none srtLays15 p cap w
open Go.Sort Go.RowKit in
/-- A row of the call's own, sorted. -/
theorem sort_own15 (l : List Int) (base : Nat) (v : Value) (w : World) (hl0 : l.length ≤ 100000) (h : w.ownsRow base 3 1 v l.length (l.map (Value.int .i64))) :
    Calls Tryz.prog 88 #[v] w fun e w' => e = .returned (.tuple #[]) ∧ w'.ownsRow base 3 1 v l.length ((l.mergeSort fun x y => decide (x ≤ y)).map (Value.int .i64)) ∧ (base ≤ w.heap.size → Below base w w') := by
  rcases h.2 with ⟨h0, hl⟩ | ⟨g, cap, cur, rfl, hg, hb, hn, hcap, hcur, ht⟩
  · obtain rfl : l = [] := by
      cases l with
      | nil => rfl
      | cons a b => simp at hl
    subst h0
    refine (sort_none15 none 0 w).mono ?_
    rintro e w' ⟨rfl, rfl⟩
    exact ⟨rfl, by simpa using h, fun _ => Below.refl _ _⟩
  · have hgl : g < w.heap.size := (Array.getElem?_eq_some_iff.1 hb).1
    refine (sort_ints15 g 0 cap l w (holds_of_blockI hb (by simpa using ht)) hgl (by omega)).mono ?_
    rintro e w' ⟨rfl, n, os, rfl⟩
    refine ⟨rfl, ownsRow_sortedI (by simp) hg hb hn hcap hcur, fun hbs => ?_⟩
    exact (Below.refl base w).grown (grownBy_sortedI _) hbs (fun k e => by injection e with e; omega)
end Go.Proofs.YtehadoecnmfeoaaGreat
/- What is made, on both sides: walks. -/
namespace Go.Proofs.YtehadoecnmfeoaaGreat
open Go.RowKit
set_option linter.unusedVariables false
set_option linter.unusedSimpArgs false
theorem wires_up {n : Nat} {ws : List Int} (h : wiresB n ws = true) : ∀ k, k < ws.length → (k : Int) ≤ ws.getD k 0
  | 0, hk => (wires_at h hk).1
  | k + 1, hk => by
    have h1 := wires_up h k (by omega)
    have h2 := (wires_at h hk).2.2 (by omega)
    rw [Nat.add_sub_cancel] at h2
    omega
theorem wires_len {n : Nat} {ws : List Int} (h : wiresB n ws = true) : ws.length ≤ n := by
  rcases Nat.eq_zero_or_pos ws.length with h0 | h0
  · omega
  · have h1 := wires_up h (ws.length - 1) (by omega)
    have h2 := (wires_at h (show ws.length - 1 < ws.length by omega)).2.1
    omega
def madL (l : Lo) (ms : List Md) (x : List Bool) : List Nat := if pikE l ms x = 0 then madeN l.ws.length ms x else []
end Go.Proofs.YtehadoecnmfeoaaGreat
/- The rules because of which no variant meets a formula. Plain laws. -/
namespace Go.Proofs.YtehadoecnmfeoaaGreat
set_option linter.unusedVariables false
/-- Some rules of a model, by number. -/
def rulesAt (m : Mo) (K : List Nat) : List (List Int) := K.map fun k => m.rules.getD k []
/-- The variants in which a formula, some rules, and those from one on hold. -/
def corS (m : Mo) (f : List Int) (K : List Nat) (j : Nat) : List (List Bool) := (exts m.opts.length []).filter fun x => evF1 (vf x) f && (allF (vf x) (rulesAt m K) && allF (vf x) (m.rules.drop j))
/-- Those of the first i rules that are left. -/
def kept (m : Mo) (f : List Int) : Nat → List Nat
  | 0 => []
  | i + 1 => if (corS m f (kept m f i) (i + 1)).isEmpty then kept m f i else kept m f i ++ [i]
/-- A model with some of the rules. -/
def fewM (m : Mo) (K : List Nat) : Mo := ⟨m.opts, rulesAt m K⟩
/-- What Core returns. -/
def corE (m : Mo) (f : List Int) : Int := if m.errF [f] ≠ 0 then m.errF [f] else if whereF (allM m) f ≠ [] then 1 else 0
def corL (m : Mo) (f : List Int) : List Nat := if corE m f = 0 then kept m f m.rules.length else []
end Go.Proofs.YtehadoecnmfeoaaGreat
/- The rules because of which no variant meets a formula: walk. -/
namespace Go.Proofs.YtehadoecnmfeoaaGreat
open Go.RowKit
set_option linter.unusedVariables false
set_option linter.unusedSimpArgs false
/-- A list of rules and an error. -/
def CorP (l : List Nat) (er : Int) (w : World) (e : Ending) (w' : World) : Prop := ∃ v, e = .returned (.tuple #[v, .int .i64 er]) ∧ Nods w' w'.heap.size v l ∧ Below w.heap.size w w'
theorem CorP.none (er : Int) {w w' : World} (h : Below w.heap.size w w') : CorP [] er w (.returned (.tuple #[.slice none 0 0, .int .i64 er])) w' := ⟨_, rfl, Sl.nil _ _ _ _, h⟩
/-- What a slice from k on gives. -/
def slcV (A : Option Addr) (n cap k : Nat) : Value := sliced A k n cap 1
theorem Forms.drop {w : World} {B n cap : Nat} {A : Option Addr} {l : List (List Int)} {k : Nat} (h : Forms w B (.slice A n cap) l) (hk : k ≤ l.length) : Forms w B (slcV A n cap k) (l.drop k) := by
  obtain ⟨fv, ⟨A1, b1, off1, cap1, hv, hn, hA, hc⟩, h2⟩ := h
  injection hv with e1 e2 e3
  subst e1 e2 e3
  unfold slcV sliced
  split
  · rename_i hck
    have h0 : l.drop k = [] := List.drop_eq_nil_of_le (by omega)
    rw [h0, show l.length - k = 0 by omega, show cap - k = 0 by omega]
    exact ⟨fun _ => undef, ⟨A, b1, off1, 0, rfl, Nat.le_refl _, .inr rfl, fun i j hi hj => by simp at hi⟩, fun i hi => by simp at hi⟩
  · refine ⟨fun i => fv (k + i), ⟨A.map (·.add (k * 1)), b1, off1 + k, cap - k, by rw [List.length_drop], by rw [List.length_drop]; omega, ?_, fun i j hi hj => ?_⟩, fun i hi => ?_⟩
    · rcases hA with ⟨hA, hb⟩ | hA
      · subst hA
        refine .inl ⟨?_, hb⟩
        simp only [Option.map_some, Nat.mul_one]
        congr 1
        unfold Addr.add
        split
        · rename_i h0; rw [h0]; rfl
        · rfl
      · exact .inr (by rw [List.length_drop]; omega)
    · rw [List.length_drop] at hi
      have := hc (k + i) j (by omega) hj
      rw [show off1 + k + (i * 1 + j) = off1 + ((k + i) * 1 + j) by omega]
      exact this
    · rw [List.length_drop] at hi
      have := h2 (k + i) (by omega)
      rw [show (l.drop k).getD i [] = l.getD (k + i) [] by simp [List.getD_eq_getElem?_getD]]
      exact this
/-- What holds of the forest between two rules of Core. -/
structure CorI (m : Mo) (f : List Int) (w1 : World) (F : Fo) (a k : Nat) (w2 : World) (F1 : Fo) : Prop where
  op : OpR k w1 F w2 F1
  lt : a < F1.ks.length
  ev : ∀ v, ev F1.ks v a = evF1 v f
theorem CorI.step {m : Mo} {f : List Int} {w1 : World} {F : Fo} {a k l : Nat} {w2 w3 : World} {F1 F2 : Fo} (h : CorI m f w1 F a k w2 F1) (r : OpR l w2 F1 w3 F2) : CorI m f w1 F a (k + l) w3 F2 :=
  ⟨h.op.trans r, Nat.lt_of_lt_of_le h.lt r.st.le, fun v => by rw [r.st.ev h.op.st.here.wf h.lt, h.ev v]⟩
end Go.Proofs.YtehadoecnmfeoaaGreat
/- Core as the elder program has it: walk. -/
namespace Go.Proofs.YtehadoecnmfeoaaGreat
open Go.RowKit
set_option linter.unusedVariables false
set_option linter.unusedSimpArgs false
/-- A list of numbers of the call's own, above block B. -/
def NStk (B : Nat) (w : World) (sv : Value) (S : List Nat) : Prop := w.ownsRow B 3 1 sv S.length (S.map fun (n : Nat) => Value.int .i64 n)
theorem NStk.nil (w : World) (B : Nat) : NStk B w (.slice none 0 0) [] := World.ownsRow_nil w B 3 1
theorem NStk.below {B : Nat} {w w' : World} {sv : Value} {S : List Nat} (h : NStk B w sv S) (hb : Below w.heap.size w w') : NStk B w' sv S := owns_below h hb
theorem NStk.same {B : Nat} {w w' : World} {sv : Value} {S : List Nat} (h : NStk B w sv S) (hs : ∀ b, sv.ownBlock = some b → w'.heap[b]? = w.heap[b]?) : NStk B w' sv S := ownsRow_same h hs
theorem NStk.shape {B : Nat} {w : World} {sv : Value} {S : List Nat} (h : NStk B w sv S) : ∃ A cap, sv = .slice A S.length cap ∧ S.length ≤ cap ∧ cap ≤ maxLen := by
  rcases h.2 with ⟨h1, h2⟩ | ⟨g, cap, cur, h1, _, _, h2, h3, _⟩
  · exact ⟨none, 0, by rw [h1, h2], by omega, by unfold maxLen; omega⟩
  · exact ⟨_, cap, h1, h2, h3⟩
theorem NStk.cells {B : Nat} {w : World} {A : Option Addr} {n cap : Nat} {S : List Nat} (h : NStk B w (.slice A n cap) S) (hn : 0 < S.length) : ∃ g, A = some ⟨g, 0, none⟩ ∧ g < w.heap.size ∧ B ≤ g ∧ ∀ i, i < S.length → w.cell? ⟨g, i, none⟩ = some (.int .i64 (S.getD i 0 : Nat)) := by
  obtain ⟨g, cap', hv, hgb, hl⟩ := World.ownsRow.form h hn
  injection hv with h1 h2 h3
  subst h1
  refine ⟨g, rfl, hl, hgb, fun i hi => ?_⟩
  have := World.ownsRow.cells (g := g) h rfl i (.int .i64 (S.getD i 0 : Nat)) (by simp [hi])
  have he : (⟨g, 0, none⟩ : Addr).add i = ⟨g, i, none⟩ := by
    unfold Addr.add
    split
    · rename_i h0; rw [h0]
    · rw [Nat.zero_add]
  rwa [he] at this
theorem NStk.push {B : Nat} {w1 : World} {S : List Nat} {v1 : Value} {m : Nat} (hown : w1.ownsRow B 3 1 v1 (S.length + 1) ((S.map fun (n : Nat) => Value.int .i64 n) ++ [.int .i64 (m : Nat)])) : NStk B w1 v1 (S ++ [m]) := by
  unfold NStk
  rw [List.length_append, List.map_append]
  exact hown
theorem NStk.base {B B' : Nat} {w : World} {sv : Value} {S : List Nat} (h : NStk B w sv S) (hB : B' ≤ B) : NStk B' w sv S := owns_base h hB
/-- Numbers but one. -/
def butN (i : Nat) (S : List Nat) : List Nat := S.filter fun k => !(k == i)
/-- Formulas of an elder world w, in a slice of the call's own. -/
structure OFs (w : World) (e B : Nat) (wr : World) (sv : Value) (L : List (List Int)) (vs : List Value) : Prop where
  len : vs.length = L.length
  own : wr.ownsRow B e 1 sv L.length vs
  row : ∀ i, i < L.length → Ints w w.heap.size (vs.getD i undef) (L.getD i [])
theorem OFs.nil (w : World) (e B : Nat) (wr : World) : OFs w e B wr (.slice none 0 0) [] [] := ⟨rfl, World.ownsRow_nil wr B e 1, fun i hi => by simp at hi⟩
theorem OFs.same {w : World} {e B : Nat} {wr wr' : World} {sv : Value} {L : List (List Int)} {vs : List Value} (h : OFs w e B wr sv L vs) (hs : ∀ b, sv.ownBlock = some b → wr'.heap[b]? = wr.heap[b]?) : OFs w e B wr' sv L vs := ⟨h.len, ownsRow_same h.own hs, h.row⟩
theorem OFs.push {w : World} {e B : Nat} {wr wr' : World} {sv v1 : Value} {L : List (List Int)} {vs : List Value} {l : List Int} {x : Value} (h : OFs w e B wr sv L vs) (hx : Ints w w.heap.size x l) (hown : wr'.ownsRow B e 1 v1 (L.length + 1) (vs ++ [x])) : OFs w e B wr' v1 (L ++ [l]) (vs ++ [x]) := by
  have hl := h.len
  refine ⟨by simp [hl], by rw [List.length_append]; exact hown, fun i hi => ?_⟩
  rw [getD_push, getD_push, hl]
  by_cases h1 : i < L.length
  · rw [if_pos h1, if_pos h1]
    exact h.row i h1
  · have : i = L.length := by simp at hi; omega
    rw [if_neg h1, if_pos this, if_neg h1, if_pos this]
    exact hx
theorem OFs.forms {w : World} {e B : Nat} {wr : World} {sv : Value} {L : List (List Int)} {vs : List Value} (h : OFs w e B wr sv L vs) (hb : Below w.heap.size w wr) : Forms wr wr.heap.size sv L := by
  refine ⟨fun i => vs.getD i undef, Sl.of_owns h.own fun i j hi hj => ?_, fun i hi => ((h.row i hi).below hb).more hb.size⟩
  obtain rfl : j = 0 := by omega
  have := h.len
  have hi2 : i < vs.length := by omega
  rw [Nat.mul_one, Nat.add_zero]
  simp [hi2]
theorem OFs.shape {w : World} {e B : Nat} {wr : World} {sv : Value} {L : List (List Int)} {vs : List Value} (h : OFs w e B wr sv L vs) : ∃ A cap, sv = .slice A L.length cap ∧ L.length ≤ cap ∧ cap ≤ maxLen := by
  rcases h.own.2 with ⟨h1, h2⟩ | ⟨g, cap, cur, h1, _, _, h2, h3, _⟩
  · exact ⟨none, 0, by rw [h1, h2], by omega, by unfold maxLen; omega⟩
  · exact ⟨_, cap, h1, h2, h3⟩
/-- The blocks that change when a rule is appended in a box. -/
def fewS (fb : Nat) (rv : Value) (k : Nat) : Prop := k = fb ∨ rv.ownBlock = some k
end Go.Proofs.YtehadoecnmfeoaaGreat
/- The greatest fill of a run: walk. -/
namespace Go.Proofs.YtehadoecnmfeoaaGreat
open Go.RowKit
set_option linter.unusedVariables false
set_option linter.unusedSimpArgs false
/-- The formulas and the sizes of some wires. -/
def fmsL (l : Lo) (T : List Nat) : List (List Int) := T.map fun i => (l.ws.getD i Wi.o).form
def szsL (l : Lo) (T : List Nat) : List Int := T.map fun i => (l.ws.getD i Wi.o).size
theorem ownsKeep {w w' : World} {b e sz n b2 e2 sz2 n2 : Nat} {v v2 : Value} {xs xs2 : List Value} {o : Obj} (h : w.ownsRow b e sz v n xs) (h2 : w.ownsRow b2 e2 sz2 v2 n2 xs2) (hne : e ≠ e2) (hg : (w.alloc o).grownBy w' v2.ownBlock) : w'.ownsRow b e sz v n xs := by
  refine (h.alloc o).kept hg ?_
  cases hv : v2.ownBlock with
  | none =>
    cases hv1 : v.ownBlock with
    | none => exact .inl rfl
    | some g => exact .inr (by simp)
  | some g =>
    right
    obtain ⟨_, ⟨h3, _⟩ | ⟨g', cap, cur, h3, _, h4, _⟩⟩ := h2
    · rw [h3] at hv; cases hv
    · rw [h3] at hv
      injection hv with hv
      simp only at hv
      subst hv
      exact ownsNot h h4 hne
/-- What worst has gathered. -/
structure WorS (w0 wr : World) (B lb : Nat) (A0 A1 A2 A3 A4 A5 : Option Addr) (q0 q1 q2 q3 q4 q5 : Nat) (l : Lo) (fv sv : Value) (Fs : List (List Int)) (Ss : List Int) (vs : List Value) : Prop where
  below : Below w0.heap.size w0 wr
  box : LoBox wr lb A0 A1 A2 A3 A4 A5 q0 q1 q2 q3 q4 q5 l
  f : OFs w0 46 B wr fv Fs vs
  s : wr.ownsRow B 3 1 sv Ss.length (Ss.map fun (n : Int) => Value.int .i64 n)
  lt : w0.heap.size ≤ B ∧ B ≤ wr.heap.size
section
variable {w0 wr w' : World} {B lb : Nat} {A0 A1 A2 A3 A4 A5 : Option Addr} {q0 q1 q2 q3 q4 q5 : Nat} {l : Lo} {fv sv v1 x : Value} {Fs : List (List Int)} {Ss : List Int} {vs : List Value} {m : Int} {o : Obj} {f : List Int}
theorem own_box {b e sz n t : Nat} {v : Value} {xs : List Value} {C : Array Value} {g : Nat} (h : wr.ownsRow b e sz v n xs) (hg : (wr.alloc o).grownBy w' v.ownBlock) (hb : wr.heap[g]? = some (.cells C t (0, 0))) (hne : e ≠ t) : w'.heap[g]? = some (.cells C t (0, 0)) :=
  (hg.block g (by have := box_lt hb; simp; omega) (fun q => ownsNot h hb hne q.symm)).trans (box_to hb ((Below.refl _ _).alloc (Nat.le_refl _) _))
theorem own_low {b e sz n : Nat} {v : Value} {xs : List Value} (h0 : Below w0.heap.size w0 wr) (h : wr.ownsRow b e sz v n xs) (hb : w0.heap.size ≤ b) (hg : (wr.alloc o).grownBy w' v.ownBlock) : Below w0.heap.size w0 w' :=
  Below.grown (Below.to h0 ((Below.refl wr.heap.size wr).alloc (Nat.le_refl _) o) (Nat.le_refl _)) hg (by have := h0.size; simp; omega) (fun k hk => Nat.le_trans hb (h.lt k hk).1)
theorem WorS.pushF (h : WorS w0 wr B lb A0 A1 A2 A3 A4 A5 q0 q1 q2 q3 q4 q5 l fv sv Fs Ss vs) (hx : Ints w0 w0.heap.size x f) (hown : w'.ownsRow B 46 1 v1 (Fs.length + 1) (vs ++ [x])) (hg : (wr.alloc o).grownBy w' fv.ownBlock) : WorS w0 w' B lb A0 A1 A2 A3 A4 A5 q0 q1 q2 q3 q4 q5 l v1 sv (Fs ++ [f]) Ss (vs ++ [x]) :=
  ⟨own_low h.below h.f.own h.lt.1 hg, own_box h.f.own hg h.box (by decide), h.f.push hx hown, ownsKeep h.s h.f.own (by decide) hg, h.lt.1, by have := hg.size; simp at this; have := h.lt.2; omega⟩
theorem WorS.pushS (h : WorS w0 wr B lb A0 A1 A2 A3 A4 A5 q0 q1 q2 q3 q4 q5 l fv sv Fs Ss vs) (hown : w'.ownsRow B 3 1 v1 (Ss.length + 1) ((Ss.map fun (n : Int) => Value.int .i64 n) ++ [.int .i64 m])) (hg : (wr.alloc o).grownBy w' sv.ownBlock) : WorS w0 w' B lb A0 A1 A2 A3 A4 A5 q0 q1 q2 q3 q4 q5 l fv v1 Fs (Ss ++ [m]) vs :=
  ⟨own_low h.below h.s h.lt.1 hg, own_box h.s hg h.box (by decide), ⟨h.f.len, ownsKeep h.f.own h.s (by decide) hg, h.f.row⟩, by rw [List.length_append, List.length_singleton, List.map_append]; exact hown, h.lt.1, by have := hg.size; simp at this; have := h.lt.2; omega⟩
end
theorem Ints.of_own {w : World} {base : Nat} {v : Value} {S : List Int} (h : w.ownsRow base 3 1 v S.length (S.map fun (n : Int) => Value.int .i64 n)) : Ints w w.heap.size v S :=
  Sl.of_owns h fun i j hi hj => by
    obtain rfl : j = 0 := by omega
    rw [Nat.mul_one, Nat.add_zero]
    simp [hi]
/-- The greatest fill of a run, its variant, the error. -/
def worN (l : Lo) (run : Nat) : Int := mosN l.m (fmsL l (thruL l run)) (szsL l (thruL l run))
def worX (l : Lo) (run : Nat) : List Bool := mosX l.m (fmsL l (thruL l run)) (szsL l (thruL l run))
def worE (l : Lo) (run : Nat) : Int := mosE l.m (fmsL l (thruL l run)) (szsL l (thruL l run))
end Go.Proofs.YtehadoecnmfeoaaGreat
/- The greatest load of one board (the program): walk. -/
namespace Go.Proofs.YtehadoecnmfeoaaGreat
open Go.RowKit
set_option linter.unusedVariables false
set_option linter.unusedSimpArgs false
theorem WorS.to9 {w0 wr w' : World} {B lb : Nat} {A0 A1 A2 A3 A4 A5 : Option Addr} {q0 q1 q2 q3 q4 q5 : Nat} {l : Lo} {fv sv : Value} {Fs : List (List Int)} {Ss : List Int} {vs : List Value} (h : WorS w0 wr B lb A0 A1 A2 A3 A4 A5 q0 q1 q2 q3 q4 q5 l fv sv Fs Ss vs) (hb : Below wr.heap.size wr w') : WorS w0 w' B lb A0 A1 A2 A3 A4 A5 q0 q1 q2 q3 q4 q5 l fv sv Fs Ss vs :=
  ⟨Below.to h.below hb (Nat.le_refl _), box_to h.box hb, ⟨h.f.len, owns_below h.f.own hb, h.f.row⟩, owns_below h.s hb, h.lt.1, Nat.le_trans h.lt.2 hb.size⟩
set_option maxRecDepth 100000 in
set_option maxHeartbeats 1000000 in
theorem loads2_any (bs : List Int) (Ab : Option Addr) (qb b i pb bb : Nat) (w : World) (hp : w.heap[pb]? = some (.cells #[.slice Ab bs.length qb] 45 (0, 0))) (hbb : w.heap[bb]? = some (.cells #[.int .i64 (b : Nat)] 3 (0, 0))) (h : Ints w w.heap.size (.slice Ab bs.length qb) bs) (hi : i < bs.length) (hm : bs.length ≤ maxLen) :
    Calls Tryz.prog 74 #[.int .i64 (i : Nat), .pointer (some ⟨pb, 0, none⟩), .pointer (some ⟨bb, 0, none⟩)] w fun e w' => e = .returned (.bool (onB bs b i)) ∧ Below w.heap.size w w' := by
  obtain ⟨b1, o1, x, HX, hA, hb1, hq1, e1⟩ := h.at7 hi
  subst hA
  have hr : onB bs b i = (x == (b : Int)) := by unfold onB; rw [HX.out]
  rw [hr]
  have p0 := cellOf hp 0
  have b0 := cellOf hbb 0
  have lp := box_lt hp
  have lb := box_lt hbb
  have ii0 : (0 : Int) ≤ (i : Int) := by omega
  have ii1 : (i : Int) < (bs.length : Int) := by omega
  have iq : (bs.length : Int) ≤ (qb : Int) := by omega
  unfold maxLen at hm
  clear hp hbb h HX hr hq1 hi
  cases hc : (x == (b : Int)) with
  | true =>
    go_enter Tryz.func74, Tryz.ntmps74
    go_upto_region 1 with (fail)
    refine wp_region_held_drew (S := (fun w' => Below w.heap.size w w')) (by kernel_rfl) ?_ (fun hHeld => ?_)
    · try dsimp only
      exact (by repeat (first | exact Below.refl _ _ | assumption | refine Below.drew ?_ | refine Below.drewN ?_ _ | refine Below.allocT ?_ (Nat.le_refl _) _ | refine Below.setCell ?_ (by simp <;> omega) _ | refine Below.to ?_ (by assumption) (Nat.le_refl _)))
    refine zT 0 rfl ?_
    try simp only [zX]
    refine zT 1 rfl ?_
    try simp only [zX]
    refine zT 2 rfl ?_
    try simp only [zX]
    refine zT 3 rfl ?_
    try simp only [zX]
    refine zT 4 rfl ?_
    try simp only [zX]
    refine zT 5 rfl ?_
    try simp only [zX]
    refine zT 6 rfl ?_
    try simp only [zX]
    refine wpAnyH_done (by kernel_rfl) ?_ _
    go_wp2_with fail
    go_ret
    exact ⟨rfl, hHeld⟩
  | false =>
    go_enter Tryz.func74, Tryz.ntmps74
    go_upto_region 1 with (fail)
    refine wp_region_held_drew (S := (fun w' => Below w.heap.size w w')) (by kernel_rfl) ?_ (fun hHeld => ?_)
    · try dsimp only
      exact (by repeat (first | exact Below.refl _ _ | assumption | refine Below.drew ?_ | refine Below.drewN ?_ _ | refine Below.allocT ?_ (Nat.le_refl _) _ | refine Below.setCell ?_ (by simp <;> omega) _ | refine Below.to ?_ (by assumption) (Nat.le_refl _)))
    refine zT 0 rfl ?_
    try simp only [zX]
    refine zT 1 rfl ?_
    try simp only [zX]
    refine zT 2 rfl ?_
    try simp only [zX]
    refine zT 3 rfl ?_
    try simp only [zX]
    refine zT 4 rfl ?_
    try simp only [zX]
    refine zT 5 rfl ?_
    try simp only [zX]
    refine zT 6 rfl ?_
    try simp only [zX]
    refine wpAnyH_done (by kernel_rfl) ?_ _
    go_wp2_with fail
    go_ret
    exact ⟨rfl, hHeld⟩
set_option maxRecDepth 100000 in
set_option maxHeartbeats 4000000 in
theorem load_any (b : Nat) (bs : List Int) (ms : List Md) (Am : Option Addr) (qm : Nat) (p1 p2 : Value) (A0 A1 A2 A3 A4 A5 : Option Addr) (q0 q1 q2 q3 q4 q5 : Nat) (l : Lo) (w : World) (hs : SizedL l) (hd : SizedD ms) (h : LoA w w.heap.size A0 A1 A2 A3 A4 A5 q0 q1 q2 q3 q4 q5 l) (hm : Mods w w.heap.size (.slice Am ms.length qm) ms) (hb : bldE l ms = 0) (hN : l.m.opts.length ≤ 12) (hne : allM l.m ≠ [])
    (hf : ∀ (i : Nat) (W : World), i < ms.length → Below w.heap.size w W → Calls Tryz.prog 74 #[.int .i64 (i : Nat), p1, p2] W fun e w' => e = .returned (.bool (onB bs b i)) ∧ Below W.heap.size W w') :
    Calls Tryz.prog 73 #[.agg #[.slice A0 l.m.opts.length q0, .slice A1 l.m.rules.length q1, .slice A2 l.ss.length q2, .slice A3 l.us.length q3, .slice A4 l.ps.length q4, .slice A5 l.ws.length q5], .slice Am ms.length qm, .func (.func 74) #[] #[p1, p2]] w fun e w' => e = .returned (.tuple #[.int .i64 (lodN l.m ms bs b : Nat), .int .i64 0]) ∧ Below w.heap.size w w' := by
  obtain ⟨i0, hi0, iz0, iz1, iz2⟩ := info_parts infoInt
  obtain ⟨i1, hi1, jz0, jz1, jz2⟩ := info_parts infoForm
  have okm := bldE_ok hb
  have hms60 := okm.n
  have hws60 := okm.lo.w60
  have hsz : ∀ i, sz9 ms i ≤ 60 := fun i => by
    unfold sz9
    rcases Nat.lt_or_ge i ms.length with h1 | h1
    · have := wires_len (ms_wires hb _ (getD_mem7 (z := Md.o) h1))
      omega
    · rw [List.getD_eq_getElem?_getD, List.getElem?_eq_none h1]
      exact Nat.zero_le _
  have hbest := best_lod (m := l.m) (ms := ms) (bs := bs) (b := b) hne hms60 hsz
  obtain ⟨R0, hR0⟩ : ∃ z, lodN l.m ms bs b = z := ⟨_, rfl⟩
  rw [hR0] at hbest ⊢
  have HBEST := hide hbest
  have HSZ := hide hsz
  have HV := hide (ms_valid hb)
  have HMO := hide okm.lo.m
  have HNE := hide hne
  have H := hide h
  have HS := hide hs
  have HM := hide hm
  have HD := hide hd
  have HF := hide hf
  clear okm hb hsz hbest hR0 hne h hs hm hd hf
  go_enter Tryz.func73, Tryz.ntmps73
  go_upto_region 1 with (fail)
  generalize hw0 : World.alloc _ _ = w0
  obtain ⟨hb0, hB0, hs0⟩ := alloc1 hw0
  have HB0 := hide hB0
  have HL0 : Hid (LoBox w0 w.heap.size A0 A1 A2 A3 A4 A5 q0 q1 q2 q3 q4 q5 l) := hb0
  clear hw0 hb0 hB0 hs0
  obtain ⟨W0, hW0⟩ : ∃ wo : World, wo = w0 := ⟨_, rfl⟩
  subst hW0
  go_wp2_with fail
  go_loopw [8, 9, 10, 11, 17] (fun fo so _ _ i wr => ∃ (k : Nat) (A A' : Option Addr) (cap cap' : Nat) (Fs : List (List Int)) (Ss : List Int) (vs : List Value), i = .int .i64 k ∧ fo = .slice A Fs.length cap ∧ so = .slice A' Ss.length cap' ∧ k ≤ ms.length ∧ Hid (fms9 ms (onK bs b k) = Fs) ∧ Hid (szs9 ms (onK bs b k) = Ss) ∧ Hid (WorS w wr W0.heap.size w.heap.size A0 A1 A2 A3 A4 A5 q0 q1 q2 q3 q4 q5 l (.slice A Fs.length cap) (.slice A' Ss.length cap') Fs Ss vs)) (fun _ _ _ _ i _ => ms.length - (intOf i).toNat)
  case atStart => exact ⟨0, _, _, _, _, [], [], [], rfl, rfl, rfl, Nat.zero_le _, rfl, rfl, ⟨HB0.out, HL0.out, OFs.nil _ _ _ _, World.ownsRow_nil _ _ _ _, HB0.out.size, Nat.le_refl _⟩⟩
  case round =>
    obtain ⟨k, A, A', cap, cap', Fs, Ss, vs, rfl, rfl, rfl, hk, HFs, HSs, R⟩ := hrel
    by_cases hkl : k < ms.length
    case pos =>
      have hol := onK_le bs b k
      have hFl : Fs.length ≤ 60 := by rw [← HFs.out]; unfold fms9; simp; omega
      have hSl : Ss.length ≤ 60 := by rw [← HSs.out]; unfold szs9; simp; omega
      have hkl1 : (k : Int) < (ms.length : Int) := by omega
      have ik0 : (0 : Int) ≤ (k : Int) := by omega
      obtain ⟨bm, off, d, Af, qf, Aw, qw, HDD, hA, hbm, hq, HFO, HWS, e0, e1⟩ := HM.out.at hkl
      subst hA
      have z0 := (R.out.below.cell (p := ⟨bm, off + k * 2, none⟩) hbm).trans e0
      have z1 := (R.out.below.cell (p := ⟨bm, off + k * 2 + 1, none⟩) hbm).trans e1
      have lb : bm < wr.heap.size := Nat.lt_of_lt_of_le hbm R.out.below.size
      have iq : (ms.length : Int) ≤ (qm : Int) := by omega
      have hst := onK_succ bs b k
      have hszk := HSZ.out k
      unfold sz9 at hszk
      rw [HDD.out] at hszk
      clear e0 e1 hq hol
      go_upto_region 6 with (fail)
      generalize hw2 : World.alloc _ _ = w2
      obtain ⟨hb2, hB2, hs2⟩ := alloc1 hw2
      have R2 := hide (R.out.to9 hB2)
      have HM2 := hide hb2
      obtain ⟨xb, hxb⟩ : ∃ z, wr.heap.size = z := ⟨_, rfl⟩
      rw [hxb] at HM2
      rw [hxb]
      clear hw2 hb2 hB2 hs2 z0 z1 lb hxb
      cases hc : onB bs b k with
      | true =>
        rw [hc, if_pos rfl] at hst
        have hnf : fms9 ms (onK bs b (k + 1)) = Fs ++ [d.f] := by rw [hst, ← HFs.out, ← HDD.out]; simp [fms9]
        have hns : szs9 ms (onK bs b (k + 1)) = Ss ++ [(d.ws.length : Int)] := by rw [hst, ← HSs.out, ← HDD.out]; simp [szs9, sz9]
        have HNF := hide hnf
        have HNS := hide hns
        have HC := hide hc
        clear hst hnf hns hc
        go_upto_region 8 with (first
          | (go_at_call 74; refine (HF.out k _ hkl R2.out.below).mono ?_; rw [HC.out]; rintro e w3 ⟨rfl, hB3⟩; have R3 := hide (R2.out.to9 hB3); have HM3 := hide (box_to HM2.out hB3); have m0 := cellOf HM3.out 0; have m1 := cellOf HM3.out 1; have lm := box_lt HM3.out; clear hB3)
          | (at_builtin; refine wpList_append_own_at _ rfl (.tmp 25) (.tmp 28) _ rfl W0.heap.size 46 i1 _ 1 24 Tryz.underlying23 hi1 jz0 jz1 jz2 rfl (by omega) _ _ _ rfl (R3.out.f.own.alloc _) ⟨w3.heap.size, 0, none⟩ 1 1 [.slice Af d.f.length qf] rfl rfl (World.news_of_block (heap_alloc_new w3 _)) (by simp [Value.oneCell']) (by unfold maxLen; omega) (by omega) (by have := R3.out.lt.2; simp; omega) ?_; intro v1 w4 hown1 hg1 _ hat1; obtain ⟨A2', cap2, hv2⟩ := owns_form hown1; subst hv2; have R4 := hide (R3.out.pushF HFO.out hown1 hg1); have HM4 := hide (own_box R3.out.f.own hg1 HM3.out (by decide)); clear hown1 hg1 hat1 m0 m1 lm; have m0 := cellOf HM4.out 0; have m1 := cellOf HM4.out 1; have lm := box_lt HM4.out))
        obtain ⟨wm, hwm⟩ : ∃ wm : World, wm = w4 := ⟨_, rfl⟩
        subst hwm
        go_wp2_with (at_builtin; go_must (refine wpList_append_own_at _ rfl (.tmp 30) (.tmp 34) _ rfl (W0.heap.size) 3 i0 _ 1 8 Tryz.underlying45 hi0 iz0 iz1 iz2 rfl (by omega) _ _ _ rfl ((R4.out.s).alloc _) ⟨wm.heap.size, 0, none⟩ 1 1 [.int .i64 (d.ws.length : Nat)] rfl rfl (World.news_of_block (heap_alloc_new wm _)) (by simp [Value.oneCell']) (by have h1 := hSl; unfold maxLen; omega) (by have h1 := hSl; omega) (by have h1 := R4.out.lt.2; simp; omega) ?_); intro v1 w3 hown1 hg1 _ hat1; obtain ⟨A3', cap3, hv3⟩ := owns_form hown1; subst hv3; have R5 := hide (R4.out.pushS hown1 hg1); clear hown1 hg1 hat1)
        go_roundw
        case rel => exact ⟨k + 1, A2', A3', cap2, cap3, Fs ++ [d.f], Ss ++ [(d.ws.length : Int)], _, by go_num, by rw [List.length_append, List.length_singleton], by rw [List.length_append, List.length_singleton], by omega, HNF, HNS, by rw [List.length_append, List.length_singleton, List.length_append, List.length_singleton]; exact R5.out⟩
        case measure => simp [intOf]; omega
      | false =>
        rw [hc, if_neg (by simp)] at hst
        have HNF : Hid (fms9 ms (onK bs b (k + 1)) = Fs) := by show _ = _; rw [hst]; exact HFs.out
        have HNS : Hid (szs9 ms (onK bs b (k + 1)) = Ss) := by show _ = _; rw [hst]; exact HSs.out
        have HC := hide hc
        clear hst hc
        go_wp2_with (go_at_call 74; refine (HF.out k _ hkl R2.out.below).mono ?_; rw [HC.out]; rintro e w3 ⟨rfl, hB3⟩; have R3 := hide (R2.out.to9 hB3); clear hB3)
        go_roundw
        case rel => exact ⟨k + 1, A, A', cap, cap', Fs, Ss, vs, by go_num, rfl, rfl, by omega, HNF, HNS, R3⟩
        case measure => simp [intOf]; omega
    case neg =>
      have hke : k = ms.length := by omega
      subst hke
      have hkl1 : ¬ (ms.length : Int) < (ms.length : Int) := by omega
      have hFs := HFs.out
      have hSs := HSs.out
      have hol := onK_le bs b ms.length
      have hFl : Fs.length ≤ 60 := by rw [← hFs]; unfold fms9; simp; omega
      have hlen : Ss.length = Fs.length := by rw [← hFs, ← hSs]; unfold fms9 szs9; simp
      have hfv : ∀ f ∈ Fs, validF l.m.opts.length f = true := fun f hf => by
        rw [← hFs] at hf
        unfold fms9 at hf
        obtain ⟨i, hi, rfl⟩ := List.mem_map.1 hf
        exact HV.out _ (getD_mem7 (onK_lt hi))
      have hfz : Sized Fs := ⟨by unfold maxLen; omega, fun f hf => by
        rw [← hFs] at hf
        unfold fms9 at hf
        obtain ⟨i, hi, rfl⟩ := List.mem_map.1 hf
        exact (HD.out.f _ (getD_mem7 (onK_lt hi))).1⟩
      have hsv : ∀ y ∈ Ss, -1000000 ≤ y ∧ y ≤ 1000000 := fun y hy => by
        rw [← hSs] at hy
        unfold szs9 at hy
        obtain ⟨i, _, rfl⟩ := List.mem_map.1 hy
        have := HSZ.out i
        omega
      have hbe : bestF l.m Fs Ss = (R0 : Int) := by rw [← hFs, ← hSs]; exact HBEST.out
      have hmo := Most_n l.m Fs Ss _ _ (.slice A Fs.length cap) (.slice A' Ss.length cap') wr HS.out.m hfz (H.out.up R.out.below).m (R.out.f.forms R.out.below) (Ints.of_own R.out.s) (errF_all HMO.out hfv) hN (by omega) hlen hsv (by rw [satM_true]; exact HNE.out)
      unfold MostN at hmo
      rw [hbe] at hmo
      have HMO2 := hide hmo
      have d0 := cellOf R.out.box 0; have d1 := cellOf R.out.box 1; have d2 := cellOf R.out.box 2; have d3 := cellOf R.out.box 3; have d4 := cellOf R.out.box 4; have d5 := cellOf R.out.box 5
      have l1 := box_lt R.out.box
      clear hFs hSs hol hFl hlen hfv hfz hsv hbe hmo
      go_wp2_with (go_at_call 125; refine HMO2.out.mono ?_; rintro e w2 ⟨v2, x2, rfl, _, _, hv2, hB2⟩; have HB2 := hide (Below.to R.out.below hB2 (Nat.le_refl _)); clear hv2 hB2 d0 d1 d2 d3 d4 d5 l1)
      go_ret2
      exact ⟨rfl, HB2.out⟩
end Go.Proofs.YtehadoecnmfeoaaGreat

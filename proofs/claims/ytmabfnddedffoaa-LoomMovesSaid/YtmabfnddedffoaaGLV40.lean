/- Part 40 of this claim's texts: walks and plain laws. -/
import Derived.Test.YtmabfnddedffoaaRows
import Derived.Test.YtmabfnddedffoaaGLV36
import Derived.Test.YtmabfnddedffoaaGLV27
import Derived.Test.YtmabfnddedffoaaGLV35
import Derived.Test.YtmabfnddedffoaaGLV38
import Derived.Test.YtmabfnddedffoaaGLV11
/- A plug moved: the loom stays in order, and back again gives the loom; plain laws. -/
namespace Go.Proofs.Ytmabfnddedffoaa
set_option linter.unusedVariables false
theorem movL_names (l : Lo) (j : Nat) (s : Int) (hj : j < l.ps.length) : (movL l j s).ps.map Pl.name = l.ps.map Pl.name := by
  apply List.ext_getElem
  · simp [movL]
  · intro i h1 h2
    have hi : i < l.ps.length := by simpa using h2
    have h3 := movL_at l j s hi
    have h4 : i < (movL l j s).ps.length := by rw [movL_len]; exact hi
    rw [List.getD_eq_getElem?_getD, List.getElem?_eq_getElem h4, Option.getD_some] at h3
    rw [List.getElem_map, List.getElem_map, h3]
    by_cases e : i = j
    · subst e
      rw [if_pos rfl, List.getD_eq_getElem?_getD, List.getElem?_eq_getElem hi]
      rfl
    · rw [if_neg e, List.getD_eq_getElem?_getD, List.getElem?_eq_getElem hi]
      rfl
theorem any_names (p : ByteArray → Bool) (L : List Pl) (i : Nat) : ((L.take i).any fun q => p q.name) = ((L.map Pl.name).take i).any p := by
  rw [← List.map_take, List.any_map]
  rfl
theorem movL_cav (l : Lo) (j : Nat) (s : Int) (hj : j < l.ps.length) (i : Nat) : ((movL l j s).ps.getD i Pl.o).cav = (l.ps.getD i Pl.o).cav ∧ ((movL l j s).ps.getD i Pl.o).name = (l.ps.getD i Pl.o).name := by
  rcases Nat.lt_or_ge i l.ps.length with hi | hi
  · rw [movL_at l j s hi]
    by_cases e : i = j
    · subst e; rw [if_pos rfl]; exact ⟨rfl, rfl⟩
    · rw [if_neg e]; exact ⟨rfl, rfl⟩
  · have h1 : (movL l j s).ps.length ≤ i := by rw [movL_len]; exact hi
    rw [List.getD_eq_getElem?_getD, List.getElem?_eq_none h1, List.getD_eq_getElem?_getD, List.getElem?_eq_none hi]
    exact ⟨rfl, rfl⟩
theorem movL_pin (l : Lo) (j : Nat) (s : Int) (hj : j < l.ps.length) (p c : Int) : pinOk (movL l j s) p c = pinOk l p c := by
  unfold pinOk
  rw [movL_len, (movL_cav l j s hj p.toNat).1]
theorem movL_wi (l : Lo) (j : Nat) (s : Int) (hj : j < l.ps.length) : wiErr (movL l j s) = wiErr l := by
  funext i
  unfold wiErr wiOk
  simp only [movL_pin l j s hj]
  rfl
theorem movL_wires (l : Lo) (j : Nat) (s : Int) (hj : j < l.ps.length) : ∀ n, wiresErr (movL l j s) n = wiresErr l n
  | 0 => rfl
  | n + 1 => by
    show (if wiresErr (movL l j s) n ≠ 0 then wiresErr (movL l j s) n else wiErr (movL l j s) n) = if wiresErr l n ≠ 0 then wiresErr l n else wiErr l n
    rw [movL_wires l j s hj n, movL_wi l j s hj]
theorem movL_pl (l : Lo) (j : Nat) (s : Int) (hj : j < l.ps.length) (h0 : 0 ≤ s) (h1 : s < (l.ss.length : Int)) {i : Nat} (hi : i < l.ps.length) (h : plOk l i = true) : plOk (movL l j s) i = true := by
  unfold plOk at h ⊢
  rw [any_names (fun n => bytes n == bytes ((movL l j s).ps.getD i Pl.o).name), movL_names l j s hj, (movL_cav l j s hj i).1, (movL_cav l j s hj i).2, ← any_names (fun n => bytes n == bytes (l.ps.getD i Pl.o).name)]
  simp only [Bool.and_eq_true] at h ⊢
  refine ⟨⟨h.1.1, ?_⟩, h.2⟩
  show btw ((movL l j s).ps.getD i Pl.o).spot 0 ((l.ss.length : Int) - 1) = true
  rw [movL_at l j s hi]
  by_cases e : i = j
  · rw [if_pos e]
    exact btw_iff.2 ⟨h0, by show s ≤ _; omega⟩
  · rw [if_neg e]
    exact h.1.2
theorem movL_err {l : Lo} {j : Nat} {s : Int} (hj : j < l.ps.length) (h0 : 0 ≤ s) (h1 : s < (l.ss.length : Int)) (h : l.err = 0) : (movL l j s).err = 0 := by
  have ok := Lo.err_ok h
  have e1 : (movL l j s).many = l.many := by unfold Lo.many; rw [movL_len]; rfl
  have e2 : (List.range (movL l j s).ps.length).all (plOk (movL l j s)) = (List.range l.ps.length).all (plOk l) := by
    have h2 : (List.range l.ps.length).all (plOk l) = true := List.all_eq_true.2 fun i hi => ok.ps i (by simpa using hi)
    rw [h2, movL_len]
    exact List.all_eq_true.2 fun i hi => movL_pl l j s hj h0 h1 (by simpa using hi) (ok.ps i (by simpa using hi))
  rw [← h]
  unfold Lo.err
  rw [e1, e2, movL_wires l j s hj]
  rfl
/-- Back again. -/
theorem movL_back (l : Lo) (j : Nat) (s : Int) (hj : j < l.ps.length) : movL (movL l j s) j (l.ps.getD j Pl.o).spot = l := by
  have h : (movL (movL l j s) j (l.ps.getD j Pl.o).spot).ps = l.ps := by
    apply List.ext_getElem
    · rw [movL_len, movL_len]
    · intro i h1 hi
      have hi2 : i < (movL l j s).ps.length := by rw [movL_len]; exact hi
      have h3 := movL_at (movL l j s) j (l.ps.getD j Pl.o).spot hi2
      rw [List.getD_eq_getElem?_getD, List.getElem?_eq_getElem h1, Option.getD_some] at h3
      rw [h3]
      have h4 := movL_at l j s hi
      have h5 := movL_at l j s hj
      rw [if_pos rfl] at h5
      by_cases e : i = j
      · subst e
        rw [if_pos rfl, h5, List.getD_eq_getElem?_getD, List.getElem?_eq_getElem hi]
        rfl
      · rw [if_neg e, h4, if_neg e, List.getD_eq_getElem?_getD, List.getElem?_eq_getElem hi]
        rfl
  cases l with
  | mk m ss us ps ws =>
    show Lo.mk m ss us _ ws = _
    exact congrArg (fun x => Lo.mk m ss us x ws) h
theorem movL_far (l : Lo) (j : Nat) (s : Int) (hj : j < l.ps.length) : farB (movL l j s) = farB l := by
  have e1 : farN (movL l j s) = farN l := by unfold farN; rw [movL_len]; rfl
  have e2 : ((movL l j s).ps.any fun p => decide (100 < p.name.size)) = l.ps.any fun p => decide (100 < p.name.size) := by
    have h1 : ∀ L : List Pl, (L.any fun p => decide (100 < p.name.size)) = (L.map Pl.name).any fun n => decide (100 < n.size) := fun L => by rw [List.any_map]; rfl
    rw [h1, h1, movL_names l j s hj]
  unfold farB
  rw [e1, e2]
  rfl
theorem movL_sized {l : Lo} (j : Nat) (s : Int) (hj : j < l.ps.length) (h : SizedL l) : SizedL (movL l j s) := by
  refine ⟨h.m, h.s, h.u, by rw [movL_len]; exact h.p, h.w, fun x hx => ?_, h.wn⟩
  have h1 : x.name ∈ (movL l j s).ps.map Pl.name := List.mem_map_of_mem hx
  rw [movL_names l j s hj] at h1
  obtain ⟨y, hy, e⟩ := List.mem_map.1 h1
  rw [← e]
  exact h.pn y hy
theorem movL_end (l : Lo) (j : Nat) (s : Int) {p : Int} (h0 : 0 ≤ p) (hp : p < (l.ps.length : Int)) (hne : p ≠ (j : Int)) : ((movL l j s).ps.getD p.toNat Pl.o).spot = (l.ps.getD p.toNat Pl.o).spot := by
  rw [movL_at l j s (by omega), if_neg (by omega)]
/-- A wire that is not of the plug keeps its length. -/
theorem movL_lenW {l : Lo} (ok : LoOk l) (j : Nat) (s : Int) {i : Nat} (hi : i < l.ws.length) (h1 : (l.ws.getD i Wi.o).fp ≠ (j : Int)) (h2 : (l.ws.getD i Wi.o).tp ≠ (j : Int)) : lenW (movL l j s) i = lenW l i := by
  have hw := (ok.wi hi).1
  unfold wiOk at hw
  simp only [Bool.and_eq_true] at hw
  obtain ⟨⟨⟨⟨_, hf⟩, ht⟩, _⟩, _⟩ := hw
  obtain ⟨f0, f1, _⟩ := ok.pin hf
  obtain ⟨t0, t1, _⟩ := ok.pin ht
  have e1 : endF (movL l j s) i = endF l i := by
    show ((movL l j s).ps.getD (l.ws.getD i Wi.o).fp.toNat Pl.o).spot.toNat = _
    rw [movL_end l j s f0 (by omega) h1]
    rfl
  have e2 : endT (movL l j s) i = endT l i := by
    show ((movL l j s).ps.getD (l.ws.getD i Wi.o).tp.toNat Pl.o).spot.toNat = _
    rw [movL_end l j s t0 (by omega) h2]
    rfl
  unfold lenW
  rw [e1, e2]
  rfl
theorem rouE_zero {l : Lo} {i : Nat} (h : l.err = 0) (hi : i < l.ws.length) : rouE l i = 0 := by
  unfold rouE havE
  rw [if_neg (by simp [h]), btw_iff.2 ⟨by omega, by omega⟩]
  rfl
theorem lenN_zero {l : Lo} {i : Nat} (h : l.err = 0) (hi : i < l.ws.length) : lenN l i = lenW l i := by
  unfold lenN
  rw [if_pos (rouE_zero h hi), Int.toNat_natCast]
theorem movE_back {l : Lo} {j : Nat} {s : Int} (hj : j < l.ps.length) (h0 : 0 ≤ s) (h1 : s < (l.ss.length : Int)) (h : l.err = 0) : movE (movL l j s) j (l.ps.getD j Pl.o).spot = 0 := by
  have ok := Lo.err_ok h
  have hp := ok.ps j hj
  unfold plOk at hp
  simp only [Bool.and_eq_true, btw_iff] at hp
  unfold movE havE
  rw [if_neg (by simp [movL_err hj h0 h1 h])]
  have hb : movB (movL l j s) j (l.ps.getD j Pl.o).spot = true := by
    unfold movB
    rw [Bool.and_eq_true, btw_iff, btw_iff, movL_len]
    exact ⟨⟨by omega, by omega⟩, hp.1.2.1, hp.1.2.2⟩
  rw [hb]
  rfl
end Go.Proofs.Ytmabfnddedffoaa
/- The laws' looms, opened: no condition. -/
namespace Go.Proofs.Ytmabfnddedffoaa
open Go.Joins Go.ChangeShapes Go.WideShapes Go.ChangeAt Go.RowKit Go.Deep
set_option maxRecDepth 100000
set_option linter.unusedVariables false
set_option linter.unusedSimpArgs false
section
variable {H : Type} {enc : TypeId × Value → H} {W : World} {base b0 : Nat} {r : Reach} {spare : Nat → Bool} {held : Bool} {v : Value} {d : DataW H} {p : List MemPlace}
theorem open_lo (hv : Value.okWide Try.prog W r b0 31 v) (h : DataW.Trod enc Try.prog W base spare held 31 v d p) :
    ∃ (A0 A1 A2 A3 A4 A5 : Option Addr) (q0 q1 q2 q3 q4 q5 : Nat), ∃ l : Lo, v = .agg #[.slice A0 l.m.opts.length q0, .slice A1 l.m.rules.length q1, .slice A2 l.ss.length q2, .slice A3 l.us.length q3, .slice A4 l.ps.length q4, .slice A5 l.ws.length q5] ∧ LoA W W.heap.size A0 A1 A2 A3 A4 A5 q0 q1 q2 q3 q4 q5 l ∧ SizedL l := by
  obtain ⟨ov, rv, sv, uv, pv, wv, l, rfl, hl, hs, _⟩ := open_loom hv h
  obtain ⟨A0, A1, A2, A3, A4, A5, q0, q1, q2, q3, q4, q5, rfl, rfl, rfl, rfl, rfl, rfl, hla⟩ := hl.form
  exact ⟨A0, A1, A2, A3, A4, A5, q0, q1, q2, q3, q4, q5, l, rfl, hla, hs⟩
theorem open_int (hv : Value.okWide Try.prog W r b0 3 v) (h : DataW.Trod enc Try.prog W base spare held 3 v d p) : ∃ n : Int, v = .int .i64 n ∧ I64 n := by
  obtain ⟨n, rfl, _⟩ := okWide_int Try.underlying3 hv
  obtain ⟨fuel, hf⟩ := h
  obtain ⟨a, e, ha⟩ := int_cell hf
  simp at e
  subst e
  exact ⟨n, rfl, ha⟩
end
end Go.Proofs.Ytmabfnddedffoaa

/- Part 39 of this claim's texts: walks and plain laws. -/
import Derived.Test.YtehadoecnmfeoaaGreatRows
import Derived.Test.YtehadoecnmfeoaaGreatGBS36
import Derived.Test.YtehadoecnmfeoaaGreatGBS37
import Derived.Test.YtehadoecnmfeoaaGreatGBS38
import Derived.Deep.DeepMust
import Derived.Deep.RegionHeld3
import Derived.Deep.DrawnRows
import Derived.Test.YtehadoecnmfeoaaGreatGBS3
set_option linter.unusedVariables false
set_option linter.unusedSimpArgs false
set_option linter.unusedSectionVars false
namespace Go.Proofs.YtehadoecnmfeoaaGreat
open Go.RowKit
theorem infoNet : (Tryz.prog.info? 86).map (fun i => (i.zero, i.size, i.bytes)) = some (some (.slice none 0 0), 1, 24) := by kernel_rfl
theorem owns_other {w w' : World} {b1 e1 s1 n1 b2 e2 s2 n2 : Nat} {v1 v2 : Value} {x1 x2 : List Value} (h1 : w.ownsRow b1 e1 s1 v1 n1 x1) (h2 : w.ownsRow b2 e2 s2 v2 n2 x2) (hne : e2 ≠ e1) (hg : w.grownBy w' v2.ownBlock) : w'.ownsRow b1 e1 s1 v1 n1 x1 := by
 obtain ⟨a, b | ⟨g, cap, cur, h3, h4, h5, h6⟩⟩ := h1
 ·
  exact ⟨a, .inl b⟩
 ·
  exact ⟨a, .inr ⟨g, cap, cur, h3, h4, (hg.block g (Array.getElem?_eq_some_iff.1 h5).1 (fun e => ownsNot h2 h5 hne e.symm)).trans h5, h6⟩⟩
structure JnS (W1 wr : World) (X : List Value) (xv : Value) (J : List Pn) (jv : Value) : Prop where
 out : wr.ownsRow W1.heap.size 86 1 xv X.length X
 both : wr.ownsRow W1.heap.size 74 2 jv J.length (rowV pnE J)
 bel : Below W1.heap.size W1 wr
section
variable {W1 wr w' : World} {X : List Value} {xv jv v1 : Value} {J : List Pn}
theorem JnS.start (W1 : World) : JnS W1 W1 [] (.slice none 0 0) [] (.slice none 0 0) := ⟨World.ownsRow_nil _ _ _ _, World.ownsRow_nil _ _ _ _, Below.refl _ _⟩
theorem JnS.to (h : JnS W1 wr X xv J jv) (hb : Below wr.heap.size wr w') : JnS W1 w' X xv J jv := ⟨owns_below h.out hb, owns_below h.both hb, Below.to h.bel hb (Nat.le_refl _)⟩
theorem JnS.pushOut (h : JnS W1 wr X xv J jv) {o : Obj} {x : Value} (hown : w'.ownsRow W1.heap.size 86 1 v1 (X.length + 1) (X ++ [x])) (hg : (wr.alloc o).grownBy w' xv.ownBlock) : JnS W1 w' (X ++ [x]) v1 J jv := by
 have ha : Below wr.heap.size wr (wr.alloc o) := (Below.refl _ _).alloc (Nat.le_refl _) _
 refine ⟨by rw [List.length_append, List.length_singleton]; exact hown, owns_other (owns_below h.both ha) (owns_below h.out ha) (by decide) hg, own_low h.bel h.out (Nat.le_refl _) hg⟩
theorem JnS.pushOne (h : JnS W1 wr X xv J jv) {o : Obj} {p : Pn} (hown : w'.ownsRow W1.heap.size 74 2 v1 (J.length + 1) (rowV pnE J ++ [.int .i64 p.1, .int .i64 p.2])) (hg : (wr.alloc o).grownBy w' jv.ownBlock) : JnS W1 w' X xv (J ++ [p]) v1 := by
 have ha : Below wr.heap.size wr (wr.alloc o) := (Below.refl _ _).alloc (Nat.le_refl _) _
 refine ⟨owns_other (owns_below h.out ha) (owns_below h.both ha) (by decide) hg, ?_, own_low h.bel h.both (Nat.le_refl _) hg⟩
 rw [List.length_append, List.length_singleton, rowV_snoc]
 exact hown
theorem JnS.pushMany (h : JnS W1 wr X xv J jv) {net : List Pn} (hown : w'.ownsRow W1.heap.size 74 2 v1 (J.length + net.length) (rowV pnE J ++ rowV pnE net)) (hg : wr.grownBy w' jv.ownBlock) : JnS W1 w' X xv (J ++ net) v1 := by
 refine ⟨owns_other h.out h.both (by decide) hg, ?_, ?_⟩
 ·
  rw [List.length_append, rowV_app]
  exact hown
 ·
  exact Below.grown h.bel hg h.bel.size (fun q hq => (h.both.lt q hq).1)
theorem JnS.store {g m q : Nat} {L : List Pn} (h : JnS W1 wr X xv J (.slice (some ⟨g, 0, none⟩) m q)) (hl : L.length = m) (hown : w'.ownsRow W1.heap.size 74 2 (.slice (some ⟨g, 0, none⟩) m q) m (rowV pnE L)) (hg : wr.grownBy w' (some g)) : JnS W1 w' X xv L (.slice (some ⟨g, 0, none⟩) m q) :=
 ⟨owns_other h.out h.both (by decide) hg, by rw [hl]; exact hown, Below.grown h.bel hg h.bel.size (fun q hq => (h.both.lt q hq).1)⟩
end
theorem NetR.kept {w : World} {b0 B : Nat} {o : List (List Pn)} {vs : List Value} {K : List Nat} (hr : NetR w b0 B o vs) (hK : ∀ i ∈ K, i < o.length) : NetR w b0 B (K.map fun i => o.getD i []) (K.map fun i => vs.getD i undef) := fun i hi => by
 rw [List.length_map] at hi
 have e1 : (K.map fun i => o.getD i []).getD i [] = o.getD K[i] [] := by
  rw [List.getD_eq_getElem?_getD, List.getElem?_map, List.getElem?_eq_getElem hi]
  rfl
 have e2 : (K.map fun i => vs.getD i undef).getD i undef = vs.getD K[i] undef := by
  rw [List.getD_eq_getElem?_getD, List.getElem?_map, List.getElem?_eq_getElem hi]
  rfl
 rw [e1, e2]
 exact hr _ (hK _ (List.getElem_mem hi))
theorem NetR.up {w : World} {b0 B B' : Nat} {o : List (List Pn)} {vs : List Value} (h : NetR w b0 B o vs) (hB : B ≤ B') : NetR w b0 B' o vs := fun i hi => ⟨(h i hi).1, fun j hj => Nat.lt_of_lt_of_le ((h i hi).2 j hj) hB⟩
theorem NetS.snoc {w : World} {b0 B : Nat} {v x : Value} {o : List (List Pn)} {vs : List Value} {net : List Pn} (ho : w.ownsRow b0 86 1 v (vs.length + 1) (vs ++ [x])) (hl : vs.length = o.length) (hv : ∀ j, v.ownBlock = some j → j < B) (hr : NetR w b0 B o vs) (hs : ∀ i, i < o.length → (o.getD i []).length ≤ 100000)
  (hx : w.ownsRow b0 74 2 x net.length (rowV pnE net)) (hxB : ∀ j, x.ownBlock = some j → j < B) (hn : net.length ≤ 100000) : NetS w b0 B v (o ++ [net]) (vs ++ [x]) := by
 have g1 : ∀ i, i < o.length → (o ++ [net]).getD i [] = o.getD i [] ∧ (vs ++ [x]).getD i undef = vs.getD i undef := fun i hi => by
  constructor
  ·
   rw [List.getD_eq_getElem?_getD, List.getElem?_append_left hi, ← List.getD_eq_getElem?_getD]
  ·
   rw [List.getD_eq_getElem?_getD, List.getElem?_append_left (by omega), ← List.getD_eq_getElem?_getD]
 have g2 : (o ++ [net]).getD o.length [] = net ∧ (vs ++ [x]).getD o.length undef = x := by
  constructor
  ·
   rw [List.getD_eq_getElem?_getD, List.getElem?_append_right (Nat.le_refl _), Nat.sub_self]
   rfl
  ·
   rw [List.getD_eq_getElem?_getD, List.getElem?_append_right (by omega), hl, Nat.sub_self]
   rfl
 refine ⟨by rw [List.length_append, List.length_singleton, ← hl]; exact ho, by simp [hl], hv, fun i hi => ?_, fun i hi => ?_⟩
 ·
  rw [List.length_append, List.length_singleton] at hi
  rcases Nat.lt_or_ge i o.length with h | h
  ·
   rw [(g1 i h).1, (g1 i h).2]
   exact hr i h
  ·
   have e : i = o.length := by omega
   subst e
   rw [g2.1, g2.2]
   exact ⟨hx, hxB⟩
 ·
  rw [List.length_append, List.length_singleton] at hi
  rcases Nat.lt_or_ge i o.length with h | h
  ·
   rw [(g1 i h).1]
   exact hs i h
  ·
   have e : i = o.length := by omega
   subst e
   rw [g2.1]
   exact hn
theorem kepN_lt {a b : Pn} {o : List (List Pn)} {k : Nat} : ∀ i ∈ kepN a b o k, i < k := fun i hi => List.mem_range.1 (List.mem_filter.1 hi).1
def JoiP (b0 : Nat) (q : List (List Pn)) (w : World) (e : Ending) (w' : World) : Prop := ∃ v vs, e = .returned v ∧ NetS w' b0 w'.heap.size v q vs ∧ Below w.heap.size w w'
set_option maxRecDepth 100000 in
set_option maxHeartbeats 8000000 in
theorem rjoin_any (o : List (List Pn)) (vs : List Value) (v : Value) (a b : Pn) (b0 B : Nat) (w : World) (hi : NetI o) (hn : NetS w b0 B v o vs) (hN : o.length ≤ 1000) (ht : totN o ≤ 2000) (hB : B ≤ w.heap.size) (hb0 : b0 ≤ w.heap.size) :
  Calls Tryz.prog 178 #[v, .agg #[.int .i64 a.1, .int .i64 a.2], .agg #[.int .i64 b.1, .int .i64 b.2]] w (JoiP b0 (joiL o a b) w) := by
 obtain ⟨i0, hi0, iz0, iz1, iz2⟩ := info_parts infoPin
 obtain ⟨i1, hi1, jz0, jz1, jz2⟩ := info_parts infoNet
 obtain ⟨A, q, rfl⟩ := owns_form hn.own
 obtain ⟨ia, hia⟩ : ∃ z, atN o a = z := ⟨_, rfl⟩
 obtain ⟨ib, hib⟩ : ∃ z, atN o b = z := ⟨_, rfl⟩
 have htou : Hid (∀ n, n < o.length → touB a b (o.getD n []) = (n == ia || n == ib)) := fun n hn => by rw [← hia, ← hib]; exact atN_tou hi a b hn
 have hal : Hid (decide (ia = o.length) = !o.any (fun n => n.contains a)) := by show _ = _; rw [← hia]; exact atN_len a
 have hbl : Hid (decide (ib = o.length) = !o.any (fun n => n.contains b)) := by show _ = _; rw [← hib]; exact atN_len b
 have hial : ia ≤ o.length := by rw [← hia]; exact List.findIdx_le_length
 have hibl : ib ≤ o.length := by rw [← hib]; exact List.findIdx_le_length
 have HS := hide hn
 have HI := hide hi
 have HT := hide ht
 have HSM := hide hn.small
 have HAT : Hid (∀ (x y : Int) (W : World), Below w.heap.size w W → Calls Tryz.prog 176 #[.slice A o.length q, .agg #[.int .i64 x, .int .i64 y]] W fun e w' => e = .returned (.int .i64 (atN o (x, y) : Nat)) ∧ Below W.heap.size W w') :=
  fun x y W hW => at_any o vs _ (x, y) b0 B W _ (hn.below hB hW) (by omega) (Nat.le_trans hB hW.size) rfl
 have HIA : Hid (atN o (a.1, a.2) = ia) := hia
 have HIB : Hid (atN o (b.1, b.2) = ib) := hib
 clear hn hi ht hia hib
 go_enter Tryz.func178, Tryz.ntmps178
 go_upto_region 3 with (fail)
 generalize hw0 : World.alloc _ _ = w0
 obtain ⟨hx0, hx1, hB0, hs0⟩ := alloc2 hw0
 have HB0 := hide hB0
 obtain ⟨pa, hpa⟩ : ∃ z, w.heap.size = z := ⟨_, rfl⟩
 obtain ⟨pb, hpb⟩ : ∃ z, w.heap.size + 1 = z := ⟨_, rfl⟩
 rw [hpb] at hx1 ⊢
 rw [hpa] at hx0 ⊢
 have HPA : Hid (w.heap.size = pa) := hpa
 have HPB : Hid (w.heap.size + 1 = pb) := hpb
 have HX0 := hide hx0
 have HX1 := hide hx1
 have c0 := cellOf hx0 0
 have c1 := cellOf hx0 1
 have lc := box_lt hx0
 have d0 := cellOf hx1 0
 have d1 := cellOf hx1 1
 have ld := box_lt hx1
 clear hw0 hB0 hs0 hx0 hx1 hpa hpb
 refine wp_region_held_drew (S := (fun w' => Below w0.heap.size w0 w')) (by kernel_rfl) ?_ (fun hHeld => ?_)
 ·
  try dsimp only
  exact zP
 refine zT 0 rfl ?_
 refine zT 1 rfl ?_
 refine zT 3 rfl ?_
 refine zT 4 rfl ?_
 refine wpAnyH_ready (rs := [2]) (by kernel_rfl) (by simp) ?_
 refine AllReadyH.cons rfl (fun K hK => ?_) AllReadyH.nil
 go_simp
 ((go_at_call 176; refine (HAT.out _ _ _ (Below.to HB0.out zP (Nat.le_refl _))).mono ?_; (first | rw [HIA.out] | rw [HIB.out]); rintro e w2 ⟨rfl, hB2⟩))
 (try dsimp only)
 refine hK.out _ _ zP fun hNext => ?_; clear hK K hHeld; have hHeld := hNext; clear hNext; (try dsimp only at hHeld); try simp only [zX]
 refine wpAnyH_ready (rs := [5]) (by kernel_rfl) (by simp) ?_
 refine AllReadyH.cons rfl (fun K hK => ?_) AllReadyH.nil
 go_simp
 ((go_at_call 176; refine (HAT.out _ _ _ (Below.to HB0.out zP (Nat.le_refl _))).mono ?_; (first | rw [HIA.out] | rw [HIB.out]); rintro e w2 ⟨rfl, hB2⟩))
 (try dsimp only)
 refine hK.out _ _ zP fun hNext => ?_; clear hK K hHeld; have hHeld := hNext; clear hNext; (try dsimp only at hHeld); try simp only [zX]
 refine zT 6 rfl ?_
 refine zT 7 rfl ?_
 refine wpAnyH_done (by kernel_rfl) ?_ _
 have HBW := hide hHeld
 have HXa := hide (box_to HX0.out hHeld)
 have HXb := hide (box_to HX1.out hHeld)
 have HBw := hide (Below.to HB0.out hHeld (Nat.le_refl _))
 have HS1 := hide (HS.out.below hB HBw.out)
 have HBs : Hid (B ≤ w2.heap.size) := Nat.le_trans hB HBw.out.size
 have Hb0 : Hid (b0 ≤ w2.heap.size) := Nat.le_trans hb0 HBw.out.size
 obtain ⟨W1, hW1⟩ : ∃ wo : World, wo = w2 := ⟨_, rfl⟩
 subst hW1
 clear hHeld c0 c1 lc d0 d1 ld HX0 HX1 HS hB hb0 hB2 HB0 HBW HPA HPB HAT
 go_wp2_with fail
 go_loopw [7, 8, 11] (fun xv jv iv wr => ∃ k : Nat, iv = .int .i64 k ∧ k ≤ o.length ∧ Hid (JnS W1 wr ((kepN a b o k).map fun i => vs.getD i undef) xv (jonK [] a b o k) jv)) (fun _ _ iv _ => o.length - (intOf iv).toNat)
 case atStart => exact ⟨0, rfl, Nat.zero_le _, JnS.start W1⟩
 case round =>
  obtain ⟨k, rfl, hk, HJ0⟩ := hrel
  obtain ⟨X, hX⟩ : ∃ z, (kepN a b o k).map (fun i => vs.getD i undef) = z := ⟨_, rfl⟩
  obtain ⟨J, hJ⟩ : ∃ z, jonK [] a b o k = z := ⟨_, rfl⟩
  rw [hX, hJ] at HJ0
  have HJ := HJ0
  clear HJ0
  have hXl : X.length ≤ 1000 := by
   rw [← hX, List.length_map]
   have := kepN_le a b o k
   omega
  have hJl : J.length ≤ 2000 := by
   rw [← hJ]
   have h1 := jonK_le [] a b o k hk
   have h2 := take_tot o k
   have h3 := HT.out
   simp only [List.length_nil] at h1
   omega
  obtain ⟨Ax, qx, e⟩ := owns_form HJ.out.out
  subst e
  obtain ⟨Aj, qj, e⟩ := owns_form HJ.out.both
  subst e
  have HXE := hide hX
  have HJE := hide hJ
  clear hX hJ
  by_cases hlt : k < o.length
  case pos =>
   have hlt1 : (k : Int) < (o.length : Int) := by omega
   have ik0 : (0 : Int) ≤ (k : Int) := by omega
   obtain ⟨g, Ai, qi, net, HNT, hA, lg, hq, hnl, hvi, cg, hpn⟩ := (HS1.out.below HBs.out HJ.out.bel).at hlt
   subst hA
   have HVI := hide hvi
   have HPN := hide hpn
   have iq : (o.length : Int) ≤ (q : Int) := by omega
   have ht := htou.out k hlt
   have hks := kepN_succ a b o k
   have hjs := jonK_succ [] a b o k
   rw [HNT.out] at ht hks hjs
   rw [HJE.out] at hjs
   clear hvi hpn
   cases hka : (k == ia) with
   | true =>
    rw [hka, Bool.true_or] at ht
    rw [ht, if_pos rfl] at hks hjs
    have ha : ((k : Int) == (ia : Int)) = true := beq_iff_eq.2 (by have h9 : k = ia := (by simpa using hka); omega)
    have HKS := hide hks
    have HJS := hide hjs
    clear ht hks hjs hka
    go_wp2_with (at_builtin; go_must (refine wpList_append_any _ rfl (.tmp 34) (.tmp 38) _ rfl W1.heap.size 74 i0 _ 2 16 Tryz.underlying86 hi0 iz0 iz1 iz2 rfl (by omega) _ J.length (rowV pnE J) rfl HJ.out.both wr.heap.size _ net.length qi (rowV pnE net) rfl HPN.out.reads (rowP_one net) (by unfold maxLen; omega) (by omega) HJ.out.bel.size ?_); intro v1 w3 hown1 hg1 hat1; obtain ⟨A2, q2, e2⟩ := owns_form hown1; subst e2; have HJ2 := hide (HJ.out.pushMany hown1 hg1); clear hown1 hg1 hat1 cg lg)
    go_roundw
    case rel => exact ⟨k + 1, by go_num, by omega, by show JnS _ _ _ _ _ _; rw [HKS.out, HXE.out, HJS.out]; exact HJ2.out⟩
    case measure => simp [intOf]; omega
   | false =>
    cases hkb : (k == ib) with
    | true =>
     rw [hka, hkb, Bool.false_or] at ht
     rw [ht, if_pos rfl] at hks hjs
     have ha : ((k : Int) == (ia : Int)) = false := beq_eq_false_iff_ne.2 (by have h9 : ¬ k = ia := (by simpa using hka); omega)
     have hb : ((k : Int) == (ib : Int)) = true := beq_iff_eq.2 (by have h9 : k = ib := (by simpa using hkb); omega)
     have HKS := hide hks
     have HJS := hide hjs
     clear ht hks hjs hka hkb
     go_wp2_with (at_builtin; go_must (refine wpList_append_any _ rfl (.tmp 34) (.tmp 38) _ rfl W1.heap.size 74 i0 _ 2 16 Tryz.underlying86 hi0 iz0 iz1 iz2 rfl (by omega) _ J.length (rowV pnE J) rfl HJ.out.both wr.heap.size _ net.length qi (rowV pnE net) rfl HPN.out.reads (rowP_one net) (by unfold maxLen; omega) (by omega) HJ.out.bel.size ?_); intro v1 w3 hown1 hg1 hat1; obtain ⟨A2, q2, e2⟩ := owns_form hown1; subst e2; have HJ2 := hide (HJ.out.pushMany hown1 hg1); clear hown1 hg1 hat1 cg lg)
     go_roundw
     case rel => exact ⟨k + 1, by go_num, by omega, by show JnS _ _ _ _ _ _; rw [HKS.out, HXE.out, HJS.out]; exact HJ2.out⟩
     case measure => simp [intOf]; omega
    | false =>
     rw [hka, hkb, Bool.false_or] at ht
     rw [ht, if_neg (by simp)] at hks hjs
     have ha : ((k : Int) == (ia : Int)) = false := beq_eq_false_iff_ne.2 (by have h9 : ¬ k = ia := (by simpa using hka); omega)
     have hb : ((k : Int) == (ib : Int)) = false := beq_eq_false_iff_ne.2 (by have h9 : ¬ k = ib := (by simpa using hkb); omega)
     have HKS : Hid ((kepN a b o (k + 1)).map (fun i => vs.getD i undef) = X ++ [.slice Ai net.length qi]) := by
      show _ = _
      rw [hks, List.map_append, HXE.out, ← HVI.out]
      rfl
     have HJS := hide hjs
     clear ht hks hjs hka hkb
     go_wp2_with (at_builtin; go_must (refine wpList_append_own_at _ rfl (.tmp 40) (.tmp 45) _ rfl (W1.heap.size) 86 i1 _ 1 24 Tryz.underlying82 hi1 jz0 jz1 jz2 rfl (by omega) _ _ _ rfl ((HJ.out.out).alloc _) ⟨wr.heap.size, 0, none⟩ 1 1 [.slice Ai net.length qi] rfl rfl (World.news_of_block (heap_alloc_new wr _)) (by simp [Value.oneCell']) (by have h1 := hXl; unfold maxLen; omega) (by have h1 := hXl; omega) (by have h1 := HJ.out.bel.size; simp; omega) ?_); intro v1 w3 hown1 hg1 _ hat1; obtain ⟨A2, q2, e2⟩ := owns_form hown1; subst e2; have HJ2 := hide (HJ.out.pushOut hown1 hg1); clear hown1 hg1 hat1 cg lg)
     go_roundw
     case rel => exact ⟨k + 1, by go_num, by omega, by show JnS _ _ _ _ _ _; rw [HKS.out, HJS.out]; exact HJ2.out⟩
     case measure => simp [intOf]; omega
  case neg =>
   have hlt1 : ¬ (k : Int) < (o.length : Int) := by omega
   have hko : k = o.length := by omega
   have HXO : Hid (X = (kepN a b o o.length).map fun i => vs.getD i undef) := by show _ = _; rw [← HXE.out, hko]
   have HJO : Hid (J = bothL o a b) := by show _ = _; rw [← HJE.out, hko, jonK_all, List.nil_append]
   clear hko
   obtain ⟨J1, hJ1⟩ : ∃ z, J ++ (if o.any (fun n => n.contains a) then [] else [a]) = z := ⟨_, rfl⟩
   obtain ⟨M, hM⟩ : ∃ z, J1 ++ (if o.any (fun n => n.contains b) || a == b then [] else [b]) = z := ⟨_, rfl⟩
   have hJ1l : J1.length ≤ 2001 := by rw [← hJ1, List.length_append]; split <;> simp <;> omega
   have HMR : Hid (M = bothR o a b) := by show _ = _; rw [← hM, ← hJ1, HJO.out]; rfl
   have HJ1 := hide hJ1
   have HM := hide hM
   clear hJ1 hM
   obtain ⟨ca, hca⟩ : ∃ z, ((ia : Int) == (o.length : Int)) = z := ⟨_, rfl⟩
   have hca2 : (!o.any (fun n => n.contains a)) = ca := by
    have h1 := hal.out
    rw [← h1, ← hca, Bool.eq_iff_iff, decide_eq_true_eq, beq_iff_eq]
    omega
   have HCA := hide hca2
   clear hca2
   go_upto_if 50 with (fail)
   clear hca
   go_cut [8] from 51 to 54 (fun jv wc => Hid (JnS W1 wc X (.slice Ax X.length qx) J1 jv))
   case first =>
    cases ca with
    | false =>
     have h1 := HCA.out
     have h3 : o.any (fun n => n.contains a) = true := by simpa using h1
     have h2 := HJ1.out
     rw [h3, if_pos rfl, List.append_nil] at h2
     have H2 := hide h2
     clear h1 h2 h3
     go_wp2_with fail
     go_meet
     case rel => show JnS _ _ _ _ _ _; rw [← H2.out]; exact HJ.out
    | true =>
     have h1 := HCA.out
     have h3 : o.any (fun n => n.contains a) = false := by simpa using h1
     have h2 := HJ1.out
     rw [h3, if_neg (by simp)] at h2
     have H2 := hide h2
     have HXr := hide (box_to HXa.out HJ.out.bel)
     have c0 := cellOf HXr.out 0
     have c1 := cellOf HXr.out 1
     have lc := box_lt HXr.out
     clear h1 h2 h3
     go_wp2_with (at_builtin; go_must (refine wpList_append_own_at _ rfl (.tmp 51) (.tmp 53) _ rfl (W1.heap.size) 74 i0 _ 2 16 Tryz.underlying86 hi0 iz0 iz1 iz2 rfl (by omega) _ _ _ rfl ((HJ.out.both).alloc _) ⟨wr.heap.size, 0, none⟩ 1 1 [.int .i64 a.1, .int .i64 a.2] rfl rfl (World.news_of_block (heap_alloc_new wr _)) (by simp [Value.oneCell']) (by have h1 := hJl; unfold maxLen; omega) (by have h1 := hJl; omega) (by have h1 := HJ.out.bel.size; simp; omega) ?_); intro v1 w3 hown1 hg1 _ hat1; obtain ⟨A2, q2, e2⟩ := owns_form hown1; subst e2; have HJ2 := hide (HJ.out.pushOne (p := a) hown1 hg1); clear hown1 hg1 hat1 c0 c1 lc)
     go_meet
     case rel => show JnS _ _ _ _ _ _; rw [← H2.out]; exact HJ2.out
   case rest =>
   have HJa := hcut
   clear hcut
   obtain ⟨Aj1, qj1, e⟩ := owns_form HJa.out.both
   subst e
   go_upto_region 12 with (fail)
   obtain ⟨cc, hcc⟩ : ∃ z, (!o.any (fun n => n.contains b) && !(a == b)) = z := ⟨_, rfl⟩
   have HCC := hide hcc
   clear hcc
   go_cut [63] from 55 to 63 (fun cv wd => cv = .bool cc ∧ Hid (wc = wd))
   case first =>
    cases hc : o.any (fun n => n.contains b) with
    | true =>
     have h1 := hbl.out
     rw [hc] at h1
     have ha : ((ib : Int) == (o.length : Int)) = false := beq_eq_false_iff_ne.2 (by have h9 := of_decide_eq_false h1; omega)
     have h2 := HCC.out
     rw [hc] at h2
     have h3 : cc = false := h2.symm
     subst h3
     clear h1 h2 hc
     go_wp2_with fail
     go_meet
     case rel => exact ⟨rfl, rfl⟩
    | false =>
     have h1 := hbl.out
     rw [hc] at h1
     have ha : ((ib : Int) == (o.length : Int)) = true := beq_iff_eq.2 (by have h9 := of_decide_eq_true h1; omega)
     have HXr := hide (box_to HXa.out HJa.out.bel)
     have HXs := hide (box_to HXb.out HJa.out.bel)
     have c0 := cellOf HXr.out 0
     have c1 := cellOf HXr.out 1
     have lc := box_lt HXr.out
     have d0 := cellOf HXs.out 0
     have d1 := cellOf HXs.out 1
     have ld := box_lt HXs.out
     have he := fun w => pinNe a.1 a.2 b.1 b.2 w
     by_cases hab : a = b
     ·
      have he1 : (a.1 == b.1 && a.2 == b.2) = true := by rw [hab]; simp
      rw [he1] at he
      have h2 := HCC.out
      rw [hc, hab] at h2
      have h3 : cc = false := by rw [← h2]; simp
      subst h3
      clear h1 h2 hc hab he1
      go_wp2_with fail
      go_meet
      case rel => exact ⟨rfl, rfl⟩
     ·
      have he1 : (a.1 == b.1 && a.2 == b.2) = false := by
       rw [Bool.eq_false_iff]
       intro h
       rw [Bool.and_eq_true, beq_iff_eq, beq_iff_eq] at h
       exact hab (Prod.ext h.1 h.2)
      rw [he1] at he
      have h2 := HCC.out
      rw [hc] at h2
      have h3 : cc = true := by rw [← h2]; simpa using hab
      subst h3
      clear h1 h2 hc hab he1
      go_wp2_with fail
      go_meet
      case rel => exact ⟨rfl, rfl⟩
   case rest =>
   obtain ⟨rfl, hwd⟩ := hcut
   have hwd := hwd.out
   subst hwd
   go_upto_if 63 with (fail)
   go_cut [8] from 64 to 67 (fun jv wd => Hid (JnS W1 wd X (.slice Ax X.length qx) M jv))
   case first =>
    cases cc with
    | false =>
     have h2 := HM.out
     have h3 := HCC.out
     have h4 : (o.any (fun n => n.contains b) || a == b) = true := by
      cases h5 : o.any (fun n => n.contains b) <;> cases h6 : (a == b) <;> rw [h5, h6] at h3 <;> first | rfl | cases h3
     rw [h4, if_pos rfl, List.append_nil] at h2
     have H2 := hide h2
     clear h2 h3 h4
     go_wp2_with fail
     go_meet
     case rel => show JnS _ _ _ _ _ _; rw [← H2.out]; exact HJa.out
    | true =>
     have HXs := hide (box_to HXb.out HJa.out.bel)
     have d0 := cellOf HXs.out 0
     have d1 := cellOf HXs.out 1
     have ld := box_lt HXs.out
     have h2 := HM.out
     have h3 := HCC.out
     have h4 : (o.any (fun n => n.contains b) || a == b) = false := by
      cases h5 : o.any (fun n => n.contains b) <;> cases h6 : (a == b) <;> rw [h5, h6] at h3 <;> first | rfl | cases h3
     rw [h4, if_neg (by simp)] at h2
     have H2 := hide h2
     clear h2 h3 h4
     go_wp2_with (at_builtin; go_must (refine wpList_append_own_at _ rfl (.tmp 64) (.tmp 66) _ rfl (W1.heap.size) 74 i0 _ 2 16 Tryz.underlying86 hi0 iz0 iz1 iz2 rfl (by omega) _ _ _ rfl ((HJa.out.both).alloc _) ⟨wc.heap.size, 0, none⟩ 1 1 [.int .i64 b.1, .int .i64 b.2] rfl rfl (World.news_of_block (heap_alloc_new wc _)) (by simp [Value.oneCell']) (by have h1 := hJ1l; unfold maxLen; omega) (by have h1 := hJ1l; omega) (by have h1 := HJa.out.bel.size; simp; omega) ?_); intro v1 w3 hown1 hg1 _ hat1; obtain ⟨A2, q2, e2⟩ := owns_form hown1; subst e2; have HJ2 := hide (HJa.out.pushOne (p := b) hown1 hg1); clear hown1 hg1 hat1 d0 d1 ld)
     go_meet
     case rel => show JnS _ _ _ _ _ _; rw [← H2.out]; exact HJ2.out
   case rest =>
   have HJb := hcut
   clear hcut
   obtain ⟨Aj2, qj2, e⟩ := owns_form HJb.out.both
   subst e
   have hMl : 0 < M.length := by
    rw [HMR.out]
    exact List.length_pos_of_mem (bothR_mem.2 (by simp : a ∈ a :: b :: bothL o a b))
   have hMl2 : M.length ≤ 2002 := by
    rw [← HM.out, List.length_append]
    split <;> simp <;> omega
   obtain ⟨g2, _, hz1, hA2, hz2⟩ := own_pn HJb.out.both hMl
   subst hA2
   clear hz1 hz2
   have hm1 : (1 : Int) ≤ (M.length : Int) := by omega
   go_wp2_with fail
   go_loopw [12] (fun nv wr => ∃ (n : Nat) (L : List Pn), nv = .int .i64 n ∧ 1 ≤ n ∧ n ≤ M.length ∧ Hid (L.Perm M) ∧ Hid (SrO ltP (0, 0) L n) ∧ Hid (JnS W1 wr X (.slice Ax X.length qx) L (.slice (some ⟨g2, 0, none⟩) M.length qj2))) (fun nv _ => M.length - (intOf nv).toNat)
   case atStart => exact ⟨1, M, rfl, Nat.le_refl _, hMl, List.Perm.refl _, SrO.one M, HJb.out⟩
   case round =>
    obtain ⟨n, L, rfl, hn1, hnM, HPM, HSO, HJL⟩ := hrel
    by_cases hlt : n < M.length
    case neg =>
     have hlt1 : ¬ (n : Int) < (M.length : Int) := by omega
     have hLl : Hid (L.length = M.length) := HPM.out.length_eq
     have HSU : Hid (L = sortU (a :: b :: bothL o a b)) := by
      show _ = _
      refine bothR_sort HI.out ?_ (by rw [← HMR.out]; exact HPM.out)
      rw [hLl.out, show M.length = n by omega]
      exact HSO.out
     go_wp2_with (at_builtin; go_must (refine wpList_append_own_at _ rfl (.tmp 107) (.tmp 109) _ rfl (W1.heap.size) 86 i1 _ 1 24 Tryz.underlying82 hi1 jz0 jz1 jz2 rfl (by omega) _ _ _ rfl ((HJL.out.out).alloc _) ⟨wr.heap.size, 0, none⟩ 1 1 [.slice (some ⟨g2, 0, none⟩) M.length qj2] rfl rfl (World.news_of_block (heap_alloc_new wr _)) (by simp [Value.oneCell']) (by have h1 := hXl; unfold maxLen; omega) (by have h1 := hXl; omega) (by have h1 := HJL.out.bel.size; simp; omega) ?_); intro v1 w3 hown1 hg1 _ hat1; obtain ⟨A2, q2, e2⟩ := owns_form hown1; subst e2; have HJ2 := hide (HJL.out.pushOut hown1 hg1); clear hown1 hg1 hat1)
     go_ret
     have hJ2 := HJ2.out
     have hHS := HS1.out.below HBs.out hJ2.bel
     have hb2 : b0 ≤ W1.heap.size := Hb0.out
     refine ⟨_, X ++ [.slice (some ⟨g2, 0, none⟩) M.length qj2], rfl, ?_, Below.trans HBw.out (hJ2.bel.mono HBw.out.size)⟩
     have h1 : joiL o a b = (kepN a b o o.length).map (fun i => o.getD i []) ++ [L] := by
      rw [kepN_all, HSU.out]
      rfl
     rw [h1]
     have h2 := hJ2.out
     rw [List.length_append, List.length_singleton] at h2
     have h3 : NetR w3 b0 w3.heap.size o vs := NetR.up hHS.row (Nat.le_trans HBs.out hJ2.bel.size)
     have h4 := h3.kept (K := kepN a b o o.length) (fun i hi => kepN_lt i hi)
     rw [← HXO.out] at h4
     refine NetS.snoc (owns_base h2 hb2) (by rw [HXO.out, List.length_map, List.length_map]) (fun j hj => (h2.lt j hj).2) h4 (fun i hi => ?_) (owns_base hJ2.both hb2) (fun j hj => (hJ2.both.lt j hj).2) (by rw [hLl.out]; omega)
     rw [List.length_map] at hi
     rw [List.getD_eq_getElem?_getD, List.getElem?_map, List.getElem?_eq_getElem hi]
     exact HSM.out _ (kepN_lt _ (List.getElem_mem hi))
    case pos =>
     have hlt1 : (n : Int) < (M.length : Int) := by omega
     have HLT := hide hlt
     go_wp2_with fail
     go_loopw [13] (fun jv wr => ∃ (j : Nat) (L : List Pn), jv = .int .i64 j ∧ j ≤ n ∧ Hid (L.Perm M) ∧ Hid (SrI ltP (0, 0) L j n) ∧ Hid (JnS W1 wr X (.slice Ax X.length qx) L (.slice (some ⟨g2, 0, none⟩) M.length qj2))) (fun jv _ => (intOf jv).toNat)
     case atStart => exact ⟨n, L, rfl, Nat.le_refl _, HPM.out, HSO.out.start, HJL.out⟩
     case round =>
      obtain ⟨j, L', rfl, hjn, HPM', HSI, HJL'⟩ := hrel
      have hLl : Hid (L'.length = M.length) := HPM'.out.length_eq
      rcases Nat.eq_zero_or_pos j with hj0 | hj0
      ·
       have hgt : decide ((0 : Int) < (j : Int)) = false := decide_eq_false (by omega)
       have HSO2 : Hid (SrO ltP (0, 0) L' (n + 1)) := HSI.out.stop ltP_asym ltP_ntrans hjn (.inl hj0)
       go_upto_region 18 with (fail)
       refine wp_region_held_drew (S := (fun w' => Below wr.heap.size wr w')) (by kernel_rfl) ?_ (fun hHeld => ?_)
       ·
        try dsimp only
        exact zP
       refine zT 0 rfl ?_
       refine zT 1 rfl ?_
       refine zT 2 rfl ?_
       refine zS 3 rfl ?_
       refine zS 4 rfl ?_
       refine zS 5 rfl ?_
       refine zS 6 rfl ?_
       refine zS 7 rfl ?_
       refine zS 8 rfl ?_
       refine zS 9 rfl ?_
       refine zS 10 rfl ?_
       refine zS 11 rfl ?_
       refine zS 12 rfl ?_
       refine zT 13 rfl ?_
       refine wpAnyH_done (by kernel_rfl) ?_ _
       generalize hw6 : World.drew _ = w6 at hHeld ⊢
       have HJ6 := hide (HJL'.out.to hHeld)
       clear hw6 hHeld hj0
       go_wp2_with fail
       go_roundw
       case rel => exact ⟨n + 1, L', by go_num, by omega, HLT.out, HPM', HSO2, HJ6⟩
       case measure => simp [intOf]; have := HLT.out; omega
      ·
       obtain ⟨p, rfl⟩ : ∃ p, j = p + 1 := ⟨j - 1, by omega⟩
       have hMn := HLT.out
       obtain ⟨_, x, HX, hA1, hz1, lg, hz2, hqq, x0, x1, hfz⟩ := own_pn HJL'.out.both (k := p + 1) (by rw [hLl.out]; omega)
       obtain ⟨_, y, HY, hA2, hz3, hz4, hz5, hz6, y0, y1, hz7⟩ := own_pn HJL'.out.both (k := p) (by rw [hLl.out]; omega)
       injection hA1 with hA1
       injection hA1 with hA1 _ _
       subst hA1
       injection hA2 with hA2
       injection hA2 with hA2 _ _
       subst hA2
       have hgt : decide ((0 : Int) < ((p + 1 : Nat) : Int)) = true := decide_eq_true (by omega)
       have hgt2 : decide ((0 : Int) < (p : Int) + 1) = true := decide_eq_true (by omega)
       have hgt3 : (0 : Int) < (p : Int) + 1 := by omega
       have ip0 : (0 : Int) ≤ (p : Int) := by omega
       have ip1 : (p : Int) < (M.length : Int) := by omega
       have ip2 : p < M.length := by omega
       have ip5 : (p : Int) + 1 < (M.length : Int) := by omega
       have ip6 : ((p + 1 : Nat) : Int) < (M.length : Int) := by omega
       have ip7 : 0 ≤ (p : Int) + 1 := by omega
       have wm : IntKind.i64.wrap (((p + 1 : Nat) : Int) - 1) = (p : Int) := by rw [IntWalk.i64_in _ (by omega)]; omega
       have wm2 : IntKind.i64.wrap ((p : Int) + 1 - 1) = (p : Int) := by rw [IntWalk.i64_in _ (by omega)]; omega
       have wm3 : IntKind.i64.wrap (p : Int) = (p : Int) := by rw [IntWalk.i64_in _ (by omega)]
       obtain ⟨c, hc⟩ : ∃ c, ltP x y = c := ⟨_, rfl⟩
       have HC := hide hc
       have ip8 : (0 : Int) ≤ ((p + 1 : Nat) : Int) := by omega
       have iq9 : (M.length : Int) ≤ (qj2 : Int) := by have := hLl.out; omega
       clear hc hMn hj0 hqq hz1 hz2 hz3 hz4 hz5 hz6 hz7
       go_upto_region 18 with (fail)
       refine wp_region_held_drew (S := (fun w' => Below wr.heap.size wr w')) (by kernel_rfl) ?_ (fun hHeld => ?_)
       ·
        try dsimp only
        exact zP
       refine zT 0 rfl ?_
       refine zT 1 rfl ?_
       refine zT 2 rfl ?_
       refine zT 3 rfl ?_
       refine zT 4 rfl ?_
       refine zT 5 rfl ?_
       refine zT 6 rfl ?_
       refine zT 7 rfl ?_
       refine zT 8 rfl ?_
       refine zT 9 rfl ?_
       refine zT 10 rfl ?_
       refine zT 11 rfl ?_
       refine wpAnyH_ready (rs := [12]) (by kernel_rfl) (by simp) ?_
       refine AllReadyH.cons rfl (fun K hK => ?_) AllReadyH.nil
       go_simp
       ((go_at_call 179; refine (less_any x y _ c HC.out).mono ?_; rintro e w6 ⟨rfl, hB6⟩))
       (try dsimp only)
       refine hK.out _ _ zP fun hNext => ?_; clear hK K hHeld; have hHeld := hNext; clear hNext; (try dsimp only at hHeld); try simp only [zX]
       refine zT 13 rfl ?_
       refine wpAnyH_done (by kernel_rfl) ?_ _
       have HJ6 := hide (HJL'.out.to hHeld)
       clear hHeld x0 x1 y0 y1 lg hfz
       cases c with
       | false =>
        have HSO2 : Hid (SrO ltP (0, 0) L' (n + 1)) := HSI.out.stop ltP_asym ltP_ntrans hjn (.inr (by rw [Nat.add_sub_cancel, HX.out, HY.out]; exact HC.out))
        go_wp2_with fail
        go_roundw
        case rel => exact ⟨n + 1, L', by go_num, by omega, HLT.out, HPM', HSO2, HJ6⟩
        case measure => simp [intOf]; have := HLT.out; omega
       | true =>
        have hMn := HLT.out
        obtain ⟨_, x', HX', hA1, hz1, lg, hz2, hz8, x0, x1, hfz⟩ := own_pn HJ6.out.both (k := p + 1) (by rw [hLl.out]; omega)
        obtain ⟨_, y', HY', hA2, hz3, hz4, hz5, hz6, y0, y1, hz7⟩ := own_pn HJ6.out.both (k := p) (by rw [hLl.out]; omega)
        injection hA1 with hA1
        injection hA1 with hA1 _ _
        subst hA1
        injection hA2 with hA2
        injection hA2 with hA2 _ _
        subst hA2
        have hx' : x' = x := HX'.out.symm.trans HX.out
        subst hx'
        have hy' : y' = y := HY'.out.symm.trans HY.out
        subst hy'
        have hown2 : w6.ownsRow W1.heap.size 74 2 (.slice (some ⟨g2, 0, none⟩) M.length qj2) M.length (rowV pnE L') := by
         have h1 := HJ6.out.both
         rw [hLl.out] at h1
         exact h1
        obtain ⟨k1, k2⟩ := own_set2 hown2 ((p + 1) * 2) (.int .i64 y'.1) (.int .i64 y'.2)
        obtain ⟨k3, k4⟩ := own_set2 k1 (p * 2) (.int .i64 x'.1) (.int .i64 x'.2)
        have hset : setAll (setAll (rowV pnE L') ((p + 1) * 2) [.int .i64 y'.1, .int .i64 y'.2]) (p * 2) [.int .i64 x'.1, .int .i64 x'.2] = rowV pnE (swapL (0, 0) L' (p + 1)) := by
         have h1 := rowV_set pnE_len (L := L') (i := p + 1) (by rw [hLl.out]; omega) y'
         have h2 := rowV_set pnE_len (L := L'.set (p + 1) y') (i := p) (by rw [List.length_set, hLl.out]; omega) x'
         have h3 : swapL (0, 0) L' (p + 1) = (L'.set (p + 1) y').set p x' := by
          unfold swapL
          rw [Nat.add_sub_cancel, HX.out, HY.out]
         rw [← h1] at h2
         rw [h3]
         exact h2
        rw [hset] at k3
        have HK3 := hide k3
        have HK4 := hide (only_trans k2 k4)
        have HSI2 : Hid (SrI ltP (0, 0) (swapL (0, 0) L' (p + 1)) p n) := by
         have h1 := HSI.out.step (by omega) hjn (by rw [hLl.out]; exact HLT.out) (by rw [Nat.add_sub_cancel, HX.out, HY.out]; exact HC.out)
         rw [Nat.add_sub_cancel] at h1
         exact h1
        have HPM2 : Hid ((swapL (0, 0) L' (p + 1)).Perm M) := (swapL_perm (by rw [hLl.out]; omega) (by omega)).trans HPM'.out
        have HLN : Hid ((swapL (0, 0) L' (p + 1)).length = M.length) := HPM2.out.length_eq
        have f0 := hfz ((p + 1) * 2)
        have f1 := hfz ((p + 1) * 2 + 1)
        have f2 := hfz (p * 2)
        have f3 := hfz (p * 2 + 1)
        have hKeep : Hid (w6.grownBy w6.drew (some g2)) := only_drew (only_refl _ _)
        clear hMn hown2 hset k1 k2 k3 k4 hz1 hz2 hz3 hz4 hz5 hz6 hz7 hz8 hB6
        go_upto_region 20 with (fail)
        refine wp_region_held_drew (S := (fun w' => w6.grownBy w' (some g2))) (by kernel_rfl) ?_ (fun hHeld => ?_)
        ·
         try dsimp only
         exact zR
        refine zG 0 rfl ?_
        refine zG 1 rfl ?_
        refine zG 2 rfl ?_
        refine zG 3 rfl ?_
        refine zG 4 rfl ?_
        refine zG 5 rfl ?_
        refine zG 6 rfl ?_
        refine zG 7 rfl ?_
        refine zG 8 rfl ?_
        refine zG 10 rfl ?_
        refine zG 11 rfl ?_
        refine zG 12 rfl ?_
        refine wpAnyH_ready (rs := [9, 13]) (by kernel_rfl) (by simp) ?_
        refine (AllReadyH.cons rfl (fun K hK => ?o1_13_9) (AllReadyH.cons rfl (fun K hK => ?o1_13_13) AllReadyH.nil))
        case' o1_13_9 =>
         go_simp
         refine hK.out _ _ zR fun hNext => ?_; clear hK K hHeld; have hHeld := hNext; clear hNext; (try dsimp only at hHeld); try simp only [zX]
         refine wpAnyH_ready (rs := [13]) (by kernel_rfl) (by simp) ?_
         refine (AllReadyH.cons rfl (fun K hK => ?_) AllReadyH.nil)
         go_simp
         refine hK.out _ _ zR fun hNext => ?_; clear hK K hHeld; have hHeld := hNext; clear hNext; (try dsimp only at hHeld); try simp only [zX]
         refine zG 14 rfl ?_
         refine wpAnyH_ready (rs := [15]) (by kernel_rfl) (by simp) ?_
         refine (AllReadyH.cons rfl (fun K hK => ?_) AllReadyH.nil)
         go_simp
         refine hK.out _ _ zR fun hNext => ?_; clear hK K hHeld; have hHeld := hNext; clear hNext; (try dsimp only at hHeld); try simp only [zX]
         refine zG 16 rfl ?_
         refine wpAnyH_ready (rs := [17]) (by kernel_rfl) (by simp) ?_
         refine (AllReadyH.cons rfl (fun K hK => ?_) AllReadyH.nil)
         go_simp
         refine hK.out _ _ zR fun hNext => ?_; clear hK K hHeld; have hHeld := hNext; clear hNext; (try dsimp only at hHeld); try simp only [zX]
         refine wpAnyH_done (by kernel_rfl) ?_ _
        case' o1_13_13 =>
         go_simp
         refine hK.out _ _ zR fun hNext => ?_; clear hK K hHeld; have hHeld := hNext; clear hNext; (try dsimp only at hHeld); try simp only [zX]
         refine wpAnyH_ready (rs := [9]) (by kernel_rfl) (by simp) ?_
         refine (AllReadyH.cons rfl (fun K hK => ?_) AllReadyH.nil)
         go_simp
         refine hK.out _ _ zR fun hNext => ?_; clear hK K hHeld; have hHeld := hNext; clear hNext; (try dsimp only at hHeld); try simp only [zX]
         refine zG 14 rfl ?_
         refine wpAnyH_ready (rs := [15]) (by kernel_rfl) (by simp) ?_
         refine (AllReadyH.cons rfl (fun K hK => ?_) AllReadyH.nil)
         go_simp
         refine hK.out _ _ zR fun hNext => ?_; clear hK K hHeld; have hHeld := hNext; clear hNext; (try dsimp only at hHeld); try simp only [zX]
         refine zG 16 rfl ?_
         refine wpAnyH_ready (rs := [17]) (by kernel_rfl) (by simp) ?_
         refine (AllReadyH.cons rfl (fun K hK => ?_) AllReadyH.nil)
         go_simp
         refine hK.out _ _ zR fun hNext => ?_; clear hK K hHeld; have hHeld := hNext; clear hNext; (try dsimp only at hHeld); try simp only [zX]
         refine wpAnyH_done (by kernel_rfl) ?_ _
        all_goals
         have hk3 := HK3.out
         have hk4 := HK4.out
         generalize hwv : World.setCell (World.setCell (World.setCell (World.setCell w6 _ _) _ _) _ _) _ _ = w9 at hk3 hk4 ⊢
         have HK5 : Hid (JnS W1 w9.drew X (.slice Ax X.length qx) (swapL (0, 0) L' (p + 1)) (.slice (some ⟨g2, 0, none⟩) M.length qj2)) := HJ6.out.store HLN.out (show World.ownsRow w9.drew _ _ _ _ _ _ from hk3) (only_drew hk4)
         clear hwv hk3 hk4 hHeld hKeep x0 x1 y0 y1 f0 f1 f2 f3
         generalize hwd : World.drew w9 = w9d at HK5 ⊢
         clear hwd
         go_wp2_with fail
         go_roundw
         case rel => exact ⟨p, _, by first | rfl | go_num, by omega, HPM2, HSI2, HK5⟩
         case measure => simp [intOf] <;> omega
end Go.Proofs.YtehadoecnmfeoaaGreat

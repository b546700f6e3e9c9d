/- Part 11 of this claim's texts: walks and plain laws. -/
import Derived.Test.YtmgfijadjclmpaaRows
import Derived.Test.YtmgfijadjclmpaaGTC10
import Derived.Laws.EntriesVeiled
import Derived.Deep.DeepMust
import Derived.Deep.RegionHeld3
import Derived.Deep.DrawnRows
import Derived.Test.YtmgfijadjclmpaaGTC2
/- settle, and what its functions compute: walks. -/
namespace Go.Proofs.Ytmgfijadjclmpaa
open Go.RowKit
set_option linter.unusedVariables false
set_option linter.unusedSimpArgs false
/-- What settle answers. -/
def SetP (n0 : Int) (F : Int → Int) (w : World) (e : Ending) (w' : World) : Prop :=
  ∃ (r : Int) (b : Bool), e = .returned (.tuple #[.int .i64 r, .bool b]) ∧ (b = true → n0 ≤ r ∧ r ≤ 1000000 ∧ F r = r) ∧ Below w.heap.size w w'
set_option maxRecDepth 100000 in
set_option maxHeartbeats 2000000 in
theorem settle1_any (n0 : Int) (F : Int → Int) (c0 c1 c2 : Value) (w : World) (h0 : 0 ≤ n0) (h1 : n0 ≤ 100000000000000) (hF0 : n0 ≤ F n0) (hmono : ∀ a b, n0 ≤ a → a ≤ b → F a ≤ F b) (hbd : ∀ a, n0 ≤ a → a ≤ 1000000 → F a ≤ 100000000000000)
    (hf : ∀ (n : Int) (W : World), n0 ≤ n → n ≤ 1000000 → Below w.heap.size w W → Calls Try.prog 53 #[.int .i64 n, c0, c1, c2] W fun e w' => e = .returned (.int .i64 (F n)) ∧ Below W.heap.size W w') :
    Calls Try.prog 52 #[.int .i64 n0, .func (.func 53) #[] #[c0, c1, c2]] w (SetP n0 F w) := by
  have HF0 := hide hF0
  have HMO := hide hmono
  have HBD := hide hbd
  have HF := hide hf
  have H0 := hide h0
  have H1 := hide h1
  clear hF0 hmono hbd hf
  go_enter Try.func52, Try.ntmps52
  go_wp2
  go_loopw [0, 6] (fun nv _ wr => ∃ n : Int, nv = .int .i64 n ∧ Hid (n0 ≤ n ∧ n ≤ F n ∧ n ≤ 100000000000000) ∧ Hid (Below w.heap.size w wr)) (fun nv _ _ => (1000001 - intOf nv).toNat)
  case atStart => exact ⟨n0, rfl, ⟨Int.le_refl _, HF0.out, H1.out⟩, Below.refl _ _⟩
  case round =>
    obtain ⟨n, rfl, HN, HB⟩ := hrel
    by_cases hn : n ≤ 1000000
    case neg =>
      go_wp2
      go_ret2
      exact ⟨0, false, rfl, (fun h => by cases h), HB.out⟩
    case pos =>
      have hc := HF.out n wr HN.out.1 hn HB.out
      obtain ⟨m, hm⟩ : ∃ m, F n = m := ⟨_, rfl⟩
      rw [hm] at hc
      have HC := hide hc
      have HM := hide hm
      have hnm : n ≤ m := by rw [← hm]; exact HN.out.2.1
      have hm2 : m ≤ 100000000000000 := by rw [← hm]; exact HBD.out n HN.out.1 hn
      have hn1 := HN.out.1
      clear hc hm
      by_cases he : m = n
      · subst he
        have he1 : (m == m) = true := by simp
        go_wp2_with (go_at_call 53; refine HC.out.mono ?_; rintro e w1 ⟨rfl, hB1⟩)
        go_ret2
        exact ⟨m, true, rfl, fun _ => ⟨HN.out.1, hn, HM.out⟩, Below.to HB.out hB1 (Nat.le_refl _)⟩
      · have he1 : (m == n) = false := by simpa using he
        have hlt : n < m := by omega
        clear he
        go_wp2_with (go_at_call 53; refine HC.out.mono ?_; rintro e w1 ⟨rfl, hB1⟩)
        go_roundw
        case rel => exact ⟨m, rfl, ⟨by omega, by rw [← HM.out]; exact HMO.out _ _ HN.out.1 HN.out.2.1, hm2⟩, Below.to HB.out hB1 (Nat.le_refl _)⟩
        case measure => simp [intOf]; omega
set_option maxRecDepth 100000 in
set_option maxHeartbeats 2000000 in
theorem settle2_any (n0 : Int) (F : Int → Int) (c0 c1 c2 c3 : Value) (w : World) (h0 : 0 ≤ n0) (h1 : n0 ≤ 100000000000000) (hF0 : n0 ≤ F n0) (hmono : ∀ a b, n0 ≤ a → a ≤ b → F a ≤ F b) (hbd : ∀ a, n0 ≤ a → a ≤ 1000000 → F a ≤ 100000000000000)
    (hf : ∀ (n : Int) (W : World), n0 ≤ n → n ≤ 1000000 → Below w.heap.size w W → Calls Try.prog 56 #[.int .i64 n, c0, c1, c2, c3] W fun e w' => e = .returned (.int .i64 (F n)) ∧ Below W.heap.size W w') :
    Calls Try.prog 52 #[.int .i64 n0, .func (.func 56) #[] #[c0, c1, c2, c3]] w (SetP n0 F w) := by
  have HF0 := hide hF0
  have HMO := hide hmono
  have HBD := hide hbd
  have HF := hide hf
  have H0 := hide h0
  have H1 := hide h1
  clear hF0 hmono hbd hf
  go_enter Try.func52, Try.ntmps52
  go_wp2
  go_loopw [0, 6] (fun nv _ wr => ∃ n : Int, nv = .int .i64 n ∧ Hid (n0 ≤ n ∧ n ≤ F n ∧ n ≤ 100000000000000) ∧ Hid (Below w.heap.size w wr)) (fun nv _ _ => (1000001 - intOf nv).toNat)
  case atStart => exact ⟨n0, rfl, ⟨Int.le_refl _, HF0.out, H1.out⟩, Below.refl _ _⟩
  case round =>
    obtain ⟨n, rfl, HN, HB⟩ := hrel
    by_cases hn : n ≤ 1000000
    case neg =>
      go_wp2
      go_ret2
      exact ⟨0, false, rfl, (fun h => by cases h), HB.out⟩
    case pos =>
      have hc := HF.out n wr HN.out.1 hn HB.out
      obtain ⟨m, hm⟩ : ∃ m, F n = m := ⟨_, rfl⟩
      rw [hm] at hc
      have HC := hide hc
      have HM := hide hm
      have hnm : n ≤ m := by rw [← hm]; exact HN.out.2.1
      have hm2 : m ≤ 100000000000000 := by rw [← hm]; exact HBD.out n HN.out.1 hn
      have hn1 := HN.out.1
      clear hc hm
      by_cases he : m = n
      · subst he
        have he1 : (m == m) = true := by simp
        go_wp2_with (go_at_call 56; refine HC.out.mono ?_; rintro e w1 ⟨rfl, hB1⟩)
        go_ret2
        exact ⟨m, true, rfl, fun _ => ⟨HN.out.1, hn, HM.out⟩, Below.to HB.out hB1 (Nat.le_refl _)⟩
      · have he1 : (m == n) = false := by simpa using he
        have hlt : n < m := by omega
        clear he
        go_wp2_with (go_at_call 56; refine HC.out.mono ?_; rintro e w1 ⟨rfl, hB1⟩)
        go_roundw
        case rel => exact ⟨m, rfl, ⟨by omega, by rw [← HM.out]; exact HMO.out _ _ HN.out.1 HN.out.2.1, hm2⟩, Below.to HB.out hB1 (Nat.le_refl _)⟩
        case measure => simp [intOf]; omega
/-- What the closures of response have captured. -/
structure RsAt (w : World) (lb ub ob kb fb : Nat) (A Au : Option Addr) (q qu : Nat) (l : List Fr) (u : List Bool) (x : Fr) (bl : Int) : Prop where
  cl : w.heap[lb]? = some (.cells #[.slice A l.length q] 22 (0, 0))
  cu : w.heap[ub]? = some (.cells #[.slice Au u.length qu] 78 (0, 0))
  co : FrBox w ob x
  ck : IntBox w kb bl
  cf : w.heap[fb]? = some (.cells #[.func (.func 51) #[] #[.pointer (some ⟨lb, 0, none⟩), .pointer (some ⟨ub, 0, none⟩)]] 100 (0, 0))
  fr : Frs w w.heap.size (.slice A l.length q) l
  bo : Bos w w.heap.size (.slice Au u.length qu) u
theorem RsAt.to {w w' : World} {lb ub ob kb fb : Nat} {A Au : Option Addr} {q qu : Nat} {l : List Fr} {u : List Bool} {x : Fr} {bl : Int} (h : RsAt w lb ub ob kb fb A Au q qu l u x bl) (hb : Below w.heap.size w w') : RsAt w' lb ub ob kb fb A Au q qu l u x bl :=
  ⟨box_to h.cl hb, box_to h.cu hb, h.co.to hb, h.ck.to hb, box_to h.cf hb, h.fr.up hb, h.bo.up hb⟩
/-- The function whose least fixed number is the busy time. -/
def busF (l : List Fr) (u : List Bool) (x : Fr) (bl t : Int) : Int := bl + upI (t + x.j) x.e * x.s + loadE l u (fun i => upI (t + (l.getD i Fr.o).j) (l.getD i Fr.o).e) l.length
def waitF (l : List Fr) (u : List Bool) (x : Fr) (bl q t : Int) : Int := bl + q * x.s + loadE l u (fun i => (t + (l.getD i Fr.o).j) / (l.getD i Fr.o).e + 1) l.length
theorem busM {l : List Fr} (ok : FrsOk l) {t : Int} (h0 : 0 ≤ t) (h1 : t ≤ 10000000) : ∀ i, i < l.length → 0 ≤ upI (t + (l.getD i Fr.o).j) (l.getD i Fr.o).e ∧ upI (t + (l.getD i Fr.o).j) (l.getD i Fr.o).e ≤ 100000000 := fun i hi => by
  have h2 := ok.j i hi
  have h3 := ok.e i hi
  have h4 := upI_le (n := t + (l.getD i Fr.o).j) (b := (l.getD i Fr.o).e) (by omega) h3.1
  exact ⟨upI_nonneg (by omega) h3.1, by omega⟩
theorem waitM {l : List Fr} (ok : FrsOk l) {t : Int} (h0 : 0 ≤ t) (h1 : t ≤ 10000000) : ∀ i, i < l.length → 0 ≤ (t + (l.getD i Fr.o).j) / (l.getD i Fr.o).e + 1 ∧ (t + (l.getD i Fr.o).j) / (l.getD i Fr.o).e + 1 ≤ 100000000 := fun i hi => by
  have h2 := ok.j i hi
  have h3 := ok.e i hi
  have h4 := divI_bd (n := t + (l.getD i Fr.o).j) (b := (l.getD i Fr.o).e) (by omega) h3.1
  omega
theorem loadE_mono {l : List Fr} {u : List Bool} {m m' : Nat → Int} (ok : FrsOk l) (h : ∀ i, i < l.length → m i ≤ m' i) : loadE l u m l.length ≤ loadE l u m' l.length := sumI_le fun i hi => by
  have h1 := (ok.s i hi).1
  have h2 := h i hi
  split
  · exact Int.mul_le_mul_of_nonneg_right h2 (by omega)
  · exact Int.le_refl _
set_option maxRecDepth 100000 in
set_option maxHeartbeats 4000000 in
theorem next1_any (t : Int) (f : Nat) (lb ub ob kb fb : Nat) (A Au : Option Addr) (q qu : Nat) (l : List Fr) (u : List Bool) (x : Fr) (bl : Int) (w : World) (ok : FrsOk l) (hul : u.length = l.length) (h : RsAt w lb ub ob kb fb A Au q qu l u x bl) (hfl : f < l.length) (hx : l.getD f Fr.o = x)
    (hbl0 : 0 ≤ bl) (hbl1 : bl ≤ 1000) (ht0 : 0 ≤ t) (ht1 : t ≤ 1000000) :
    Calls Try.prog 53 #[.int .i64 t, .pointer (some ⟨kb, 0, none⟩), .pointer (some ⟨ob, 0, none⟩), .pointer (some ⟨fb, 0, none⟩)] w fun e w' => e = .returned (.int .i64 (busF l u x bl t)) ∧ Below w.heap.size w w' := by
  have hM := busM ok ht0 (by omega)
  have hld := loadE_bd (u := u) ok.s hM (Nat.le_refl _)
  have hm1 := hM f hfl
  have hs1 := ok.s f hfl
  have hj1 := ok.j f hfl
  have he1 := ok.e f hfl
  rw [hx] at hm1 hs1 hj1 he1
  have hll : l.length ≤ 40 := ok.len
  obtain ⟨mo, hmo⟩ : ∃ z, upI (t + x.j) x.e = z := ⟨_, rfl⟩
  obtain ⟨p, hp⟩ : ∃ z, mo * x.s = z := ⟨_, rfl⟩
  obtain ⟨s, hs⟩ : ∃ z, loadE l u (fun i => upI (t + (l.getD i Fr.o).j) (l.getD i Fr.o).e) l.length = z := ⟨_, rfl⟩
  have hr : busF l u x bl t = bl + p + s := by unfold busF; rw [hmo, hp, hs]
  rw [hr]
  rw [hmo] at hm1
  rw [hs] at hld
  have hp0 : 0 ≤ p := by rw [← hp]; exact Int.mul_nonneg hm1.1 (by omega)
  have hp1 : p ≤ 100000000 * 1000 := by rw [← hp]; exact Int.mul_le_mul hm1.2 hs1.2 (by omega) (by omega)
  have hs0 := hld.1
  have hs2 : s ≤ 4000000000000 := by omega
  have w1 : IntKind.i64.wrap p = p := IntWalk.i64_in _ (by omega)
  have w2 : IntKind.i64.wrap (bl + p) = bl + p := IntWalk.i64_in _ (by omega)
  have w3 : IntKind.i64.wrap (bl + p + s) = bl + p + s := IntWalk.i64_in _ (by omega)
  have HMO := hide hmo
  have HP := hide hp
  have HS := hide hs
  have OK := hide ok
  have H := hide h
  have HUL := hide hul
  have hxj := hj1
  have HXJ := hide hj1
  have HXE := hide he1
  clear hM hld hm1 hs1 hj1 he1 hxj hmo hs hr hx h hul ok
  go_enter Try.func53, Try.ntmps53
  go_upto_region 2 with (fail)
  generalize hw0 : World.alloc _ _ = w0
  obtain ⟨hb0, hB0, hs0'⟩ := alloc1 hw0
  have HT : Hid (IntBox w0 w.heap.size t) := hb0
  have HA := hide (H.out.to hB0)
  have HB0 := hide hB0
  have k0 := cellOf HA.out.ck 0
  have c0 := cellOf HA.out.co 0; have c1 := cellOf HA.out.co 1; have c2 := cellOf HA.out.co 2; have c3 := cellOf HA.out.co 3; have c4 := cellOf HA.out.co 4
  have f0 := cellOf HA.out.cf 0
  have hlk := box_lt HA.out.ck
  have hlo := box_lt HA.out.co
  have hlf := box_lt HA.out.cf
  clear hw0 hb0 hB0 hs0'
  refine wp_region_held_drew (S := (fun w' => Below w0.heap.size w0 w')) (by kernel_rfl) ?_ (fun hHeld => ?_)
  · try dsimp only
    exact (by repeat (first | exact Below.refl _ _ | assumption | refine Below.drew ?_ | refine Below.drewN ?_ _ | refine Below.allocT ?_ (Nat.le_refl _) _ | refine Below.setCell ?_ (by simp <;> omega) _ | refine Below.to ?_ (by assumption) (Nat.le_refl _)))
  refine zT 0 rfl ?_
  refine zT 1 rfl ?_
  refine zT 2 rfl ?_
  refine zT 4 rfl ?_
  refine zT 5 rfl ?_
  refine zT 8 rfl ?_
  refine zT 9 rfl ?_
  refine wpAnyH_ready (rs := [3]) (by kernel_rfl) (by simp) ?_
  refine (AllReadyH.cons rfl (fun K hK => ?_) AllReadyH.nil)
  go_simp
  ((first | (go_at_call 54; refine (many1_any x t _ _ (HT.out.to (by repeat (first | exact Below.refl _ _ | assumption | refine Below.drew ?_ | refine Below.drewN ?_ _ | refine Below.allocT ?_ (Nat.le_refl _) _ | refine Below.setCell ?_ (by simp <;> omega) _ | refine Below.to ?_ (by assumption) (Nat.le_refl _)))) (by omega) (by omega) HXJ.out.1 HXJ.out.2 HXE.out.1 HXE.out.2).mono ?_; rw [HMO.out]; rintro e w5 ⟨rfl, hB5⟩) | (go_at_call 51; refine (load1_any l u (fun i => upI (t + (l.getD i Fr.o).j) (l.getD i Fr.o).e) (.pointer (some ⟨w.heap.size, 0, none⟩)) A Au q qu lb ub _ HUL.out OK.out.len (HA.out.to (by repeat (first | exact Below.refl _ _ | assumption | refine Below.drew ?_ | refine Below.drewN ?_ _ | refine Below.allocT ?_ (Nat.le_refl _) _ | refine Below.setCell ?_ (by simp <;> omega) _ | refine Below.to ?_ (by assumption) (Nat.le_refl _)))).cl (HA.out.to (by repeat (first | exact Below.refl _ _ | assumption | refine Below.drew ?_ | refine Below.drewN ?_ _ | refine Below.allocT ?_ (Nat.le_refl _) _ | refine Below.setCell ?_ (by simp <;> omega) _ | refine Below.to ?_ (by assumption) (Nat.le_refl _)))).cu (HA.out.to (by repeat (first | exact Below.refl _ _ | assumption | refine Below.drew ?_ | refine Below.drewN ?_ _ | refine Below.allocT ?_ (Nat.le_refl _) _ | refine Below.setCell ?_ (by simp <;> omega) _ | refine Below.to ?_ (by assumption) (Nat.le_refl _)))).fr (HA.out.to (by repeat (first | exact Below.refl _ _ | assumption | refine Below.drew ?_ | refine Below.drewN ?_ _ | refine Below.allocT ?_ (Nat.le_refl _) _ | refine Below.setCell ?_ (by simp <;> omega) _ | refine Below.to ?_ (by assumption) (Nat.le_refl _)))).bo OK.out.s (busM OK.out (by omega) (by omega)) (fun i y W hi hy hW => by rw [hy]; exact many1_any y t _ W ((HT.out.to (by repeat (first | exact Below.refl _ _ | assumption | refine Below.drew ?_ | refine Below.drewN ?_ _ | refine Below.allocT ?_ (Nat.le_refl _) _ | refine Below.setCell ?_ (by simp <;> omega) _ | refine Below.to ?_ (by assumption) (Nat.le_refl _)))).to hW) (by omega) (by omega) (hy ▸ (OK.out.j i hi)).1 (hy ▸ (OK.out.j i hi)).2 (hy ▸ (OK.out.e i hi)).1 (hy ▸ (OK.out.e i hi)).2)).mono ?_; rw [HS.out]; rintro e w6 ⟨rfl, hB6⟩)))
  (try dsimp only)
  refine hK.out _ _ ?_ (fun hNext => ?_)
  · try dsimp only
    exact (by repeat (first | exact Below.refl _ _ | assumption | refine Below.drew ?_ | refine Below.drewN ?_ _ | refine Below.allocT ?_ (Nat.le_refl _) _ | refine Below.setCell ?_ (by simp <;> omega) _ | refine Below.to ?_ (by assumption) (Nat.le_refl _)))
  clear hK K hHeld
  have hHeld := hNext
  clear hNext
  (try dsimp only at hHeld)
  try simp only [zX]
  refine zT 6 rfl ?_
  refine zT 7 rfl ?_
  refine wpAnyH_ready (rs := [10]) (by kernel_rfl) (by simp) ?_
  refine (AllReadyH.cons rfl (fun K hK => ?_) AllReadyH.nil)
  go_simp
  ((first | (go_at_call 54; refine (many1_any x t _ _ (HT.out.to (by repeat (first | exact Below.refl _ _ | assumption | refine Below.drew ?_ | refine Below.drewN ?_ _ | refine Below.allocT ?_ (Nat.le_refl _) _ | refine Below.setCell ?_ (by simp <;> omega) _ | refine Below.to ?_ (by assumption) (Nat.le_refl _)))) (by omega) (by omega) HXJ.out.1 HXJ.out.2 HXE.out.1 HXE.out.2).mono ?_; rw [HMO.out]; rintro e w5 ⟨rfl, hB5⟩) | (go_at_call 51; refine (load1_any l u (fun i => upI (t + (l.getD i Fr.o).j) (l.getD i Fr.o).e) (.pointer (some ⟨w.heap.size, 0, none⟩)) A Au q qu lb ub _ HUL.out OK.out.len (HA.out.to (by repeat (first | exact Below.refl _ _ | assumption | refine Below.drew ?_ | refine Below.drewN ?_ _ | refine Below.allocT ?_ (Nat.le_refl _) _ | refine Below.setCell ?_ (by simp <;> omega) _ | refine Below.to ?_ (by assumption) (Nat.le_refl _)))).cl (HA.out.to (by repeat (first | exact Below.refl _ _ | assumption | refine Below.drew ?_ | refine Below.drewN ?_ _ | refine Below.allocT ?_ (Nat.le_refl _) _ | refine Below.setCell ?_ (by simp <;> omega) _ | refine Below.to ?_ (by assumption) (Nat.le_refl _)))).cu (HA.out.to (by repeat (first | exact Below.refl _ _ | assumption | refine Below.drew ?_ | refine Below.drewN ?_ _ | refine Below.allocT ?_ (Nat.le_refl _) _ | refine Below.setCell ?_ (by simp <;> omega) _ | refine Below.to ?_ (by assumption) (Nat.le_refl _)))).fr (HA.out.to (by repeat (first | exact Below.refl _ _ | assumption | refine Below.drew ?_ | refine Below.drewN ?_ _ | refine Below.allocT ?_ (Nat.le_refl _) _ | refine Below.setCell ?_ (by simp <;> omega) _ | refine Below.to ?_ (by assumption) (Nat.le_refl _)))).bo OK.out.s (busM OK.out (by omega) (by omega)) (fun i y W hi hy hW => by rw [hy]; exact many1_any y t _ W ((HT.out.to (by repeat (first | exact Below.refl _ _ | assumption | refine Below.drew ?_ | refine Below.drewN ?_ _ | refine Below.allocT ?_ (Nat.le_refl _) _ | refine Below.setCell ?_ (by simp <;> omega) _ | refine Below.to ?_ (by assumption) (Nat.le_refl _)))).to hW) (by omega) (by omega) (hy ▸ (OK.out.j i hi)).1 (hy ▸ (OK.out.j i hi)).2 (hy ▸ (OK.out.e i hi)).1 (hy ▸ (OK.out.e i hi)).2)).mono ?_; rw [HS.out]; rintro e w6 ⟨rfl, hB6⟩)))
  (try dsimp only)
  refine hK.out _ _ ?_ (fun hNext => ?_)
  · try dsimp only
    exact (by repeat (first | exact Below.refl _ _ | assumption | refine Below.drew ?_ | refine Below.drewN ?_ _ | refine Below.allocT ?_ (Nat.le_refl _) _ | refine Below.setCell ?_ (by simp <;> omega) _ | refine Below.to ?_ (by assumption) (Nat.le_refl _)))
  clear hK K hHeld
  have hHeld := hNext
  clear hNext
  (try dsimp only at hHeld)
  try simp only [zX]
  refine zT 11 rfl ?_
  refine zT 12 rfl ?_
  refine wpAnyH_done (by kernel_rfl) ?_ _
  all_goals
    go_wp2
    go_ret
    exact ⟨rfl, Below.to HB0.out hHeld (Nat.le_refl _)⟩
set_option maxRecDepth 100000 in
set_option maxHeartbeats 4000000 in
theorem next2_any (t qn : Int) (f : Nat) (lb ub ob kb fb qb : Nat) (A Au : Option Addr) (q qu : Nat) (l : List Fr) (u : List Bool) (x : Fr) (bl : Int) (w : World) (ok : FrsOk l) (hul : u.length = l.length) (h : RsAt w lb ub ob kb fb A Au q qu l u x bl) (hqb : IntBox w qb qn) (hfl : f < l.length) (hx : l.getD f Fr.o = x)
    (hbl0 : 0 ≤ bl) (hbl1 : bl ≤ 1000) (hq0 : 0 ≤ qn) (hq1 : qn ≤ 10000000) (ht0 : 0 ≤ t) (ht1 : t ≤ 1000000) :
    Calls Try.prog 56 #[.int .i64 t, .pointer (some ⟨kb, 0, none⟩), .pointer (some ⟨qb, 0, none⟩), .pointer (some ⟨ob, 0, none⟩), .pointer (some ⟨fb, 0, none⟩)] w fun e w' => e = .returned (.int .i64 (waitF l u x bl qn t)) ∧ Below w.heap.size w w' := by
  have hM := waitM ok ht0 (by omega)
  have hld := loadE_bd (u := u) ok.s hM (Nat.le_refl _)
  have hs1 := ok.s f hfl
  rw [hx] at hs1
  have hll : l.length ≤ 40 := ok.len
  obtain ⟨p, hp⟩ : ∃ z, qn * x.s = z := ⟨_, rfl⟩
  obtain ⟨s, hs⟩ : ∃ z, loadE l u (fun i => (t + (l.getD i Fr.o).j) / (l.getD i Fr.o).e + 1) l.length = z := ⟨_, rfl⟩
  have hr : waitF l u x bl qn t = bl + p + s := by unfold waitF; rw [hp, hs]
  rw [hr]
  rw [hs] at hld
  have hp0 : 0 ≤ p := by rw [← hp]; exact Int.mul_nonneg hq0 (by omega)
  have hp1 : p ≤ 10000000 * 1000 := by rw [← hp]; exact Int.mul_le_mul hq1 hs1.2 (by omega) (by omega)
  have hs0 := hld.1
  have hs2 : s ≤ 4000000000000 := by omega
  have w1 : IntKind.i64.wrap p = p := IntWalk.i64_in _ (by omega)
  have w2 : IntKind.i64.wrap (bl + p) = bl + p := IntWalk.i64_in _ (by omega)
  have w3 : IntKind.i64.wrap (bl + p + s) = bl + p + s := IntWalk.i64_in _ (by omega)
  have HP := hide hp
  have HS := hide hs
  have OK := hide ok
  have H := hide h
  have HQ := hide hqb
  have HUL := hide hul
  clear hM hld hs1 hs hr hx h hul hqb ok
  go_enter Try.func56, Try.ntmps56
  go_upto_region 1 with (fail)
  generalize hw0 : World.alloc _ _ = w0
  obtain ⟨hb0, hB0, hs0'⟩ := alloc1 hw0
  have HT : Hid (IntBox w0 w.heap.size t) := hb0
  have HA := hide (H.out.to hB0)
  have HB0 := hide hB0
  have k0 := cellOf HA.out.ck 0
  have c0 := cellOf HA.out.co 0; have c1 := cellOf HA.out.co 1; have c2 := cellOf HA.out.co 2; have c3 := cellOf HA.out.co 3; have c4 := cellOf HA.out.co 4
  have f0 := cellOf HA.out.cf 0
  have q0 := cellOf (HQ.out.to hB0) 0
  have hlk := box_lt HA.out.ck
  have hlo := box_lt HA.out.co
  have hlf := box_lt HA.out.cf
  have hlq := box_lt (HQ.out.to hB0)
  clear hw0 hb0 hB0 hs0'
  refine wp_region_held_drew (S := (fun w' => Below w0.heap.size w0 w')) (by kernel_rfl) ?_ (fun hHeld => ?_)
  · try dsimp only
    exact (by repeat (first | exact Below.refl _ _ | assumption | refine Below.drew ?_ | refine Below.drewN ?_ _ | refine Below.allocT ?_ (Nat.le_refl _) _ | refine Below.setCell ?_ (by simp <;> omega) _ | refine Below.to ?_ (by assumption) (Nat.le_refl _)))
  refine zT 0 rfl ?_
  refine zT 1 rfl ?_
  refine zT 2 rfl ?_
  refine zT 3 rfl ?_
  refine zT 4 rfl ?_
  refine zT 5 rfl ?_
  refine zT 6 rfl ?_
  refine wpAnyH_ready (rs := [7]) (by kernel_rfl) (by simp) ?_
  refine (AllReadyH.cons rfl (fun K hK => ?_) AllReadyH.nil)
  go_simp
  refine hK.out _ _ ?_ (fun hNext => ?_)
  · try dsimp only
    exact (by repeat (first | exact Below.refl _ _ | assumption | refine Below.drew ?_ | refine Below.drewN ?_ _ | refine Below.allocT ?_ (Nat.le_refl _) _ | refine Below.setCell ?_ (by simp <;> omega) _ | refine Below.to ?_ (by assumption) (Nat.le_refl _)))
  clear hK K hHeld
  have hHeld := hNext
  clear hNext
  (try dsimp only at hHeld)
  try simp only [zX]
  refine wpAnyH_ready (rs := [8]) (by kernel_rfl) (by simp) ?_
  refine (AllReadyH.cons rfl (fun K hK => ?_) AllReadyH.nil)
  go_simp
  ((go_at_call 51; refine (load2_any l u (fun i => (t + (l.getD i Fr.o).j) / (l.getD i Fr.o).e + 1) (.pointer (some ⟨w.heap.size, 0, none⟩)) A Au q qu lb ub _ HUL.out OK.out.len (HA.out.to (by repeat (first | exact Below.refl _ _ | assumption | refine Below.drew ?_ | refine Below.drewN ?_ _ | refine Below.allocT ?_ (Nat.le_refl _) _ | refine Below.setCell ?_ (by simp <;> omega) _ | refine Below.to ?_ (by assumption) (Nat.le_refl _)))).cl (HA.out.to (by repeat (first | exact Below.refl _ _ | assumption | refine Below.drew ?_ | refine Below.drewN ?_ _ | refine Below.allocT ?_ (Nat.le_refl _) _ | refine Below.setCell ?_ (by simp <;> omega) _ | refine Below.to ?_ (by assumption) (Nat.le_refl _)))).cu (HA.out.to (by repeat (first | exact Below.refl _ _ | assumption | refine Below.drew ?_ | refine Below.drewN ?_ _ | refine Below.allocT ?_ (Nat.le_refl _) _ | refine Below.setCell ?_ (by simp <;> omega) _ | refine Below.to ?_ (by assumption) (Nat.le_refl _)))).fr (HA.out.to (by repeat (first | exact Below.refl _ _ | assumption | refine Below.drew ?_ | refine Below.drewN ?_ _ | refine Below.allocT ?_ (Nat.le_refl _) _ | refine Below.setCell ?_ (by simp <;> omega) _ | refine Below.to ?_ (by assumption) (Nat.le_refl _)))).bo OK.out.s (waitM OK.out (by omega) (by omega)) (fun i y W hi hy hW => by rw [hy]; exact many2_any y t _ W ((HT.out.to (by repeat (first | exact Below.refl _ _ | assumption | refine Below.drew ?_ | refine Below.drewN ?_ _ | refine Below.allocT ?_ (Nat.le_refl _) _ | refine Below.setCell ?_ (by simp <;> omega) _ | refine Below.to ?_ (by assumption) (Nat.le_refl _)))).to hW) (by omega) (by omega) (hy ▸ (OK.out.j i hi)).1 (hy ▸ (OK.out.j i hi)).2 (hy ▸ (OK.out.e i hi)).1 (hy ▸ (OK.out.e i hi)).2)).mono ?_; rw [HS.out]; rintro e w6 ⟨rfl, hB6⟩))
  (try dsimp only)
  refine hK.out _ _ ?_ (fun hNext => ?_)
  · try dsimp only
    exact (by repeat (first | exact Below.refl _ _ | assumption | refine Below.drew ?_ | refine Below.drewN ?_ _ | refine Below.allocT ?_ (Nat.le_refl _) _ | refine Below.setCell ?_ (by simp <;> omega) _ | refine Below.to ?_ (by assumption) (Nat.le_refl _)))
  clear hK K hHeld
  have hHeld := hNext
  clear hNext
  (try dsimp only at hHeld)
  try simp only [zX]
  refine zT 9 rfl ?_
  refine zT 10 rfl ?_
  refine wpAnyH_done (by kernel_rfl) ?_ _
  all_goals
    go_wp2
    go_ret
    exact ⟨rfl, Below.to HB0.out hHeld (Nat.le_refl _)⟩
end Go.Proofs.Ytmgfijadjclmpaa
/- response: walk. -/
namespace Go.Proofs.Ytmgfijadjclmpaa
open Go.RowKit
set_option linter.unusedVariables false
set_option linter.unusedSimpArgs false
/-- The longest of the frames that are not above one. -/
def blkK (l : List Fr) (u : List Bool) (f : Nat) : Nat → Int
  | 0 => 0
  | k + 1 => if k ≠ f ∧ u.getD k false = false then max (blkK l u f k) ((l.getD k Fr.o).s - 1) else blkK l u f k
theorem blkK_bd {l : List Fr} {u : List Bool} {f : Nat} (hs : ∀ i, i < l.length → 1 ≤ (l.getD i Fr.o).s ∧ (l.getD i Fr.o).s ≤ 1000) : ∀ {k : Nat}, k ≤ l.length → 0 ≤ blkK l u f k ∧ blkK l u f k ≤ 1000
  | 0, _ => ⟨Int.le_refl _, by show (0 : Int) ≤ 1000; omega⟩
  | k + 1, h => by
    have ih := blkK_bd (u := u) (f := f) hs (k := k) (by omega)
    have h1 := hs k (by omega)
    show 0 ≤ (if k ≠ f ∧ u.getD k false = false then max (blkK l u f k) ((l.getD k Fr.o).s - 1) else blkK l u f k) ∧ (if k ≠ f ∧ u.getD k false = false then max (blkK l u f k) ((l.getD k Fr.o).s - 1) else blkK l u f k) ≤ (1000 : Int)
    split
    · exact ⟨Int.le_trans ih.1 (Int.le_max_left _ _), Int.max_le.2 ⟨ih.2, by omega⟩⟩
    · exact ih
theorem blkK_le {l : List Fr} {u : List Bool} {f g : Nat} : ∀ {k : Nat}, g < k → g ≠ f → u.getD g false = false → (l.getD g Fr.o).s - 1 ≤ blkK l u f k
  | 0, h, _, _ => absurd h (by omega)
  | k + 1, h, h1, h2 => by
    show _ ≤ (if k ≠ f ∧ u.getD k false = false then max (blkK l u f k) ((l.getD k Fr.o).s - 1) else blkK l u f k)
    rcases Nat.lt_or_ge g k with h3 | h3
    · have ih := blkK_le (l := l) (u := u) (k := k) h3 h1 h2
      split
      · exact Int.le_trans ih (Int.le_max_left _ _)
      · exact ih
    · have e : g = k := by omega
      subst e
      rw [if_pos ⟨h1, h2⟩]
      exact Int.le_max_right _ _
/-- The boxes of response. -/
structure RsM (w0 w : World) (A Au : Option Addr) (q qu : Nat) (l : List Fr) (u : List Bool) (x : Fr) (bl : Int) : Prop where
  below : Below w0.heap.size w0 w
  cl : w.heap[w0.heap.size]? = some (.cells #[.slice A l.length q] 22 (0, 0))
  cu : w.heap[w0.heap.size + 1]? = some (.cells #[.slice Au u.length qu] 78 (0, 0))
  co : FrBox w (w0.heap.size + 2) x
  ck : IntBox w (w0.heap.size + 3) bl
theorem RsM.to {w0 w w' : World} {A Au : Option Addr} {q qu : Nat} {l : List Fr} {u : List Bool} {x : Fr} {bl : Int} (h : RsM w0 w A Au q qu l u x bl) (hb : Below w.heap.size w w') : RsM w0 w' A Au q qu l u x bl :=
  ⟨Below.to h.below hb (Nat.le_refl _), box_to h.cl hb, box_to h.cu hb, h.co.to hb, h.ck.to hb⟩
theorem RsM.set {w0 w : World} {A Au : Option Addr} {q qu : Nat} {l : List Fr} {u : List Bool} {x : Fr} {bl : Int} (h : RsM w0 w A Au q qu l u x bl) (y : Int) : RsM w0 (w.setCell ⟨w0.heap.size + 3, 0, none⟩ (.int .i64 y)) A Au q qu l u x y :=
  ⟨Below.setCell h.below (by simp) _, (Below.heap_setCell _ _ _ _ (by simp)).trans h.cl, (Below.heap_setCell _ _ _ _ (by simp)).trans h.cu, (Below.heap_setCell _ _ _ _ (by simp)).trans h.co, setCellOf h.ck _⟩
/-- What a response that is found is good for. -/
structure RespP (l : List Fr) (u : List Bool) (f : Nat) (r bl busy : Int) : Prop where
  bl0 : 0 ≤ bl
  bl1 : ∀ g, g < l.length → g ≠ f → u.getD g false = false → (l.getD g Fr.o).s - 1 ≤ bl
  b0 : 1 ≤ busy
  bus : busF l u (l.getD f Fr.o) bl busy = busy
  wait : ∀ k : Nat, (k : Int) < upI (busy + (l.getD f Fr.o).j) (l.getD f Fr.o).e → ∃ w, 0 ≤ w ∧ waitF l u (l.getD f Fr.o) bl k w = w ∧ w + (l.getD f Fr.o).s + (l.getD f Fr.o).j - k * (l.getD f Fr.o).e ≤ r
  r0 : 1 ≤ r
theorem upI_pos {n b : Int} (hn : 1 ≤ n) (hb : 1 ≤ b) : 1 ≤ upI n b := by
  unfold upI
  rw [Int.le_ediv_iff_mul_le (by omega)]
  omega
theorem busF_mono {l : List Fr} {u : List Bool} {f : Nat} {bl a b : Int} (ok : FrsOk l) (hf : f < l.length) (hab : a ≤ b) : busF l u (l.getD f Fr.o) bl a ≤ busF l u (l.getD f Fr.o) bl b := by
  have h1 := loadE_mono (u := u) ok (m := fun i => upI (a + (l.getD i Fr.o).j) (l.getD i Fr.o).e) (m' := fun i => upI (b + (l.getD i Fr.o).j) (l.getD i Fr.o).e) (fun i hi => upI_mono (by omega) (ok.e i hi).1)
  have h2 : upI (a + (l.getD f Fr.o).j) (l.getD f Fr.o).e * (l.getD f Fr.o).s ≤ upI (b + (l.getD f Fr.o).j) (l.getD f Fr.o).e * (l.getD f Fr.o).s := Int.mul_le_mul_of_nonneg_right (upI_mono (by omega) (ok.e f hf).1) (by have := ok.s f hf; omega)
  unfold busF
  omega
theorem waitF_mono {l : List Fr} {u : List Bool} {x : Fr} {bl q a b : Int} (ok : FrsOk l) (hab : a ≤ b) : waitF l u x bl q a ≤ waitF l u x bl q b := by
  have h1 := loadE_mono (u := u) ok (m := fun i => (a + (l.getD i Fr.o).j) / (l.getD i Fr.o).e + 1) (m' := fun i => (b + (l.getD i Fr.o).j) / (l.getD i Fr.o).e + 1) (fun i hi => by
    have := Int.ediv_le_ediv (c := (l.getD i Fr.o).e) (a := a + (l.getD i Fr.o).j) (b := b + (l.getD i Fr.o).j) (by have := ok.e i hi; omega) (by omega)
    omega)
  unfold waitF
  omega
theorem busF_lo {l : List Fr} {u : List Bool} {f : Nat} {bl : Int} (ok : FrsOk l) (hf : f < l.length) (hb : 0 ≤ bl) : 1 ≤ busF l u (l.getD f Fr.o) bl 1 := by
  have h1 := (loadE_bd (u := u) ok.s (busM ok (t := 1) (by omega) (by omega)) (Nat.le_refl _)).1
  have h2 := upI_pos (n := 1 + (l.getD f Fr.o).j) (b := (l.getD f Fr.o).e) (by have := ok.j f hf; omega) (ok.e f hf).1
  have h3 : 1 * 1 ≤ upI (1 + (l.getD f Fr.o).j) (l.getD f Fr.o).e * (l.getD f Fr.o).s := Int.mul_le_mul h2 (ok.s f hf).1 (by omega) (by omega)
  unfold busF
  omega
theorem busF_hi {l : List Fr} {u : List Bool} {f : Nat} {bl t : Int} (ok : FrsOk l) (hf : f < l.length) (hb : bl ≤ 1000) (ht0 : 0 ≤ t) (ht : t ≤ 1000000) : busF l u (l.getD f Fr.o) bl t ≤ 100000000000000 := by
  have hM := busM ok ht0 (by omega)
  have h1 := (loadE_bd (u := u) ok.s hM (Nat.le_refl _)).2
  have h2 := hM f hf
  have h3 : upI (t + (l.getD f Fr.o).j) (l.getD f Fr.o).e * (l.getD f Fr.o).s ≤ 100000000 * 1000 := Int.mul_le_mul h2.2 (ok.s f hf).2 (by have := ok.s f hf; omega) (by omega)
  have h4 := ok.len
  unfold busF
  omega
theorem loadE_nn {l : List Fr} {u : List Bool} {m : Nat → Int} (ok : FrsOk l) (hm : ∀ i, i < l.length → 0 ≤ m i) : 0 ≤ loadE l u m l.length := sumI_nonneg fun i hi => by
  have h1 := (ok.s i hi).1
  have h2 := hm i hi
  split
  · exact Int.mul_nonneg h2 (by omega)
  · exact Int.le_refl _
theorem waitF_lo {l : List Fr} {u : List Bool} {x : Fr} {bl q t : Int} (ok : FrsOk l) (ht0 : 0 ≤ t) : bl + q * x.s ≤ waitF l u x bl q t := by
  have h1 := loadE_nn (u := u) (m := fun i => (t + (l.getD i Fr.o).j) / (l.getD i Fr.o).e + 1) ok fun i hi => by
    have h2 := ok.j i hi
    have h3 := ok.e i hi
    have h4 := (divI_bd (n := t + (l.getD i Fr.o).j) (b := (l.getD i Fr.o).e) (by omega) h3.1).1
    show 0 ≤ (t + (l.getD i Fr.o).j) / (l.getD i Fr.o).e + 1
    omega
  unfold waitF
  omega
theorem waitF_hi {l : List Fr} {u : List Bool} {f : Nat} {bl q t : Int} (ok : FrsOk l) (hf : f < l.length) (hb : bl ≤ 1000) (hq0 : 0 ≤ q) (hq : q ≤ 10000000) (ht0 : 0 ≤ t) (ht : t ≤ 1000000) : waitF l u (l.getD f Fr.o) bl q t ≤ 100000000000000 := by
  have h1 := (loadE_bd (u := u) ok.s (waitM ok ht0 (by omega)) (Nat.le_refl _)).2
  have h3 : q * (l.getD f Fr.o).s ≤ 10000000 * 1000 := Int.mul_le_mul hq (ok.s f hf).2 (by have := ok.s f hf; omega) (by omega)
  have h4 := ok.len
  unfold waitF
  omega
end Go.Proofs.Ytmgfijadjclmpaa

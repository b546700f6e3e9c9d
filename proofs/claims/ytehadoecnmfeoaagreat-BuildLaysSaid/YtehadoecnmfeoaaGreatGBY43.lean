/- Part 43 of this claim's texts: walks and plain laws. -/
import Derived.Test.YtehadoecnmfeoaaGreatRows
import Derived.Test.YtehadoecnmfeoaaGreatGBY42
import Derived.Test.YtehadoecnmfeoaaGreatGBY30
import Derived.Test.YtehadoecnmfeoaaGreatGBY19
import Derived.Test.YtehadoecnmfeoaaGreatGBY3
import Derived.Test.YtehadoecnmfeoaaGreatGBY40
import Derived.Test.YtehadoecnmfeoaaGreatGBY39
import Derived.Test.YtehadoecnmfeoaaGreatGBY41
import Derived.Deep.DeepMust
import Derived.Deep.RegionHeld3
import Derived.Deep.DrawnRows
import Derived.Test.YtehadoecnmfeoaaGreatGBY38
import Derived.Maps.AppendAt
import Derived.Test.YtehadoecnmfeoaaGreatGBY1
/- The look at the example; equal lists of numbers are told equal: walks. -/
namespace Go.Proofs.YtehadoecnmfeoaaGreat
open Go.RowKit
set_option linter.unusedVariables false
set_option linter.unusedSimpArgs false
theorem Nods.ints7 {w : World} {B : Nat} {v : Value} {l : List Nat} (h : Nods w B v l) : Ints w B v (l.map fun (n : Nat) => (n : Int)) := by
  obtain ⟨A, b, off, cap, h1, h2, h3, h4⟩ := h
  have hl : (l.map fun (n : Nat) => (n : Int)).length = l.length := by simp
  refine ⟨A, b, off, cap, ?_, by rw [hl]; exact h2, ?_, fun i j hi hj => ?_⟩
  · rw [hl]; exact h1
  · rw [hl]; exact h3
  · rw [hl] at hi
    have := h4 i j hi hj
    rw [this]
    simp [hi]
set_option maxRecDepth 100000 in
set_option maxHeartbeats 2000000 in
theorem sameInts12_any (f : List Int) (u v : Value) (w : World) (hl : f.length ≤ maxLen) (h : Ints w w.heap.size u f) (h2 : Ints w w.heap.size v f) :
    Calls Tryz.prog 21 #[u, v] w fun e w' => e = .returned (.bool true) ∧ Below w.heap.size w w' := by
  obtain ⟨A, q, rfl⟩ := Sl.form h
  obtain ⟨C, r, rfl⟩ := Sl.form h2
  unfold maxLen at hl
  have H := hide h
  have H2 := hide h2
  clear h h2
  go_enter Tryz.func21, Tryz.ntmps21
  go_wp2_with fail
  go_loopw [5] (fun i wr => ∃ k : Nat, k ≤ f.length ∧ i = .int .i64 k ∧ Hid (Below w.heap.size w wr)) (fun i _ => f.length - (intOf i).toNat)
  case atStart => exact ⟨0, Nat.zero_le _, rfl, Below.refl _ _⟩
  case round =>
    obtain ⟨k, hk, rfl, hB⟩ := hrel
    by_cases hlt : k < f.length
    · obtain ⟨_, hq, b, off, rfl, hb, g0⟩ := sl_at (Sl.below H.out hB.out) hlt
      obtain ⟨_, hq2, b2, off2, rfl, hb2, g1⟩ := sl_at (Sl.below H2.out hB.out) hlt
      have c0 := g0 0 (by omega)
      have d0 := g1 0 (by omega)
      rw [Nat.mul_one, Nat.add_zero] at c0 d0
      have l0 : b < wr.heap.size := Nat.lt_of_lt_of_le hb hB.out.size
      have l1 : b2 < wr.heap.size := Nat.lt_of_lt_of_le hb2 hB.out.size
      have ik0 : (0 : Int) ≤ (k : Int) := by omega
      have ik : (k : Int) < (f.length : Int) := by omega
      have iq : (f.length : Int) ≤ (q : Int) := by omega
      have iq2 : (f.length : Int) ≤ (r : Int) := by omega
      obtain ⟨x, hx⟩ : ∃ x, f.getD k 0 = x := ⟨_, rfl⟩
      rw [hx] at c0 d0
      have n1 : (x != x) = false := by simp
      clear hx g0 g1
      go_wp2_with fail
      refine wp_region_held_drew (S := (fun w' => Below wr.heap.size wr w')) (by kernel_rfl) ?_ (fun hHeld => ?_)
      · try dsimp only
        exact (by repeat (first | exact Below.refl _ _ | assumption | refine Below.drew ?_ | refine Below.drewN ?_ _ | refine Below.allocT ?_ (Nat.le_refl _) _ | refine Below.setCell ?_ (by simp <;> omega) _ | refine Below.to ?_ (by assumption) (Nat.le_refl _)))
      refine zT 0 rfl ?_
      try simp only [zX]
      refine zT 1 rfl ?_
      try simp only [zX]
      refine zT 2 rfl ?_
      try simp only [zX]
      refine zT 3 rfl ?_
      try simp only [zX]
      refine zT 4 rfl ?_
      try simp only [zX]
      refine zT 5 rfl ?_
      try simp only [zX]
      refine zT 6 rfl ?_
      try simp only [zX]
      refine zT 7 rfl ?_
      try simp only [zX]
      refine zT 8 rfl ?_
      try simp only [zX]
      refine wpAnyH_done (by kernel_rfl) ?_ _
      go_wp2_with fail
      go_roundw
      case rel => exact ⟨k + 1, by omega, by go_num, Below.to hB.out hHeld (Nat.le_refl _)⟩
      case measure => simp [intOf]; omega
    · go_wp2_with fail
      go_ret
      exact ⟨rfl, hB.out⟩
def exMd : List Md := [⟨[1], [1, 2]⟩]
theorem exB_aud : audA exB exMd = some (0, 1, [true, false]) := by kernel_rfl
theorem exB_err : bldE exB exMd = 0 := by kernel_rfl
theorem exB_rel : relR [6, 5, 4, 5] 10 = [0, 1, 0, 1] := by kernel_rfl
theorem exB_rele : relE [6, 5, 4, 5] 10 = 0 := by kernel_rfl
theorem exB_sized : SizedL exB := by
  have hm : ∀ n : Nat, n ≤ 100 → n ≤ maxLen := fun n hn => by unfold maxLen; omega
  refine ⟨⟨hm _ (by decide), fun x hx => hm _ ?_, hm _ (by decide), fun f hf => ?_⟩, hm _ (by decide), hm _ (by decide), hm _ (by decide), hm _ (by decide), fun x hx => hm _ ?_, fun x hx => ⟨hm _ ?_, hm _ ?_⟩⟩
  · have : x = ⟨#[116, 111, 119]⟩ ∨ x = ⟨#[104, 101, 97, 116]⟩ := by simpa [exB] using hx
    rcases this with rfl | rfl <;> decide
  · simp [exB] at hf
  · simp [exB] at hx
    rcases hx with rfl | rfl | rfl <;> decide
  · simp [exB] at hx
    rcases hx with rfl | rfl | rfl <;> decide
  · simp [exB] at hx
    rcases hx with rfl | rfl | rfl <;> decide
theorem exMd_sized : SizedD exMd := ⟨by unfold maxLen; decide, fun x hx => by
  simp [exMd] at hx
  subst hx
  unfold maxLen
  decide⟩
theorem mods_ex {w w0 : World} {o p q : Obj} (h : ((w.alloc o).alloc p).alloc q = w0) {t u s : Nat} (ho : o = .cells #[.int .i64 1] t (0, 0)) (hp : p = .cells #[.int .i64 1, .int .i64 2] u (0, 0)) (hq : q = .cells #[.slice (some ⟨w.heap.size, 0, none⟩) 1 1, .slice (some ⟨w.heap.size + 1, 0, none⟩) 2 2] s (0, 0)) :
    Mods w0 w0.heap.size (.slice (some ⟨w.heap.size + 2, 0, none⟩) 1 1) exMd ∧ Below w.heap.size w w0 := by
  obtain ⟨h0, h1, h2, hB, hs⟩ := alloc3 h
  subst ho hp hq
  refine ⟨⟨fun _ => .slice (some ⟨w.heap.size, 0, none⟩) 1 1, fun _ => .slice (some ⟨w.heap.size + 1, 0, none⟩) 2 2, sl_boxes7 h2 (by omega) (fun i hi j hj => ?_), fun i hi => ?_⟩, hB⟩
  · have hi1 : i < 1 := hi
    obtain rfl : i = 0 := by omega
    rcases (by omega : j = 0 ∨ j = 1) with rfl | rfl <;> rfl
  · have hi1 : i < 1 := hi
    obtain rfl : i = 0 := by omega
    exact ⟨ints_box (l := [1]) h0 (by omega), ints_box (l := [1, 2]) h1 (by omega)⟩
set_option maxRecDepth 100000 in
set_option maxHeartbeats 2000000 in
theorem works_build (w : World) :
    Calls Tryz.prog 15 #[] w fun e w' => e = .returned (.bool true) ∧ Below w.heap.size w w' := by
  go_enter Tryz.func15, Tryz.ntmps15
  go_upto_region 2 with (first
    | (go_at_call 52; refine (exb_any w).mono ?_; rintro e w1 ⟨A0, A1, A2, A3, A4, A5, q0, q1, q2, q3, q4, q5, rfl, hl1, hB1⟩; have HL1 := hide hl1; have HB1 := hide hB1; clear hl1 hB1)
    | (go_at_call 16; generalize hw0 : World.alloc _ _ = w0; obtain ⟨hms, hBm⟩ := mods_ex hw0 rfl rfl rfl; refine (Audit_any exMd _ _ A0 A1 A2 A3 A4 A5 q0 q1 q2 q3 q4 q5 exB w0 exB_sized exMd_sized (HL1.out.up hBm) hms (fun _ => by decide)).mono ?_; rw [exB_aud, exB_err]; rintro e w2 ⟨v2, he2, hop2, hB2⟩; have he3 : e = .returned (.tuple #[.agg #[.int .i64 0, .int .i64 1, v2], .bool true, .int .i64 0]) := he2; subst he3; obtain ⟨ad2, p2, e2⟩ := hop2.1; subst e2; have HV2 := hide hop2.2; have HB2 := hide (Below.to HB1.out (Below.to hBm hB2 (Nat.le_refl _)) (Nat.le_refl _)); clear hw0 hms hBm hB2 hop2 he2))
  generalize hw3 : World.alloc _ _ = w3
  obtain ⟨hb3, hB3, hs3⟩ := alloc1 hw3
  have HV3 := hide (Sl.up HV2.out hB3)
  have HB3 := hide (Below.to HB2.out hB3 (Nat.le_refl _))
  have HZ3 := hide hb3
  clear hw3 hb3 hB3 hs3
  go_upto_region 3 with (go_at_call 53; generalize hw4 : World.alloc _ _ = w4; obtain ⟨hb4, hB4, hs4⟩ := alloc1 hw4; refine (Reels_any [6, 5, 4, 5] 10 _ _ w4 (by unfold maxLen; decide) (ints_box (l := [6, 5, 4, 5]) hb4 (by omega))).mono ?_; rw [exB_rel, exB_rele]; rintro e w5 ⟨v5, rfl, hv5, hB5⟩; have HV5 := hide (Sl.up (Sl.up HV3.out hB4) hB5); have HZ5 := hide (box_to (box_to HZ3.out hB4) hB5); have HN5 := hide hv5; have HB5 := hide (Below.to HB3.out (Below.to hB4 hB5 (Nat.le_refl _)) (Nat.le_refl _)); clear hw4 hb4 hB4 hs4 hv5 hB5)
  have y0 := cellOf HZ5.out 0
  have y1 := cellOf HZ5.out 1
  have y2 := cellOf HZ5.out 2
  have l5 := box_lt HZ5.out
  go_wp2_with (first
    | (go_at_call 41; refine (SameVariant_any [true, false] [true, false] _ _ _ (Sl.up HV5.out (Below.allocT (Below.refl _ _) (Nat.le_refl _) _)) (bols_box (l := [true, false]) (heap_new _ _ _ rfl) (by simp)) (by decide) (by unfold maxLen; decide)).mono ?_; rintro e w6 ⟨rfl, hB6⟩; have HN6 := hide (Sl.up HN5.out (Below.to (Below.allocT (Below.refl _ _) (Nat.le_refl _) _) hB6 (Nat.le_refl _))); have HB6 := hide (Below.to (Below.allocT HB5.out (Nat.le_refl _) _) hB6 (Nat.le_refl _)); clear hB6)
    | (go_at_call 21; refine (sameInts12_any [0, 1, 0, 1] _ _ _ (by unfold maxLen; decide) (Nods.ints7 (Sl.up HN6.out (Below.allocT (Below.refl _ _) (Nat.le_refl _) _))) (ints_box (l := [0, 1, 0, 1]) (heap_new _ _ _ rfl) (by simp))).mono ?_; rintro e w7 ⟨rfl, hB7⟩))
  go_ret
  exact ⟨rfl, Below.to (Below.allocT HB6.out (Nat.le_refl _) _) hB7 (Nat.le_refl _)⟩
end Go.Proofs.YtehadoecnmfeoaaGreat
/- Loads (the elder): walk. -/
namespace Go.Proofs.YtehadoecnmfeoaaGreat
open Go.RowKit
set_option linter.unusedVariables false
set_option linter.unusedSimpArgs false
end Go.Proofs.YtehadoecnmfeoaaGreat
/- What Lay's table of loads needs. -/
namespace Go.Proofs.YtehadoecnmfeoaaGreat
open Go.RowKit
set_option linter.unusedVariables false
set_option linter.unusedSimpArgs false
/-- An append of the call's own, with what becomes of the elder slice: its row goes on in it, or it stays as it is. -/
theorem run_append_sib {P : Program} (w : World) (base : Nat) (t ty e : TypeId) (i : TypeInfo) (z : Value) (size bytes : Nat) (ht : P.underlying t = some (.slice e)) (hi : P.info? e = some i) (hz : i.zero = some z)
    (hsize : i.size = size) (hby : i.bytes = bytes) (hzs : z.cells.size = size) (hsz : 0 < size)
    (v : Value) (n : Nat) (xs : List Value) (hown : w.ownsRow base e size v n xs)
    (a : Addr) (m c : Nat) (news : List Value) (hl : news.length = m * size) (hnews : ∀ j u, news[j]? = some u → w.cell? (a.add j) = some u) (h1 : ∀ u ∈ news, u.oneCell' = true)
    (h63 : n + m ≤ maxLen) (hbytes : (n + m) * bytes ≤ 140737488355328) (hbase : base ≤ w.heap.size) (hm : 0 < m) :
    ∃ v' w', (Builtin.append_ #[t, t] ty #[v, .slice (some a) m c]).run P w = .ok v' w' ∧ w'.ownsRow base e size v' (n + m) (xs ++ news) ∧ w.grownBy w' v.ownBlock ∧
      ((∃ g cap, v = .slice (some ⟨g, 0, none⟩) n cap ∧ v' = .slice (some ⟨g, 0, none⟩) (n + m) cap) ∨ (v'.ownBlock = some w.heap.size ∧ w.grownBy w' none)) := by
  obtain ⟨v', w', hr, h2, h3, h4, h5⟩ := run_append_own_at (P := P) w base t ty e i z size bytes ht hi hz hsize hby hzs hsz v n xs hown a m c news hl hnews h1 h63 hbytes hbase
  refine ⟨v', w', hr, h2, h3, ?_⟩
  have hh := hown
  rcases hown.2 with ⟨rfl, rfl⟩ | ⟨g, cap, cur, rfl, hbg, hg, hnc, hcm, hcs, htake⟩
  · refine .inr ?_
    rcases h5 with h5 | h5
    · exfalso
      rcases h2.2 with ⟨h6, h7⟩ | ⟨g, cap, cur, h6, _⟩
      · omega
      · rw [h6] at h5
        simp [Value.ownBlock] at h5
    · exact ⟨h5, h3⟩
  · subst hsize
    by_cases hroom : n + m ≤ cap
    · have hfit : n * i.size + news.length ≤ cur.size := by rw [hl, hcs, ← Nat.add_mul]; exact Nat.mul_le_mul_right _ hroom
      have hr2 := run_append_room (P := P) w t ty e i ht hi g n cap cur hg a m c news hl hnews h1 hroom hfit
      rw [hr] at hr2
      injection hr2 with e1 e2
      exact .inl ⟨g, cap, rfl, e1⟩
    · have holds : ∀ j u, xs[j]? = some u → w.cell? ((⟨g, 0, none⟩ : Addr).add j) = some u := hh.cells (g := g) rfl
      subst hby
      have hr2 := run_append_grow (P := P) w t ty e i z ht hi hz ⟨g, 0, none⟩ n cap xs hh.1 holds a m c news hl hnews (by omega) (by simp only [maxLen] at h63; omega) (growslice_fits (by omega) hbytes)
      rw [hr] at hr2
      injection hr2 with e1 e2
      subst e1 e2
      exact .inr ⟨rfl, ⟨rfl, rfl, rfl, by simp, fun k hk _ => Go.heap_alloc_old w.drew _ hk⟩⟩
theorem natBits (x y : Nat) (hx : x < 2 ^ 62) (hy : y < 2 ^ 62) : bits .or .i64 (x : Int) (y : Int) = ((x ||| y : Nat) : Int) ∧ bits .and .i64 (x : Int) (y : Int) = ((x &&& y : Nat) : Int) := by
  have hx' : x % 2 ^ 64 = x := Nat.mod_eq_of_lt (by omega)
  have hy' : y % 2 ^ 64 = y := Nat.mod_eq_of_lt (by omega)
  have ho : x ||| y < 2 ^ 62 := Nat.or_lt_two_pow hx hy
  have ha : x &&& y < 2 ^ 62 := Nat.lt_of_le_of_lt Nat.and_le_left hx
  constructor
  · show IntKind.i64.wrap ((BitVec.ofInt 64 (x : Int) ||| BitVec.ofInt 64 (y : Int)).toNat : Int) = _
    rw [BitVec.ofInt_natCast, BitVec.ofInt_natCast, BitVec.toNat_or, BitVec.toNat_ofNat, BitVec.toNat_ofNat, hx', hy']
    exact IntWalk.i64_in _ (by omega)
  · show IntKind.i64.wrap ((BitVec.ofInt 64 (x : Int) &&& BitVec.ofInt 64 (y : Int)).toNat : Int) = _
    rw [BitVec.ofInt_natCast, BitVec.ofInt_natCast, BitVec.toNat_and, BitVec.toNat_ofNat, BitVec.toNat_ofNat, hx', hy']
    exact IntWalk.i64_in _ (by omega)
theorem bits_add {a n : Nat} (h : a < 2 ^ n) (hn : n ≤ 60) : bits .or .i64 (a : Int) ((2 ^ n : Nat) : Int) = ((a + 2 ^ n : Nat) : Int) := by
  have h60 : 2 ^ n ≤ 2 ^ 60 := Nat.pow_le_pow_right (by omega) hn
  rw [(natBits a (2 ^ n) (by omega) (by omega)).1]
  have := Nat.two_pow_add_eq_or_of_lt h 1
  rw [Nat.mul_one] at this
  rw [Nat.or_comm, ← this, Nat.add_comm]
theorem bits_one {s i : Nat} (h : s < 2 ^ 60) : bits .and .i64 ((s / 2 ^ i : Nat) : Int) 1 = if bitO s i then 1 else 0 := by
  have h1 : s / 2 ^ i < 2 ^ 62 := Nat.lt_of_le_of_lt (Nat.div_le_self _ _) (by omega)
  have h2 := (natBits (s / 2 ^ i) 1 h1 (by decide)).2
  rw [show ((1 : Nat) : Int) = 1 from rfl, Nat.and_one_is_mod] at h2
  rw [h2]
  unfold bitO
  rcases Nat.mod_two_eq_zero_or_one (s / 2 ^ i) with h3 | h3
  · rw [h3]; rfl
  · rw [h3]; rfl
set_option maxRecDepth 100000 in
theorem lay1_any (s i sb : Nat) (w : World) (hb : w.heap[sb]? = some (.cells #[.int .i64 (s : Nat)] 3 (0, 0))) (hi : i ≤ 60) (hs : s < 2 ^ 60) :
    Calls Tryz.prog 77 #[.int .i64 (i : Nat), .pointer (some ⟨sb, 0, none⟩)] w fun e w' => e = .returned (.bool (bitO s i)) ∧ Below w.heap.size w w' := by
  have b0 := cellOf hb 0
  have lb := box_lt hb
  have h1 := bits_one (i := i) hs
  have hd : ((s : Int) / 2 ^ i) = ((s / 2 ^ i : Nat) : Int) := by push_cast; rfl
  rw [← hd] at h1
  have i0 : (0 : Int) ≤ (i : Int) := by omega
  have i1 : (i : Int) ≤ 64 := by omega
  clear hb hd hs
  cases hc : bitO s i with
  | true =>
    rw [hc, if_pos rfl] at h1
    clear hc
    go_enter Tryz.func77, Tryz.ntmps77
    go_wp2_with fail
    go_ret
    exact ⟨rfl, Below.refl _ _⟩
  | false =>
    rw [hc, if_neg (by simp)] at h1
    clear hc
    go_enter Tryz.func77, Tryz.ntmps77
    go_wp2_with fail
    go_ret
    exact ⟨rfl, Below.refl _ _⟩
set_option maxRecDepth 100000 in
set_option maxHeartbeats 4000000 in
theorem Most_nil (m : Mo) (ov rv : Value) (w : World) (hs : SizedM m) (h : MoAt w w.heap.size ov rv m) (he : m.err = 0) (hN : m.opts.length ≤ 12) (hno : allM m = []) :
    Calls Tryz.prog 125 #[.agg #[ov, rv], .slice none 0 0, .slice none 0 0] w fun e w' => e = .returned (.tuple #[.int .i64 0, .slice none 0 0, .int .i64 12]) ∧ Below w.heap.size w w' := by
  obtain ⟨A, cap, hov⟩ := Sl.form h.o
  obtain ⟨Ar, capr, hrv⟩ := h.r.form
  have H := hide h
  have HS := hide hs
  subst hov hrv
  have HE := hide (errF_all (L := []) he (fun f hf => by simp at hf))
  have HM := hide he
  have HNO := hide hno
  clear h hs he hno
  go_enter Tryz.func125, Tryz.ntmps125
  go_upto_region 1 with (fail)
  generalize hw0 : World.alloc _ _ = w0
  obtain ⟨hb0, hB0, hs0⟩ := alloc1 hw0
  clear hw0
  have c0 := cellOf hb0 0
  have c1 := cellOf hb0 1
  have HX0 : Hid (MoBox w0 w.heap.size (.slice A m.opts.length cap) (.slice Ar m.rules.length capr)) := hb0
  have HB0 := hide hB0
  have hck := CheckModel_any m (.slice A m.opts.length cap) (.slice Ar m.rules.length capr) w0 HS.out (H.out.up hB0)
  have HCK := hide hck
  clear hb0 hB0 hs0 hck
  go_wp2_with (first | (go_at_call 89; refine HCK.out.mono ?_; rw [HM.out]; rintro e w1 ⟨rfl, hB1⟩; have hbx := box_to HX0.out hB1; have d0 := cellOf hbx 0; have d1 := cellOf hbx 1; have HB1 : Hid (Below w.heap.size w w1) := Below.to HB0.out hB1 (Nat.le_refl _); clear hbx hB1 c0 c1) | (go_at_call 119; refine (begin_ok m [] _ _ _ _ HS.out ⟨by unfold maxLen; simp, fun g hg => by simp at hg⟩ (H.out.up HB1.out) (forms_none7 _ _) HE.out hN).mono ?_; rintro e w2 ⟨F, n, rfl, r1⟩; have R1 : Hid (BegR m w w2 F n) := r1.of HB1.out; clear r1 d0 d1))
  go_loop [44] (fun i => i = .int .i64 0) (fun i => 0)
  case atStart => rfl
  case round =>
    obtain rfl := hrel
    have hn0 : n = 0 := by
      rcases Nat.eq_zero_or_pos n with h0 | h0
      · exact h0
      · exfalso
        refine sat_ne R1.out.here.wf R1.out.lt (l := []) (by omega) (Nat.zero_le _) ?_
        rw [satM_node (m := m) (p := fun _ => true) R1.out.N (fun v => by rw [R1.out.ev v, Bool.and_true]), satM_true]
        exact HNO.out
    subst hn0
    go_wp2_with fail
    go_ret3
    exact ⟨rfl, R1.out.below⟩
set_option maxRecDepth 100000 in
set_option maxHeartbeats 4000000 in
theorem loadL_any (b : Nat) (bs : List Int) (ms : List Md) (Am : Option Addr) (qm : Nat) (p1 : Value) (A0 A1 A2 A3 A4 A5 : Option Addr) (q0 q1 q2 q3 q4 q5 : Nat) (l : Lo) (w : World) (hs : SizedL l) (hd : SizedD ms) (h : LoA w w.heap.size A0 A1 A2 A3 A4 A5 q0 q1 q2 q3 q4 q5 l) (hm : Mods w w.heap.size (.slice Am ms.length qm) ms) (hb : bldE l ms = 0) (hN : l.m.opts.length ≤ 12) (hne : allM l.m ≠ [])
    (hf : ∀ (i : Nat) (W : World), i < ms.length → Below w.heap.size w W → Calls Tryz.prog 77 #[.int .i64 (i : Nat), p1] W fun e w' => e = .returned (.bool (onB bs b i)) ∧ Below W.heap.size W w') :
    Calls Tryz.prog 73 #[.agg #[.slice A0 l.m.opts.length q0, .slice A1 l.m.rules.length q1, .slice A2 l.ss.length q2, .slice A3 l.us.length q3, .slice A4 l.ps.length q4, .slice A5 l.ws.length q5], .slice Am ms.length qm, .func (.func 77) #[] #[p1]] w fun e w' => e = .returned (.tuple #[.int .i64 (lodN l.m ms bs b : Nat), .int .i64 0]) ∧ Below w.heap.size w w' := by
  obtain ⟨i0, hi0, iz0, iz1, iz2⟩ := info_parts infoInt
  obtain ⟨i1, hi1, jz0, jz1, jz2⟩ := info_parts infoForm
  have okm := bldE_ok hb
  have hms60 := okm.n
  have hws60 := okm.lo.w60
  have hsz : ∀ i, sz9 ms i ≤ 60 := fun i => by
    unfold sz9
    rcases Nat.lt_or_ge i ms.length with h1 | h1
    · have := wires_len (ms_wires hb _ (getD_mem7 (z := Md.o) h1))
      omega
    · rw [List.getD_eq_getElem?_getD, List.getElem?_eq_none h1]
      exact Nat.zero_le _
  have hbest := best_lod (m := l.m) (ms := ms) (bs := bs) (b := b) hne hms60 hsz
  obtain ⟨R0, hR0⟩ : ∃ z, lodN l.m ms bs b = z := ⟨_, rfl⟩
  rw [hR0] at hbest ⊢
  have HBEST := hide hbest
  have HSZ := hide hsz
  have HV := hide (ms_valid hb)
  have HMO := hide okm.lo.m
  have HNE := hide hne
  have H := hide h
  have HS := hide hs
  have HM := hide hm
  have HD := hide hd
  have HF := hide hf
  clear okm hb hsz hbest hR0 hne h hs hm hd hf
  go_enter Tryz.func73, Tryz.ntmps73
  go_upto_region 1 with (fail)
  generalize hw0 : World.alloc _ _ = w0
  obtain ⟨hb0, hB0, hs0⟩ := alloc1 hw0
  have HB0 := hide hB0
  have HL0 : Hid (LoBox w0 w.heap.size A0 A1 A2 A3 A4 A5 q0 q1 q2 q3 q4 q5 l) := hb0
  clear hw0 hb0 hB0 hs0
  obtain ⟨W0, hW0⟩ : ∃ wo : World, wo = w0 := ⟨_, rfl⟩
  subst hW0
  go_wp2_with fail
  go_loopw [8, 9, 10, 11, 17] (fun fo so _ _ i wr => ∃ (k : Nat) (A A' : Option Addr) (cap cap' : Nat) (Fs : List (List Int)) (Ss : List Int) (vs : List Value), i = .int .i64 k ∧ fo = .slice A Fs.length cap ∧ so = .slice A' Ss.length cap' ∧ k ≤ ms.length ∧ Hid (fms9 ms (onK bs b k) = Fs) ∧ Hid (szs9 ms (onK bs b k) = Ss) ∧ Hid (WorS w wr W0.heap.size w.heap.size A0 A1 A2 A3 A4 A5 q0 q1 q2 q3 q4 q5 l (.slice A Fs.length cap) (.slice A' Ss.length cap') Fs Ss vs)) (fun _ _ _ _ i _ => ms.length - (intOf i).toNat)
  case atStart => exact ⟨0, _, _, _, _, [], [], [], rfl, rfl, rfl, Nat.zero_le _, rfl, rfl, ⟨HB0.out, HL0.out, OFs.nil _ _ _ _, World.ownsRow_nil _ _ _ _, HB0.out.size, Nat.le_refl _⟩⟩
  case round =>
    obtain ⟨k, A, A', cap, cap', Fs, Ss, vs, rfl, rfl, rfl, hk, HFs, HSs, R⟩ := hrel
    by_cases hkl : k < ms.length
    case pos =>
      have hol := onK_le bs b k
      have hFl : Fs.length ≤ 60 := by rw [← HFs.out]; unfold fms9; simp; omega
      have hSl : Ss.length ≤ 60 := by rw [← HSs.out]; unfold szs9; simp; omega
      have hkl1 : (k : Int) < (ms.length : Int) := by omega
      have ik0 : (0 : Int) ≤ (k : Int) := by omega
      obtain ⟨bm, off, d, Af, qf, Aw, qw, HDD, hA, hbm, hq, HFO, HWS, e0, e1⟩ := HM.out.at hkl
      subst hA
      have z0 := (R.out.below.cell (p := ⟨bm, off + k * 2, none⟩) hbm).trans e0
      have z1 := (R.out.below.cell (p := ⟨bm, off + k * 2 + 1, none⟩) hbm).trans e1
      have lb : bm < wr.heap.size := Nat.lt_of_lt_of_le hbm R.out.below.size
      have iq : (ms.length : Int) ≤ (qm : Int) := by omega
      have hst := onK_succ bs b k
      have hszk := HSZ.out k
      unfold sz9 at hszk
      rw [HDD.out] at hszk
      clear e0 e1 hq hol
      go_upto_region 6 with (fail)
      generalize hw2 : World.alloc _ _ = w2
      obtain ⟨hb2, hB2, hs2⟩ := alloc1 hw2
      have R2 := hide (R.out.to9 hB2)
      have HM2 := hide hb2
      obtain ⟨xb, hxb⟩ : ∃ z, wr.heap.size = z := ⟨_, rfl⟩
      rw [hxb] at HM2
      rw [hxb]
      clear hw2 hb2 hB2 hs2 z0 z1 lb hxb
      cases hc : onB bs b k with
      | true =>
        rw [hc, if_pos rfl] at hst
        have hnf : fms9 ms (onK bs b (k + 1)) = Fs ++ [d.f] := by rw [hst, ← HFs.out, ← HDD.out]; simp [fms9]
        have hns : szs9 ms (onK bs b (k + 1)) = Ss ++ [(d.ws.length : Int)] := by rw [hst, ← HSs.out, ← HDD.out]; simp [szs9, sz9]
        have HNF := hide hnf
        have HNS := hide hns
        have HC := hide hc
        clear hst hnf hns hc
        go_upto_region 8 with (first
          | (go_at_call 77; refine (HF.out k _ hkl R2.out.below).mono ?_; rw [HC.out]; rintro e w3 ⟨rfl, hB3⟩; have R3 := hide (R2.out.to9 hB3); have HM3 := hide (box_to HM2.out hB3); have m0 := cellOf HM3.out 0; have m1 := cellOf HM3.out 1; have lm := box_lt HM3.out; clear hB3)
          | (at_builtin; refine wpList_append_own_at _ rfl (.tmp 25) (.tmp 28) _ rfl W0.heap.size 46 i1 _ 1 24 Tryz.underlying23 hi1 jz0 jz1 jz2 rfl (by omega) _ _ _ rfl (R3.out.f.own.alloc _) ⟨w3.heap.size, 0, none⟩ 1 1 [.slice Af d.f.length qf] rfl rfl (World.news_of_block (heap_alloc_new w3 _)) (by simp [Value.oneCell']) (by unfold maxLen; omega) (by omega) (by have := R3.out.lt.2; simp; omega) ?_; intro v1 w4 hown1 hg1 _ hat1; obtain ⟨A2', cap2, hv2⟩ := owns_form hown1; subst hv2; have R4 := hide (R3.out.pushF HFO.out hown1 hg1); have HM4 := hide (own_box R3.out.f.own hg1 HM3.out (by decide)); clear hown1 hg1 hat1 m0 m1 lm; have m0 := cellOf HM4.out 0; have m1 := cellOf HM4.out 1; have lm := box_lt HM4.out))
        obtain ⟨wm, hwm⟩ : ∃ wm : World, wm = w4 := ⟨_, rfl⟩
        subst hwm
        go_wp2_with (at_builtin; go_must (refine wpList_append_own_at _ rfl (.tmp 30) (.tmp 34) _ rfl (W0.heap.size) 3 i0 _ 1 8 Tryz.underlying45 hi0 iz0 iz1 iz2 rfl (by omega) _ _ _ rfl ((R4.out.s).alloc _) ⟨wm.heap.size, 0, none⟩ 1 1 [.int .i64 (d.ws.length : Nat)] rfl rfl (World.news_of_block (heap_alloc_new wm _)) (by simp [Value.oneCell']) (by have h1 := hSl; unfold maxLen; omega) (by have h1 := hSl; omega) (by have h1 := R4.out.lt.2; simp; omega) ?_); intro v1 w3 hown1 hg1 _ hat1; obtain ⟨A3', cap3, hv3⟩ := owns_form hown1; subst hv3; have R5 := hide (R4.out.pushS hown1 hg1); clear hown1 hg1 hat1)
        go_roundw
        case rel => exact ⟨k + 1, A2', A3', cap2, cap3, Fs ++ [d.f], Ss ++ [(d.ws.length : Int)], _, by go_num, by rw [List.length_append, List.length_singleton], by rw [List.length_append, List.length_singleton], by omega, HNF, HNS, by rw [List.length_append, List.length_singleton, List.length_append, List.length_singleton]; exact R5.out⟩
        case measure => simp [intOf]; omega
      | false =>
        rw [hc, if_neg (by simp)] at hst
        have HNF : Hid (fms9 ms (onK bs b (k + 1)) = Fs) := by show _ = _; rw [hst]; exact HFs.out
        have HNS : Hid (szs9 ms (onK bs b (k + 1)) = Ss) := by show _ = _; rw [hst]; exact HSs.out
        have HC := hide hc
        clear hst hc
        go_wp2_with (go_at_call 77; refine (HF.out k _ hkl R2.out.below).mono ?_; rw [HC.out]; rintro e w3 ⟨rfl, hB3⟩; have R3 := hide (R2.out.to9 hB3); clear hB3)
        go_roundw
        case rel => exact ⟨k + 1, A, A', cap, cap', Fs, Ss, vs, by go_num, rfl, rfl, by omega, HNF, HNS, R3⟩
        case measure => simp [intOf]; omega
    case neg =>
      have hke : k = ms.length := by omega
      subst hke
      have hkl1 : ¬ (ms.length : Int) < (ms.length : Int) := by omega
      have hFs := HFs.out
      have hSs := HSs.out
      have hol := onK_le bs b ms.length
      have hFl : Fs.length ≤ 60 := by rw [← hFs]; unfold fms9; simp; omega
      have hlen : Ss.length = Fs.length := by rw [← hFs, ← hSs]; unfold fms9 szs9; simp
      have hfv : ∀ f ∈ Fs, validF l.m.opts.length f = true := fun f hf => by
        rw [← hFs] at hf
        unfold fms9 at hf
        obtain ⟨i, hi, rfl⟩ := List.mem_map.1 hf
        exact HV.out _ (getD_mem7 (onK_lt hi))
      have hfz : Sized Fs := ⟨by unfold maxLen; omega, fun f hf => by
        rw [← hFs] at hf
        unfold fms9 at hf
        obtain ⟨i, hi, rfl⟩ := List.mem_map.1 hf
        exact (HD.out.f _ (getD_mem7 (onK_lt hi))).1⟩
      have hsv : ∀ y ∈ Ss, -1000000 ≤ y ∧ y ≤ 1000000 := fun y hy => by
        rw [← hSs] at hy
        unfold szs9 at hy
        obtain ⟨i, _, rfl⟩ := List.mem_map.1 hy
        have := HSZ.out i
        omega
      have hbe : bestF l.m Fs Ss = (R0 : Int) := by rw [← hFs, ← hSs]; exact HBEST.out
      have hmo := Most_n l.m Fs Ss _ _ (.slice A Fs.length cap) (.slice A' Ss.length cap') wr HS.out.m hfz (H.out.up R.out.below).m (R.out.f.forms R.out.below) (Ints.of_own R.out.s) (errF_all HMO.out hfv) hN (by omega) hlen hsv (by rw [satM_true]; exact HNE.out)
      unfold MostN at hmo
      rw [hbe] at hmo
      have HMO2 := hide hmo
      have d0 := cellOf R.out.box 0; have d1 := cellOf R.out.box 1; have d2 := cellOf R.out.box 2; have d3 := cellOf R.out.box 3; have d4 := cellOf R.out.box 4; have d5 := cellOf R.out.box 5
      have l1 := box_lt R.out.box
      clear hFs hSs hol hFl hlen hfv hfz hsv hbe hmo
      go_wp2_with (go_at_call 125; refine HMO2.out.mono ?_; rintro e w2 ⟨v2, x2, rfl, _, _, hv2, hB2⟩; have HB2 := hide (Below.to R.out.below hB2 (Nat.le_refl _)); clear hv2 hB2 d0 d1 d2 d3 d4 d5 l1)
      go_ret2
      exact ⟨rfl, HB2.out⟩
set_option maxRecDepth 100000 in
set_option maxHeartbeats 4000000 in
theorem loadL_none (ms : List Md) (Am : Option Addr) (qm : Nat) (p1 : Value) (A0 A1 A2 A3 A4 A5 : Option Addr) (q0 q1 q2 q3 q4 q5 : Nat) (l : Lo) (w : World) (hs : SizedL l) (h : LoA w w.heap.size A0 A1 A2 A3 A4 A5 q0 q1 q2 q3 q4 q5 l) (hm : Mods w w.heap.size (.slice Am ms.length qm) ms) (hb : bldE l ms = 0) (hN : l.m.opts.length ≤ 12) (hne : allM l.m = [])
    (hf : ∀ (i : Nat) (W : World), i < ms.length → Below w.heap.size w W → Calls Tryz.prog 77 #[.int .i64 (i : Nat), p1] W fun e w' => e = .returned (.bool false) ∧ Below W.heap.size W w') :
    Calls Tryz.prog 73 #[.agg #[.slice A0 l.m.opts.length q0, .slice A1 l.m.rules.length q1, .slice A2 l.ss.length q2, .slice A3 l.us.length q3, .slice A4 l.ps.length q4, .slice A5 l.ws.length q5], .slice Am ms.length qm, .func (.func 77) #[] #[p1]] w fun e w' => e = .returned (.tuple #[.int .i64 0, .int .i64 12]) ∧ Below w.heap.size w w' := by
  have okm := bldE_ok hb
  have hms60 := okm.n
  have HMO := hide okm.lo.m
  have HNE := hide hne
  have H := hide h
  have HS := hide hs
  have HM := hide hm
  have HF := hide hf
  clear okm hb hne h hs hm hf
  go_enter Tryz.func73, Tryz.ntmps73
  go_upto_region 1 with (fail)
  generalize hw0 : World.alloc _ _ = w0
  obtain ⟨hb0, hB0, hs0⟩ := alloc1 hw0
  have HB0 := hide hB0
  have HL0 : Hid (LoBox w0 w.heap.size A0 A1 A2 A3 A4 A5 q0 q1 q2 q3 q4 q5 l) := hb0
  clear hw0 hb0 hB0 hs0
  obtain ⟨W0, hW0⟩ : ∃ wo : World, wo = w0 := ⟨_, rfl⟩
  subst hW0
  go_wp2_with fail
  go_loopw [8, 9, 10, 11, 17] (fun fo so _ _ i wr => ∃ (k : Nat), i = .int .i64 k ∧ fo = .slice none 0 0 ∧ so = .slice none 0 0 ∧ k ≤ ms.length ∧ Hid (Below W0.heap.size W0 wr)) (fun _ _ _ _ i _ => ms.length - (intOf i).toNat)
  case atStart => exact ⟨0, rfl, rfl, rfl, Nat.zero_le _, Below.refl _ _⟩
  case round =>
    obtain ⟨k, rfl, rfl, rfl, hk, HW⟩ := hrel
    have HBr := hide (Below.to HB0.out HW.out (Nat.le_refl _))
    by_cases hkl : k < ms.length
    case pos =>
      have hkl1 : (k : Int) < (ms.length : Int) := by omega
      have ik0 : (0 : Int) ≤ (k : Int) := by omega
      obtain ⟨bm, off, d, Af, qf, Aw, qw, HDD, hA, hbm, hq, HFO, HWS, e0, e1⟩ := HM.out.at hkl
      subst hA
      have z0 := (HBr.out.cell (p := ⟨bm, off + k * 2, none⟩) hbm).trans e0
      have z1 := (HBr.out.cell (p := ⟨bm, off + k * 2 + 1, none⟩) hbm).trans e1
      have lb : bm < wr.heap.size := Nat.lt_of_lt_of_le hbm HBr.out.size
      have iq : (ms.length : Int) ≤ (qm : Int) := by omega
      clear e0 e1 hq
      go_upto_region 6 with (fail)
      generalize hw2 : World.alloc _ _ = w2
      obtain ⟨hb2, hB2, hs2⟩ := alloc1 hw2
      have HB2 := hide (Below.to HBr.out hB2 (Nat.le_refl _))
      have HW2 := hide (Below.to HW.out hB2 (Nat.le_refl _))
      clear hw2 hb2 hB2 hs2 z0 z1 lb
      go_wp2_with (go_at_call 77; refine (HF.out k _ hkl HB2.out).mono ?_; rintro e w3 ⟨rfl, hB3⟩; have HW3 := hide (Below.to HW2.out hB3 (Nat.le_refl _)); clear hB3)
      go_roundw
      case rel => exact ⟨k + 1, by go_num, rfl, rfl, by omega, HW3⟩
      case measure => simp [intOf]; omega
    case neg =>
      have hke : k = ms.length := by omega
      subst hke
      have hkl1 : ¬ (ms.length : Int) < (ms.length : Int) := by omega
      have HLr := hide (HL0.out.to HW.out)
      have d0 := cellOf HLr.out 0; have d1 := cellOf HLr.out 1; have d2 := cellOf HLr.out 2; have d3 := cellOf HLr.out 3; have d4 := cellOf HLr.out 4; have d5 := cellOf HLr.out 5
      have l1 := box_lt HLr.out
      go_wp2_with (go_at_call 125; refine (Most_nil l.m _ _ wr HS.out.m (H.out.up HBr.out).m HMO.out hN HNE.out).mono ?_; rintro e w2 ⟨rfl, hB2⟩; have HB2 := hide (Below.to HBr.out hB2 (Nat.le_refl _)); clear hB2 d0 d1 d2 d3 d4 d5 l1)
      go_ret2
      exact ⟨rfl, HB2.out⟩
end Go.Proofs.YtehadoecnmfeoaaGreat
/- Formulas copied: walk. -/
namespace Go.Proofs.YtehadoecnmfeoaaGreat
open Go.RowKit
set_option linter.unusedVariables false
set_option linter.unusedSimpArgs false
theorem ints_own6 {w : World} {base : Nat} {v : Value} {l : List Int} (h : w.ownsRow base 3 1 v l.length (l.map (Value.int .i64))) : Ints w w.heap.size v l :=
  Sl.of_owns h fun i j hi hj => by
    obtain rfl : j = 0 := by omega
    rw [Nat.mul_one, Nat.add_zero, List.getElem?_map]
    simp [hi]
/-- Formulas in rows of their own, in a row of the call's own. -/
structure FoS (w0 wr : World) (B : Nat) (v : Value) (L : List (List Int)) (vs : List Value) : Prop where
  below : Below w0.heap.size w0 wr
  len : vs.length = L.length
  own : wr.ownsRow B 46 1 v L.length vs
  row : ∀ i, i < L.length → wr.ownsRow B 3 1 (vs.getD i undef) (L.getD i []).length ((L.getD i []).map (Value.int .i64))
  lt : w0.heap.size ≤ B ∧ B ≤ wr.heap.size
theorem FoS.to {w0 wr w' : World} {B : Nat} {v : Value} {L : List (List Int)} {vs : List Value} (h : FoS w0 wr B v L vs) (hb : Below wr.heap.size wr w') : FoS w0 w' B v L vs :=
  ⟨Below.to h.below hb (Nat.le_refl _), h.len, owns_below h.own hb, fun i hi => owns_below (h.row i hi) hb, h.lt.1, Nat.le_trans h.lt.2 hb.size⟩
theorem FoS.push {w0 wr w' : World} {B : Nat} {v v1 x : Value} {L : List (List Int)} {vs : List Value} {f : List Int} {o : Obj} (h : FoS w0 wr B v L vs) (hx : wr.ownsRow B 3 1 x f.length (f.map (Value.int .i64))) (hown : w'.ownsRow B 46 1 v1 (L.length + 1) (vs ++ [x])) (hg : (wr.alloc o).grownBy w' v.ownBlock) : FoS w0 w' B v1 (L ++ [f]) (vs ++ [x]) := by
  have hl := h.len
  refine ⟨own_low h.below h.own h.lt.1 hg, by simp [hl], by rw [List.length_append]; exact hown, fun i hi => ?_, h.lt.1, by have := hg.size; simp at this; have := h.lt.2; omega⟩
  rcases Nat.lt_or_ge i L.length with h1 | h1
  · rw [List.getD_eq_getElem?_getD, List.getElem?_append_left (by omega), ← List.getD_eq_getElem?_getD, List.getD_eq_getElem?_getD (l := L ++ [f]), List.getElem?_append_left h1, ← List.getD_eq_getElem?_getD]
    exact ownsKeep (h.row i h1) h.own (by decide) hg
  · have he : i = L.length := by simp at hi; omega
    subst he
    rw [List.getD_eq_getElem?_getD, List.getElem?_append_right (by omega), List.getD_eq_getElem?_getD (l := L ++ [f]), List.getElem?_append_right (Nat.le_refl _), hl, Nat.sub_self]
    exact ownsKeep hx h.own (by decide) hg
theorem FoS.forms {w0 wr : World} {B : Nat} {v : Value} {L : List (List Int)} {vs : List Value} (h : FoS w0 wr B v L vs) : Forms wr wr.heap.size v L := by
  refine ⟨fun i => vs.getD i undef, Sl.of_owns h.own fun i j hi hj => ?_, fun i hi => ints_own6 (h.row i hi)⟩
  obtain rfl : j = 0 := by omega
  have := h.len
  have hi2 : i < vs.length := by omega
  rw [Nat.mul_one, Nat.add_zero]
  simp [hi2]
end Go.Proofs.YtehadoecnmfeoaaGreat

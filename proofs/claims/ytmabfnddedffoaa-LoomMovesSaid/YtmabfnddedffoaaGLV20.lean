/- Part 20 of this claim's texts: walks and plain laws. -/
import Derived.Test.YtmabfnddedffoaaRows
import Derived.Test.YtmabfnddedffoaaGLV13
import Derived.Test.YtmabfnddedffoaaGLV19
import Derived.Deep.RegionHeld3
import Derived.Laws.EntriesVeiled
import Derived.Deep.DrawnRows
import Derived.Test.YtmabfnddedffoaaGLV3
import Derived.Test.YtmabfnddedffoaaGLV10
/- Check: the walk. -/
namespace Go.Proofs.Ytmabfnddedffoaa
open Go.RowKit
set_option linter.unusedVariables false
set_option linter.unusedSimpArgs false
theorem firstE_mustE (p : Nat → Bool) {c : Int} (hc : c ≠ 0) (n : Nat) : firstE (fun i => mustE (p i) c) n = mustE ((List.range n).all p) c := by
  have h := firstE_must p hc n
  unfold mustE
  rw [h]
  cases (List.range n).all p <;> simp
theorem Ru.ok_in {l : Lo} (h : l.us.all (Ru.ok l.ss) = true) : RunsIn l := by
  intro x hx
  have h1 := List.all_eq_true.1 h x hx
  unfold Ru.ok at h1
  simp only [Bool.and_eq_true, btw_iff] at h1
  obtain ⟨⟨⟨⟨⟨h2, h3⟩, _⟩, _⟩, _⟩, _⟩ := h1
  omega
theorem getD_all {α : Type} {z : α} {l : List α} {R : α → Prop} (h : ∀ x ∈ l, R x) {i : Nat} (hi : i < l.length) : R (l.getD i z) := h _ (getD_mem3 hi)
section
variable {l : Lo}
theorem err_m (h : l.m.err ≠ 0) : l.err = l.m.err := by unfold Lo.err; rw [if_pos h]
theorem err_many (h : l.m.err = 0) (h2 : l.many = true) : l.err = 2 := by unfold Lo.err; rw [if_neg (by simp [h]), if_pos h2]
theorem err_spot (h : l.m.err = 0) (h2 : l.many = false) (h3 : l.ss.all Sp.ok = false) : l.err = 60 := by unfold Lo.err; rw [if_neg (by simp [h]), if_neg (by simp [h2]), if_pos h3]
theorem err_len (h : l.m.err = 0) (h2 : l.many = false) (h3 : l.ss.all Sp.ok = true) (h4 : l.ss.length = 0 ∨ l.us.length + 1 ≠ l.ss.length) : l.err = 61 := by unfold Lo.err; rw [if_neg (by simp [h]), if_neg (by simp [h2]), if_neg (by simp [h3]), if_pos h4]
theorem err_run (h : l.m.err = 0) (h2 : l.many = false) (h3 : l.ss.all Sp.ok = true) (h4 : ¬ (l.ss.length = 0 ∨ l.us.length + 1 ≠ l.ss.length)) (h5 : l.us.all (Ru.ok l.ss) = false) : l.err = 61 := by unfold Lo.err; rw [if_neg (by simp [h]), if_neg (by simp [h2]), if_neg (by simp [h3]), if_neg h4, if_pos h5]
theorem err_full (h : l.m.err = 0) (h2 : l.many = false) (h3 : l.ss.all Sp.ok = true) (h4 : ¬ (l.ss.length = 0 ∨ l.us.length + 1 ≠ l.ss.length)) (h5 : l.us.all (Ru.ok l.ss) = true) (h6 : l.full = false) : l.err = 61 := by unfold Lo.err; rw [if_neg (by simp [h]), if_neg (by simp [h2]), if_neg (by simp [h3]), if_neg h4, if_neg (by simp [h5]), if_pos h6]
theorem err_plug (h : l.m.err = 0) (h2 : l.many = false) (h3 : l.ss.all Sp.ok = true) (h4 : ¬ (l.ss.length = 0 ∨ l.us.length + 1 ≠ l.ss.length)) (h5 : l.us.all (Ru.ok l.ss) = true) (h6 : l.full = true) (h7 : (List.range l.ps.length).all (plOk l) = false) : l.err = 62 := by unfold Lo.err; rw [if_neg (by simp [h]), if_neg (by simp [h2]), if_neg (by simp [h3]), if_neg h4, if_neg (by simp [h5]), if_neg (by simp [h6]), if_pos h7]
theorem err_wire (h : l.m.err = 0) (h2 : l.many = false) (h3 : l.ss.all Sp.ok = true) (h4 : ¬ (l.ss.length = 0 ∨ l.us.length + 1 ≠ l.ss.length)) (h5 : l.us.all (Ru.ok l.ss) = true) (h6 : l.full = true) (h7 : (List.range l.ps.length).all (plOk l) = true) : l.err = wiresErr l l.ws.length := by unfold Lo.err; rw [if_neg (by simp [h]), if_neg (by simp [h2]), if_neg (by simp [h3]), if_neg h4, if_neg (by simp [h5]), if_neg (by simp [h6]), if_neg (by simp [h7])]
end
set_option maxRecDepth 100000 in
set_option maxHeartbeats 8000000 in
theorem Check_any (A0 A1 A2 A3 A4 A5 : Option Addr) (q0 q1 q2 q3 q4 q5 : Nat) (l : Lo) (w : World) (hs : SizedL l) (h : LoA w w.heap.size A0 A1 A2 A3 A4 A5 q0 q1 q2 q3 q4 q5 l) :
    Calls Try.prog 17 #[.agg #[.slice A0 l.m.opts.length q0, .slice A1 l.m.rules.length q1, .slice A2 l.ss.length q2, .slice A3 l.us.length q3, .slice A4 l.ps.length q4, .slice A5 l.ws.length q5]] w fun e w' => e = .returned (.int .i64 l.err) ∧ Below w.heap.size w w' := by
  have H := hide h
  have HS := hide hs
  clear h hs
  go_enter Try.func17, Try.ntmps17
  go_upto_region 1 with (fail)
  generalize hw0 : World.alloc _ _ = w0
  obtain ⟨hb0, hB0, hs0⟩ := alloc1 hw0
  have HL0 : Hid (LoBox w0 w.heap.size A0 A1 A2 A3 A4 A5 q0 q1 q2 q3 q4 q5 l) := hb0
  have HB0 := hide hB0
  have c0 := cellOf hb0 0; have c1 := cellOf hb0 1; have c2 := cellOf hb0 2; have c3 := cellOf hb0 3; have c4 := cellOf hb0 4; have c5 := cellOf hb0 5
  have hlb := box_lt hb0
  have hck := CheckModel_any l.m _ _ w0 HS.out.m (H.out.up hB0).m
  have HCK := hide hck
  clear hw0 hb0 hB0 hs0 hck
  by_cases he : l.m.err = 0
  case neg =>
    obtain ⟨z, hz⟩ : ∃ z, l.m.err = z := ⟨_, rfl⟩
    have hz1 : (z != 0) = true := by rw [← hz]; simpa using he
    have hz2 : l.err = z := by rw [err_m he, hz]
    have HZ := hide hz
    have HZ2 := hide hz2
    clear hz hz2 he
    go_wp2_with (go_at_call 52; refine HCK.out.mono ?_; rw [HZ.out]; rintro e w1 ⟨rfl, hB1⟩)
    go_ret
    exact ⟨ret_int HZ2.out.symm, Below.to HB0.out hB1 (Nat.le_refl _)⟩
  case pos =>
  have HE := hide he
  clear he
  go_upto_region 4 with (go_at_call 52; refine HCK.out.mono ?_; rw [HE.out]; rintro e w1 ⟨rfl, hB1⟩; have d0 := cellOf (HL0.out.to hB1) 0; have d1 := cellOf (HL0.out.to hB1) 1; have d2 := cellOf (HL0.out.to hB1) 2; have d3 := cellOf (HL0.out.to hB1) 3; have d4 := cellOf (HL0.out.to hB1) 4; have d5 := cellOf (HL0.out.to hB1) 5; have hlb1 := box_lt (HL0.out.to hB1); have HL1 := hide (HL0.out.to hB1); have HB1 := hide (Below.to HB0.out hB1 (Nat.le_refl _)); clear hB1 c0 c1 c2 c3 c4 c5 hlb)
  by_cases t0 : (40 : Int) < (l.ss.length : Int)
  · have hz2 := err_many HE.out (show l.many = true by unfold Lo.many; rw [decide_eq_true (by omega : 40 < l.ss.length)]; simp)
    have HZ2 := hide hz2
    clear hz2
    go_wp2_with fail
    go_ret
    exact ⟨ret_int HZ2.out.symm, HB1.out⟩
  by_cases t1 : (40 : Int) < (l.us.length : Int)
  · have hz2 := err_many HE.out (show l.many = true by unfold Lo.many; rw [decide_eq_true (by omega : 40 < l.us.length)]; simp)
    have HZ2 := hide hz2
    clear hz2
    go_wp2_with fail
    go_ret
    exact ⟨ret_int HZ2.out.symm, HB1.out⟩
  by_cases t2 : (30 : Int) < (l.ps.length : Int)
  · have hz2 := err_many HE.out (show l.many = true by unfold Lo.many; rw [decide_eq_true (by omega : 30 < l.ps.length)]; simp)
    have HZ2 := hide hz2
    clear hz2
    go_wp2_with fail
    go_ret
    exact ⟨ret_int HZ2.out.symm, HB1.out⟩
  by_cases t3 : (60 : Int) < (l.ws.length : Int)
  · have hz2 := err_many HE.out (show l.many = true by unfold Lo.many; rw [decide_eq_true (by omega : 60 < l.ws.length)]; simp)
    have HZ2 := hide hz2
    clear hz2
    go_wp2_with fail
    go_ret
    exact ⟨ret_int HZ2.out.symm, HB1.out⟩
  have m1 : l.many = false := by unfold Lo.many; rw [decide_eq_false (by omega : ¬ 40 < l.ss.length), decide_eq_false (by omega : ¬ 40 < l.us.length), decide_eq_false (by omega : ¬ 30 < l.ps.length), decide_eq_false (by omega : ¬ 60 < l.ws.length)]; rfl
  have HM := hide m1
  have n1 : l.ss.length ≤ 40 := by omega
  have n2 : l.us.length ≤ 40 := by omega
  have n3 : l.ps.length ≤ 30 := by omega
  have n4 : l.ws.length ≤ 60 := by omega
  clear m1
  go_upto_region 7 with (fail)
  generalize hw2 : World.alloc _ _ = w2
  obtain ⟨hb2, hB2, hs2⟩ := alloc1 hw2
  have HP2 : Hid (FnBox w2 w1.heap.size 53 #[] 94) := hb2
  have HL2 := hide (HL1.out.to hB2)
  have HB2 := hide (Below.to HB1.out hB2 (Nat.le_refl _))
  have e0 := cellOf (HL1.out.to hB2) 0; have e1 := cellOf (HL1.out.to hB2) 1; have e2 := cellOf (HL1.out.to hB2) 2; have e3 := cellOf (HL1.out.to hB2) 3; have e4 := cellOf (HL1.out.to hB2) 4; have e5 := cellOf (HL1.out.to hB2) 5
  have hlb2 := box_lt (HL1.out.to hB2)
  have hfs := first_spot (fun i => mustE ((l.ss.getD i Sp.o).ok) 60) (.pointer (some ⟨w1.heap.size, 0, none⟩)) A0 A1 A2 A3 A4 A5 q0 q1 q2 q3 q4 q5 l w2 HS.out.s (H.out.up HB2.out) (fun i x W hi hx hW => by
    rw [hx]
    exact ckSpot_any i x _ W (FnBox.to HP2.out hW))
  rw [firstE_mustE _ (by decide), all_range Sp.o Sp.ok l.ss] at hfs
  have HFS := hide hfs
  clear hw2 hb2 hB2 hs2 hfs d0 d1 d2 d3 d4 d5 hlb1 HB0 HL0 HCK
  cases hsp : l.ss.all Sp.ok with
  | false =>
    have hz2 := err_spot HE.out HM.out hsp
    have HZ2 := hide hz2
    have HSP := hide hsp
    clear hz2 hsp
    have hmu : mustE false 60 = 60 := rfl
    go_wp2_with (go_at_call 55; refine HFS.out.mono ?_; rw [HSP.out, hmu]; rintro e w3 ⟨rfl, hB3⟩)
    go_ret
    exact ⟨ret_int HZ2.out.symm, Below.to HB2.out hB3 (Nat.le_refl _)⟩
  | true =>
  have HSP := hide hsp
  have hmu : mustE true 60 = 0 := rfl
  clear hsp
  go_upto_region 11 with (go_at_call 55; refine HFS.out.mono ?_; rw [HSP.out, hmu]; rintro e w3 ⟨rfl, hB3⟩; have HL3 := hide (HL2.out.to hB3); have HB3 := hide (Below.to HB2.out hB3 (Nat.le_refl _)); clear hB3 e0 e1 e2 e3 e4 e5 hlb2)
  generalize hw4 : World.alloc _ _ = w4
  obtain ⟨hb4, hB4, hs4⟩ := alloc1 hw4
  have HSB4 : Hid (FnBox w4 w3.heap.size 58 #[.pointer (some ⟨w.heap.size, 0, none⟩)] 94) := hb4
  have HL4 := hide (HL3.out.to hB4)
  have HB4 := hide (Below.to HB3.out hB4 (Nat.le_refl _))
  have f0 := cellOf (HL3.out.to hB4) 0; have f1 := cellOf (HL3.out.to hB4) 1; have f2 := cellOf (HL3.out.to hB4) 2; have f3 := cellOf (HL3.out.to hB4) 3; have f4 := cellOf (HL3.out.to hB4) 4; have f5 := cellOf (HL3.out.to hB4) 5
  have hlb4 := box_lt (HL3.out.to hB4)
  clear hw4 hb4 hB4 hs4 HFS HP2 hmu HL1 HB1
  by_cases h0 : l.ss.length = 0
  · have hz2 := err_len HE.out HM.out HSP.out (.inl h0)
    have HZ2 := hide hz2
    have g0 : ((l.ss.length : Int) == 0) = true := by simp [h0]
    clear hz2 h0
    go_wp2_with fail
    go_ret
    exact ⟨ret_int HZ2.out.symm, HB4.out⟩
  have g0 : ((l.ss.length : Int) == 0) = false := by simp; exact fun e => h0 (by rw [e]; rfl)
  have p0 : 0 < l.ss.length := by omega
  by_cases h1 : l.us.length + 1 = l.ss.length
  case neg =>
    have hz2 := err_len HE.out HM.out HSP.out (.inr h1)
    have HZ2 := hide hz2
    have g1 : ((l.us.length : Int) != (l.ss.length : Int) - 1) = true := by simp; omega
    clear hz2 h1 h0
    go_wp2_with fail
    go_ret
    exact ⟨ret_int HZ2.out.symm, HB4.out⟩
  case pos =>
  have g1 : ((l.us.length : Int) != (l.ss.length : Int) - 1) = false := by simp; omega
  have HLEN : Hid (¬ (l.ss.length = 0 ∨ l.us.length + 1 ≠ l.ss.length)) := by show ¬ _; omega
  have hspb : ∀ x ∈ l.ss, x.ok = true := List.all_eq_true.1 HSP.out
  have hfr := first_run (fun i => mustE (Ru.ok l.ss (l.us.getD i Ru.o)) 61) (.pointer (some ⟨w3.heap.size, 0, none⟩)) (.pointer (some ⟨w.heap.size, 0, none⟩)) A0 A1 A2 A3 A4 A5 q0 q1 q2 q3 q4 q5 l w4 HS.out.u (H.out.up HB4.out) (fun i x W hi hx hW => by
    rw [hx]
    exact ckRun_any i x.a x.b x.len x.room A0 A1 A2 A3 A4 A5 q0 q1 q2 q3 q4 q5 l w3.heap.size w.heap.size W HS.out.s (HL4.out.to hW) (FnBox.to HSB4.out hW) ((H.out.up HB4.out).up hW) hspb)
  rw [firstE_mustE _ (by decide), all_range Ru.o (Ru.ok l.ss) l.us] at hfr
  have HFR := hide hfr
  clear hfr h0 h1 hspb
  cases hru : l.us.all (Ru.ok l.ss) with
  | false =>
    have hz2 := err_run HE.out HM.out HSP.out HLEN.out hru
    have HZ2 := hide hz2
    have HRU := hide hru
    clear hz2 hru
    have hmu : mustE false 61 = 61 := rfl
    go_wp2_with (go_at_call 59; refine HFR.out.mono ?_; rw [HRU.out, hmu]; rintro e w5 ⟨rfl, hB5⟩)
    go_ret
    exact ⟨ret_int HZ2.out.symm, Below.to HB4.out hB5 (Nat.le_refl _)⟩
  | true =>
  have HRU := hide hru
  have hrin := Ru.ok_in hru
  have HRIN := hide hrin
  have hmu : mustE true 61 = 0 := rfl
  clear hru hrin
  go_upto_region 16 with (go_at_call 59; refine HFR.out.mono ?_; rw [HRU.out, hmu]; rintro e w5 ⟨rfl, hB5⟩; have HL5 := hide (HL4.out.to hB5); have HB5 := hide (Below.to HB4.out hB5 (Nat.le_refl _)); have HSB5 := hide (FnBox.to HSB4.out hB5); clear hB5 f0 f1 f2 f3 f4 f5 hlb4)
  have k0 := cellOf HL5.out 0; have k1 := cellOf HL5.out 1; have k2 := cellOf HL5.out 2; have k3 := cellOf HL5.out 3; have k4 := cellOf HL5.out 4; have k5 := cellOf HL5.out 5
  have hlb5 := box_lt HL5.out
  obtain ⟨S, hS⟩ : ∃ S, stR l.rs (-1) 0 l.ss.length = S := ⟨_, rfl⟩
  have HSS := hide hS
  have hsl : S.length ≤ l.ss.length := by rw [← hS]; exact stR_len p0 HRIN.out.rs _
  have hfu : l.full = decide (S.length = l.ss.length) := by unfold Lo.full; rw [hS]
  have HFU := hide hfu
  clear hS hfu hmu HFR HL4 HB4 HSB4 HL3 HB3 HL2 HB2
  refine wp_region_held_drew (S := (fun w' => Below w5.heap.size w5 w')) (by kernel_rfl) ?_ (fun hHeld => ?_)
  · try dsimp only
    exact (by repeat (first | exact Below.refl _ _ | assumption | refine Below.drew ?_ | refine Below.drewN ?_ _ | refine Below.allocT ?_ (Nat.le_refl _) _ | refine Below.setCell ?_ (by simp <;> omega) _ | refine Below.to ?_ (by assumption) (Nat.le_refl _)))
  refine zT 0 rfl ?_
  try simp only [zX]
  refine zT 3 rfl ?_
  try simp only [zX]
  refine zT 4 rfl ?_
  try simp only [zX]
  refine zT 5 rfl ?_
  try simp only [zX]
  refine wpAnyH_ready (rs := [1]) (by kernel_rfl) (by simp) ?_
  refine AllReadyH.cons rfl (fun K hK => ?_) AllReadyH.nil
  go_simp
  ((go_at_call 62; refine (reached_any A0 A1 A2 A3 A4 A5 q0 q1 q2 q3 q4 q5 l 0 (-1) _ ((H.out.up HB5.out).up (by assumption)) HRIN.out p0 n1 n2).mono ?_; rintro e w6 ⟨v6, rfl, hn6, hB6⟩; rw [HSS.out] at hn6; obtain ⟨A6, q6, hv6⟩ := Sl.form hn6; subst hv6; clear hn6))
  (try dsimp only)
  refine hK.out _ _ ?_ (fun hNext => ?_)
  · try dsimp only
    exact (by repeat (first | exact Below.refl _ _ | assumption | refine Below.drew ?_ | refine Below.drewN ?_ _ | refine Below.allocT ?_ (Nat.le_refl _) _ | refine Below.setCell ?_ (by simp <;> omega) _ | refine Below.to ?_ (by assumption) (Nat.le_refl _)))
  clear hK K hHeld
  have hHeld := hNext
  clear hNext
  (try dsimp only at hHeld)
  try simp only [zX]
  refine zT 2 rfl ?_
  try simp only [zX]
  refine zT 6 rfl ?_
  try simp only [zX]
  refine wpAnyH_done (by kernel_rfl) ?_ _
  have HB6 := hide (Below.to HB5.out hHeld (Nat.le_refl _))
  have HL6 := hide (HL5.out.to hHeld)
  have HSB6 := hide (FnBox.to HSB5.out hHeld)
  clear hHeld k0 k1 k2 k3 k4 k5 hlb5
  by_cases hfl : S.length = l.ss.length
  case neg =>
    have hz2 := err_full HE.out HM.out HSP.out HLEN.out HRU.out (by rw [HFU.out, decide_eq_false hfl])
    have HZ2 := hide hz2
    have g2 : ((S.length : Int) != (l.ss.length : Int)) = true := by simp; omega
    clear hz2 hfl
    go_wp2_with fail
    go_ret
    exact ⟨ret_int HZ2.out.symm, HB6.out⟩
  case pos =>
  have HFL : Hid (l.full = true) := by show _ = _; rw [HFU.out, decide_eq_true hfl]
  have g2 : ((S.length : Int) != (l.ss.length : Int)) = false := by simp; omega
  clear hfl
  have m0 := cellOf HL6.out 0; have m1 := cellOf HL6.out 1; have m2 := cellOf HL6.out 2; have m3 := cellOf HL6.out 3; have m4 := cellOf HL6.out 4; have m5 := cellOf HL6.out 5
  have hlb6 := box_lt HL6.out
  have hfp := first_plug (fun i => mustE (plOk l i) 62) (.pointer (some ⟨w.heap.size, 0, none⟩)) (.pointer (some ⟨w3.heap.size, 0, none⟩)) A0 A1 A2 A3 A4 A5 q0 q1 q2 q3 q4 q5 l _ HS.out.p (H.out.up HB6.out) (fun i x W hi hx hW =>
    ckPlug_any i x A0 A1 A2 A3 A4 A5 q0 q1 q2 q3 q4 q5 l w.heap.size w3.heap.size W hi hx (by rw [← hx]; exact getD_all HS.out.pn hi) HS.out.s HS.out.p (HL6.out.to hW) (FnBox.to HSB6.out hW) ((H.out.up HB6.out).up hW))
  rw [firstE_mustE _ (by decide)] at hfp
  have HFP := hide hfp
  clear hfp
  cases hpl : (List.range l.ps.length).all (plOk l) with
  | false =>
    have hz2 := err_plug HE.out HM.out HSP.out HLEN.out HRU.out HFL.out hpl
    have HZ2 := hide hz2
    have HPL := hide hpl
    clear hz2 hpl
    have hmu : mustE false 62 = 62 := rfl
    go_wp2_with (go_at_call 63; refine HFP.out.mono ?_; rw [HPL.out, hmu]; rintro e w7 ⟨rfl, hB7⟩)
    go_ret
    exact ⟨ret_int HZ2.out.symm, Below.to HB6.out hB7 (Nat.le_refl _)⟩
  | true =>
  have HPL := hide hpl
  have hmu : mustE true 62 = 0 := rfl
  clear hpl
  have hpok : ∀ k, k < l.ps.length → plOk l k = true := fun k hk => List.all_eq_true.1 HPL.out k (by simpa using hk)
  have HPOK := hide hpok
  clear hpok
  go_upto_region 22 with (go_at_call 63; refine HFP.out.mono ?_; rw [HPL.out, hmu]; rintro e w7 ⟨rfl, hB7⟩; have HL7 := hide (HL6.out.to hB7); have HB7 := hide (Below.to HB6.out hB7 (Nat.le_refl _)); clear hB7 m0 m1 m2 m3 m4 m5 hlb6)
  generalize hw8 : World.alloc _ _ = w8
  obtain ⟨hb8, hB8, hs8⟩ := alloc1 hw8
  have HPB8 : Hid (FnBox w8 w7.heap.size 68 #[.pointer (some ⟨w.heap.size, 0, none⟩)] 109) := hb8
  have HL8 := hide (HL7.out.to hB8)
  have HB8 := hide (Below.to HB7.out hB8 (Nat.le_refl _))
  have o0 := cellOf (HL7.out.to hB8) 0; have o1 := cellOf (HL7.out.to hB8) 1; have o2 := cellOf (HL7.out.to hB8) 2; have o3 := cellOf (HL7.out.to hB8) 3; have o4 := cellOf (HL7.out.to hB8) 4; have o5 := cellOf (HL7.out.to hB8) 5
  have hlb8 := box_lt (HL7.out.to hB8)
  have hfw := first_wire (wiErr l) (.pointer (some ⟨w.heap.size, 0, none⟩)) (.pointer (some ⟨w7.heap.size, 0, none⟩)) A0 A1 A2 A3 A4 A5 q0 q1 q2 q3 q4 q5 l w8 HS.out.w (H.out.up HB8.out) (fun i x Af qf W hi hx hW hf =>
    ckWire_any i x Af qf A0 A1 A2 A3 A4 A5 q0 q1 q2 q3 q4 q5 l w.heap.size w7.heap.size W hi hx (by rw [← hx]; exact (getD_all HS.out.wn hi).1) (by rw [← hx]; exact (getD_all HS.out.wn hi).2) HS.out.p HS.out.w HS.out.m HE.out (HL8.out.to hW) (FnBox.to HPB8.out hW) ((H.out.up HB8.out).up hW) HPOK.out hf)
  rw [firstE_wires, ← err_wire HE.out HM.out HSP.out HLEN.out HRU.out HFL.out HPL.out] at hfw
  have HFW := hide hfw
  clear hw8 hb8 hB8 hs8 hfw
  go_wp2_with (go_at_call 69; refine HFW.out.mono ?_; rintro e w9 ⟨rfl, hB9⟩)
  go_ret
  exact ⟨rfl, Below.to HB8.out hB9 (Nat.le_refl _)⟩
end Go.Proofs.Ytmabfnddedffoaa
/- The wires through a run; the example of the laws: plain. -/
namespace Go.Proofs.Ytmabfnddedffoaa
set_option linter.unusedVariables false
set_option linter.unusedSimpArgs false
set_option linter.unusedSectionVars false
/-- The spots of a wire's plugs. -/
def endF (l : Lo) (i : Nat) : Nat := (l.ps.getD (l.ws.getD i Wi.o).fp.toNat Pl.o).spot.toNat
def endT (l : Lo) (i : Nat) : Nat := (l.ps.getD (l.ws.getD i Wi.o).tp.toNat Pl.o).spot.toNat
def sideL (l : Lo) (run : Nat) : List Nat := stR l.rs run (l.rs.getD run (0, 0)).1 l.ss.length
def thruB (l : Lo) (run i : Nat) : Bool := decide (endF l i ∈ sideL l run) != decide (endT l i ∈ sideL l run)
def thruL (l : Lo) (run : Nat) : List Nat := (List.range l.ws.length).filter (thruB l run)
def runLen (l : Lo) (k : Nat) : Int := (l.us.getD k Ru.o).len
section
variable {l : Lo} (h : LoOk l)
include h
theorem LoOk.wi {i : Nat} (hi : i < l.ws.length) : wiOk l i = true ∧ validF l.m.opts.length (l.ws.getD i Wi.o).form = true := by
  have h1 := h.ws i hi
  unfold wiErr at h1
  by_cases h2 : wiOk l i = false
  · rw [if_pos h2] at h1; omega
  · rw [if_neg h2] at h1
    by_cases h3 : validF l.m.opts.length (l.ws.getD i Wi.o).form = false
    · rw [if_pos h3] at h1; omega
    · exact ⟨by simpa using h2, by simpa using h3⟩
theorem LoOk.pin {p c : Int} (hp : pinOk l p c = true) : 0 ≤ p ∧ p.toNat < l.ps.length ∧ 0 ≤ (l.ps.getD p.toNat Pl.o).spot ∧ (l.ps.getD p.toNat Pl.o).spot.toNat < l.ss.length := by
  unfold pinOk at hp
  simp only [Bool.and_eq_true, btw_iff] at hp
  obtain ⟨⟨h1, h2⟩, _⟩ := hp
  have h3 := h.ps p.toNat (by omega)
  unfold plOk at h3
  simp only [Bool.and_eq_true, btw_iff] at h3
  obtain ⟨⟨_, h4, h5⟩, _⟩ := h3
  exact ⟨h1, by omega, h4, by omega⟩
theorem LoOk.ends {i : Nat} (hi : i < l.ws.length) : endF l i < l.ss.length ∧ endT l i < l.ss.length := by
  have h1 := (h.wi hi).1
  unfold wiOk at h1
  simp only [Bool.and_eq_true] at h1
  obtain ⟨⟨⟨⟨_, h2⟩, h3⟩, _⟩, _⟩ := h1
  exact ⟨(h.pin h2).2.2.2, (h.pin h3).2.2.2⟩
theorem LoOk.len {k : Nat} (hk : k < l.us.length) : 1 ≤ runLen l k ∧ runLen l k ≤ 1000000 := by
  have h1 := h.us (l.us.getD k Ru.o) (by rw [List.getD_eq_getElem?_getD, List.getElem?_eq_getElem hk]; exact List.getElem_mem hk)
  unfold Ru.ok at h1
  simp only [Bool.and_eq_true, btw_iff] at h1
  obtain ⟨⟨⟨_, h2⟩, _⟩, _⟩ := h1
  exact h2
/-- A wire goes through a run exactly if the run parts its ends. -/
theorem LoOk.thru {run i : Nat} (hr : run < l.us.length) (hi : i < l.ws.length) : thruB l run i = true ↔ ¬ Rch l.rs run (endF l i) (endT l i) := by
  have hrl : run < l.rs.length := by rw [rs_len]; exact hr
  obtain ⟨a, b, hab⟩ : ∃ a b, l.rs.getD run (0, 0) = (a, b) := ⟨_, _, rfl⟩
  have he := h.ends hi
  have hlt := h.tree.lt run hrl
  unfold thruB sideL
  rw [hab] at hlt ⊢
  exact h.tree.side_list hrl (.inl hab) he.1 he.2 (stR_ends hlt.1 h.tree.lt)
/-- .. and that is: if it is on its way. -/
theorem LoOk.way {run i : Nat} (hr : run < l.us.length) (hi : i < l.ws.length) {w : Int} {P : List Nat} (hP : WayP l.rs w (endF l i) P (endT l i)) : run ∈ P ↔ thruB l run i = true := by
  rw [h.thru hr hi]
  exact (hP.mem h.tree).2 run (by rw [rs_len]; exact hr)
/-- A distance is not above a number that fits. -/
theorem sumN_bound {f : Nat → Int} {c : Int} (hc : 0 ≤ c) : ∀ {m : Nat}, (∀ k, k < m → f k ≤ c) → sumN f m ≤ m * c
  | 0, _ => by simp [sumN]
  | m + 1, q => by
    have h1 := sumN_bound hc (m := m) fun k hk => q k (by omega)
    have h2 := q m (by omega)
    show sumN f m + f m ≤ _
    have e : ((m + 1 : Nat) : Int) * c = (m : Int) * c + c := by rw [Int.natCast_add, Int.add_mul]; simp
    omega
theorem LoOk.dist {x z : Nat} : 0 ≤ distN l.rs (runLen l) x z ∧ distN l.rs (runLen l) x z ≤ 40000000 := by
  refine ⟨distN_nonneg (fun k hk => ?_) x z, ?_⟩
  · rw [rs_len] at hk
    have := (h.len hk).1
    omega
  · have h1 : distN l.rs (runLen l) x z ≤ (l.rs.length : Int) * 1000000 := by
      unfold distN
      refine sumN_bound h (by omega) fun k hk => ?_
      rw [rs_len] at hk
      split
      · omega
      · exact (h.len hk).2
    have h2 := h.u40
    rw [rs_len] at h1
    omega
end
end Go.Proofs.Ytmabfnddedffoaa
/- The nearest spot to some: the first of the least sum: plain. -/
namespace Go.Proofs.Ytmabfnddedffoaa
set_option linter.unusedVariables false
set_option linter.unusedSimpArgs false
set_option linter.unusedSectionVars false
/-- The first of the first m + 1 numbers with the least value, and that value. -/
def bestN (f : Nat → Int) : Nat → Nat × Int
  | 0 => (0, f 0)
  | m + 1 => if f (m + 1) < (bestN f m).2 then (m + 1, f (m + 1)) else bestN f m
/-- The sum of the distances from a spot to given ones. -/
noncomputable def sumD (l : Lo) (s : Nat) (ts : List Nat) : Int := (ts.map fun t => distN l.rs (runLen l) s t).sum
/-- What Splice answers of a valid loom. -/
noncomputable def spliceN (l : Lo) (ts : List Nat) : Nat × Int := bestN (fun s => sumD l s ts) (l.ss.length - 1)
end Go.Proofs.Ytmabfnddedffoaa
/- The runs that join spots, as both programs find them: plain. -/
namespace Go.Proofs.Ytmabfnddedffoaa
set_option linter.unusedVariables false
set_option linter.unusedSimpArgs false
set_option linter.unusedSectionVars false
section
variable {l : Lo} (h : LoOk l)
include h
/-- Some of the spots lie on the first side of a run and some do not: the run parts two of them. -/
theorem LoOk.both {k : Nat} (hk : k < l.us.length) {ts : List Nat} (ht : ∀ t ∈ ts, t < l.ss.length) :
    ((∃ x ∈ ts, Rch l.rs k (l.rs.getD k (0, 0)).1 x) ∧ ∃ y ∈ ts, ¬ Rch l.rs k (l.rs.getD k (0, 0)).1 y) ↔ ∃ x ∈ ts, ∃ y ∈ ts, ¬ Rch l.rs k x y := by
  have hkl : k < l.rs.length := by rw [rs_len]; exact hk
  obtain ⟨a, b, hab⟩ : ∃ a b, l.rs.getD k (0, 0) = (a, b) := ⟨_, _, rfl⟩
  rw [hab]
  simp only
  constructor
  · rintro ⟨⟨x, hx, h1⟩, y, hy, h2⟩
    exact ⟨x, hx, y, hy, fun q => h2 (h1.trans q)⟩
  · rintro ⟨x, hx, y, hy, hn⟩
    have hp := h.tree.part hkl (.inl hab) (ht x hx) (ht y hy)
    by_cases h1 : Rch l.rs k a x
    · exact ⟨⟨x, hx, h1⟩, y, hy, fun q => hn (h1.symm.trans q)⟩
    · by_cases h2 : Rch l.rs k a y
      · exact ⟨⟨y, hy, h2⟩, x, hx, h1⟩
      · exact absurd (hp.1 ⟨fun q => absurd q h1, fun q => absurd q h2⟩) hn
open Classical in
/-- One round of Joined. -/
theorem LoOk.join_step {k : Nat} (hk : k < l.us.length) {ts : List Nat} (ht : ∀ t ∈ ts, t < l.ss.length) (c : Bool)
    (hc : c = true ↔ ((∃ x ∈ ts, Rch l.rs k (l.rs.getD k (0, 0)).1 x) ∧ ∃ y ∈ ts, ¬ Rch l.rs k (l.rs.getD k (0, 0)).1 y)) :
    (if c = true then runLen l k else 0) = if ∃ x ∈ ts, ∃ y ∈ ts, ¬ Rch l.rs k x y then runLen l k else 0 := by
  by_cases hq : ∃ x ∈ ts, ∃ y ∈ ts, ¬ Rch l.rs k x y
  · rw [if_pos hq, if_pos (hc.2 ((h.both hk ht).2 hq))]
  · rw [if_neg hq, if_neg (fun q => hq ((h.both hk ht).1 (hc.1 q)))]
end
end Go.Proofs.Ytmabfnddedffoaa

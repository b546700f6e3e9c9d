/- Part 25 of this claim's texts: walks and plain laws. -/
import Derived.Test.YtehadoecnmfeoaaGreatRows
import Derived.Test.YtehadoecnmfeoaaGreatGBS20
import Derived.Test.YtehadoecnmfeoaaGreatGBS24
import Derived.Deep.RegionHeld3
import Derived.Laws.EntriesVeiled
import Derived.Deep.DrawnRows
import Derived.Test.YtehadoecnmfeoaaGreatGBS3
import Derived.Test.YtehadoecnmfeoaaGreatGBS18
import Derived.Test.YtehadoecnmfeoaaGreatGBS11
import Derived.Lib.LazyBuf
import Derived.Lib.SliceRun
import Derived.Deep.DeepMust
set_option linter.unusedVariables false
set_option linter.unusedSimpArgs false
set_option linter.unusedSectionVars false
namespace Go.Proofs.YtehadoecnmfeoaaGreat
open Go.RowKit
theorem firstE_mustE (p : Nat → Bool) {c : Int} (hc : c ≠ 0) (n : Nat) : firstE (fun i => mustE (p i) c) n = mustE ((List.range n).all p) c := by
 have h := firstE_must p hc n
 unfold mustE
 rw [h]
 cases (List.range n).all p <;> simp
theorem Ru.ok_in {l : Lo} (h : l.us.all (Ru.ok l.ss) = true) : RunsIn l := by
 intro x hx
 have h1 := List.all_eq_true.1 h x hx
 unfold Ru.ok at h1
 simp only [Bool.and_eq_true, btw_iff] at h1
 obtain ⟨⟨⟨⟨⟨h2, h3⟩, _⟩, _⟩, _⟩, _⟩ := h1
 omega
theorem getD_all {α : Type} {z : α} {l : List α} {R : α → Prop} (h : ∀ x ∈ l, R x) {i : Nat} (hi : i < l.length) : R (l.getD i z) := h _ (getD_mem3 hi)
section
variable {l : Lo}
theorem err_m (h : l.m.err ≠ 0) : l.err = l.m.err := by unfold Lo.err; rw [if_pos h]
theorem err_many (h : l.m.err = 0) (h2 : l.many = true) : l.err = 2 := by unfold Lo.err; rw [if_neg (by simp [h]), if_pos h2]
theorem err_spot (h : l.m.err = 0) (h2 : l.many = false) (h3 : l.ss.all Sp.ok = false) : l.err = 60 := by unfold Lo.err; rw [if_neg (by simp [h]), if_neg (by simp [h2]), if_pos h3]
theorem err_len (h : l.m.err = 0) (h2 : l.many = false) (h3 : l.ss.all Sp.ok = true) (h4 : l.ss.length = 0 ∨ l.us.length + 1 ≠ l.ss.length) : l.err = 61 := by unfold Lo.err; rw [if_neg (by simp [h]), if_neg (by simp [h2]), if_neg (by simp [h3]), if_pos h4]
theorem err_run (h : l.m.err = 0) (h2 : l.many = false) (h3 : l.ss.all Sp.ok = true) (h4 : ¬ (l.ss.length = 0 ∨ l.us.length + 1 ≠ l.ss.length)) (h5 : l.us.all (Ru.ok l.ss) = false) : l.err = 61 := by unfold Lo.err; rw [if_neg (by simp [h]), if_neg (by simp [h2]), if_neg (by simp [h3]), if_neg h4, if_pos h5]
theorem err_full (h : l.m.err = 0) (h2 : l.many = false) (h3 : l.ss.all Sp.ok = true) (h4 : ¬ (l.ss.length = 0 ∨ l.us.length + 1 ≠ l.ss.length)) (h5 : l.us.all (Ru.ok l.ss) = true) (h6 : l.full = false) : l.err = 61 := by unfold Lo.err; rw [if_neg (by simp [h]), if_neg (by simp [h2]), if_neg (by simp [h3]), if_neg h4, if_neg (by simp [h5]), if_pos h6]
theorem err_plug (h : l.m.err = 0) (h2 : l.many = false) (h3 : l.ss.all Sp.ok = true) (h4 : ¬ (l.ss.length = 0 ∨ l.us.length + 1 ≠ l.ss.length)) (h5 : l.us.all (Ru.ok l.ss) = true) (h6 : l.full = true) (h7 : (List.range l.ps.length).all (plOk l) = false) : l.err = 62 := by unfold Lo.err; rw [if_neg (by simp [h]), if_neg (by simp [h2]), if_neg (by simp [h3]), if_neg h4, if_neg (by simp [h5]), if_neg (by simp [h6]), if_pos h7]
theorem err_wire (h : l.m.err = 0) (h2 : l.many = false) (h3 : l.ss.all Sp.ok = true) (h4 : ¬ (l.ss.length = 0 ∨ l.us.length + 1 ≠ l.ss.length)) (h5 : l.us.all (Ru.ok l.ss) = true) (h6 : l.full = true) (h7 : (List.range l.ps.length).all (plOk l) = true) : l.err = wiresErr l l.ws.length := by unfold Lo.err; rw [if_neg (by simp [h]), if_neg (by simp [h2]), if_neg (by simp [h3]), if_neg h4, if_neg (by simp [h5]), if_neg (by simp [h6]), if_neg (by simp [h7])]
end
set_option maxRecDepth 100000 in
set_option maxHeartbeats 8000000 in
theorem Check_any (A0 A1 A2 A3 A4 A5 : Option Addr) (q0 q1 q2 q3 q4 q5 : Nat) (l : Lo) (w : World) (hs : SizedL l) (h : LoA w w.heap.size A0 A1 A2 A3 A4 A5 q0 q1 q2 q3 q4 q5 l) :
  Calls Tryz.prog 62 #[.agg #[.slice A0 l.m.opts.length q0, .slice A1 l.m.rules.length q1, .slice A2 l.ss.length q2, .slice A3 l.us.length q3, .slice A4 l.ps.length q4, .slice A5 l.ws.length q5]] w fun e w' => e = .returned (.int .i64 l.err) ∧ Below w.heap.size w w' := by
 have H := hide h
 have HS := hide hs
 clear h hs
 go_enter Tryz.func62, Tryz.ntmps62
 go_upto_region 1 with (fail)
 generalize hw0 : World.alloc _ _ = w0
 obtain ⟨hb0, hB0, hs0⟩ := alloc1 hw0
 have HL0 : Hid (LoBox w0 w.heap.size A0 A1 A2 A3 A4 A5 q0 q1 q2 q3 q4 q5 l) := hb0
 have HB0 := hide hB0
 obtain ⟨c0, c1, c2, c3, c4, c5⟩ := zL hb0
 have hlb := box_lt hb0
 have hck := CheckModel_any l.m _ _ w0 HS.out.m (H.out.up hB0).m
 have HCK := hide hck
 clear hw0 hb0 hB0 hs0 hck
 by_cases he : l.m.err = 0
 case neg =>
  obtain ⟨z, hz⟩ : ∃ z, l.m.err = z := ⟨_, rfl⟩
  have hz1 : (z != 0) = true := by rw [← hz]; simpa using he
  have hz2 : l.err = z := by rw [err_m he, hz]
  have HZ := hide hz
  have HZ2 := hide hz2
  clear hz hz2 he
  go_wp2_with (go_at_call 89; refine HCK.out.mono ?_; rw [HZ.out]; rintro e w1 ⟨rfl, hB1⟩)
  go_ret
  exact ⟨ret_int HZ2.out.symm, Below.to HB0.out hB1 (Nat.le_refl _)⟩
 case pos =>
 have HE := hide he
 clear he
 go_upto_region 4 with (go_at_call 89; refine HCK.out.mono ?_; rw [HE.out]; rintro e w1 ⟨rfl, hB1⟩; obtain ⟨d0, d1, d2, d3, d4, d5⟩ := zL (HL0.out.to hB1); have hlb1 := box_lt (HL0.out.to hB1); have HL1 := hide (HL0.out.to hB1); have HB1 := hide (Below.to HB0.out hB1 (Nat.le_refl _)); clear hB1 c0 c1 c2 c3 c4 c5 hlb)
 by_cases t0 : (40 : Int) < (l.ss.length : Int)
 ·
  have hz2 := err_many HE.out (show l.many = true by unfold Lo.many; rw [decide_eq_true (by omega : 40 < l.ss.length)]; simp)
  have HZ2 := hide hz2
  clear hz2
  go_wp2_with fail
  go_ret
  exact ⟨ret_int HZ2.out.symm, HB1.out⟩
 by_cases t1 : (40 : Int) < (l.us.length : Int)
 ·
  have hz2 := err_many HE.out (show l.many = true by unfold Lo.many; rw [decide_eq_true (by omega : 40 < l.us.length)]; simp)
  have HZ2 := hide hz2
  clear hz2
  go_wp2_with fail
  go_ret
  exact ⟨ret_int HZ2.out.symm, HB1.out⟩
 by_cases t2 : (30 : Int) < (l.ps.length : Int)
 ·
  have hz2 := err_many HE.out (show l.many = true by unfold Lo.many; rw [decide_eq_true (by omega : 30 < l.ps.length)]; simp)
  have HZ2 := hide hz2
  clear hz2
  go_wp2_with fail
  go_ret
  exact ⟨ret_int HZ2.out.symm, HB1.out⟩
 by_cases t3 : (60 : Int) < (l.ws.length : Int)
 ·
  have hz2 := err_many HE.out (show l.many = true by unfold Lo.many; rw [decide_eq_true (by omega : 60 < l.ws.length)]; simp)
  have HZ2 := hide hz2
  clear hz2
  go_wp2_with fail
  go_ret
  exact ⟨ret_int HZ2.out.symm, HB1.out⟩
 have m1 : l.many = false := by unfold Lo.many; rw [decide_eq_false (by omega : ¬ 40 < l.ss.length), decide_eq_false (by omega : ¬ 40 < l.us.length), decide_eq_false (by omega : ¬ 30 < l.ps.length), decide_eq_false (by omega : ¬ 60 < l.ws.length)]; rfl
 have HM := hide m1
 have n1 : l.ss.length ≤ 40 := by omega
 have n2 : l.us.length ≤ 40 := by omega
 have n3 : l.ps.length ≤ 30 := by omega
 have n4 : l.ws.length ≤ 60 := by omega
 clear m1
 go_upto_region 7 with (fail)
 generalize hw2 : World.alloc _ _ = w2
 obtain ⟨hb2, hB2, hs2⟩ := alloc1 hw2
 have HP2 : Hid (FnBox w2 w1.heap.size 131 #[] 114) := hb2
 have HL2 := hide (HL1.out.to hB2)
 have HB2 := hide (Below.to HB1.out hB2 (Nat.le_refl _))
 obtain ⟨e0, e1, e2, e3, e4, e5⟩ := zL (HL1.out.to hB2)
 have hlb2 := box_lt (HL1.out.to hB2)
 have hfs := first_spot (fun i => mustE ((l.ss.getD i Sp.o).ok) 60) (.pointer (some ⟨w1.heap.size, 0, none⟩)) A0 A1 A2 A3 A4 A5 q0 q1 q2 q3 q4 q5 l w2 HS.out.s (H.out.up HB2.out) (fun i x W hi hx hW => by
  rw [hx]
  exact ckSpot_any i x _ W (FnBox.to HP2.out hW))
 rw [firstE_mustE _ (by decide), all_range Sp.o Sp.ok l.ss] at hfs
 have HFS := hide hfs
 clear hw2 hb2 hB2 hs2 hfs d0 d1 d2 d3 d4 d5 hlb1 HB0 HL0 HCK
 cases hsp : l.ss.all Sp.ok with
 | false =>
  have hz2 := err_spot HE.out HM.out hsp
  have HZ2 := hide hz2
  have HSP := hide hsp
  clear hz2 hsp
  have hmu : mustE false 60 = 60 := rfl
  go_wp2_with (go_at_call 132; refine HFS.out.mono ?_; rw [HSP.out, hmu]; rintro e w3 ⟨rfl, hB3⟩)
  go_ret
  exact ⟨ret_int HZ2.out.symm, Below.to HB2.out hB3 (Nat.le_refl _)⟩
 | true =>
 have HSP := hide hsp
 have hmu : mustE true 60 = 0 := rfl
 clear hsp
 go_upto_region 11 with (go_at_call 132; refine HFS.out.mono ?_; rw [HSP.out, hmu]; rintro e w3 ⟨rfl, hB3⟩; have HL3 := hide (HL2.out.to hB3); have HB3 := hide (Below.to HB2.out hB3 (Nat.le_refl _)); clear hB3 e0 e1 e2 e3 e4 e5 hlb2)
 generalize hw4 : World.alloc _ _ = w4
 obtain ⟨hb4, hB4, hs4⟩ := alloc1 hw4
 have HSB4 : Hid (FnBox w4 w3.heap.size 135 #[.pointer (some ⟨w.heap.size, 0, none⟩)] 114) := hb4
 have HL4 := hide (HL3.out.to hB4)
 have HB4 := hide (Below.to HB3.out hB4 (Nat.le_refl _))
 obtain ⟨f0, f1, f2, f3, f4, f5⟩ := zL (HL3.out.to hB4)
 have hlb4 := box_lt (HL3.out.to hB4)
 clear hw4 hb4 hB4 hs4 HFS HP2 hmu HL1 HB1
 by_cases h0 : l.ss.length = 0
 ·
  have hz2 := err_len HE.out HM.out HSP.out (.inl h0)
  have HZ2 := hide hz2
  have g0 : ((l.ss.length : Int) == 0) = true := by simp [h0]
  clear hz2 h0
  go_wp2_with fail
  go_ret
  exact ⟨ret_int HZ2.out.symm, HB4.out⟩
 have g0 : ((l.ss.length : Int) == 0) = false := by simp; exact fun e => h0 (by rw [e]; rfl)
 have p0 : 0 < l.ss.length := by omega
 by_cases h1 : l.us.length + 1 = l.ss.length
 case neg =>
  have hz2 := err_len HE.out HM.out HSP.out (.inr h1)
  have HZ2 := hide hz2
  have g1 : ((l.us.length : Int) != (l.ss.length : Int) - 1) = true := by simp; omega
  clear hz2 h1 h0
  go_wp2_with fail
  go_ret
  exact ⟨ret_int HZ2.out.symm, HB4.out⟩
 case pos =>
 have g1 : ((l.us.length : Int) != (l.ss.length : Int) - 1) = false := by simp; omega
 have HLEN : Hid (¬ (l.ss.length = 0 ∨ l.us.length + 1 ≠ l.ss.length)) := by show ¬ _; omega
 have hspb : ∀ x ∈ l.ss, x.ok = true := List.all_eq_true.1 HSP.out
 have hfr := first_run (fun i => mustE (Ru.ok l.ss (l.us.getD i Ru.o)) 61) (.pointer (some ⟨w3.heap.size, 0, none⟩)) (.pointer (some ⟨w.heap.size, 0, none⟩)) A0 A1 A2 A3 A4 A5 q0 q1 q2 q3 q4 q5 l w4 HS.out.u (H.out.up HB4.out) (fun i x W hi hx hW => by
  rw [hx]
  exact ckRun_any i x.a x.b x.len x.room A0 A1 A2 A3 A4 A5 q0 q1 q2 q3 q4 q5 l w3.heap.size w.heap.size W HS.out.s (HL4.out.to hW) (FnBox.to HSB4.out hW) ((H.out.up HB4.out).up hW) hspb)
 rw [firstE_mustE _ (by decide), all_range Ru.o (Ru.ok l.ss) l.us] at hfr
 have HFR := hide hfr
 clear hfr h0 h1 hspb
 cases hru : l.us.all (Ru.ok l.ss) with
 | false =>
  have hz2 := err_run HE.out HM.out HSP.out HLEN.out hru
  have HZ2 := hide hz2
  have HRU := hide hru
  clear hz2 hru
  have hmu : mustE false 61 = 61 := rfl
  go_wp2_with (go_at_call 136; refine HFR.out.mono ?_; rw [HRU.out, hmu]; rintro e w5 ⟨rfl, hB5⟩)
  go_ret
  exact ⟨ret_int HZ2.out.symm, Below.to HB4.out hB5 (Nat.le_refl _)⟩
 | true =>
 have HRU := hide hru
 have hrin := Ru.ok_in hru
 have HRIN := hide hrin
 have hmu : mustE true 61 = 0 := rfl
 clear hru hrin
 go_upto_region 16 with (go_at_call 136; refine HFR.out.mono ?_; rw [HRU.out, hmu]; rintro e w5 ⟨rfl, hB5⟩; have HL5 := hide (HL4.out.to hB5); have HB5 := hide (Below.to HB4.out hB5 (Nat.le_refl _)); have HSB5 := hide (FnBox.to HSB4.out hB5); clear hB5 f0 f1 f2 f3 f4 f5 hlb4)
 obtain ⟨k0, k1, k2, k3, k4, k5⟩ := zL HL5.out
 have hlb5 := box_lt HL5.out
 obtain ⟨S, hS⟩ : ∃ S, stR l.rs (-1) 0 l.ss.length = S := ⟨_, rfl⟩
 have HSS := hide hS
 have hsl : S.length ≤ l.ss.length := by rw [← hS]; exact stR_len p0 HRIN.out.rs _
 have hfu : l.full = decide (S.length = l.ss.length) := by unfold Lo.full; rw [hS]
 have HFU := hide hfu
 clear hS hfu hmu HFR HL4 HB4 HSB4 HL3 HB3 HL2 HB2
 refine wp_region_held_drew (S := (fun w' => Below w5.heap.size w5 w')) (by kernel_rfl) ?_ (fun hHeld => ?_)
 ·
  try dsimp only
  exact zP
 refine zT 0 rfl ?_
 refine zT 3 rfl ?_
 refine zT 4 rfl ?_
 refine zT 5 rfl ?_
 refine wpAnyH_ready (rs := [1]) (by kernel_rfl) (by simp) ?_
 refine AllReadyH.cons rfl (fun K hK => ?_) AllReadyH.nil
 go_simp
 ((go_at_call 139; refine (reached_any A0 A1 A2 A3 A4 A5 q0 q1 q2 q3 q4 q5 l 0 (-1) _ ((H.out.up HB5.out).up (by assumption)) HRIN.out p0 n1 n2).mono ?_; rintro e w6 ⟨v6, rfl, hn6, hB6⟩; rw [HSS.out] at hn6; obtain ⟨A6, q6, hv6⟩ := Sl.form hn6; subst hv6; clear hn6))
 (try dsimp only)
 refine hK.out _ _ zP fun hNext => ?_; clear hK K hHeld; have hHeld := hNext; clear hNext; (try dsimp only at hHeld); try simp only [zX]
 refine zT 2 rfl ?_
 refine zT 6 rfl ?_
 refine wpAnyH_done (by kernel_rfl) ?_ _
 have HB6 := hide (Below.to HB5.out hHeld (Nat.le_refl _))
 have HL6 := hide (HL5.out.to hHeld)
 have HSB6 := hide (FnBox.to HSB5.out hHeld)
 clear hHeld k0 k1 k2 k3 k4 k5 hlb5
 by_cases hfl : S.length = l.ss.length
 case neg =>
  have hz2 := err_full HE.out HM.out HSP.out HLEN.out HRU.out (by rw [HFU.out, decide_eq_false hfl])
  have HZ2 := hide hz2
  have g2 : ((S.length : Int) != (l.ss.length : Int)) = true := by simp; omega
  clear hz2 hfl
  go_wp2_with fail
  go_ret
  exact ⟨ret_int HZ2.out.symm, HB6.out⟩
 case pos =>
 have HFL : Hid (l.full = true) := by show _ = _; rw [HFU.out, decide_eq_true hfl]
 have g2 : ((S.length : Int) != (l.ss.length : Int)) = false := by simp; omega
 clear hfl
 obtain ⟨m0, m1, m2, m3, m4, m5⟩ := zL HL6.out
 have hlb6 := box_lt HL6.out
 have hfp := first_plug (fun i => mustE (plOk l i) 62) (.pointer (some ⟨w.heap.size, 0, none⟩)) (.pointer (some ⟨w3.heap.size, 0, none⟩)) A0 A1 A2 A3 A4 A5 q0 q1 q2 q3 q4 q5 l _ HS.out.p (H.out.up HB6.out) (fun i x W hi hx hW =>
  ckPlug_any i x A0 A1 A2 A3 A4 A5 q0 q1 q2 q3 q4 q5 l w.heap.size w3.heap.size W hi hx (by rw [← hx]; exact getD_all HS.out.pn hi) HS.out.s HS.out.p (HL6.out.to hW) (FnBox.to HSB6.out hW) ((H.out.up HB6.out).up hW))
 rw [firstE_mustE _ (by decide)] at hfp
 have HFP := hide hfp
 clear hfp
 cases hpl : (List.range l.ps.length).all (plOk l) with
 | false =>
  have hz2 := err_plug HE.out HM.out HSP.out HLEN.out HRU.out HFL.out hpl
  have HZ2 := hide hz2
  have HPL := hide hpl
  clear hz2 hpl
  have hmu : mustE false 62 = 62 := rfl
  go_wp2_with (go_at_call 140; refine HFP.out.mono ?_; rw [HPL.out, hmu]; rintro e w7 ⟨rfl, hB7⟩)
  go_ret
  exact ⟨ret_int HZ2.out.symm, Below.to HB6.out hB7 (Nat.le_refl _)⟩
 | true =>
 have HPL := hide hpl
 have hmu : mustE true 62 = 0 := rfl
 clear hpl
 have hpok : ∀ k, k < l.ps.length → plOk l k = true := fun k hk => List.all_eq_true.1 HPL.out k (by simpa using hk)
 have HPOK := hide hpok
 clear hpok
 go_upto_region 22 with (go_at_call 140; refine HFP.out.mono ?_; rw [HPL.out, hmu]; rintro e w7 ⟨rfl, hB7⟩; have HL7 := hide (HL6.out.to hB7); have HB7 := hide (Below.to HB6.out hB7 (Nat.le_refl _)); clear hB7 m0 m1 m2 m3 m4 m5 hlb6)
 generalize hw8 : World.alloc _ _ = w8
 obtain ⟨hb8, hB8, hs8⟩ := alloc1 hw8
 have HPB8 : Hid (FnBox w8 w7.heap.size 145 #[.pointer (some ⟨w.heap.size, 0, none⟩)] 190) := hb8
 have HL8 := hide (HL7.out.to hB8)
 have HB8 := hide (Below.to HB7.out hB8 (Nat.le_refl _))
 obtain ⟨o0, o1, o2, o3, o4, o5⟩ := zL (HL7.out.to hB8)
 have hlb8 := box_lt (HL7.out.to hB8)
 have hfw := first_wire (wiErr l) (.pointer (some ⟨w.heap.size, 0, none⟩)) (.pointer (some ⟨w7.heap.size, 0, none⟩)) A0 A1 A2 A3 A4 A5 q0 q1 q2 q3 q4 q5 l w8 HS.out.w (H.out.up HB8.out) (fun i x Af qf W hi hx hW hf =>
  ckWire_any i x Af qf A0 A1 A2 A3 A4 A5 q0 q1 q2 q3 q4 q5 l w.heap.size w7.heap.size W hi hx (by rw [← hx]; exact (getD_all HS.out.wn hi).1) (by rw [← hx]; exact (getD_all HS.out.wn hi).2) HS.out.p HS.out.w HS.out.m HE.out (HL8.out.to hW) (FnBox.to HPB8.out hW) ((H.out.up HB8.out).up hW) HPOK.out hf)
 rw [firstE_wires, ← err_wire HE.out HM.out HSP.out HLEN.out HRU.out HFL.out HPL.out] at hfw
 have HFW := hide hfw
 clear hw8 hb8 hB8 hs8 hfw
 go_wp2_with (go_at_call 146; refine HFW.out.mono ?_; rintro e w9 ⟨rfl, hB9⟩)
 go_ret
 exact ⟨rfl, Below.to HB8.out hB9 (Nat.le_refl _)⟩
theorem Bols.other {w w' : World} {v cv : Value} {x : List Bool} {b t : Nat} (h : Bols w w.heap.size v x) (hb : w.heap[b]? = some (.cells #[cv] t (0, 0))) (hcv : ∀ z, cv ≠ .bool z) (hg : w.grownBy w' (some b)) : Bols w' w'.heap.size v x := by
 obtain ⟨A, b1, off, cap, h1, h2, h3, h4⟩ := h
 refine ⟨A, b1, off, cap, h1, h2, h3.imp (fun q => ⟨q.1, Nat.lt_of_lt_of_le q.2 hg.size⟩) id, fun i j hi hj => ?_⟩
 have h5 := h4 i j hi hj
 have hb1 : b1 < w.heap.size := by
  rcases h3 with h3 | h3
  ·
   exact h3.2
  ·
   omega
 refine (World.cell?_of_block (hg.block b1 hb1 (fun e => ?_))).trans h5
 injection e with e
 subst e
 rw [cellOf hb] at h5
 rcases Nat.eq_zero_or_pos (off + (i * 1 + j)) with h6 | h6
 ·
  rw [h6] at h5
  injection h5 with h5
  exact hcv _ h5
 ·
  rw [Array.getElem?_eq_none (by simp; omega)] at h5
  cases h5
def EarAt (w : World) (b N : Nat) (cur : Option (List Bool)) : Prop := ∃ cv, w.heap[b]? = some (.cells #[cv] 145 (0, 0)) ∧ OptV w w.heap.size cv cur ∧ ∀ x, cur = some x → x.length = N
theorem EarAt.up {w w' : World} {b N : Nat} {cur : Option (List Bool)} (h : EarAt w b N cur) (hb : Below w.heap.size w w') : EarAt w' b N cur := by
 obtain ⟨cv, h1, h2, h3⟩ := h
 exact ⟨cv, box_to h1 hb, h2.up hb, h3⟩
set_option maxRecDepth 100000 in
set_option maxHeartbeats 2000000 in
theorem show_any (b N : Nat) (cur o : Option (List Bool)) (v : Value) (w : World) (hN : N ≤ 1000) (h : EarAt w b N cur) (hv : OptV w w.heap.size v o) (ho : ∀ x, o = some x → x.length = N) :
  Calls Tryz.prog 127 #[.pointer (some ⟨b, 0, none⟩), v] w fun e w' => e = .returned (.tuple #[]) ∧ EarAt w' b N (soon cur o) ∧ w.grownBy w' (some b) := by
 have q1 : ∀ (W : World) (a : Option Addr) (n c : Nat), (binOp .neq 35 (.slice a n c) (.slice none 0 0)).run Tryz.prog W = .ok (.bool (!a.isNone)) W := fun W a n c => run_neq_slice_nil W _ _ a n c Tryz.underlying35
 have q2 : ∀ (W : World) (a : Option Addr) (n c n' c' : Nat), (binOp .eql 35 (.slice a n c) (.slice none n' c')).run Tryz.prog W = .ok (.bool a.isNone) W := fun W a n c n' c' => Lib.run_eql_slice_nil W _ _ a n c n' c' Tryz.underlying35
 obtain ⟨cv, hb, hc, hcN⟩ := h
 cases o with
 | none =>
  have hvn : v = .slice none 0 0 := hv
  subst hvn
  have hE : EarAt w b N (soon cur none) := by
   have h1 : soon cur none = cur := by cases cur <;> rfl
   rw [h1]
   exact ⟨cv, hb, hc, hcN⟩
  have HE := hide hE
  clear hb hc hE hv
  go_enter Tryz.func127, Tryz.ntmps127
  go_wp2_with fail
  go_end0
  exact ⟨rfl, HE.out, only_refl _ _⟩
 | some y =>
  obtain ⟨⟨ad, q, rfl⟩, hy⟩ := hv
  have hyN := ho y rfl
  cases cur with
  | none =>
   have hcn : cv = .slice none 0 0 := hc
   subst hcn
   have x0 := cellOf hb 0
   have x1 := unfrozenOf hb 0
   have lx := box_lt hb
   have HB := hide hb
   have HY := hide hy
   have HYN := hide hyN
   clear hb hc hy hyN ho hcN
   go_enter Tryz.func127, Tryz.ntmps127
   go_wp2_with fail
   generalize hwz : World.setCell _ _ _ = wz
   have hg : w.grownBy wz (some b) := by rw [← hwz]; exact only_setCell (only_refl _ _) (.inl rfl) _
   have hz : wz.heap[b]? = some (.cells #[.slice (some ad) y.length q] 145 (0, 0)) := by rw [← hwz]; exact setCellOf HB.out (i := 0) _
   have hE : EarAt wz b N (soon none (some y)) := ⟨_, hz, ⟨⟨ad, q, rfl⟩, HY.out.other HB.out (fun z e => by cases e) hg⟩, fun x hx => by injection hx with hx; rw [← hx]; exact HYN.out⟩
   clear hwz
   go_end0
   exact ⟨rfl, hE, hg⟩
  | some x =>
   obtain ⟨⟨ad2, q2', rfl⟩, hx⟩ := hc
   have hxN := hcN x rfl
   have hcm := compare_any y x (some ad) (some ad2) q q2' w (by omega) (by omega) hy hx
   have hlaw := (cmpI_bef y x)
   obtain ⟨c, hce⟩ : ∃ c, cmpI y x = c := ⟨_, rfl⟩
   rw [hce] at hcm hlaw
   have x0 := cellOf hb 0
   have x1 := unfrozenOf hb 0
   have lx := box_lt hb
   have HB := hide hb
   have HY := hide hy
   have HX := hide hx
   have HYN := hide hyN
   have HXN := hide hxN
   have HCM := hide hcm
   obtain ⟨hlw, hl1, hl2⟩ := hlaw
   have HLW := hide hlw
   clear hb hx hy hyN ho hcN hxN hcm hce hlw
   by_cases hc0 : c < 0
   ·
    have hso : soon (some x) (some y) = some y := by show (if befB y x = true then _ else _) = _; rw [if_pos (HLW.out.1 hc0)]
    have HSO := hide hso
    clear hso
    go_enter Tryz.func127, Tryz.ntmps127
    go_wp2_with (go_at_call 172; refine HCM.out.mono ?_; rintro e w1 ⟨rfl, rfl⟩)
    generalize hwz : World.setCell _ _ _ = wz
    have hg : w.grownBy wz (some b) := by rw [← hwz]; exact only_setCell (only_refl _ _) (.inl rfl) _
    have hz : wz.heap[b]? = some (.cells #[.slice (some ad) y.length q] 145 (0, 0)) := by rw [← hwz]; exact setCellOf HB.out (i := 0) _
    have hE : EarAt wz b N (soon (some x) (some y)) := by
     rw [HSO.out]
     exact ⟨_, hz, ⟨⟨ad, q, rfl⟩, HY.out.other HB.out (fun z e => by cases e) hg⟩, fun x hx => by injection hx with hx; rw [← hx]; exact HYN.out⟩
    clear hwz
    go_end0
    exact ⟨rfl, hE, hg⟩
   ·
    have hso : soon (some x) (some y) = some x := by
     show (if befB y x = true then _ else _) = _
     rw [if_neg (fun h => hc0 (HLW.out.2 h))]
    have HSO := hide hso
    clear hso
    go_enter Tryz.func127, Tryz.ntmps127
    go_wp2_with (go_at_call 172; refine HCM.out.mono ?_; rintro e w1 ⟨rfl, rfl⟩)
    have hE : EarAt w b N (soon (some x) (some y)) := by
     rw [HSO.out]
     exact ⟨_, HB.out, ⟨⟨ad2, q2', rfl⟩, HX.out⟩, fun z hz => by injection hz with hz; rw [← hz]; exact HXN.out⟩
    go_end0
    exact ⟨rfl, hE, only_refl _ _⟩
theorem wires_no {n : Nat} {ws : List Int} {k : Nat} (hk : k < ws.length) (h : wireOk n ws k = false) : wiresB n ws = false := by
 unfold wiresB
 rw [List.all_eq_false]
 exact ⟨k, by simpa using hk, by simp [h]⟩
theorem wires_all {n : Nat} {ws : List Int} (h : ∀ j, j < ws.length → wireOk n ws j = true) : wiresB n ws = true := List.all_eq_true.2 fun i hi => h i (by simpa using hi)
theorem errF_one {m : Mo} {f : List Int} (h : m.err = 0) : m.errF [f] = if validF m.opts.length f = true then 0 else 11 := by
 unfold Mo.errF
 rw [if_neg (by simp [h])]
 simp only [List.all_cons, List.all_nil, Bool.and_true]
 cases validF m.opts.length f <;> rfl
set_option maxRecDepth 100000 in
set_option maxHeartbeats 4000000 in
theorem right_any (d : Md) (Af : Option Addr) (qf : Nat) (Aw : Option Addr) (qw : Nat) (A0 A1 A2 A3 A4 A5 : Option Addr) (q0 q1 q2 q3 q4 q5 : Nat) (l : Lo) (w : World) (hs : SizedL l) (hd : d.f.length ≤ maxLen ∧ d.ws.length ≤ maxLen) (h : LoA w w.heap.size A0 A1 A2 A3 A4 A5 q0 q1 q2 q3 q4 q5 l) (hf : Ints w w.heap.size (.slice Af d.f.length qf) d.f) (hw : Ints w w.heap.size (.slice Aw d.ws.length qw) d.ws) (hm : l.m.err = 0) :
  Calls Tryz.prog 83 #[.agg #[.slice A0 l.m.opts.length q0, .slice A1 l.m.rules.length q1, .slice A2 l.ss.length q2, .slice A3 l.us.length q3, .slice A4 l.ps.length q4, .slice A5 l.ws.length q5], .agg #[.slice Af d.f.length qf, .slice Aw d.ws.length qw]] w fun e w' => e = .returned (.bool (rightB l d)) ∧ Below w.heap.size w w' := by
 have H := hide h
 have HS := hide hs
 have HF := hide hf
 have HW := hide hw
 have HM := hide hm
 have hwl := hs.w
 obtain ⟨hd1, hd2⟩ := hd
 obtain ⟨res, hres⟩ : ∃ b, rightB l d = b := ⟨_, rfl⟩
 rw [hres]
 have HRES := hide hres
 unfold maxLen at hd2 hwl
 clear h hs hf hw hm hres
 go_enter Tryz.func83, Tryz.ntmps83
 go_upto_region 1 with (fail)
 generalize hw0 : World.alloc _ _ = w0
 obtain ⟨hb0, hb1, hB0, hs0⟩ := alloc2 hw0
 have HL0 : Hid (LoBox w0 w.heap.size A0 A1 A2 A3 A4 A5 q0 q1 q2 q3 q4 q5 l) := hb0
 have HD0 := hide hb1
 have HB0 := hide hB0
 have HH := hide (H.out.up hB0)
 have HW0 := hide (HW.out.up hB0)
 have HF0 := hide (HF.out.up hB0)
 obtain ⟨c0, c1, c2, c3, c4, c5⟩ := zL hb0
 have hlb := box_lt hb0
 have m0 := cellOf hb1 0
 have m1 := cellOf hb1 1
 have lm := box_lt hb1
 clear hw0 hb0 hb1 hB0 hs0
 go_wp2_with fail
 go_loop [5, 6, 10] (fun _ _ i => ∃ k : Nat, i = .int .i64 k ∧ k ≤ d.ws.length ∧ Hid (∀ j, j < k → wireOk l.ws.length d.ws j = true)) (fun _ _ i => d.ws.length - (intOf i).toNat)
 case atStart => exact ⟨0, rfl, Nat.zero_le _, fun j hj => absurd hj (by omega)⟩
 case round =>
  obtain ⟨k, rfl, hk, HNO⟩ := hrel
  by_cases hkl : k < d.ws.length
  ·
   obtain ⟨bx, ox, x, HX, hA, hbx, hqx, ex⟩ := HW0.out.at7 hkl
   subst hA
   have i0 : (0 : Int) ≤ (k : Int) := by omega
   have i1 : (k : Int) < (d.ws.length : Int) := by omega
   have i3 : (d.ws.length : Int) ≤ (qw : Int) := by omega
   obtain ⟨z, hz⟩ : ∃ z, btw x 0 ((l.ws.length : Int) - 1) = z := ⟨_, rfl⟩
   have HZ := hide hz
   have hwk : wireOk l.ws.length d.ws k = (z && (decide (k = 0) || decide (d.ws.getD (k - 1) 0 < x))) := by unfold wireOk; rw [HX.out, hz]
   have HWK := hide hwk
   clear hqx hz hwk
   cases z with
   | false =>
    have hr0 : res = false := by
     rw [← HRES.out]
     unfold rightB
     rw [wires_no hkl (by rw [HWK.out]; rfl)]
     rfl
    subst hr0
    go_wp2_with (go_at_call 72; refine (bwithin_any _ _ _ _ _ HZ.out).mono ?_; rintro e w1 ⟨rfl, rfl⟩)
    go_ret
    exact ⟨rfl, HB0.out⟩
   | true =>
    by_cases hk0 : k = 0
    ·
     have hok : wireOk l.ws.length d.ws k = true := by rw [HWK.out, decide_eq_true hk0]; rfl
     have HOK := hide hok
     have g1 : ¬ (0 : Int) < (k : Int) := by omega
     clear hok hk0
     go_wp2_with (go_at_call 72; refine (bwithin_any _ _ _ _ _ HZ.out).mono ?_; rintro e w1 ⟨rfl, rfl⟩)
     go_round
     case rel => exact ⟨k + 1, by go_num, by omega, fun j hj => by
       rcases Nat.lt_or_ge j k with h1 | h1
       ·
        exact HNO.out j h1
       ·
        rw [show j = k by omega]; exact HOK.out⟩
     case measure => simp [intOf]; omega
    ·
     obtain ⟨j0, hj0⟩ : ∃ j, k - 1 = j := ⟨_, rfl⟩
     have e1 : (k : Int) - 1 = (j0 : Int) := by omega
     obtain ⟨by1, oy, y, HY, hA2, hby, hqy, ey⟩ := HW0.out.at7 (show j0 < d.ws.length by omega)
     injection hA2 with hA2
     injection hA2 with q1 q2
     subst q1 q2
     have j0a : (0 : Int) ≤ (j0 : Int) := by omega
     have j1a : (j0 : Int) < (d.ws.length : Int) := by omega
     have g1 : (0 : Int) < (k : Int) := by omega
     have hyy : d.ws.getD (k - 1) 0 = y := by rw [hj0]; exact HY.out
     have HYY := hide hyy
     clear hqy hyy
     by_cases hxy : x ≤ y
     ·
      have hr0 : res = false := by
       rw [← HRES.out]
       unfold rightB
       rw [wires_no hkl (by rw [HWK.out, HYY.out, decide_eq_false hk0, decide_eq_false (by omega)]; rfl)]
       rfl
      subst hr0
      go_wp2_with (go_at_call 72; refine (bwithin_any _ _ _ _ _ HZ.out).mono ?_; rintro e w1 ⟨rfl, rfl⟩)
      go_ret
      exact ⟨rfl, HB0.out⟩
     ·
      have hok : wireOk l.ws.length d.ws k = true := by rw [HWK.out, HYY.out, decide_eq_true (show y < x by omega)]; simp
      have HOK := hide hok
      clear hok
      go_wp2_with (go_at_call 72; refine (bwithin_any _ _ _ _ _ HZ.out).mono ?_; rintro e w1 ⟨rfl, rfl⟩)
      go_round
      case rel => exact ⟨k + 1, by go_num, by omega, fun j hj => by
        rcases Nat.lt_or_ge j k with h1 | h1
        ·
         exact HNO.out j h1
        ·
         rw [show j = k by omega]; exact HOK.out⟩
      case measure => simp [intOf]; omega
  ·
   have hke : k = d.ws.length := by omega
   subst hke
   obtain ⟨z, hz⟩ : ∃ z, l.m.errF [d.f] = z := ⟨_, rfl⟩
   have hrz : res = (z == 0) := by
    rw [← HRES.out]
    unfold rightB
    rw [wires_all HNO.out, Bool.true_and, ← hz, errF_one HM.out]
    cases validF l.m.opts.length d.f <;> rfl
   have HZ := hide hz
   subst hrz
   clear hz
   go_wp2_with (go_at_call 150; refine (CheckFormula_any l.m d.f _ _ _ w0 HS.out.m hd1 HH.out.m HF0.out).mono ?_; rw [HZ.out]; rintro e w1 ⟨rfl, hB1⟩; have HB1 := hide (Below.to HB0.out hB1 (Nat.le_refl _)); clear hB1 c0 c1 c2 c3 c4 c5 hlb m0 m1 lm)
   go_ret
   exact ⟨rfl, HB1.out⟩
end Go.Proofs.YtehadoecnmfeoaaGreat

/- Short returns what the document specifies: for every wiring, feeder and current; no condition. -/
import Derived.Test.YtejjjijaojkohaaRows
import Derived.Test.YtejjjijaojkohaaGS4
import Derived.Test.YtejjjijaojkohaaGS5
import Derived.Test.YtejjjijaojkohaaGS6
namespace Go.Proofs.Ytejjjijaojkohaa
open Go.Joins Go.ChangeShapes Go.WideShapes Go.ChangeAt Go.RowKit Go.Deep
set_option linter.unusedVariables false
set_option linter.unusedSimpArgs false
attribute [local go_sem ↓] Go.wp_at_zero Go.wp_at_succ

set_option maxRecDepth 100000 in
set_option maxHeartbeats 2000000 in
theorem wiresShorts_walk (gs : List Ga) (fs : List Fu) (es : List Fe) (gv fv ev : Value) (feeder amps : Int) (w : World) (h : Wir w w.heap.size gv fv ev gs fs es) (hg : gs.length ≤ maxLen) (hf : fs.length ≤ maxLen) (he : es.length ≤ maxLen) (hcl : ∀ i, i < es.length → (es.getD i Fe.z).cs.length ≤ maxLen) :
    Calls Try.prog 13 #[.agg #[gv, fv, ev], .int .i64 feeder, .int .i64 amps] w fun e w' => e = .returned (.bool true) ∧ Below w.heap.size w w' := by
  have H := hide h
  obtain ⟨A0, cap0, rfl⟩ := Sl.form h.g
  obtain ⟨A1, cap1, rfl⟩ := Sl.form h.f
  obtain ⟨A, cap, rfl⟩ := h.e.form
  have HCL := hide hcl
  clear h hcl
  obtain ⟨lb, hlb⟩ : ∃ x, largeB gs fs es = x := ⟨_, rfl⟩
  have HLB := hide hlb
  clear hlb
  go_enter Try.func13, Try.ntmps13
  go_wp2_with fail
  generalize hw0 : World.alloc _ _ = w0
  obtain ⟨hb0, hB0, hs0⟩ := alloc1 hw0
  clear hw0
  have HWI : Hid (WiAt w0 w.heap.size (.slice A0 gs.length cap0) (.slice A1 fs.length cap1) (.slice A es.length cap)) := hb0
  have HB0 := hide hB0
  clear hb0 hs0 hB0
  refine (Large_any gs fs es _ _ _ _ hg hf he HCL.out ((H.out.below HB0.out).more HB0.out.size)).mono ?_
  rw [HLB.out]
  rintro e w1 ⟨rfl, hB1⟩
  have HB1 := hide hB1
  clear hB1
  cases lb with
  | true =>
    go_wp2_with (go_at_call 17; refine (works_any _).mono ?_; rintro e w2 ⟨rfl, hB2⟩)
    go_ret
    exact ⟨rfl, Below.to (Below.to HB0.out HB1.out (Nat.le_refl _)) hB2 (Nat.le_refl _)⟩
  | false =>
    have HSZ := hide (largeB_no HLB.out)
    have HLEN := hide (shAns_len (feeder := feeder) (amps := amps) HSZ.out)
    obtain ⟨an, han⟩ : ∃ x, shAns gs fs es feeder amps = x := ⟨_, rfl⟩
    obtain ⟨er, her⟩ : ∃ x, shErr gs fs es feeder amps = x := ⟨_, rfl⟩
    have HAN := hide han
    have HER := hide her
    rw [han] at HLEN
    clear han her
    obtain ⟨l, nu, de⟩ := an
    replace HLEN : Hid (l.length ≤ 30) := HLEN
    obtain ⟨k0, k1, k2, _⟩ := wi3 HWI.out HB1.out
    have HBw : Hid (Below w.heap.size w w1) := Below.to HB0.out HB1.out (Nat.le_refl _)
    go_wp2_with fail
    clear k0 k1 k2
    refine (Copy_any gs fs es _ _ _ _ HSZ.out ((H.out.below HBw.out).more HBw.out.size)).mono ?_
    rintro e w2 ⟨gv', fv', ev', rfl, hW2, hB2⟩
    have HW2 := hide hW2
    have HB2 := hide hB2
    clear hW2 hB2
    go_wp2_with fail
    refine (Short_any gs fs es _ _ _ feeder amps _ HSZ.out HW2.out).mono ?_
    rw [HAN.out, HER.out]
    rintro e w3 ⟨⟨v3, rfl, hS3⟩, hB3⟩
    have HS3 := hide hS3
    have HB3 : Hid (Below w0.heap.size w0 w3) := Below.to (Below.to HB1.out HB2.out (Nat.le_refl _)) hB3 (Nat.le_refl _)
    clear hB3 hS3
    obtain ⟨k0, k1, k2, _⟩ := wi3 HWI.out HB3.out
    have HBw3 : Hid (Below w.heap.size w w3) := Below.to HB0.out HB3.out (Nat.le_refl _)
    go_wp2_with fail
    clear k0 k1 k2
    refine (rShort_any gs fs es _ _ _ feeder amps _ HSZ.out ((H.out.below HBw3.out).more HBw3.out.size)).mono ?_
    rw [HAN.out, HER.out]
    rintro e w4 ⟨⟨v4, rfl, hS4⟩, hB4⟩
    have HS4 := hide hS4
    have HS34 : Hid (ShL w4 v3 l) := Sl.more (Sl.below HS3.out hB4) hB4.size
    have HB4 : Hid (Below w0.heap.size w0 w4) := Below.to HB3.out hB4 (Nat.le_refl _)
    clear hS4 hB4
    have HBw4 : Hid (Below w.heap.size w w4) := Below.to HB0.out HB4.out (Nat.le_refl _)
    have y1 : (nu == nu) = true := by simp
    have y2 : (de == de) = true := by simp
    have y3 : (er == er) = true := by simp
    go_wp2_with (first
      | (go_at_call 47; refine (sameInts_any l _ _ _ HS34.out HS4.out (Nat.le_trans HLEN.out (by omega))).mono ?_; rintro e w5 ⟨rfl, hB5⟩)
      | (go_at_call 17; refine (works_any _).mono ?_; rintro e w8 ⟨rfl, hB8⟩))
    go_ret
    exact ⟨rfl, Below.to (Below.to HBw4.out hB5 (Nat.le_refl _)) hB8 (Nat.le_refl _)⟩

theorem own_WiresShorts : ownKnob Try.prog.godebug = none := by kernel_rfl
theorem laid_WiresShorts : laidOutB Try.prog = true := by kernel_rfl
theorem par_WiresShorts : ∀ t ∈ Try.f13.params.toList, Try.prog.readableRec t = true ∧ t < Try.prog.types.size := by
  rw [Try.params13]
  intro t ht
  simp only [List.mem_cons, List.not_mem_nil, or_false] at ht
  rcases ht with rfl | rfl | rfl <;> exact ⟨by kernel_rfl, of_decide_eq_true (by kernel_rfl)⟩
set_option maxRecDepth 100000 in
theorem wiresShorts_lifted (os : Os) (started : os.Started) (H : Type) (enc : TypeId × Value → H) :
    ReturnsInHanded {} Try.checked os 13 .any (Rows.wiresShortsSpec.pre6 enc Try.prog Try.f13 Rows.wiresShortsRow.domain false) (Rows.wiresShortsSpec.post enc Try.prog Try.f13 false true false false) := by
  refine returnsInHanded_of_change (C := Try.checked) own_WiresShorts started (by kernel_rfl) Try.func13
    (ChangeSpec.witness6 (enc := enc) (C := Try.checked) false ⟨#[], #[.agg #[.slice none 0 0, .slice none 0 0, .slice none 0 0], .int .i64 0, .int .i64 0], []⟩ 8 (by kernel_rfl) (by kernel_rfl) (by kernel_rfl) (by kernel_rfl)) ?_
  intro W base args ds gs before hval0 hW hcnd _
  have hval : ∀ (j : Nat) t v, Try.f13.params[j]? = some t → args[j]? = some v → Value.okWide Try.prog W .any base t v := hval0
  have hW' := hW
  obtain ⟨p, q, hA0, hV, rfl, hfz, hnd⟩ := hW
  have hA : DataW.TrodAll enc Try.prog W 0 (fun _ => true) true Try.f13.params.toList args.toList ds p := hA0
  have hAll := hA
  have hltp : ∀ x ∈ p, x.block < W.heap.size := fun x hx => hW'.lt x (List.mem_append_left _ hx)
  rw [Try.params13] at hA hval
  obtain ⟨v0, v1, v2, d0, d1, d2, p0, p1, p2, rfl, rfl, rfl, h0, h1, h2⟩ := trodAll_three hA
  obtain ⟨rfl, rfl⟩ := trodVars_none hV
  obtain ⟨gv, fv, ev, gs, fs, es, rfl, hwi, hgl, hfl, hel, hcl⟩ := open_wiring (hval 0 63 v0 rfl rfl) h0
  obtain ⟨a, rfl, _⟩ := open_i64 (hval 1 3 v1 rfl rfl) h1
  obtain ⟨l, rfl, _⟩ := open_i64 (hval 2 3 v2 rfl rfl) h2
  refine (wiresShorts_walk gs fs es gv fv ev a l W hwi hgl hfl hel hcl).mono fun e W2 ⟨he, hb⟩ => ?_
  subst he
  exact ⟨_, rfl, post_of_below (pv := []) hW' (fun _ _ _ => trodAll_mk1 (shut_bool Try.underlying4 _)) (fun sp hsp => trodAll_stays laid_WiresShorts hb sp _ _ _ _ par_WiresShorts hAll hltp (fun x hx => hsp x (List.mem_append_left _ hx))) (fun _ _ => rfl) rfl hb
    (ok_one (by kernel_rfl) rfl (okWide_bool_mk Try.underlying4 _))⟩
theorem wiresShorts_holds : Rows.WiresShortsSaid :=
  OpenClaim.holds_of_wide 13 Try.f13 rfl rfl rfl rfl rfl rfl rfl ⟨rfl, rfl, rfl, rfl, rfl⟩ rfl rfl rfl rfl rfl (by kernel_rfl) Try.func13 (by kernel_rfl)
    (of_decide_eq_true (by kernel_rfl)) (by unfold Func.isWrapper; first | (rw [if_pos (by decide +kernel)]; kernel_rfl) | (rw [if_neg (by decide +kernel)]; exact ⟨rfl, rfl⟩))
    (fun os started H enc _ => wiresShorts_lifted os started H enc)
#print axioms wiresShorts_holds

end Go.Proofs.Ytejjjijaojkohaa
